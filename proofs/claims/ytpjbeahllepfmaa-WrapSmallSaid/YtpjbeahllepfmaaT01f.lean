import Derived.Test.YtpjbeahllepfmaaT01e
set_option linter.unusedVariables false
set_option linter.unusedSimpArgs false
namespace PE.T01
open Go PE

theorem rsign_spec (op : Int) (h : -9223372036854775808 ≤ op) (h' : op ≤ 9223372036854775807) (σ : Store) : pcall E 17 [.int .i64 op] σ = some (.ret (.str (sgn op)), σ) := by
  refine pcall_body rfl rfl rfl rfl ?_
  by_cases h0 : op < 1
  · have : sgn op = [] := by
      unfold sgn
      split
      · rfl
      · have : op = 0 := by omega
        subst this; rfl
    simp [F17, h0, this]
  by_cases h1 : 28 < op
  · have : sgn op = [] := by
      unfold sgn
      rw [if_neg (by omega), List.getElem?_eq_none]
      · rfl
      · simp [signList]; omega
    simp [F17, h0, h1, this]
  have e : wrapK .i64 (op - 1) = op - 1 := by
    rw [wrapK_eq, IntKind.wrap_i64]; omega
  obtain ⟨n, rfl⟩ : ∃ n : Nat, op = n + 1 := ⟨(op - 1).toNat, by omega⟩
  have hn : n < 28 := by omega
  have hs : sgn ((n : Int) + 1) = (signList.tail[n]?).getD [] := by
    unfold sgn
    rw [if_neg (by omega)]
    have : ((n : Int) + 1).toNat = n + 1 := by omega
    rw [this]
    simp [signList]
  have e' : ((n : Int) + 1 - 1) = n := by omega
  rw [e'] at e
  obtain ⟨x, hx⟩ : ∃ x, signList.tail[n]? = some x := ⟨_, List.getElem?_eq_getElem (show n < signList.tail.length from hn)⟩
  rw [hx] at hs
  generalize hl : signList.tail = l at *
  simp [F17, h0, h1, e, e', hs, signs_spec, hl, hx]

theorem rlevel_spec (op : Int) (σ : Store) : pcall E 19 [.int .i64 op] σ = some (.ret (.int .i64 (lvl op)), σ) := by
  refine pcall_body rfl rfl rfl rfl ?_
  by_cases h1 : op = 1
  · subst h1; simp [F19, lvl, levelList]
  by_cases h2 : op = 2
  · subst h2; simp [F19, lvl, levelList]
  by_cases h3 : op = 3
  · subst h3; simp [F19, lvl, levelList]
  by_cases h4 : op = 4
  · subst h4; simp [F19, lvl, levelList]
  by_cases h5 : op = 5
  · subst h5; simp [F19, lvl, levelList]
  by_cases h6 : op = 6
  · subst h6; simp [F19, lvl, levelList]
  by_cases h7 : op = 7
  · subst h7; simp [F19, lvl, levelList]
  by_cases h8 : op = 8
  · subst h8; simp [F19, lvl, levelList]
  by_cases h9 : op = 9
  · subst h9; simp [F19, lvl, levelList]
  by_cases h10 : op = 10
  · subst h10; simp [F19, lvl, levelList]
  by_cases h11 : op = 11
  · subst h11; simp [F19, lvl, levelList]
  by_cases h12 : op = 12
  · subst h12; simp [F19, lvl, levelList]
  by_cases h13 : op = 13
  · subst h13; simp [F19, lvl, levelList]
  by_cases h14 : op = 14
  · subst h14; simp [F19, lvl, levelList]
  by_cases h15 : op = 15
  · subst h15; simp [F19, lvl, levelList]
  by_cases h16 : op = 16
  · subst h16; simp [F19, lvl, levelList]
  by_cases h17 : op = 17
  · subst h17; simp [F19, lvl, levelList]
  by_cases h18 : op = 18
  · subst h18; simp [F19, lvl, levelList]
  by_cases h19 : op = 19
  · subst h19; simp [F19, lvl, levelList]
  have : lvl op = 0 := by
    unfold lvl
    split
    · rfl
    · by_cases hb : 29 ≤ op
      · rw [List.getElem?_eq_none]
        · rfl
        · simp [levelList]; omega
      · have : op = 0 ∨ op = 20 ∨ op = 21 ∨ op = 22 ∨ op = 23 ∨ op = 24 ∨ op = 25 ∨ op = 26 ∨ op = 27 ∨ op = 28 := by omega
        rcases this with rfl | rfl | rfl | rfl | rfl | rfl | rfl | rfl | rfl | rfl <;> rfl
  simp [F19, this, h1, h2, h3, h4, h5, h6, h7, h8, h9, h10, h11, h12, h13, h14, h15, h16, h17, h18, h19]

end PE.T01
