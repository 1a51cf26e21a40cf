import Derived.Test.YtpjbeahllepfmaaT01g
set_option linter.unusedVariables false
set_option linter.unusedSimpArgs false
namespace PE.T01
open Go PE

theorem wrapTwo_spec (op a b : Int) (σ : Store) : pcall E 3 [.int .i64 op, .int .i64 a, .int .i64 b] σ = some (.ret (.bool true), σ) := by
  refine pcall_body rfl rfl rfl rfl ?_
  simp [F3, two_spec, rtwo_spec, awake_spec]

theorem wrapSmall_spec (op a b : Int) (σ : Store) : pcall E 4 [.int .u8 op, .int .i64 a, .int .i64 b] σ = some (.ret (.bool true), σ) := by
  refine pcall_body rfl rfl rfl rfl ?_
  simp [F4, two_spec, rtwo_spec, awake_spec, one_spec, rone_spec, rone_eq]

theorem wrapOne_spec (op a : Int) (h : -9223372036854775808 ≤ op) (h' : op ≤ 9223372036854775807) (σ : Store) : pcall E 5 [.int .i64 op, .int .i64 a] σ = some (.ret (.bool true), σ) := by
  refine pcall_body rfl rfl rfl rfl ?_
  simp [F5, awake_spec, one_spec, rone_spec, rone_eq, sign_spec, rsign_spec _ h h', level_spec, rlevel_spec]

theorem wrapSigns_spec (op : Int) (h : 0 ≤ op) (h' : op ≤ 255) (σ : Store) : pcall E 6 [.int .u8 op] σ = some (.ret (.bool true), σ) := by
  refine pcall_body rfl rfl rfl rfl ?_
  have e : remK (wrapK .i64 op) 30 = op % 30 := by
    rw [remK_eq, show wrapK .i64 op = op from W_id op (by omega) (by omega), Int.tmod_eq_emod_of_nonneg h]
  simp [F6, awake_spec, sign_spec, rsign_spec (op % 30) (by omega) (by omega), level_spec, rlevel_spec, e]

theorem W_mod (n : Int) : ∃ k, W n = n + k * 18446744073709551616 := by
  rw [W, wrapK_eq, IntKind.wrap_i64]
  exact ⟨-((n + 9223372036854775808) / 18446744073709551616), by omega⟩

theorem W_range (n : Int) : -9223372036854775808 ≤ W n ∧ W n ≤ 9223372036854775807 := by
  rw [W, wrapK_eq, IntKind.wrap_i64]; omega

theorem W_eq (n m : Int) (h : ∃ k, n = m + k * 18446744073709551616) : W n = W m := by
  obtain ⟨k, rfl⟩ := h
  rw [W, W, wrapK_eq, wrapK_eq, IntKind.wrap_i64, IntKind.wrap_i64]; omega

theorem divides (a b : Int) (h : -9223372036854775808 ≤ a) (h' : a ≤ 9223372036854775807) : W (W (W (a.tdiv b) * b) + a.tmod b) = a := by
  obtain ⟨k1, e1⟩ := W_mod (a.tdiv b)
  obtain ⟨k2, e2⟩ := W_mod (W (a.tdiv b) * b)
  rw [W_eq _ a, W_id _ h h']
  refine ⟨k1 * b + k2, ?_⟩
  rw [e2, e1]
  have := Int.tdiv_mul_add_tmod a b
  generalize a.tdiv b = q at *
  generalize a.tmod b = r at *
  rw [← this, Int.add_mul, Int.add_mul]
  have : k1 * b * 18446744073709551616 = k1 * 18446744073709551616 * b := by rw [Int.mul_assoc, Int.mul_comm b, ← Int.mul_assoc]
  omega

theorem tmod_lt (a b : Int) (hb : 0 < b) : a.tmod b < b ∧ -(a.tmod b) < b := by
  have h1 := Int.tmod_lt_of_pos a hb
  have h2 := Int.tmod_lt_of_pos (-a) hb
  rw [Int.neg_tmod] at h2
  exact ⟨h1, h2⟩

theorem wrapDivides_spec (a b : Int) (h : -9223372036854775808 ≤ a) (h' : a ≤ 9223372036854775807) (h1 : -9223372036854775808 ≤ b) (h1' : b ≤ 9223372036854775807) (σ : Store) :
    pcall E 7 [.int .i64 a, .int .i64 b] σ = some (.ret (.bool true), σ) := by
  refine pcall_body rfl rfl rfl rfl ?_
  by_cases hb : b = 0
  · subst hb
    have t4 : ∀ x, two 4 x 0 = (0, false) := fun x => by simp [two, cmp]
    have t5 : ∀ x, two 5 x 0 = (0, false) := fun x => by simp [two, cmp]
    simp [F7, awake_spec, two_spec, t4, t5]
  have t4 : two 4 a b = (W (a.tdiv b), true) := by simp [two, cmp, hb]
  have t5 : two 5 a b = (remK a b, true) := by simp [two, cmp, hb]
  have t3 : ∀ x y, two 3 x y = (W (x * y), true) := fun x y => by simp [two, cmp]
  have t1 : ∀ x y, two 1 x y = (W (x + y), true) := fun x y => by simp [two, cmp]
  have hd := divides a b h h'
  rw [← remK_eq] at hd
  have hr : 0 < b → remK a b < b ∧ -(remK a b) < b := fun hp => by rw [remK_eq]; exact tmod_lt a b hp
  have hr' : b < 0 → remK a b < -b ∧ -(remK a b) < -b := fun hp => by
    rw [remK_eq]; have := tmod_lt a (-b) (by omega); rw [Int.tmod_neg] at this; exact this
  generalize remK a b = r at *
  generalize W (a.tdiv b) = q at *
  by_cases hm : b = -9223372036854775808
  · subst hm
    simp [F7, awake_spec, two_spec, t4, t5, t3, t1, hd]
  by_cases hp : 0 < b
  · obtain ⟨q1, q2⟩ := hr hp
    have e : wrapK .i64 (0 - r) = 0 - r := W_id _ (by omega) (by omega)
    have e' : wrapK .i64 (-r) = -r := W_id _ (by omega) (by omega)
    simp [F7, awake_spec, two_spec, t4, t5, t3, t1, hd, hb, hm, hp, q1, q2, e, e']
  · have hn : b < 0 := by omega
    obtain ⟨q1, q2⟩ := hr' hn
    have e : wrapK .i64 (0 - r) = 0 - r := W_id _ (by omega) (by omega)
    have e' : wrapK .i64 (-r) = -r := W_id _ (by omega) (by omega)
    have f : wrapK .i64 (0 - b) = 0 - b := W_id _ (by omega) (by omega)
    have f' : wrapK .i64 (-b) = -b := W_id _ (by omega) (by omega)
    have q3 : b < r := by omega
    simp [F7, awake_spec, two_spec, t4, t5, t3, t1, hd, hb, hm, hp, hn, q1, q2, q3, e, e', f, f']

end PE.T01
