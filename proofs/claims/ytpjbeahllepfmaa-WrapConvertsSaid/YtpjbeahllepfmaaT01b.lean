import Derived.Test.YtpjbeahllepfmaaPeSimp
import Derived.Test.YtpjbeahllepfmaaT01Fns
import Derived.Test.YtpjbeahllepfmaaT01a
import Derived.Laws.BitsLemmas
set_option linter.unusedVariables false
set_option linter.unusedSimpArgs false
namespace PE.T01
open Go PE

noncomputable def one (op a : Int) : Int :=
  if op = 20 then W (0 - a) else if op = 21 then xor64 (-1) a else if op = 22 then (if a = 0 then 1 else 0)
  else if op = 23 then W (wrapK .i8 a) else if op = 24 then W (wrapK .i16 a) else if op = 25 then W (wrapK .i32 a)
  else if op = 26 then W (wrapK .u8 a) else if op = 27 then W (wrapK .u16 a) else if op = 28 then W (wrapK .u32 a) else 0

theorem one_spec (op a : Int) (σ : Store) : pcall E 14 [.int .i64 op, .int .i64 a] σ = some (.ret (.int .i64 (one op a)), σ) := by
  refine pcall_body rfl rfl rfl rfl ?_
  by_cases h1 : op = 20
  · subst h1; simp [F14, one]
  by_cases h2 : op = 21
  · subst h2; simp [F14, one]
  by_cases h3 : op = 22
  · subst h3; simp [F14, one, truth_spec]
  by_cases h4 : op = 23
  · subst h4; simp [F14, one, truth_spec]
  by_cases h5 : op = 24
  · subst h5; simp [F14, one, truth_spec]
  by_cases h6 : op = 25
  · subst h6; simp [F14, one, truth_spec]
  by_cases h7 : op = 26
  · subst h7; simp [F14, one, truth_spec]
  by_cases h8 : op = 27
  · subst h8; simp [F14, one, truth_spec]
  by_cases h9 : op = 28
  · subst h9; simp [F14, one, truth_spec]
  simp [F14, one, h1, h2, h3, h4, h5, h6, h7, h8, h9]

def cmp (op a b : Int) : Bool × Bool :=
  if op = 12 then (decide (a < b), true) else if op = 13 then (decide (a ≤ b), true) else if op = 14 then (decide (b < a), true)
  else if op = 15 then (decide (b ≤ a), true) else if op = 16 then (decide (a = b), true) else if op = 17 then (!decide (a = b), true) else (false, false)

theorem cmp_spec (op a b : Int) (σ : Store) : pcall E 20 [.int .i64 op, .int .i64 a, .int .i64 b] σ = some (.ret (.tup [.bool (cmp op a b).1, .bool (cmp op a b).2]), σ) := by
  refine pcall_body rfl rfl rfl rfl ?_
  by_cases h1 : op = 12
  · subst h1; simp [F20, cmp]
  by_cases h2 : op = 13
  · subst h2; simp [F20, cmp]
  by_cases h3 : op = 14
  · subst h3; simp [F20, cmp]
  by_cases h4 : op = 15
  · subst h4; simp [F20, cmp]
  by_cases h5 : op = 16
  · subst h5; simp [F20, cmp]
  by_cases h6 : op = 17
  · subst h6; simp [F20, cmp]
  simp [F20, cmp, h1, h2, h3, h4, h5, h6]

noncomputable def two (op a b : Int) : Int × Bool :=
  if (cmp op a b).2 = true then (if (cmp op a b).1 = true then 1 else 0, true)
  else if op = 1 then (W (a + b), true) else if op = 2 then (W (a - b), true) else if op = 3 then (W (a * b), true)
  else if op = 6 then (and64 a b, true) else if op = 7 then (or64 a b, true) else if op = 8 then (xor64 a b, true)
  else if op = 9 then (W (a * 2 ^ (min (and64 b 63).toNat 64)), true) else if op = 10 then (shrK a (min (and64 b 63).toNat 64), true)
  else if op = 11 then (W (shrK (wrapK .u64 a) (min (and64 b 63).toNat 64)), true)
  else if b = 0 then (0, false) else if op = 4 then (W (a.tdiv b), true) else if op = 5 then (remK a b, true) else (0, false)

theorem wrap64 (n : Int) : W n = (BitVec.ofInt 64 n).toInt := by
  rw [BitVec.toInt_ofInt, W, wrapK_eq, IntKind.wrap_i64]
  unfold Int.bmod
  simp only
  split <;> omega

theorem toInt_natCast (z : BitVec 64) : W (z.toNat : Int) = z.toInt := by
  rw [wrap64]; simp

theorem and64_eq (a b : Int) : and64 a b = (BitVec.ofInt 64 a &&& BitVec.ofInt 64 b).toInt := (andK_eq .i64 a b).trans ((wrapK_eq _ _).symm.trans (toInt_natCast (BitVec.ofInt 64 a &&& BitVec.ofInt 64 b)))
theorem or64_eq (a b : Int) : or64 a b = (BitVec.ofInt 64 a ||| BitVec.ofInt 64 b).toInt := (orK_eq .i64 a b).trans ((wrapK_eq _ _).symm.trans (toInt_natCast (BitVec.ofInt 64 a ||| BitVec.ofInt 64 b)))
theorem xor64_eq (a b : Int) : xor64 a b = (BitVec.ofInt 64 a ^^^ BitVec.ofInt 64 b).toInt := (xorK_eq .i64 a b).trans ((wrapK_eq _ _).symm.trans (toInt_natCast (BitVec.ofInt 64 a ^^^ BitVec.ofInt 64 b)))

theorem and_mask (a : Int) (m : Nat) (hm : m < 63) : and64 a (2 ^ m - 1) = a % 2 ^ m := by
  rw [and64_eq]
  have e : (BitVec.ofInt 64 (2 ^ m - 1)).toNat = 2 ^ m - 1 := by
    have h1 : (2 : Nat) ^ m < 2 ^ 63 := Nat.pow_lt_pow_right (by decide) hm
    have h2 : 0 < (2 : Nat) ^ m := Nat.pow_pos (by decide)
    have h3 : ((2 : Int) ^ m - 1) = (((2 : Nat) ^ m - 1 : Nat) : Int) := by
      rw [Int.natCast_sub h2]; simp
    rw [h3, BitVec.ofInt_natCast, BitVec.toNat_ofNat]
    apply Nat.mod_eq_of_lt; omega
  have hN : (BitVec.ofInt 64 a &&& BitVec.ofInt 64 (2 ^ m - 1)).toNat = (BitVec.ofInt 64 a).toNat % 2 ^ m := by
    rw [BitVec.toNat_and, e, Nat.and_two_pow_sub_one_eq_mod]
  have hlt : (BitVec.ofInt 64 a).toNat % 2 ^ m < 2 ^ 63 := by
    have h1 : (2 : Nat) ^ m < 2 ^ 63 := Nat.pow_lt_pow_right (by decide) hm
    have := Nat.mod_lt (BitVec.ofInt 64 a).toNat (Nat.pow_pos (n := m) (show 0 < 2 by decide))
    omega
  rw [BitVec.toInt_eq_toNat_cond, if_pos (by rw [hN]; omega), hN, BitVec.toNat_ofInt, Int.natCast_emod, Int.toNat_of_nonneg (Int.emod_nonneg _ (by decide))]
  have : ((2 ^ m : Nat) : Int) = (2 : Int) ^ m := by simp
  rw [this]
  apply Int.emod_emod_of_dvd
  have hd : (2 : Nat) ^ m ∣ 2 ^ 64 := Nat.pow_dvd_pow 2 (by omega)
  have := Int.natCast_dvd_natCast.2 hd
  simpa using this

theorem and63 (b : Int) : 0 ≤ and64 b 63 ∧ and64 b 63 < 64 := by
  have := and_mask b 6 (by decide)
  simp at this
  rw [this]; omega

theorem and63' (b : Int) : ¬ and64 b 63 < 0 := by have := (and63 b).1; omega

theorem two_spec (op a b : Int) (σ : Store) : pcall E 11 [.int .i64 op, .int .i64 a, .int .i64 b] σ = some (.ret (.tup [.int .i64 (two op a b).1, .bool (two op a b).2]), σ) := by
  refine pcall_body rfl rfl rfl rfl ?_
  by_cases hc : (cmp op a b).2 = true
  · simp [F11, two, cmp_spec, hc, truth_spec]
  have hc' : (cmp op a b).2 = false := by simpa using hc
  by_cases h1 : op = 1
  · subst h1; simp [F11, two, cmp_spec, hc']
  by_cases h2 : op = 2
  · subst h2; simp [F11, two, cmp_spec, hc']
  by_cases h3 : op = 3
  · subst h3; simp [F11, two, cmp_spec, hc']
  by_cases h4 : op = 6
  · subst h4; simp [F11, two, cmp_spec, hc']
  by_cases h5 : op = 7
  · subst h5; simp [F11, two, cmp_spec, hc']
  by_cases h6 : op = 8
  · subst h6; simp [F11, two, cmp_spec, hc']
  by_cases h7 : op = 9
  · subst h7; simp [F11, two, cmp_spec, hc', and63', IntKind.bits]
  by_cases h8 : op = 10
  · subst h8; simp [F11, two, cmp_spec, hc', and63', IntKind.bits]
  by_cases h9 : op = 11
  · subst h9; simp [F11, two, cmp_spec, hc', and63', IntKind.bits]
  by_cases h10 : b = 0
  · subst h10; simp [F11, two, cmp_spec, hc', h1, h2, h3, h4, h5, h6, h7, h8, h9]
  by_cases h11 : op = 4
  · subst h11; simp [F11, two, cmp_spec, hc', h10]
  by_cases h12 : op = 5
  · subst h12; simp [F11, two, cmp_spec, hc', h10]
  simp [F11, two, cmp_spec, hc', h1, h2, h3, h4, h5, h6, h7, h8, h9, h10, h11, h12]

theorem rtwo_spec (op a b : Int) (σ : Store) : pcall E 12 [.int .i64 op, .int .i64 a, .int .i64 b] σ = some (.ret (.tup [.int .i64 (two op a b).1, .bool (two op a b).2]), σ) := by
  refine pcall_body rfl rfl rfl rfl ?_
  by_cases h1 : op = 1
  · subst h1; simp [F12, two, cmp, flag_spec, and63', IntKind.bits]
  by_cases h2 : op = 2
  · subst h2; simp [F12, two, cmp, flag_spec, and63', IntKind.bits]
  by_cases h3 : op = 3
  · subst h3; simp [F12, two, cmp, flag_spec, and63', IntKind.bits]
  by_cases h4 : op = 4
  · subst h4
    by_cases hb : b = 0
    · subst hb; simp [F12, two, cmp]
    · simp [F12, two, cmp, hb]
  by_cases h5 : op = 5
  · subst h5
    by_cases hb : b = 0
    · subst hb; simp [F12, two, cmp]
    · simp [F12, two, cmp, hb]
  by_cases h6 : op = 6
  · subst h6; simp [F12, two, cmp, flag_spec, and63', IntKind.bits]
  by_cases h7 : op = 7
  · subst h7; simp [F12, two, cmp, flag_spec, and63', IntKind.bits]
  by_cases h8 : op = 8
  · subst h8; simp [F12, two, cmp, flag_spec, and63', IntKind.bits]
  by_cases h9 : op = 9
  · subst h9; simp [F12, two, cmp, flag_spec, and63', IntKind.bits]
  by_cases h10 : op = 10
  · subst h10; simp [F12, two, cmp, flag_spec, and63', IntKind.bits]
  by_cases h11 : op = 11
  · subst h11; simp [F12, two, cmp, flag_spec, and63', IntKind.bits]
  by_cases h12 : op = 12
  · subst h12; simp [F12, two, cmp, flag_spec, and63', IntKind.bits]
  by_cases h13 : op = 13
  · subst h13; simp [F12, two, cmp, flag_spec, and63', IntKind.bits]
  by_cases h14 : op = 14
  · subst h14; simp [F12, two, cmp, flag_spec, and63', IntKind.bits]
  by_cases h15 : op = 15
  · subst h15; simp [F12, two, cmp, flag_spec, and63', IntKind.bits]
  by_cases h16 : op = 16
  · subst h16; simp [F12, two, cmp, flag_spec, and63', IntKind.bits]
  by_cases h17 : op = 17
  · subst h17; simp [F12, two, cmp, flag_spec, and63', IntKind.bits]
  simp [F12, two, cmp, h1, h2, h3, h4, h5, h6, h7, h8, h9, h10, h11, h12, h13, h14, h15, h16, h17]

end PE.T01
