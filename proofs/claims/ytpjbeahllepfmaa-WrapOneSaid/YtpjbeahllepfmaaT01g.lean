import Derived.Test.YtpjbeahllepfmaaT01f
set_option linter.unusedVariables false
set_option linter.unusedSimpArgs false
namespace PE.T01
open Go PE

theorem xor_pow (k x : Nat) (h : x < 2 ^ (k + 1)) : x ^^^ 2 ^ k = if x < 2 ^ k then x + 2 ^ k else x - 2 ^ k := by
  have key : ∀ y, y < 2 ^ k → y ^^^ 2 ^ k = y + 2 ^ k := by
    intro y hy
    have e : 2 ^ k + y = 2 ^ k ||| y := by
      have := Nat.two_pow_add_eq_or_of_lt hy 1
      simpa using this
    rw [Nat.add_comm, e]
    apply Nat.eq_of_testBit_eq
    intro i
    rw [Nat.testBit_xor, Nat.testBit_or, Nat.testBit_two_pow]
    by_cases hi : k = i
    · subst hi
      simp [Nat.testBit_lt_two_pow hy]
    · simp [hi]
  split
  · rename_i hx; exact key x hx
  · rename_i hx
    have hp : (2 : Nat) ^ (k + 1) = 2 * 2 ^ k := by rw [Nat.pow_succ]; omega
    have hy : x - 2 ^ k < 2 ^ k := by omega
    have := key _ hy
    have e : x = (x - 2 ^ k) ^^^ 2 ^ k := by rw [this]; omega
    calc x ^^^ 2 ^ k = ((x - 2 ^ k) ^^^ 2 ^ k) ^^^ 2 ^ k := by rw [← e]
      _ = x - 2 ^ k := by rw [Nat.xor_assoc, Nat.xor_self, Nat.xor_zero]

theorem xor64_pow (k : Nat) (hk : k < 62) (x : Int) (h0 : 0 ≤ x) (h1 : x < 2 ^ (k + 1)) : xor64 x (2 ^ k) = if x < 2 ^ k then x + 2 ^ k else x - 2 ^ k := by
  obtain ⟨n, rfl⟩ : ∃ n : Nat, x = n := ⟨x.toNat, by omega⟩
  have hp : ((2 : Int) ^ k) = ((2 ^ k : Nat) : Int) := by simp
  have hp' : ((2 : Int) ^ (k + 1)) = ((2 ^ (k + 1) : Nat) : Int) := by simp
  rw [hp'] at h1
  have hn : n < 2 ^ (k + 1) := by omega
  have hb : (2 : Nat) ^ (k + 1) ≤ 2 ^ 62 := Nat.pow_le_pow_right (by decide) (by omega)
  have hb2 : (2 : Nat) ^ k < 2 ^ (k + 1) := Nat.pow_lt_pow_right (by decide) (by omega)
  rw [xor64_eq, hp, BitVec.ofInt_natCast, BitVec.ofInt_natCast]
  have hx := xor_pow k n hn
  have hlt : n ^^^ 2 ^ k < 2 ^ 62 := by rw [hx]; split <;> omega
  have hN : (BitVec.ofNat 64 n ^^^ BitVec.ofNat 64 (2 ^ k)).toNat = n ^^^ 2 ^ k := by
    rw [BitVec.toNat_xor, BitVec.toNat_ofNat, BitVec.toNat_ofNat, Nat.mod_eq_of_lt (by omega), Nat.mod_eq_of_lt (by omega)]
  rw [BitVec.toInt_eq_toNat_cond, if_pos (by rw [hN]; omega), hN, hx]
  by_cases hc : n < 2 ^ k
  · rw [if_pos hc, if_pos (by omega)]; omega
  · rw [if_neg hc, if_neg (by omega)]; omega

theorem W_id (n : Int) (h : -9223372036854775808 ≤ n) (h' : n ≤ 9223372036854775807) : W n = n := by
  rw [W, wrapK_eq, IntKind.wrap_i64]; omega

theorem wrapK_i8 (n : Int) : wrapK .i8 n = (n + 128) % 256 - 128 := by
  rw [wrapK_eq]; simp [IntKind.wrap, IntKind.bits, IntKind.signed]; split <;> omega
theorem wrapK_i16 (n : Int) : wrapK .i16 n = (n + 32768) % 65536 - 32768 := by
  rw [wrapK_eq]; simp [IntKind.wrap, IntKind.bits, IntKind.signed]; split <;> omega
theorem wrapK_i32 (n : Int) : wrapK .i32 n = (n + 2147483648) % 4294967296 - 2147483648 := by
  rw [wrapK_eq, IntKind.wrap_i32]
theorem wrapK_u8 (n : Int) : wrapK .u8 n = n % 256 := by rw [wrapK_eq, IntKind.wrap_u8]
theorem wrapK_u16 (n : Int) : wrapK .u16 n = n % 65536 := by
  rw [wrapK_eq]; simp [IntKind.wrap, IntKind.bits, IntKind.signed]
theorem wrapK_u32 (n : Int) : wrapK .u32 n = n % 4294967296 := by rw [wrapK_eq, IntKind.wrap_u32]
theorem wrapK_u64 (n : Int) : wrapK .u64 n = n % 18446744073709551616 := by
  rw [wrapK_eq]; simp [IntKind.wrap, IntKind.bits, IntKind.signed]

theorem and_255 (a : Int) : and64 a 255 = a % 256 := by have := and_mask a 8 (by decide); simpa using this
theorem and_65535 (a : Int) : and64 a 65535 = a % 65536 := by have := and_mask a 16 (by decide); simpa using this
theorem and_4294967295 (a : Int) : and64 a 4294967295 = a % 4294967296 := by have := and_mask a 32 (by decide); simpa using this

theorem not64 (a : Int) : xor64 (-1) a = W (-1 - a) := by
  rw [xor64_eq, wrap64]
  congr 1
  have h1 : BitVec.ofInt 64 (-1) = BitVec.allOnes 64 := by decide
  rw [h1, BitVec.allOnes_xor]
  have h2 : (-1 - a) = -a - 1 := by omega
  apply BitVec.eq_of_toInt_eq
  rw [BitVec.toInt_not, BitVec.toInt_ofInt, BitVec.toNat_ofInt]
  have : 0 ≤ a % ((2 ^ 64 : Nat) : Int) := Int.emod_nonneg _ (by decide)
  simp only [Int.bmod]
  omega

theorem rone_eq (op a : Int) : rone op a = one op a := by
  unfold rone one
  by_cases h1 : op = 20
  · subst h1; simp
  by_cases h2 : op = 21
  · subst h2; simp [not64]
  by_cases h3 : op = 22
  · subst h3; simp
  by_cases h4 : op = 26
  · subst h4; simp only [and_255, wrapK_u8]; simp; rw [W_id] <;> omega
  by_cases h5 : op = 27
  · subst h5; simp only [and_65535, wrapK_u16]; simp; rw [W_id] <;> omega
  by_cases h6 : op = 28
  · subst h6; simp only [and_4294967295, wrapK_u32]; simp; rw [W_id] <;> omega
  by_cases h7 : op = 23
  · subst h7
    simp only [and_255, wrapK_i8]
    have := xor64_pow 7 (by decide) (a % 256) (by omega) (by omega)
    simp at this
    simp [this]
    rw [W_id, W_id] <;> (try split) <;> omega
  by_cases h8 : op = 24
  · subst h8
    simp only [and_65535, wrapK_i16]
    have := xor64_pow 15 (by decide) (a % 65536) (by omega) (by omega)
    simp at this
    simp [this]
    rw [W_id, W_id] <;> (try split) <;> omega
  by_cases h9 : op = 25
  · subst h9
    simp only [and_4294967295, wrapK_i32]
    have := xor64_pow 31 (by decide) (a % 4294967296) (by omega) (by omega)
    simp at this
    simp [this]
    rw [W_id, W_id] <;> (try split) <;> omega
  simp [h1, h2, h3, h4, h5, h6, h7, h8, h9]

theorem aw1 : two 11 (-1) 60 = (15, true) := by
  have h : and64 60 63 = 60 := by have := and_mask 60 6 (by decide); simpa using this
  simp [two, cmp, h, wrapK_u64, shrK_eq]
  rw [W_id] <;> decide

theorem aw2 : two 4 (-7) 2 = (-3, true) := by
  simp [two, cmp]
  rw [W_id] <;> decide

theorem aw3 : one 23 200 = -56 := by
  simp [one, wrapK_i8]
  rw [W_id] <;> decide

theorem awake_spec (σ : Store) : pcall E 13 [] σ = some (.ret (.bool true), σ) := by
  refine pcall_body rfl rfl rfl rfl ?_
  have h4 : sgn 9 = [60, 60] := rfl
  have h5 : lvl 3 = 10 := rfl
  simp [F13, two_spec, one_spec, sign_spec, level_spec, aw1, aw2, aw3, h4, h5]

end PE.T01
