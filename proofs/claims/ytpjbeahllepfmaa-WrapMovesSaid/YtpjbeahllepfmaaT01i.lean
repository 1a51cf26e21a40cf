import Derived.Test.YtpjbeahllepfmaaT01h
set_option linter.unusedVariables false
set_option linter.unusedSimpArgs false
namespace PE.T01
open Go PE

theorem conv_facts (a n m : Int) (k : Int) (hn : W n = n) (hk : n - a = k * 256) (hlo : -9223372036854775808 ≤ a) : and64 (W (n - a)) 255 = 0 := by
  rw [and_255]
  obtain ⟨j, e⟩ := W_mod (n - a)
  rw [e, hk]; omega

set_option maxHeartbeats 1000000 in
theorem wrapConverts_spec (a w : Int) (h0 : 0 ≤ w) (h1 : w ≤ 255) (h : -9223372036854775808 ≤ a) (h' : a ≤ 9223372036854775807) (σ : Store) :
    pcall E 8 [.int .i64 a, .int .u8 w] σ = some (.ret (.bool true), σ) := by
  refine pcall_body rfl rfl rfl rfl ?_
  have e : remK (wrapK .i64 w) 6 = w % 6 := by
    rw [remK_eq, show wrapK .i64 w = w from W_id w (by omega) (by omega), Int.tmod_eq_emod_of_nonneg h0]
  have hw : w % 6 = 0 ∨ w % 6 = 1 ∨ w % 6 = 2 ∨ w % 6 = 3 ∨ w % 6 = 4 ∨ w % 6 = 5 := by omega
  have key : ∀ (op lo hi k : Int), one op a = W (one op a) → one op (one op a) = one op a → lo ≤ one op a → one op a ≤ hi → (lo ≤ a → a ≤ hi → one op a = a) → one op a - a = k * 256 →
      (one op (one op a) = one op a ∧ lo ≤ one op a ∧ one op a ≤ hi ∧ (a < lo ∨ (¬ a < lo ∧ hi < a) ∨ (¬ a < lo ∧ ¬ hi < a ∧ one op a = a)) ∧ and64 (W (one op a - a)) 255 = 0) := by
    intro op lo hi k q1 q2 q3 q4 q5 q6
    refine ⟨q2, q3, q4, ?_, conv_facts a _ 0 k q1.symm q6 h⟩
    by_cases x1 : a < lo
    · exact .inl x1
    by_cases x2 : hi < a
    · exact .inr (.inl ⟨x1, x2⟩)
    exact .inr (.inr ⟨x1, x2, q5 (by omega) (by omega)⟩)
  have i8 : ∀ x, one 23 x = (x + 128) % 256 - 128 := fun x => by simp [one, wrapK_i8]; rw [W_id] <;> omega
  have i16 : ∀ x, one 24 x = (x + 32768) % 65536 - 32768 := fun x => by simp [one, wrapK_i16]; rw [W_id] <;> omega
  have i32 : ∀ x, one 25 x = (x + 2147483648) % 4294967296 - 2147483648 := fun x => by simp [one, wrapK_i32]; rw [W_id] <;> omega
  have u8 : ∀ x, one 26 x = x % 256 := fun x => by simp [one, wrapK_u8]; rw [W_id] <;> omega
  have u16 : ∀ x, one 27 x = x % 65536 := fun x => by simp [one, wrapK_u16]; rw [W_id] <;> omega
  have u32 : ∀ x, one 28 x = x % 4294967296 := fun x => by simp [one, wrapK_u32]; rw [W_id] <;> omega
  have z : and64 (wrapK .i64 0) 255 = 0 := by rw [and_255, show wrapK .i64 0 = 0 from W_id 0 (by omega) (by omega)]; rfl
  rcases hw with hw | hw | hw | hw | hw | hw
  all_goals rw [hw] at e
  · have hop : wrapK .i64 23 = 23 := W_id _ (by omega) (by omega)
    obtain ⟨q1, q2, q3, q4, q5⟩ := key 23 (-128) 127 (-((a + 128) / 256) * 1) (by rw [W_id] <;> rw [i8] <;> omega) (by simp only [i8]; omega) (by rw [i8]; omega) (by rw [i8]; omega) (fun _ _ => by rw [i8]; omega) (by rw [i8]; omega)
    rcases q4 with q4 | ⟨q6, q4⟩ | ⟨q6, q7, q4⟩
    · simp [F8, awake_spec, one_spec, e, hop, q1, q2, q3, q4, q5]
    · simp [F8, awake_spec, one_spec, e, hop, q1, q2, q3, q4, q5, q6]
    · rw [q4] at q2 q3 q5
      simp [F8, awake_spec, one_spec, e, hop, q2, q3, q4, q5, q6, q7]
      exact z
  · have hop : wrapK .i64 24 = 24 := W_id _ (by omega) (by omega)
    obtain ⟨q1, q2, q3, q4, q5⟩ := key 24 (-32768) 32767 (-((a + 32768) / 65536) * 256) (by rw [W_id] <;> rw [i16] <;> omega) (by simp only [i16]; omega) (by rw [i16]; omega) (by rw [i16]; omega) (fun _ _ => by rw [i16]; omega) (by rw [i16]; omega)
    rcases q4 with q4 | ⟨q6, q4⟩ | ⟨q6, q7, q4⟩
    · simp [F8, awake_spec, one_spec, e, hop, q1, q2, q3, q4, q5]
    · simp [F8, awake_spec, one_spec, e, hop, q1, q2, q3, q4, q5, q6]
    · rw [q4] at q2 q3 q5
      simp [F8, awake_spec, one_spec, e, hop, q2, q3, q4, q5, q6, q7]
      exact z
  · have hop : wrapK .i64 25 = 25 := W_id _ (by omega) (by omega)
    obtain ⟨q1, q2, q3, q4, q5⟩ := key 25 (-2147483648) 2147483647 (-((a + 2147483648) / 4294967296) * 16777216) (by rw [W_id] <;> rw [i32] <;> omega) (by simp only [i32]; omega) (by rw [i32]; omega) (by rw [i32]; omega) (fun _ _ => by rw [i32]; omega) (by rw [i32]; omega)
    rcases q4 with q4 | ⟨q6, q4⟩ | ⟨q6, q7, q4⟩
    · simp [F8, awake_spec, one_spec, e, hop, q1, q2, q3, q4, q5]
    · simp [F8, awake_spec, one_spec, e, hop, q1, q2, q3, q4, q5, q6]
    · rw [q4] at q2 q3 q5
      simp [F8, awake_spec, one_spec, e, hop, q2, q3, q4, q5, q6, q7]
      exact z
  · have hop : wrapK .i64 26 = 26 := W_id _ (by omega) (by omega)
    obtain ⟨q1, q2, q3, q4, q5⟩ := key 26 (0) 255 (-(a / 256) * 1) (by rw [W_id] <;> rw [u8] <;> omega) (by simp only [u8]; omega) (by rw [u8]; omega) (by rw [u8]; omega) (fun _ _ => by rw [u8]; omega) (by rw [u8]; omega)
    rcases q4 with q4 | ⟨q6, q4⟩ | ⟨q6, q7, q4⟩
    · simp [F8, awake_spec, one_spec, e, hop, q1, q2, q3, q4, q5]
    · simp [F8, awake_spec, one_spec, e, hop, q1, q2, q3, q4, q5, q6]
    · rw [q4] at q2 q3 q5
      simp [F8, awake_spec, one_spec, e, hop, q2, q3, q4, q5, q6, q7]
      exact z
  · have hop : wrapK .i64 27 = 27 := W_id _ (by omega) (by omega)
    obtain ⟨q1, q2, q3, q4, q5⟩ := key 27 (0) 65535 (-(a / 65536) * 256) (by rw [W_id] <;> rw [u16] <;> omega) (by simp only [u16]; omega) (by rw [u16]; omega) (by rw [u16]; omega) (fun _ _ => by rw [u16]; omega) (by rw [u16]; omega)
    rcases q4 with q4 | ⟨q6, q4⟩ | ⟨q6, q7, q4⟩
    · simp [F8, awake_spec, one_spec, e, hop, q1, q2, q3, q4, q5]
    · simp [F8, awake_spec, one_spec, e, hop, q1, q2, q3, q4, q5, q6]
    · rw [q4] at q2 q3 q5
      simp [F8, awake_spec, one_spec, e, hop, q2, q3, q4, q5, q6, q7]
      exact z
  · have hop : wrapK .i64 28 = 28 := W_id _ (by omega) (by omega)
    obtain ⟨q1, q2, q3, q4, q5⟩ := key 28 (0) 4294967295 (-(a / 4294967296) * 16777216) (by rw [W_id] <;> rw [u32] <;> omega) (by simp only [u32]; omega) (by rw [u32]; omega) (by rw [u32]; omega) (fun _ _ => by rw [u32]; omega) (by rw [u32]; omega)
    rcases q4 with q4 | ⟨q6, q4⟩ | ⟨q6, q7, q4⟩
    · simp [F8, awake_spec, one_spec, e, hop, q1, q2, q3, q4, q5]
    · simp [F8, awake_spec, one_spec, e, hop, q1, q2, q3, q4, q5, q6]
    · rw [q4] at q2 q3 q5
      simp [F8, awake_spec, one_spec, e, hop, q2, q3, q4, q5, q6, q7]
      exact z

theorem two_shl (a k : Int) : two 9 a k = ((BitVec.ofInt 64 a <<< (and64 k 63).toNat).toInt, true) := by
  have hk := and63 k
  have : min (and64 k 63).toNat 64 = (and64 k 63).toNat := by omega
  have e : two 9 a k = (W (a * 2 ^ (and64 k 63).toNat), true) := by simp only [two, cmp, this]; simp
  rw [e, wrap64, BitVec.shiftLeft_eq_mul_twoPow, BitVec.ofInt_mul]
  congr 3
  apply BitVec.eq_of_toNat_eq
  have hlt : (and64 k 63).toNat < 64 := by omega
  generalize (and64 k 63).toNat = j at *
  rw [BitVec.toNat_twoPow]
  have : ((2 : Int) ^ j) = ((2 ^ j : Nat) : Int) := by simp
  rw [this, BitVec.ofInt_natCast, BitVec.toNat_ofNat]

theorem two_ushr (a k : Int) : two 11 a k = ((BitVec.ofInt 64 a >>> (and64 k 63).toNat).toInt, true) := by
  have hk := and63 k
  have : min (and64 k 63).toNat 64 = (and64 k 63).toNat := by omega
  have e : two 11 a k = (W (shrK (wrapK .u64 a) (and64 k 63).toNat), true) := by simp only [two, cmp, this]; simp
  rw [e, ← toInt_natCast]
  congr 2
  rw [BitVec.toNat_ushiftRight, Nat.shiftRight_eq_div_pow, shrK_eq, wrapK_u64, BitVec.toNat_ofInt]
  generalize (and64 k 63).toNat = j at *
  have e : (((a % ((2 ^ 64 : Nat) : Int)).toNat : Nat) : Int) = a % 18446744073709551616 := by
    rw [Int.toNat_of_nonneg (Int.emod_nonneg _ (by decide))]; rfl
  rw [Int.natCast_ediv, e, Int.fdiv_eq_ediv_of_nonneg _ (Int.le_of_lt (Int.pow_pos (by decide)))]
  simp

theorem two_shr (x : BitVec 64) (k : Int) : two 10 x.toInt k = ((x.sshiftRight (and64 k 63).toNat).toInt, true) := by
  have hk := and63 k
  have : min (and64 k 63).toNat 64 = (and64 k 63).toNat := by omega
  have e : two 10 x.toInt k = (shrK x.toInt (and64 k 63).toNat, true) := by simp only [two, cmp, this]; simp
  rw [e, shrK_eq, BitVec.toInt_sshiftRight, Int.shiftRight_eq_div_pow, Int.fdiv_eq_ediv_of_nonneg _ (Int.le_of_lt (Int.pow_pos (by decide)))]
  simp

theorem moves (x : BitVec 64) (j : Nat) : (x <<< j) >>> j = x &&& (BitVec.allOnes 64 >>> j) ∧ (x <<< j).sshiftRight j &&& (BitVec.allOnes 64 >>> j) = x &&& (BitVec.allOnes 64 >>> j) := by
  constructor
  · apply BitVec.eq_of_getLsbD_eq
    intro i hi
    simp only [BitVec.getLsbD_ushiftRight, BitVec.getLsbD_shiftLeft, BitVec.getLsbD_and, BitVec.getLsbD_allOnes]
    by_cases h : j + i < 64
    · simp [h]
    · simp [h]
  · apply BitVec.eq_of_getLsbD_eq
    intro i hi
    simp only [BitVec.getLsbD_ushiftRight, BitVec.getLsbD_sshiftRight, BitVec.getLsbD_shiftLeft, BitVec.getLsbD_and, BitVec.getLsbD_allOnes]
    by_cases h : j + i < 64
    · have g1 : ¬ 64 ≤ i := by omega
      have g2 : ¬ j + i < j := by omega
      simp [h, hi, g1, g2]
    · simp [h]

theorem ofInt_id (a : Int) (h : -9223372036854775808 ≤ a) (h' : a ≤ 9223372036854775807) : (BitVec.ofInt 64 a).toInt = a := by
  rw [← wrap64]; exact W_id a h h'

theorem one_inv (a : Int) : one 21 a = (~~~ (BitVec.ofInt 64 a)).toInt := by
  have : one 21 a = xor64 (-1) a := by simp [one]
  have h1 : BitVec.ofInt 64 (-1) = BitVec.allOnes 64 := by decide
  rw [this, xor64_eq, h1, BitVec.allOnes_xor]

theorem one_neg2 (a : Int) (h : -9223372036854775808 ≤ a) (h' : a ≤ 9223372036854775807) : one 20 (one 20 a) = a := by
  have e : ∀ x, one 20 x = W (0 - x) := fun x => by simp [one]
  rw [e, e]
  obtain ⟨k, hk⟩ := W_mod (0 - a)
  rw [W_eq _ a, W_id _ h h']
  exact ⟨-k, by rw [hk]; omega⟩

theorem wrapMoves_spec (a k : Int) (h : -9223372036854775808 ≤ a) (h' : a ≤ 9223372036854775807) (σ : Store) :
    pcall E 9 [.int .i64 a, .int .i64 k] σ = some (.ret (.bool true), σ) := by
  refine pcall_body rfl rfl rfl rfl ?_
  obtain ⟨x, rfl⟩ : ∃ x : BitVec 64, x.toInt = a := ⟨BitVec.ofInt 64 a, ofInt_id a h h'⟩
  have m1 : BitVec.ofInt 64 (-1) = BitVec.allOnes 64 := by decide
  have i1 : one 21 (one 21 x.toInt) = x.toInt := by
    rw [one_inv, one_inv, BitVec.ofInt_toInt, BitVec.ofInt_toInt, BitVec.not_not]
  have i2 := one_neg2 _ h h'
  obtain ⟨v1, v2⟩ := moves x (and64 k 63).toNat
  have t1 := two_shl x.toInt k
  rw [BitVec.ofInt_toInt] at t1
  have t2 := two_ushr (x <<< (and64 k 63).toNat).toInt k
  rw [BitVec.ofInt_toInt] at t2
  have t3 := two_shr (x <<< (and64 k 63).toNat) k
  have t4 := two_ushr (-1) k
  rw [m1] at t4
  have a1 : ∀ y z : BitVec 64, andK .i64 y.toInt z.toInt = (y &&& z).toInt := fun y z => by
    have := and64_eq y.toInt z.toInt
    rw [BitVec.ofInt_toInt, BitVec.ofInt_toInt] at this
    exact this
  simp only [v1] at t2
  generalize hq : (x <<< (and64 k 63).toNat).sshiftRight (and64 k 63).toNat = q at *
  generalize hz : BitVec.allOnes 64 >>> (and64 k 63).toNat = z at *
  have u1 : ((x <<< (and64 k 63).toNat) >>> (and64 k 63).toNat).toInt = (x &&& z).toInt := by rw [v1]
  clear hq hz
  generalize (x <<< (and64 k 63).toNat) = n at *
  simp [-BitVec.toInt_and, -BitVec.toInt_shiftLeft, F9, awake_spec, two_spec, one_spec, t1, t2, t3, t4, i1, i2, a1, v2]

theorem wrapOrder_spec (a b : Int) (σ : Store) :
    pcall E 10 [.int .i64 a, .int .i64 b] σ = some (.ret (.bool true), σ) := by
  refine pcall_body rfl rfl rfl rfl ?_
  have w0 : wrapK .i64 0 = 0 := W_id 0 (by omega) (by omega)
  have w1 : wrapK .i64 1 = 1 := W_id 1 (by omega) (by omega)
  rcases Int.lt_trichotomy a b with h | h | h
  · have h1 : ¬ b < a := by omega
    have h2 : ¬ a = b := by omega
    have h3 : ¬ b ≤ a := by omega
    have h4 : a ≤ b := by omega
    simp [F10, awake_spec, two_spec, two, cmp, h, h1, h2, h3, h4, w0, w1]
  · subst h
    simp [F10, awake_spec, two_spec, two, cmp, w0, w1]
  · have h1 : ¬ a < b := by omega
    have h2 : ¬ a = b := by omega
    have h3 : ¬ a ≤ b := by omega
    have h4 : b ≤ a := by omega
    simp [F10, awake_spec, two_spec, two, cmp, h, h1, h2, h3, h4, w0, w1]

end PE.T01
