/-
  Texts joined by program: A5P27, A5P28, A5P29, A5T14, A5T15, A5T1, A5T0r, A5T2, A5T3, A5T4, A5T5, A5T6, A5T7, A5T8, A5T9, A5T10, A5T11, A5T12, A5T13, A5T16, A5T17, A5T18.
-/
import Derived.Test.YtgackhdkmnbbfaaB05
set_option linter.unusedVariables false
set_option linter.unusedSectionVars false
set_option linter.unusedSimpArgs false
/-
  Weights of statements.
-/
namespace PE.U
open Go PE

def ovM (M : Nat) (p : PS) : Nat := if overF p then 8 * M else 0
theorem ovM_le (M : Nat) (p : PS) : ovM M p ≤ 8 * M := by unfold ovM; split <;> omega
theorem ovM_fw {M : Nat} {p q : PS} (h : Fw p q) : ovM M p ≤ ovM M q := by
  unfold ovM
  cases ho : overF p
  · simp
  · rw [h.2 ho]; exact Nat.le_refl _
theorem go_wa {M : Nat} {p q : PS} (h : Go1 p q) : wa M p + M ≤ wa M q ∨ ovM M q = 8 * M := by
  rcases h with h | h
  · left
    unfold wa
    have := Nat.mul_le_mul_left M h
    rw [Nat.mul_succ] at this
    exact this
  · right
    unfold ovM; rw [if_pos h]

theorem named_go {T : List Tok} {M n : Nat} {p p' : PS} {v : Stmt} (hS : Short T M) (I : Inv1 T p) (h : namedF T n p = some (v, p')) : Go1 p p' := by
  unfold namedF at h
  have I1 := I.text 1 (by decide)
  have F1 := fw_text T 1 p
  have G1 := text_go (T := T) (k := 1) (p := p)
  split at h
  · rename_i hc
    split at h
    · cases h
    · rename_i q hq
      cases h
      obtain ⟨I', F, W⟩ := (light hS n).args _ _ _ _ (I1.adv _ hc) hq
      exact G1.fw ((fw_adv _).trans F)
  split at h
  · rename_i hc
    split at h
    · cases h
    · rename_i q hq
      obtain ⟨I', F, W⟩ := light1 hS (I1.adv _ hc) hq
      have F2 := (fw_must T [93] q.2).trans (fw_must T [61] _)
      split at h
      · cases h
      · rename_i r hr
        cases h
        obtain ⟨I2, F3, W2⟩ := light1 hS ((I'.must [93]).must [61]) hr
        exact G1.fw ((((fw_adv _).trans F).trans F2).trans F3)
  · split at h
    · cases h
    · rename_i q hq
      cases h
      obtain ⟨I', F, W⟩ := light1 hS (I1.must _) hq
      exact G1.fw ((fw_must _ _ _).trans F)

structure LightS (T : List Tok) (M n : Nat) : Prop where
  stmt : ∀ d p v p', Inv1 T p → stmtF T n d p = some (v, p') → Inv1 T p' ∧ Fw p p' ∧ wtS v + 1 + 8 * wa M p ≤ 8 * wa M p' + ovM M p'
  block : ∀ d l p v p', Inv1 T p → blockF T n d l p = some (v, p') → ∀ k : Nat, wtSs l + k ≤ 8 * wa M p + ovM M p → Inv1 T p' ∧ Fw p p' ∧ wtSs v + k ≤ 8 * wa M p' + ovM M p'

theorem lightS_of {T : List Tok} {M n : Nat} (hS : Short T M) (E : LightS T M n) : LightS T M (n + 1) := by
  have h8 := hS.1
  refine ⟨?_, ?_⟩
  · intro d p v p' I0 h
    simp only [stmtF] at h
    have I := I0.deepS d
    have F0 := fw_deepS d p
    have w0 : wa M (deepS d p) = wa M p := by unfold wa deepS; split <;> rfl
    generalize deepS d p = q at *
    -- something is taken, and what is made weighs little
    have fin : ∀ r : PS, Fw q r → Go1 q r → ∀ W : Nat, W + 2 * wa M q ≤ 2 * wa M r + 4 * M → Fw p r ∧ W + 1 + 8 * wa M p ≤ 8 * wa M r + ovM M r := by
      intro r F G W hW
      refine ⟨F0.trans F, ?_⟩
      have := wa_fw (M := M) F
      rcases go_wa (M := M) G with g | g <;> omega
    split at h
    · have G1 := typed_go (T := T) (p := q)
      have Ft := (fw_typed T q).trans (fw_text T 1 _)
      have F1 := Ft.trans (fw_must T [61] _)
      have hs := short_text (k := 1) I.typed hS
      split at h
      · cases h
      · rename_i x hx
        cases h
        obtain ⟨I', F, W⟩ := light1 hS ((I.typed.text 1 (by decide)).must [61]) hx
        have F2 := fw_must T [59] x.2
        have := wa_fw (M := M) F1
        have := wa_fw (M := M) F2
        have := fin _ ((F1.trans F).trans F2) (G1.fw ((((fw_text T 1 _).trans (fw_must T [61] _)).trans F).trans F2)) (wtS ⟨1, (typedF T q).1, (textF T 1 (typedF T q).2).1, [x.1], [], []⟩) (by simp only [wtS, wtEs, wtSs]; omega)
        exact ⟨I'.must _, this.1, this.2⟩
    split at h
    · rename_i hc
      have wadv := wa_adv M q
      split at h
      · cases h
      · rename_i x hx
        obtain ⟨I', F, W⟩ := lightI hS (I.adv _ hc) hx
        have F2 := fw_must T [123] x.2
        have w2 := wa_fw (M := M) F2
        have w1 := wa_fw (M := M) F
        split at h
        · cases h
        · rename_i y hy
          obtain ⟨I2, F3, W3⟩ := E.block _ _ _ _ _ (I'.must [123]) hy (8 * wa M (mustF T [123] x.2) + ovM M (mustF T [123] x.2)) (by simp [wtSs])
          split at h
          · rename_i hc2
            split at h
            · cases h
            · rename_i z hz
              cases h
              have F4 := (fw_adv y.2).trans (fw_must T [123] _)
              have w4 := wa_fw (M := M) F4
              have o4 := ovM_fw (M := M) F4
              obtain ⟨I3, F5, W5⟩ := E.block _ _ _ _ _ ((I2.adv _ hc2).must [123]) hz (8 * wa M (mustF T [123] (adv y.2)) + ovM M (mustF T [123] (adv y.2))) (by simp [wtSs])
              have w5 := wa_fw (M := M) F5
              have w3 := wa_fw (M := M) F3
              exact ⟨I3, F0.trans ((((((fw_adv q).trans F).trans F2).trans F3).trans F4).trans F5), by simp only [wtS, wtEs, List.length_nil]; omega⟩
          · cases h
            have w3 := wa_fw (M := M) F3
            exact ⟨I2, F0.trans ((((fw_adv q).trans F).trans F2).trans F3), by simp only [wtS, wtEs, wtSs, List.length_nil]; omega⟩
    split at h
    · rename_i hc
      have wadv := wa_adv M q
      split at h
      · cases h
      · rename_i x hx
        obtain ⟨I', F, W⟩ := lightI hS (I.adv _ hc) hx
        have F2 := fw_must T [123] x.2
        have w2 := wa_fw (M := M) F2
        have w1 := wa_fw (M := M) F
        split at h
        · cases h
        · rename_i y hy
          obtain ⟨I2, F3, W3⟩ := E.block _ _ _ _ _ (I'.must [123]) hy (8 * wa M (mustF T [123] x.2) + ovM M (mustF T [123] x.2)) (by simp [wtSs])
          cases h
          have w3 := wa_fw (M := M) F3
          exact ⟨I2, F0.trans ((((fw_adv q).trans F).trans F2).trans F3), by simp only [wtS, wtEs, wtSs, List.length_nil]; omega⟩
    split at h
    · rename_i hc
      cases h
      have wadv := wa_adv M q
      have F2 := fw_must T [59] (adv q)
      have := wa_fw (M := M) F2
      have := fin _ ((fw_adv q).trans F2) ((adv_go q).fw F2) (wtS ⟨6, 0, [], [], [], []⟩) (by simp only [wtS, wtEs, wtSs, List.length_nil]; omega)
      exact ⟨(I.adv _ hc).must _, this.1, this.2⟩
    split at h
    · rename_i hc
      cases h
      have wadv := wa_adv M q
      have F2 := fw_must T [59] (adv q)
      have := wa_fw (M := M) F2
      have := fin _ ((fw_adv q).trans F2) ((adv_go q).fw F2) (wtS ⟨7, 0, [], [], [], []⟩) (by simp only [wtS, wtEs, wtSs, List.length_nil]; omega)
      exact ⟨(I.adv _ hc).must _, this.1, this.2⟩
    split at h
    · rename_i hc
      have wadv := wa_adv M q
      split at h
      · cases h
      · rename_i x hx
        cases h
        obtain ⟨I', F, W⟩ := light1 hS (I.adv _ hc) hx
        have F2 := fw_must T [59] x.2
        have := wa_fw (M := M) F2
        have := fin _ (((fw_adv q).trans F).trans F2) ((adv_go q).fw (F.trans F2)) (wtS ⟨8, 0, [], [x.1], [], []⟩) (by simp only [wtS, wtEs, wtSs, List.length_nil]; omega)
        exact ⟨I'.must _, this.1, this.2⟩
    split at h
    · rename_i hc
      have wadv := wa_adv M q
      split at h
      · cases h
      · rename_i x hx
        cases h
        obtain ⟨I', F, W⟩ := lightI hS (I.adv _ hc) hx
        have F2 := fw_must T [59] x.2
        have := wa_fw (M := M) F2
        have := fin _ (((fw_adv q).trans F).trans F2) ((adv_go q).fw (F.trans F2)) (wtS ⟨9, 0, [], [x.1], [], []⟩) (by simp only [wtS, wtEs, wtSs, List.length_nil]; omega)
        exact ⟨I'.must _, this.1, this.2⟩
    · split at h
      · cases h
      · rename_i x hx
        cases h
        obtain ⟨I', F, W⟩ := lightN hS I hx
        have G := named_go hS I hx
        have F2 := fw_must T [59] x.2
        have := wa_fw (M := M) F2
        have := fin _ (F.trans F2) (G.fw F2) (wtS x.1) (by omega)
        exact ⟨I'.must _, this.1, this.2⟩
  · intro d l p v p' I h k hk
    simp only [blockF] at h
    split at h
    · cases h; exact ⟨I, Fw.refl _, hk⟩
    rename_i hno
    have ho0 : ovM M p = 0 := by unfold ovM; rw [if_neg hno]
    split at h
    · rename_i hc
      cases h
      have := wa_adv M p
      exact ⟨I.adv _ hc, fw_adv p, by omega⟩
    · split at h
      · cases h
      · rename_i x hx
        obtain ⟨I', F, W⟩ := E.stmt _ _ _ _ I hx
        obtain ⟨I2, F2, W2⟩ := E.block _ _ _ _ _ I' h k (by rw [wtSs_append]; simp only [wtSs]; omega)
        exact ⟨I2, F.trans F2, W2⟩

theorem lightS {T : List Tok} {M : Nat} (hS : Short T M) : ∀ n, LightS T M n
  | 0 => ⟨fun _ _ _ _ _ h => by simp [stmtF] at h, fun _ _ _ _ _ _ h => by simp [blockF] at h⟩
  | n + 1 => lightS_of hS (lightS hS n)
end PE.U

/-
  How much there is in a program that was parsed.
-/
namespace PE.U
open Go PE

theorem tokGo_short (N : Nat) : ∀ n (q : List UInt8) line acc, q.length ≤ N → (∀ t ∈ acc, t.text.length ≤ N) → ∀ t ∈ (tokGo n q line acc).1, t.text.length ≤ N := by
  intro n
  induction n with
  | zero => intro q line acc hs ha; exact ha
  | succ n ih =>
    intro q line acc hs ha
    cases q with
    | nil =>
      simp only [tokGo]
      intro t ht
      rcases List.mem_append.1 ht with h | h
      · exact ha t h
      · rw [List.mem_singleton.1 h]; simp
    | cons b r =>
      simp only [List.length_cons] at hs
      simp only [tokGo]
      split
      · exact ih _ _ _ (by omega) ha
      split
      · exact ih _ _ _ (by omega) ha
      split
      · refine ih _ _ _ ?_ ha
        rw [dropWhile_eq_drop, List.length_drop]; simp only [List.length_cons]; omega
      split
      · split
        · intro t ht; cases ht
        · have hw2 := (List.takeWhile_prefix (l := b :: r) (p := nameByte)).length_le
          simp only [List.length_cons] at hw2
          refine ih _ _ _ (by rw [List.length_drop]; simp only [List.length_cons]; omega) ?_
          intro t ht
          rcases List.mem_append.1 ht with h | h
          · exact ha t h
          · rw [List.mem_singleton.1 h]; simp only; omega
      split
      · intro t ht; cases ht
      · have hp2 := sign_len (b :: r)
        simp only [List.length_cons] at hp2
        refine ih _ _ _ (by rw [List.length_drop]; simp only [List.length_cons]; omega) ?_
        intro t ht
        rcases List.mem_append.1 ht with h | h
        · exact ha t h
        · rw [List.mem_singleton.1 h]; simp only; omega

theorem tokens_short (s : List UInt8) : Short (tokensM s).1 100008 := by
  refine ⟨by decide, ?_⟩
  unfold tokensM
  split
  · intro t ht; cases ht
  · rename_i h
    intro t ht
    have := tokGo_short 100000 _ _ _ _ (by omega) (by simp) t ht
    omega

theorem tokens_count (s : List UInt8) (h : (tokensM s).2.1 = 0) : (tokensM s).1.length ≤ 100001 := by
  unfold tokensM at h ⊢
  split at h
  · exact absurd h (by decide)
  rename_i hs
  rw [if_neg hs]
  obtain ⟨x1, x2, x3, x4⟩ := tokGo_ok (s.length + 1) s 1 [] (by omega) (by omega) (by simp) h
  simp at x2; omega

section
variable {T : List Tok} {M : Nat} (hS : Short T M)

theorem block_wt {n : Nat} {d : Int} {p p' : PS} {v : List Stmt} (hS : Short T M) (I : Inv1 T p) (h : blockF T n d [] p = some (v, p')) : wtSs v ≤ 8 * (M * T.length) + 8 * M := by
  obtain ⟨I', F, W⟩ := (lightS hS n).block _ _ _ _ _ I h (8 * wa M p + ovM M p) (by simp [wtSs])
  have := ovM_le M p'
  have h2 : wa M p' ≤ M * T.length := Nat.mul_le_mul_left _ (Nat.le_of_lt I'.lt)
  omega

theorem params_len : ∀ n l (f : Bool) p v p', paramsF T n l f p = some (v, p') → v.length ≤ l.length + n := by
  intro n
  induction n with
  | zero => intro l f p v p' h; simp [paramsF] at h
  | succ n ih =>
    intro l f p v p' h
    simp only [paramsF] at h
    by_cases hc : (f || isF T [44] p) = true
    · rw [if_pos hc] at h
      generalize (if f = true then p else adv p) = q at h
      split at h
      · cases h; omega
      · have := ih _ _ _ _ _ h
        simp only [List.length_append, List.length_cons, List.length_nil] at this
        omega
    · rw [if_neg hc] at h; cases h; omega

theorem function_wt {n : Nat} {t : Int} {s : List UInt8} {p p' : PS} {v : Func} (hS : Short T M) (I : Inv1 T p) (h : functionF T n t s p = some (v, p')) : wtSs v.body ≤ 8 * (M * T.length) + 8 * M ∧ v.params.length ≤ n := by
  unfold functionF at h
  have I1 := I.must [40]
  split at h
  · rename_i hc
    split at h
    · cases h
    · rename_i q hq
      cases h
      exact ⟨block_wt hS ((I1.adv _ hc).must _) hq, by simp⟩
  · split at h
    · cases h
    · rename_i r hr
      have Ir := paramsF_inv _ _ _ _ _ _ hr I1
      have hl := params_len _ _ _ _ _ _ hr
      split at h
      · cases h
      · rename_i q hq
        cases h
        exact ⟨block_wt hS ((Ir.must _).must _) hq, by simpa using hl⟩

theorem prog_wt (hS : Short T M) : ∀ n ars fs p v p', n ≤ 999999980 → Inv1 T p → progF T n ars fs p = some (v, p') → ∀ B : Nat, n ≤ B →
    (∀ f ∈ fs, wtSs f.body ≤ 8 * (M * T.length) + 8 * M ∧ f.params.length ≤ B) →
    v.arrays.length ≤ ars.length + n ∧ v.funcs.length ≤ fs.length + n ∧ ∀ f ∈ v.funcs, wtSs f.body ≤ 8 * (M * T.length) + 8 * M ∧ f.params.length ≤ B := by
  intro n
  induction n with
  | zero => intro ars fs p v p' _ I h; simp [progF] at h
  | succ n ih =>
    intro ars fs p v p' hn I h B hB hf
    simp only [progF] at h
    have I2 := I.typed.text 1 (by decide)
    split at h
    · cases h; exact ⟨Nat.le_add_right _ _, Nat.le_add_right _ _, hf⟩
    split at h
    · cases h; exact ⟨Nat.le_add_right _ _, Nat.le_add_right _ _, hf⟩
    split at h
    · rename_i hc
      have I3 := (((I2.adv _ hc.2.2).text 0 (by decide)).must [93]).must [59]
      obtain ⟨a1, a2, a3⟩ := ih _ _ _ _ _ (by omega) I3 h B (by omega) hf
      simp only [List.length_append, List.length_cons, List.length_nil] at a1
      exact ⟨by omega, by omega, a3⟩
    · split at h
      · cases h
      · rename_i q hq
        have I3 := (function_spec hq I2 (by omega)).2
        have hw := function_wt hS I2 hq
        obtain ⟨a1, a2, a3⟩ := ih _ _ _ _ _ (by omega) I3 h B (by omega) (by
          intro f hff
          rcases List.mem_append.1 hff with h' | h'
          · exact hf f h'
          · rw [List.mem_singleton.1 h']; exact ⟨hw.1, by omega⟩)
        simp only [List.length_append, List.length_cons, List.length_nil] at a2
        exact ⟨by omega, by omega, a3⟩
end

theorem parse_sz (s : List UInt8) (h0 : (tokensM s).2.1 = 0) {v : Prog} {p' : PS} (h : progF (tokensM s).1 (fuel (tokensM s).1) [] [] ⟨0, false, false⟩ = some (v, p')) : PSz v := by
  have I := tokens_inv s h0
  have hc := tokens_count s h0
  have hS := tokens_short s
  have hf : fuel (tokensM s).1 ≤ 6400164 := by unfold fuel; omega
  obtain ⟨a1, a2, a3⟩ := prog_wt hS _ _ _ _ _ _ (by omega) I h (fuel (tokensM s).1) (Nat.le_refl _) (by simp)
  simp only [List.length_nil] at a1 a2
  have hm : 100008 * (tokensM s).1.length ≤ 100008 * 100001 := Nat.mul_le_mul_left _ hc
  refine ⟨by omega, by omega, fun f hff => ?_⟩
  obtain ⟨b1, b2⟩ := a3 f hff
  exact ⟨by omega, by omega⟩

theorem parse_run (s : List UInt8) (h0 : (tokensM s).2.1 = 0) : ∃ v p', progF (tokensM s).1 (fuel (tokensM s).1) [] [] ⟨0, false, false⟩ = some (v, p') ∧ Inv1 (tokensM s).1 p' ∧ PSz v := by
  have I := tokens_inv s h0
  obtain ⟨v, p', e, I'⟩ := prog_enough (fuel (tokensM s).1) [] [] _ I (Or.inl (by unfold fuel left; omega))
  exact ⟨v, p', e, I', parse_sz s h0 e⟩
end PE.U

/-
  The document's Parse: the contract.
-/
namespace PE.U
open Go PE

def encParse (r : Prog × Int × Int) : PV := .tup [encProg r.1, .int .i64 r.2.1, .int .i64 r.2.2]

set_option maxHeartbeats 4000000 in
theorem parse_spec (s : List UInt8) : pcall E 6 [.str s] [] = some (.ret (encParse (parseM s)), []) := by
  refine pcall_wp rfl rfl rfl (by simp) ?_
  have ht := tokens_spec s
  by_cases h0 : (tokensM s).2.1 = 0
  · obtain ⟨v, p', e, I', hz⟩ := parse_run s h0
    have I := tokens_inv s h0
    have hf : fuel (tokensM s).1 ≤ 6400164 := by have := tokens_count s h0; unfold fuel; omega
    have hp := (prog_spec e I (by omega)).1
    have hr := right_spec v hz
    have hm : parseM s = if p'.deep then (⟨[], []⟩, 2, (tk (tokensM s).1 p'.at').line) else if p'.bad then (⟨[], []⟩, 20, (tk (tokensM s).1 p'.at').line) else if rightR v then (v, 0, 0) else (⟨[], []⟩, 2, 0) := by
      unfold parseM; rw [if_pos h0, e]
    have hg := tk_get I'.lt
    rw [hm]
    clear hm e hz I hf
    generalize tokensM s = tt at *
    obtain ⟨T, e0, ln⟩ := tt
    simp only at h0 hp hg ht I'
    subst h0
    have hlt := I'.lt
    clear I'
    obtain ⟨pa, pb, pd⟩ := p'
    obtain ⟨ars, fs⟩ := v
    simp [encTokR, toks, pob, encProg, parrs, funcs] at ht hp hr hg hlt
    cases pd
    · cases pb
      · cases hR : rightR ⟨ars, fs⟩
        · rw [hR] at hr
          simp [*, F6, encParse, encProg, parrs, funcs]
        · rw [hR] at hr
          simp [*, F6, encParse, encProg, parrs, funcs]
      · clear hr
        simp [*, F6, encParse, encProg, parrs, funcs, encTok]
        exact congrArg Tok.line (tk_get' hlt)
    · clear hr
      simp [*, F6, encParse, encProg, parrs, funcs, encTok]
      exact congrArg Tok.line (tk_get' hlt)
  · have hm : parseM s = (⟨[], []⟩, (tokensM s).2.1, (tokensM s).2.2) := by unfold parseM; rw [if_neg h0]
    rw [hm]
    clear hm
    generalize tokensM s = tt at *
    obtain ⟨T, e0, ln⟩ := tt
    simp only at h0 ht
    simp [encTokR, toks] at ht
    replace h0 := eqn h0
    simp [*, F6, encParse, encProg, parrs, funcs]
end PE.U

/-
  Tokens without their lines: of a text, a line end, and a text.
-/
namespace PE.U
open Go PE

abbrev KT := Int × List UInt8
def kt (t : Tok) : KT := (t.kind, t.text)

def tokK : Nat → List UInt8 → Option (List KT)
  | 0, _ => none
  | _ + 1, [] => some []
  | n + 1, b :: r =>
    if b = 10 then tokK n r
    else if blank b then tokK n r
    else if b = 47 ∧ r.head? = some 47 then tokK n ((b :: r).dropWhile (· != 10))
    else if nameByte b then
      if tokBad ((b :: r).takeWhile nameByte) b then none
      else (tokK n ((b :: r).drop ((b :: r).takeWhile nameByte).length)).map fun l => (tokKind ((b :: r).takeWhile nameByte) b, (b :: r).takeWhile nameByte) :: l
    else if signM (b :: r) = [] then none
    else (tokK n ((b :: r).drop (signM (b :: r)).length)).map fun l => (2, signM (b :: r)) :: l
def tokS (s : List UInt8) : Option (List KT) := tokK (s.length + 1) s

theorem drop_name {b : UInt8} {r : List UInt8} (h : nameByte b = true) : ((b :: r).drop ((b :: r).takeWhile nameByte).length).length ≤ r.length := by
  have hw : 0 < ((b :: r).takeWhile nameByte).length := by rw [List.takeWhile_cons, h]; simp
  rw [List.length_drop]; simp only [List.length_cons]; omega
theorem drop_sign {b : UInt8} {r : List UInt8} (h : ¬ signM (b :: r) = []) : ((b :: r).drop (signM (b :: r)).length).length ≤ r.length := by
  have hp : 0 < (signM (b :: r)).length := List.length_pos_iff.2 h
  rw [List.length_drop]; simp only [List.length_cons]; omega
theorem drop_com {b : UInt8} {r : List UInt8} (h : b = 47) : ((b :: r).dropWhile (· != 10)).length ≤ r.length := by
  rw [List.dropWhile_cons, h]
  simp only [show ((47 : UInt8) != 10) = true from rfl, if_true]
  rw [dropWhile_eq_drop, List.length_drop]; omega

theorem tokK_fuel : ∀ n m (s : List UInt8), s.length < n → s.length < m → tokK n s = tokK m s := by
  intro n
  induction n with
  | zero => intro m s h; omega
  | succ n ih =>
    intro m s hn hm
    obtain ⟨m, rfl⟩ : ∃ k, m = k + 1 := ⟨m - 1, by omega⟩
    cases s with
    | nil => rfl
    | cons b r =>
      simp only [List.length_cons] at hn hm
      simp only [tokK]
      split
      · exact ih m r (by omega) (by omega)
      split
      · exact ih m r (by omega) (by omega)
      split
      · rename_i h
        have := drop_com (r := r) h.1
        exact ih m _ (by omega) (by omega)
      split
      · rename_i h
        have := drop_name (r := r) h
        split
        · rfl
        · rw [ih m _ (by omega) (by omega)]
      split
      · rfl
      · rename_i h
        have := drop_sign h
        rw [ih m _ (by omega) (by omega)]

theorem tokK_S {n : Nat} {s : List UInt8} (h : s.length < n) : tokK n s = tokS s := tokK_fuel n (s.length + 1) s h (by omega)

theorem take_nl (s t : List UInt8) : (s ++ 10 :: t).takeWhile nameByte = s.takeWhile nameByte := by
  induction s with
  | nil => rfl
  | cons b r ih =>
    rw [List.cons_append, List.takeWhile_cons, List.takeWhile_cons, ih]
theorem drop_nl (s t : List UInt8) : (s ++ 10 :: t).dropWhile (· != 10) = s.dropWhile (· != 10) ++ 10 :: t := by
  induction s with
  | nil => simp
  | cons b r ih =>
    rw [List.cons_append, List.dropWhile_cons, List.dropWhile_cons, ih]
    split <;> rfl
theorem prefix_nl : ∀ (x s t : List UInt8), (10 : UInt8) ∉ x → x.isPrefixOf (s ++ 10 :: t) = x.isPrefixOf s
  | [], s, t, _ => by simp
  | a :: x, [], t, h => by
    have : ¬ a = 10 := fun e => h (by rw [e]; simp)
    simp [List.isPrefixOf, this]
  | a :: x, b :: s, t, h => by
    have h' : (10 : UInt8) ∉ x := fun e => h (by simp [e])
    simp [List.isPrefixOf, prefix_nl x s t h']
theorem sign_nl (s t : List UInt8) : signM (s ++ 10 :: t) = signM s := by
  have h : ∀ x ∈ signsL, (10 : UInt8) ∉ x := by decide
  unfold signM
  have e : signsL.find? (fun x => x.isPrefixOf (s ++ 10 :: t)) = signsL.find? (fun x => x.isPrefixOf s) := by
    have : ∀ l : List (List UInt8), (∀ x ∈ l, (10 : UInt8) ∉ x) → l.find? (fun x => x.isPrefixOf (s ++ 10 :: t)) = l.find? (fun x => x.isPrefixOf s) := by
      intro l
      induction l with
      | nil => intro _; rfl
      | cons x r ih =>
        intro hl
        rw [List.find?_cons, List.find?_cons, prefix_nl x s t (hl x (by simp)), ih (fun y hy => hl y (by simp [hy]))]
    exact this _ h
  rw [e]

theorem sign_le (s : List UInt8) : (signM s).length ≤ s.length := sign_len s

theorem tokS_nl' : ∀ n (s t : List UInt8), s.length < n → tokS (s ++ 10 :: t) = (tokS s).bind fun a => (tokS t).map (a ++ ·) := by
  intro n
  induction n with
  | zero => intro s t h; omega
  | succ n ih =>
    intro s t hn
    cases s with
    | nil =>
      have e1 : tokS ([] ++ 10 :: t) = tokS t := by
        unfold tokS
        simp only [List.nil_append, List.length_cons, tokK, if_true]
      have e2 : tokS [] = some [] := rfl
      rw [e1, e2]
      simp only [Option.bind_some, List.nil_append]
      cases tokS t <;> rfl
    | cons b r =>
      simp only [List.length_cons] at hn
      have hlen : (r ++ 10 :: t).length = r.length + t.length + 1 := by simp; omega
      have hh : (r ++ 10 :: t).head? = some 47 ↔ r.head? = some 47 := by
        cases r with
        | nil => simp
        | cons c q => simp
      have hnl := take_nl (b :: r) t
      have hdl := drop_nl (b :: r) t
      have hsl := sign_nl (b :: r) t
      have e1 : tokS ((b :: r) ++ 10 :: t) = tokK (r.length + t.length + 1 + 1 + 1) (b :: (r ++ 10 :: t)) := by
        unfold tokS
        rw [show ((b :: r) ++ 10 :: t).length = r.length + t.length + 1 + 1 from by simp; omega]; rfl
      have e2 : tokS (b :: r) = tokK (r.length + 1 + 1) (b :: r) := rfl
      rw [e1, e2]
      rw [List.cons_append] at hnl hdl hsl
      simp only [tokK, hnl, hdl, hsl, hh]
      split
      · rw [tokK_S (by rw [hlen]; omega), tokK_S (by omega)]; exact ih r t (by omega)
      split
      · rw [tokK_S (by rw [hlen]; omega), tokK_S (by omega)]; exact ih r t (by omega)
      split
      · rename_i h
        have := drop_com (r := r) h.1
        rw [tokK_S (by simp; omega), tokK_S (by omega)]
        exact ih _ t (by omega)
      split
      · rename_i h
        have hd := drop_name (r := r) h
        have hle := (List.takeWhile_prefix (l := b :: r) (p := nameByte)).length_le
        split
        · rfl
        · rw [← List.cons_append, List.drop_append_of_le_length hle, tokK_S (by simp at hd ⊢; omega), tokK_S (by omega), ih _ t (by omega)]
          cases tokS (List.drop (List.takeWhile nameByte (b :: r)).length (b :: r)) with
          | none => rfl
          | some a => cases tokS t <;> simp
      split
      · rfl
      · rename_i h
        have hd := drop_sign h
        have hle := sign_le (b :: r)
        rw [← List.cons_append, List.drop_append_of_le_length hle, tokK_S (by simp at hd ⊢; omega), tokK_S (by omega), ih _ t (by omega)]
        cases tokS (List.drop (signM (b :: r)).length (b :: r)) with
        | none => rfl
        | some a => cases tokS t <;> simp
theorem tokS_nl (s t : List UInt8) : tokS (s ++ 10 :: t) = (tokS s).bind fun a => (tokS t).map (a ++ ·) := tokS_nl' _ s t (Nat.lt_succ_self _)

theorem tokGo_K : ∀ n (s : List UInt8) line acc, s.length < n →
    (tokK n s = none → (tokGo n s line acc).2.1 = 20) ∧ (∀ L, tokK n s = some L → (tokGo n s line acc).2 = (0, 0) ∧ (tokGo n s line acc).1.map kt = acc.map kt ++ L ++ [(3, [])]) := by
  intro n
  induction n with
  | zero => intro s line acc h; omega
  | succ n ih =>
    intro s line acc hn
    cases s with
    | nil =>
      refine ⟨fun h => by simp [tokK] at h, fun L h => ?_⟩
      simp only [tokK, Option.some.injEq] at h
      subst h
      simp [tokGo, kt]
    | cons b r =>
      simp only [List.length_cons] at hn
      simp only [tokK, tokGo]
      split
      · exact ih r _ _ (by omega)
      split
      · exact ih r _ _ (by omega)
      split
      · rename_i h
        have := drop_com (r := r) h.1
        exact ih _ _ _ (by omega)
      split
      · rename_i h
        have hd := drop_name (r := r) h
        split
        · exact ⟨fun _ => rfl, fun L h => by cases h⟩
        · obtain ⟨i1, i2⟩ := ih ((b :: r).drop ((b :: r).takeWhile nameByte).length) line (acc ++ [⟨tokKind ((b :: r).takeWhile nameByte) b, (b :: r).takeWhile nameByte, line⟩]) (by omega)
          refine ⟨fun h => i1 (by simpa using h), fun L h => ?_⟩
          rw [Option.map_eq_some_iff] at h
          obtain ⟨L', h1, rfl⟩ := h
          obtain ⟨j1, j2⟩ := i2 L' h1
          refine ⟨j1, ?_⟩
          rw [j2]; simp [kt]
      split
      · exact ⟨fun _ => rfl, fun L h => by cases h⟩
      · rename_i h
        have hd := drop_sign h
        obtain ⟨i1, i2⟩ := ih ((b :: r).drop (signM (b :: r)).length) line (acc ++ [⟨2, signM (b :: r), line⟩]) (by omega)
        refine ⟨fun h => i1 (by simpa using h), fun L h => ?_⟩
        rw [Option.map_eq_some_iff] at h
        obtain ⟨L', h1, rfl⟩ := h
        obtain ⟨j1, j2⟩ := i2 L' h1
        refine ⟨j1, ?_⟩
        rw [j2]; simp [kt]

/-- The tokens of a text that is not too long. -/
theorem tokens_K (s : List UInt8) (h : s.length ≤ 100000) (h0 : (tokensM s).2.1 = 0) : ∃ L, tokS s = some L ∧ (tokensM s).1.map kt = L ++ [(3, [])] := by
  unfold tokensM at h0 ⊢
  rw [if_neg (by omega)] at h0 ⊢
  obtain ⟨i1, i2⟩ := tokGo_K (s.length + 1) s 1 [] (by omega)
  cases hk : tokK (s.length + 1) s with
  | none => rw [i1 hk] at h0; exact absurd h0 (by decide)
  | some L =>
    exact ⟨L, hk, by rw [(i2 L hk).2]; simp⟩
end PE.U

/-
  The parser elsewhere among tokens, and with more fuel.
-/
namespace PE.U
open Go PE

/-- From a place on tokens are these, but for lines. -/
def Up (T T' : List Tok) (δ : Nat) : Prop := ∀ i, kt (tk T (i + δ)) = kt (tk T' i)
def up (δ : Nat) (p : PS) : PS := ⟨p.at' + δ, p.bad, p.deep⟩

section
variable {T T' : List Tok} {δ : Nat}
theorem Up.kind (U : Up T T' δ) (i : Nat) : (tk T (i + δ)).kind = (tk T' i).kind := congrArg Prod.fst (U i)
theorem Up.text (U : Up T T' δ) (i : Nat) : (tk T (i + δ)).text = (tk T' i).text := congrArg Prod.snd (U i)
theorem overF_up (p : PS) : overF (up δ p) = overF p := rfl
theorem adv_up (p : PS) : adv (up δ p) = up δ (adv p) := by unfold adv up; simp only; congr 1; omega
theorem isF_up (U : Up T T' δ) (s : List UInt8) (p : PS) : isF T s (up δ p) = isF T' s p := by
  unfold isF
  rw [overF_up, show (up δ p).at' = p.at' + δ from rfl, U.kind, U.text]
theorem mustF_up (U : Up T T' δ) (s : List UInt8) (p : PS) : mustF T s (up δ p) = up δ (mustF T' s p) := by
  unfold mustF
  rw [isF_up U]
  split
  · exact adv_up p
  · rw [show (up δ p).deep = p.deep from rfl]
    split <;> rfl
theorem textF_up (U : Up T T' δ) (k : Int) (p : PS) : textF T k (up δ p) = ((textF T' k p).1, up δ (textF T' k p).2) := by
  unfold textF
  rw [overF_up, show (up δ p).at' = p.at' + δ from rfl, U.kind, U.text]
  split
  · rfl
  · split
    · simp only; congr 1; exact adv_up p
    · rfl
theorem typedF_up (U : Up T T' δ) (p : PS) : typedF T (up δ p) = ((typedF T' p).1, up δ (typedF T' p).2) := by
  unfold typedF
  rw [isF_up U]
  split
  · simp only; congr 1; exact adv_up p
  · rw [mustF_up U]
theorem deepF_up (d : Int) (p : PS) : deepF d (up δ p) = up δ (deepF d p) := by
  unfold deepF
  rw [show (up δ p).bad = p.bad from rfl]
  repeat' (first | rfl | split)
theorem deepS_up (d : Int) (p : PS) : deepS d (up δ p) = up δ (deepS d p) := by
  unfold deepS
  repeat' (first | rfl | split)
theorem unF_up (U : Up T T' δ) (p : PS) : unF T (up δ p) = unF T' p := by
  unfold unF
  congr 1
  funext i
  unfold unHere
  rw [isF_up U]
theorem opF_up (U : Up T T' δ) (L : Int) (p : PS) : opF T L (up δ p) = opF T' L p := by
  unfold opF
  have : opHere T L (up δ p) = opHere T' L p := by
    funext i
    unfold opHere
    rw [isF_up U]
  rw [this]
theorem at_up (p : PS) : (up δ p).at' = p.at' + δ := rfl
end

structure UpE (T T' : List Tok) (δ n : Nat) : Prop where
  primary : ∀ m d p v p', n ≤ m → primaryF T' n d p = some (v, p') → primaryF T m d (up δ p) = some (v, up δ p')
  unary : ∀ m d p v p', n ≤ m → unaryF T' n d p = some (v, p') → unaryF T m d (up δ p) = some (v, up δ p')
  expr : ∀ m L d p v p', n ≤ m → exprF T' n L d p = some (v, p') → exprF T m L d (up δ p) = some (v, up δ p')
  loop : ∀ m L d a p v p', n ≤ m → exprLoopF T' n L d a p = some (v, p') → exprLoopF T m L d a (up δ p) = some (v, up δ p')
  args : ∀ m d p v p', n ≤ m → argsF T' n d p = some (v, p') → argsF T m d (up δ p) = some (v, up δ p')
  al : ∀ m d l (f : Bool) p v p', n ≤ m → argsLoopF T' n d l f p = some (v, p') → argsLoopF T m d l f (up δ p) = some (v, up δ p')

theorem upE_of {T T' : List Tok} {δ n : Nat} (U : Up T T' δ) (E : UpE T T' δ n) : UpE T T' δ (n + 1) := by
  refine ⟨?_, ?_, ?_, ?_, ?_, ?_⟩
  · intro m d p v p' hm h
    obtain ⟨m, rfl⟩ : ∃ k, m = k + 1 := ⟨m - 1, by omega⟩
    have hm : n ≤ m := by omega
    simp only [primaryF] at h ⊢
    simp only [overF_up, adv_up, isF_up U, textF_up U, at_up, U.kind, U.text, mustF_up U]
    split at h
    · rename_i c; rw [if_pos c]; cases h; rfl
    rename_i c; rw [if_neg c]
    split at h
    · rename_i c; rw [if_pos c]
      split at h
      · cases h
      · rename_i q hq
        cases h
        rw [E.expr m _ _ _ _ _ hm hq]
        simp only [mustF_up U]
    rename_i c; rw [if_neg c]
    split at h
    · rename_i c; rw [if_pos c]; cases h; rfl
    rename_i c; rw [if_neg c]
    split at h
    · rename_i c; rw [if_pos c]; cases h; rfl
    rename_i c; rw [if_neg c]
    split at h
    · rename_i c; rw [if_pos c]; cases h; rfl
    rename_i c; rw [if_neg c]
    split at h
    · rename_i c; rw [if_pos c]; cases h; rfl
    rename_i c; rw [if_neg c]
    split at h
    · rename_i c; rw [if_pos c]
      split at h
      · cases h
      · rename_i q hq
        cases h
        rw [E.args m _ _ _ _ hm hq]
    rename_i c; rw [if_neg c]
    split at h
    · rename_i c; rw [if_pos c]
      split at h
      · cases h
      · rename_i q hq
        cases h
        rw [E.expr m _ _ _ _ _ hm hq]
        simp only [mustF_up U]
    rename_i c; rw [if_neg c]
    cases h; rfl
  · intro m d p v p' hm h
    obtain ⟨m, rfl⟩ : ∃ k, m = k + 1 := ⟨m - 1, by omega⟩
    have hm : n ≤ m := by omega
    simp only [unaryF] at h ⊢
    rw [deepF_up, unF_up U]
    cases hu : unF T' (deepF d p) with
    | none =>
      rw [hu] at h
      exact E.primary m _ _ _ _ hm h
    | some i =>
      rw [hu] at h
      simp only at h ⊢
      simp only [adv_up, mustF_up U]
      split at h
      · rename_i c; rw [if_pos c]
        split at h
        · cases h
        · rename_i q hq
          cases h
          rw [E.expr m _ _ _ _ _ hm hq]
          simp only [mustF_up U]
      · rename_i c; rw [if_neg c]
        split at h
        · cases h
        · rename_i q hq
          cases h
          rw [E.unary m _ _ _ _ hm hq]
  · intro m L d p v p' hm h
    obtain ⟨m, rfl⟩ : ∃ k, m = k + 1 := ⟨m - 1, by omega⟩
    have hm : n ≤ m := by omega
    simp only [exprF] at h ⊢
    split at h
    · rename_i c; rw [if_pos c]; exact E.unary m _ _ _ _ hm h
    · rename_i c; rw [if_neg c]
      split at h
      · cases h
      · rename_i q hq
        rw [E.expr m _ _ _ _ _ hm hq]
        exact E.loop m _ _ _ _ _ _ hm h
  · intro m L d a p v p' hm h
    obtain ⟨m, rfl⟩ : ∃ k, m = k + 1 := ⟨m - 1, by omega⟩
    have hm : n ≤ m := by omega
    simp only [exprLoopF] at h ⊢
    simp only [opF_up U, adv_up]
    split at h
    · rename_i c; rw [if_pos c]; cases h; rfl
    · rename_i c; rw [if_neg c]
      split at h
      · cases h
      · rename_i q hq
        rw [E.expr m _ _ _ _ _ hm hq]
        exact E.loop m _ _ _ _ _ _ hm h
  · intro m d p v p' hm h
    obtain ⟨m, rfl⟩ : ∃ k, m = k + 1 := ⟨m - 1, by omega⟩
    have hm : n ≤ m := by omega
    simp only [argsF] at h ⊢
    simp only [isF_up U, adv_up]
    split at h
    · rename_i c; rw [if_pos c]; cases h; rfl
    · rename_i c; rw [if_neg c]
      split at h
      · cases h
      · rename_i q hq
        cases h
        rw [E.al m _ _ _ _ _ _ hm hq]
        simp only [mustF_up U]
  · intro m d l f p v p' hm h
    obtain ⟨m, rfl⟩ : ∃ k, m = k + 1 := ⟨m - 1, by omega⟩
    have hm : n ≤ m := by omega
    simp only [argsLoopF] at h ⊢
    simp only [isF_up U, adv_up]
    have hq : (if f = true then up δ p else up δ (adv p)) = up δ (if f = true then p else adv p) := by split <;> rfl
    rw [hq]
    generalize (if f = true then p else adv p) = q at *
    by_cases c : (f || isF T' [44] p) = true
    · rw [if_pos c] at h ⊢
      rw [overF_up]
      split at h
      · rename_i c; rw [if_pos c]; cases h; rfl
      · rename_i c; rw [if_neg c]
        split at h
        · cases h
        · rename_i x hx
          rw [E.expr m _ _ _ _ _ hm hx]
          exact E.al m _ _ _ _ _ _ hm h
    · rw [if_neg c] at h ⊢
      cases h; rfl

theorem upE {T T' : List Tok} {δ : Nat} (U : Up T T' δ) : ∀ n, UpE T T' δ n
  | 0 => ⟨fun _ _ _ _ _ _ h => by simp [primaryF] at h, fun _ _ _ _ _ _ h => by simp [unaryF] at h, fun _ _ _ _ _ _ _ h => by simp [exprF] at h, fun _ _ _ _ _ _ _ _ h => by simp [exprLoopF] at h, fun _ _ _ _ _ _ h => by simp [argsF] at h, fun _ _ _ _ _ _ _ _ h => by simp [argsLoopF] at h⟩
  | n + 1 => upE_of U (upE U n)

section
variable {T T' : List Tok} {δ : Nat}
theorem expr1_up (U : Up T T' δ) {n m : Nat} {p p' : PS} {v : Expr} (hm : n ≤ m) (h : exprF T' n 1 1 p = some (v, p')) : exprF T m 1 1 (up δ p) = some (v, up δ p') := (upE U n).expr m _ _ _ _ _ hm h
theorem inside_up (U : Up T T' δ) {n m : Nat} {p p' : PS} {v : Expr} (hm : n ≤ m) (h : insideF T' n p = some (v, p')) : insideF T m (up δ p) = some (v, up δ p') := by
  unfold insideF at h ⊢
  rw [mustF_up U]
  split at h
  · cases h
  · rename_i q hq
    cases h
    rw [expr1_up U hm hq]
    simp only [mustF_up U]
theorem named_up (U : Up T T' δ) {n m : Nat} {p p' : PS} {v : Stmt} (hm : n ≤ m) (h : namedF T' n p = some (v, p')) : namedF T m (up δ p) = some (v, up δ p') := by
  unfold namedF at h ⊢
  simp only [textF_up U, isF_up U, adv_up, mustF_up U]
  split at h
  · rename_i c; rw [if_pos c]
    split at h
    · cases h
    · rename_i q hq
      cases h
      rw [(upE U n).args m _ _ _ _ hm hq]
  rename_i c; rw [if_neg c]
  split at h
  · rename_i c; rw [if_pos c]
    split at h
    · cases h
    · rename_i q hq
      rw [expr1_up U hm hq]
      simp only [mustF_up U]
      split at h
      · cases h
      · rename_i r hr
        cases h
        rw [expr1_up U hm hr]
  · rename_i c; rw [if_neg c]
    split at h
    · cases h
    · rename_i q hq
      cases h
      rw [expr1_up U hm hq]
end

structure UpS (T T' : List Tok) (δ n : Nat) : Prop where
  stmt : ∀ m d p v p', n ≤ m → stmtF T' n d p = some (v, p') → stmtF T m d (up δ p) = some (v, up δ p')
  block : ∀ m d l p v p', n ≤ m → blockF T' n d l p = some (v, p') → blockF T m d l (up δ p) = some (v, up δ p')

theorem upS_of {T T' : List Tok} {δ n : Nat} (U : Up T T' δ) (E : UpS T T' δ n) : UpS T T' δ (n + 1) := by
  refine ⟨?_, ?_⟩
  · intro m d p v p' hm h
    obtain ⟨m, rfl⟩ : ∃ k, m = k + 1 := ⟨m - 1, by omega⟩
    have hm : n ≤ m := by omega
    simp only [stmtF] at h ⊢
    rw [deepS_up]
    generalize deepS d p = q at *
    simp only [isF_up U, adv_up, typedF_up U, textF_up U, mustF_up U]
    split at h
    · rename_i c; rw [if_pos c]
      split at h
      · cases h
      · rename_i x hx
        cases h
        rw [expr1_up U hm hx]
        simp only [mustF_up U]
    rename_i c; rw [if_neg c]
    split at h
    · rename_i c; rw [if_pos c]
      split at h
      · cases h
      · rename_i x hx
        rw [inside_up U hm hx]
        simp only [mustF_up U]
        split at h
        · cases h
        · rename_i y hy
          rw [E.block m _ _ _ _ _ hm hy]
          simp only [isF_up U, adv_up, mustF_up U]
          split at h
          · rename_i c; rw [if_pos c]
            split at h
            · cases h
            · rename_i z hz
              cases h
              rw [E.block m _ _ _ _ _ hm hz]
          · rename_i c; rw [if_neg c]
            cases h; rfl
    rename_i c; rw [if_neg c]
    split at h
    · rename_i c; rw [if_pos c]
      split at h
      · cases h
      · rename_i x hx
        rw [inside_up U hm hx]
        simp only [mustF_up U]
        split at h
        · cases h
        · rename_i y hy
          cases h
          rw [E.block m _ _ _ _ _ hm hy]
    rename_i c; rw [if_neg c]
    split at h
    · rename_i c; rw [if_pos c]; cases h; rfl
    rename_i c; rw [if_neg c]
    split at h
    · rename_i c; rw [if_pos c]; cases h; rfl
    rename_i c; rw [if_neg c]
    split at h
    · rename_i c; rw [if_pos c]
      split at h
      · cases h
      · rename_i x hx
        cases h
        rw [expr1_up U hm hx]
        simp only [mustF_up U]
    rename_i c; rw [if_neg c]
    split at h
    · rename_i c; rw [if_pos c]
      split at h
      · cases h
      · rename_i x hx
        cases h
        rw [inside_up U hm hx]
        simp only [mustF_up U]
    rename_i c; rw [if_neg c]
    split at h
    · cases h
    · rename_i x hx
      cases h
      rw [named_up U hm hx]
      simp only [mustF_up U]
  · intro m d l p v p' hm h
    obtain ⟨m, rfl⟩ : ∃ k, m = k + 1 := ⟨m - 1, by omega⟩
    have hm : n ≤ m := by omega
    simp only [blockF] at h ⊢
    simp only [overF_up, isF_up U, adv_up]
    split at h
    · rename_i c; rw [if_pos c]; cases h; rfl
    rename_i c; rw [if_neg c]
    split at h
    · rename_i c; rw [if_pos c]; cases h; rfl
    rename_i c; rw [if_neg c]
    split at h
    · cases h
    · rename_i x hx
      rw [E.stmt m _ _ _ _ hm hx]
      exact E.block m _ _ _ _ _ hm h

theorem upS {T T' : List Tok} {δ : Nat} (U : Up T T' δ) : ∀ n, UpS T T' δ n
  | 0 => ⟨fun _ _ _ _ _ _ h => by simp [stmtF] at h, fun _ _ _ _ _ _ _ h => by simp [blockF] at h⟩
  | n + 1 => upS_of U (upS U n)

section
variable {T T' : List Tok} {δ : Nat}
theorem params_up (U : Up T T' δ) : ∀ n m l (f : Bool) p v p', n ≤ m → paramsF T' n l f p = some (v, p') → paramsF T m l f (up δ p) = some (v, up δ p') := by
  intro n
  induction n with
  | zero => intro m l f p v p' _ h; simp [paramsF] at h
  | succ n ih =>
    intro m l f p v p' hm h
    obtain ⟨m, rfl⟩ : ∃ k, m = k + 1 := ⟨m - 1, by omega⟩
    have hm : n ≤ m := by omega
    simp only [paramsF] at h ⊢
    simp only [isF_up U, adv_up]
    have hq : (if f = true then up δ p else up δ (adv p)) = up δ (if f = true then p else adv p) := by split <;> rfl
    rw [hq]
    generalize (if f = true then p else adv p) = q at *
    by_cases c : (f || isF T' [44] p) = true
    · rw [if_pos c] at h ⊢
      simp only [overF_up, typedF_up U, textF_up U]
      split at h
      · rename_i c; rw [if_pos c]; cases h; rfl
      · rename_i c; rw [if_neg c]
        exact ih m _ _ _ _ _ hm h
    · rw [if_neg c] at h ⊢
      cases h; rfl
theorem function_up (U : Up T T' δ) {n m : Nat} {t : Int} {s : List UInt8} {p p' : PS} {v : Func} (hm : n ≤ m) (h : functionF T' n t s p = some (v, p')) : functionF T m t s (up δ p) = some (v, up δ p') := by
  unfold functionF at h ⊢
  simp only [mustF_up U, isF_up U, adv_up]
  split at h
  · rename_i c; rw [if_pos c]
    split at h
    · cases h
    · rename_i q hq
      cases h
      rw [(upS U n).block m _ _ _ _ _ hm hq]
  · rename_i c; rw [if_neg c]
    split at h
    · cases h
    · rename_i r hr
      rw [params_up U n m _ _ _ _ _ hm hr]
      simp only [mustF_up U]
      split at h
      · cases h
      · rename_i q hq
        cases h
        rw [(upS U n).block m _ _ _ _ _ hm hq]
end
end PE.U

/-
  What the functions come to: the first of a list, for programs.
-/
namespace PE.U
open Go PE

def idx {α : Type} (p : α → Bool) (l : List α) : Int := match l.findIdx? p with
  | some i => (i : Int)
  | none => -1

theorem idx_hit {α : Type} {p : α → Bool} {l d : List α} {x : α} {r : List α} (h : Split l d x r) (hd : ∀ y ∈ d, p y = false) (hx : p x = true) : idx p l = d.length := by
  have : l.findIdx? p = some d.length := by
    rw [h.eq, List.findIdx?_append]
    have : d.findIdx? p = none := by rw [List.findIdx?_eq_none_iff]; exact hd
    rw [this]
    simp [List.findIdx?_cons, hx]
  simp [idx, this]
theorem idx_none {α : Type} {p : α → Bool} {l : List α} (hd : ∀ y ∈ l, p y = false) : idx p l = -1 := by
  have : l.findIdx? p = none := by rw [List.findIdx?_eq_none_iff]; exact hd
  simp [idx, this]
theorem idx_ge {α : Type} (p : α → Bool) (l : List α) : decide (0 ≤ idx p l) = l.any p := by
  unfold idx
  cases h : l.findIdx? p with
  | none =>
    rw [List.findIdx?_eq_none_iff] at h
    simp; exact h
  | some i =>
    have : (l.findIdx? p).isSome = true := by rw [h]; rfl
    rw [List.findIdx?_isSome] at this
    simp [this]

theorem indexFuncFunc (l : List (Func)) (p : Func → Bool) (k : Nat) (first caps : List PV) (σ : Store) (hl : l.length < 1099511627776) (hf : ∀ x ∈ l, pcall E k (first ++ [encFunc x] ++ caps) σ = some (.ret (.bool (p x)), σ)) :
    pcall E 24 [.slice .plain 4 (l.map (encFunc)), .fn k first caps] σ = some (.ret (.int .i64 (idx p l)), σ) := by
  refine pcall_wp rfl rfl rfl (by simp) ?_
  simp [F24]
  refine wp_each l K24_0 B24_0 (fun d => [(8, .int .i64 d.length)]) (fun _ => σ) (fun d => ∀ y ∈ d, p y = false) (by omega) (by simp) ?_ ?_
  · intros d x r s hl' hlt hget hget' hw hp h1 h2 h3 h4
    have hfx := hf x hl'.mem
    simp [encFunc] at h1 h3 hfx
    clear h2 hf
    cases hx : p x
    · (simp [*, encFunc]) <;> (repeat' (first | (refine cond_splitP _ ?_ ?_ <;> intro hc <;> simp [*, encFunc]) | (refine guard_splitP _ ?_ ?_ <;> intro hc <;> simp [*, encFunc]) | (refine cond_splitN _ ?_ ?_ <;> intro hc <;> simp [*, encFunc]) | (refine guard_splitN _ ?_ ?_ <;> intro hc <;> simp [*, encFunc]) | (refine cond_splitM _ ?_ ?_ <;> intro hc <;> simp [*, encFunc]) | (refine guard_splitM _ ?_ ?_ <;> intro hc <;> simp [*, encFunc]) | (refine cond_split _ ?_ ?_ <;> intro hc <;> simp [*, encFunc]) | (refine guard_split _ ?_ ?_ <;> intro hc <;> simp [*, encFunc])))
      all_goals grind
    · have := idx_hit hl' hp hx
      (simp [*, encFunc]) <;> (repeat' (first | (refine cond_splitP _ ?_ ?_ <;> intro hc <;> simp [*, encFunc]) | (refine guard_splitP _ ?_ ?_ <;> intro hc <;> simp [*, encFunc]) | (refine cond_splitN _ ?_ ?_ <;> intro hc <;> simp [*, encFunc]) | (refine guard_splitN _ ?_ ?_ <;> intro hc <;> simp [*, encFunc]) | (refine cond_splitM _ ?_ ?_ <;> intro hc <;> simp [*, encFunc]) | (refine guard_splitM _ ?_ ?_ <;> intro hc <;> simp [*, encFunc]) | (refine cond_split _ ?_ ?_ <;> intro hc <;> simp [*, encFunc]) | (refine guard_split _ ?_ ?_ <;> intro hc <;> simp [*, encFunc])))
  · intros s hp h1 h2 h3 h4
    have := idx_none hp
    simp at h1 h3
    (simp [*, encFunc]) <;> (repeat' (first | (refine cond_splitP _ ?_ ?_ <;> intro hc <;> simp [*, encFunc]) | (refine guard_splitP _ ?_ ?_ <;> intro hc <;> simp [*, encFunc]) | (refine cond_splitN _ ?_ ?_ <;> intro hc <;> simp [*, encFunc]) | (refine guard_splitN _ ?_ ?_ <;> intro hc <;> simp [*, encFunc]) | (refine cond_splitM _ ?_ ?_ <;> intro hc <;> simp [*, encFunc]) | (refine guard_splitM _ ?_ ?_ <;> intro hc <;> simp [*, encFunc]) | (refine cond_split _ ?_ ?_ <;> intro hc <;> simp [*, encFunc]) | (refine guard_split _ ?_ ?_ <;> intro hc <;> simp [*, encFunc])))

theorem containsFuncFunc (l : List (Func)) (p : Func → Bool) (k : Nat) (first caps : List PV) (σ : Store) (hl : l.length < 1099511627776) (hc : (first.map stripA) = first ∧ (caps.map stripA) = caps) (hf : ∀ x ∈ l, pcall E k (first ++ [encFunc x] ++ caps) σ = some (.ret (.bool (p x)), σ)) :
    pcall E 46 [.slice .plain 4 (l.map (encFunc)), .fn k first caps] σ = some (.ret (.bool (l.any p)), σ) := by
  refine pcall_wp rfl rfl rfl (by simp) ?_
  have h := indexFuncFunc l p k first caps σ hl hf
  have h2 := idx_ge p l
  clear hf
  (simp [*, F46]) <;> (repeat' (first | (refine cond_splitP _ ?_ ?_ <;> intro hc <;> simp [*, F46]) | (refine guard_splitP _ ?_ ?_ <;> intro hc <;> simp [*, F46]) | (refine cond_splitN _ ?_ ?_ <;> intro hc <;> simp [*, F46]) | (refine guard_splitN _ ?_ ?_ <;> intro hc <;> simp [*, F46]) | (refine cond_splitM _ ?_ ?_ <;> intro hc <;> simp [*, F46]) | (refine guard_splitM _ ?_ ?_ <;> intro hc <;> simp [*, F46]) | (refine cond_split _ ?_ ?_ <;> intro hc <;> simp [*, F46]) | (refine guard_split _ ?_ ?_ <;> intro hc <;> simp [*, F46])))

theorem indexFuncPArr (l : List (PArr)) (p : PArr → Bool) (k : Nat) (first caps : List PV) (σ : Store) (hl : l.length < 1099511627776) (hf : ∀ x ∈ l, pcall E k (first ++ [encPArr x] ++ caps) σ = some (.ret (.bool (p x)), σ)) :
    pcall E 26 [.slice .plain 2 (l.map (encPArr)), .fn k first caps] σ = some (.ret (.int .i64 (idx p l)), σ) := by
  refine pcall_wp rfl rfl rfl (by simp) ?_
  simp [F26]
  refine wp_each l K26_0 B26_0 (fun d => [(8, .int .i64 d.length)]) (fun _ => σ) (fun d => ∀ y ∈ d, p y = false) (by omega) (by simp) ?_ ?_
  · intros d x r s hl' hlt hget hget' hw hp h1 h2 h3 h4
    have hfx := hf x hl'.mem
    simp [encPArr] at h1 h3 hfx
    clear h2 hf
    cases hx : p x
    · (simp [*, encPArr]) <;> (repeat' (first | (refine cond_splitP _ ?_ ?_ <;> intro hc <;> simp [*, encPArr]) | (refine guard_splitP _ ?_ ?_ <;> intro hc <;> simp [*, encPArr]) | (refine cond_splitN _ ?_ ?_ <;> intro hc <;> simp [*, encPArr]) | (refine guard_splitN _ ?_ ?_ <;> intro hc <;> simp [*, encPArr]) | (refine cond_splitM _ ?_ ?_ <;> intro hc <;> simp [*, encPArr]) | (refine guard_splitM _ ?_ ?_ <;> intro hc <;> simp [*, encPArr]) | (refine cond_split _ ?_ ?_ <;> intro hc <;> simp [*, encPArr]) | (refine guard_split _ ?_ ?_ <;> intro hc <;> simp [*, encPArr])))
      all_goals grind
    · have := idx_hit hl' hp hx
      (simp [*, encPArr]) <;> (repeat' (first | (refine cond_splitP _ ?_ ?_ <;> intro hc <;> simp [*, encPArr]) | (refine guard_splitP _ ?_ ?_ <;> intro hc <;> simp [*, encPArr]) | (refine cond_splitN _ ?_ ?_ <;> intro hc <;> simp [*, encPArr]) | (refine guard_splitN _ ?_ ?_ <;> intro hc <;> simp [*, encPArr]) | (refine cond_splitM _ ?_ ?_ <;> intro hc <;> simp [*, encPArr]) | (refine guard_splitM _ ?_ ?_ <;> intro hc <;> simp [*, encPArr]) | (refine cond_split _ ?_ ?_ <;> intro hc <;> simp [*, encPArr]) | (refine guard_split _ ?_ ?_ <;> intro hc <;> simp [*, encPArr])))
  · intros s hp h1 h2 h3 h4
    have := idx_none hp
    simp at h1 h3
    (simp [*, encPArr]) <;> (repeat' (first | (refine cond_splitP _ ?_ ?_ <;> intro hc <;> simp [*, encPArr]) | (refine guard_splitP _ ?_ ?_ <;> intro hc <;> simp [*, encPArr]) | (refine cond_splitN _ ?_ ?_ <;> intro hc <;> simp [*, encPArr]) | (refine guard_splitN _ ?_ ?_ <;> intro hc <;> simp [*, encPArr]) | (refine cond_splitM _ ?_ ?_ <;> intro hc <;> simp [*, encPArr]) | (refine guard_splitM _ ?_ ?_ <;> intro hc <;> simp [*, encPArr]) | (refine cond_split _ ?_ ?_ <;> intro hc <;> simp [*, encPArr]) | (refine guard_split _ ?_ ?_ <;> intro hc <;> simp [*, encPArr])))

theorem containsFuncPArr (l : List (PArr)) (p : PArr → Bool) (k : Nat) (first caps : List PV) (σ : Store) (hl : l.length < 1099511627776) (hc : (first.map stripA) = first ∧ (caps.map stripA) = caps) (hf : ∀ x ∈ l, pcall E k (first ++ [encPArr x] ++ caps) σ = some (.ret (.bool (p x)), σ)) :
    pcall E 45 [.slice .plain 2 (l.map (encPArr)), .fn k first caps] σ = some (.ret (.bool (l.any p)), σ) := by
  refine pcall_wp rfl rfl rfl (by simp) ?_
  have h := indexFuncPArr l p k first caps σ hl hf
  have h2 := idx_ge p l
  clear hf
  (simp [*, F45]) <;> (repeat' (first | (refine cond_splitP _ ?_ ?_ <;> intro hc <;> simp [*, F45]) | (refine guard_splitP _ ?_ ?_ <;> intro hc <;> simp [*, F45]) | (refine cond_splitN _ ?_ ?_ <;> intro hc <;> simp [*, F45]) | (refine guard_splitN _ ?_ ?_ <;> intro hc <;> simp [*, F45]) | (refine cond_splitM _ ?_ ?_ <;> intro hc <;> simp [*, F45]) | (refine guard_splitM _ ?_ ?_ <;> intro hc <;> simp [*, F45]) | (refine cond_split _ ?_ ?_ <;> intro hc <;> simp [*, F45]) | (refine guard_split _ ?_ ?_ <;> intro hc <;> simp [*, F45])))

theorem indexFuncExpr (l : List (Expr)) (p : Expr → Bool) (k : Nat) (first caps : List PV) (σ : Store) (hl : l.length < 1099511627776) (hf : ∀ x ∈ l, pcall E k (first ++ [encExpr x] ++ caps) σ = some (.ret (.bool (p x)), σ)) :
    pcall E 92 [.slice .plain 5 (l.map (encExpr)), .fn k first caps] σ = some (.ret (.int .i64 (idx p l)), σ) := by
  refine pcall_wp rfl rfl rfl (by simp) ?_
  simp [F92]
  refine wp_each l K92_0 B92_0 (fun d => [(8, .int .i64 d.length)]) (fun _ => σ) (fun d => ∀ y ∈ d, p y = false) (by omega) (by simp) ?_ ?_
  · intros d x r s hl' hlt hget hget' hw hp h1 h2 h3 h4
    have hfx := hf x hl'.mem
    simp [encExpr_eq] at h1 h3 hfx
    clear h2 hf
    cases hx : p x
    · (simp [*, encExpr_eq]) <;> (repeat' (first | (refine cond_splitP _ ?_ ?_ <;> intro hc <;> simp [*, encExpr_eq]) | (refine guard_splitP _ ?_ ?_ <;> intro hc <;> simp [*, encExpr_eq]) | (refine cond_splitN _ ?_ ?_ <;> intro hc <;> simp [*, encExpr_eq]) | (refine guard_splitN _ ?_ ?_ <;> intro hc <;> simp [*, encExpr_eq]) | (refine cond_splitM _ ?_ ?_ <;> intro hc <;> simp [*, encExpr_eq]) | (refine guard_splitM _ ?_ ?_ <;> intro hc <;> simp [*, encExpr_eq]) | (refine cond_split _ ?_ ?_ <;> intro hc <;> simp [*, encExpr_eq]) | (refine guard_split _ ?_ ?_ <;> intro hc <;> simp [*, encExpr_eq])))
      all_goals grind
    · have := idx_hit hl' hp hx
      (simp [*, encExpr_eq]) <;> (repeat' (first | (refine cond_splitP _ ?_ ?_ <;> intro hc <;> simp [*, encExpr_eq]) | (refine guard_splitP _ ?_ ?_ <;> intro hc <;> simp [*, encExpr_eq]) | (refine cond_splitN _ ?_ ?_ <;> intro hc <;> simp [*, encExpr_eq]) | (refine guard_splitN _ ?_ ?_ <;> intro hc <;> simp [*, encExpr_eq]) | (refine cond_splitM _ ?_ ?_ <;> intro hc <;> simp [*, encExpr_eq]) | (refine guard_splitM _ ?_ ?_ <;> intro hc <;> simp [*, encExpr_eq]) | (refine cond_split _ ?_ ?_ <;> intro hc <;> simp [*, encExpr_eq]) | (refine guard_split _ ?_ ?_ <;> intro hc <;> simp [*, encExpr_eq])))
  · intros s hp h1 h2 h3 h4
    have := idx_none hp
    simp at h1 h3
    (simp [*, encExpr_eq]) <;> (repeat' (first | (refine cond_splitP _ ?_ ?_ <;> intro hc <;> simp [*, encExpr_eq]) | (refine guard_splitP _ ?_ ?_ <;> intro hc <;> simp [*, encExpr_eq]) | (refine cond_splitN _ ?_ ?_ <;> intro hc <;> simp [*, encExpr_eq]) | (refine guard_splitN _ ?_ ?_ <;> intro hc <;> simp [*, encExpr_eq]) | (refine cond_splitM _ ?_ ?_ <;> intro hc <;> simp [*, encExpr_eq]) | (refine guard_splitM _ ?_ ?_ <;> intro hc <;> simp [*, encExpr_eq]) | (refine cond_split _ ?_ ?_ <;> intro hc <;> simp [*, encExpr_eq]) | (refine guard_split _ ?_ ?_ <;> intro hc <;> simp [*, encExpr_eq])))

theorem containsFuncExpr (l : List (Expr)) (p : Expr → Bool) (k : Nat) (first caps : List PV) (σ : Store) (hl : l.length < 1099511627776) (hc : (first.map stripA) = first ∧ (caps.map stripA) = caps) (hf : ∀ x ∈ l, pcall E k (first ++ [encExpr x] ++ caps) σ = some (.ret (.bool (p x)), σ)) :
    pcall E 83 [.slice .plain 5 (l.map (encExpr)), .fn k first caps] σ = some (.ret (.bool (l.any p)), σ) := by
  refine pcall_wp rfl rfl rfl (by simp) ?_
  have h := indexFuncExpr l p k first caps σ hl hf
  have h2 := idx_ge p l
  clear hf
  (simp [*, F83]) <;> (repeat' (first | (refine cond_splitP _ ?_ ?_ <;> intro hc <;> simp [*, F83]) | (refine guard_splitP _ ?_ ?_ <;> intro hc <;> simp [*, F83]) | (refine cond_splitN _ ?_ ?_ <;> intro hc <;> simp [*, F83]) | (refine guard_splitN _ ?_ ?_ <;> intro hc <;> simp [*, F83]) | (refine cond_splitM _ ?_ ?_ <;> intro hc <;> simp [*, F83]) | (refine guard_splitM _ ?_ ?_ <;> intro hc <;> simp [*, F83]) | (refine cond_split _ ?_ ?_ <;> intro hc <;> simp [*, F83]) | (refine guard_split _ ?_ ?_ <;> intro hc <;> simp [*, F83])))

theorem indexFuncStmt (l : List (Stmt)) (p : Stmt → Bool) (k : Nat) (first caps : List PV) (σ : Store) (hl : l.length < 1099511627776) (hf : ∀ x ∈ l, pcall E k (first ++ [encStmt x] ++ caps) σ = some (.ret (.bool (p x)), σ)) :
    pcall E 51 [.slice .plain 6 (l.map (encStmt)), .fn k first caps] σ = some (.ret (.int .i64 (idx p l)), σ) := by
  refine pcall_wp rfl rfl rfl (by simp) ?_
  simp [F51]
  refine wp_each l K51_0 B51_0 (fun d => [(8, .int .i64 d.length)]) (fun _ => σ) (fun d => ∀ y ∈ d, p y = false) (by omega) (by simp) ?_ ?_
  · intros d x r s hl' hlt hget hget' hw hp h1 h2 h3 h4
    have hfx := hf x hl'.mem
    simp [encStmt_eq] at h1 h3 hfx
    clear h2 hf
    cases hx : p x
    · (simp [*, encStmt_eq]) <;> (repeat' (first | (refine cond_splitP _ ?_ ?_ <;> intro hc <;> simp [*, encStmt_eq]) | (refine guard_splitP _ ?_ ?_ <;> intro hc <;> simp [*, encStmt_eq]) | (refine cond_splitN _ ?_ ?_ <;> intro hc <;> simp [*, encStmt_eq]) | (refine guard_splitN _ ?_ ?_ <;> intro hc <;> simp [*, encStmt_eq]) | (refine cond_splitM _ ?_ ?_ <;> intro hc <;> simp [*, encStmt_eq]) | (refine guard_splitM _ ?_ ?_ <;> intro hc <;> simp [*, encStmt_eq]) | (refine cond_split _ ?_ ?_ <;> intro hc <;> simp [*, encStmt_eq]) | (refine guard_split _ ?_ ?_ <;> intro hc <;> simp [*, encStmt_eq])))
      all_goals grind
    · have := idx_hit hl' hp hx
      (simp [*, encStmt_eq]) <;> (repeat' (first | (refine cond_splitP _ ?_ ?_ <;> intro hc <;> simp [*, encStmt_eq]) | (refine guard_splitP _ ?_ ?_ <;> intro hc <;> simp [*, encStmt_eq]) | (refine cond_splitN _ ?_ ?_ <;> intro hc <;> simp [*, encStmt_eq]) | (refine guard_splitN _ ?_ ?_ <;> intro hc <;> simp [*, encStmt_eq]) | (refine cond_splitM _ ?_ ?_ <;> intro hc <;> simp [*, encStmt_eq]) | (refine guard_splitM _ ?_ ?_ <;> intro hc <;> simp [*, encStmt_eq]) | (refine cond_split _ ?_ ?_ <;> intro hc <;> simp [*, encStmt_eq]) | (refine guard_split _ ?_ ?_ <;> intro hc <;> simp [*, encStmt_eq])))
  · intros s hp h1 h2 h3 h4
    have := idx_none hp
    simp at h1 h3
    (simp [*, encStmt_eq]) <;> (repeat' (first | (refine cond_splitP _ ?_ ?_ <;> intro hc <;> simp [*, encStmt_eq]) | (refine guard_splitP _ ?_ ?_ <;> intro hc <;> simp [*, encStmt_eq]) | (refine cond_splitN _ ?_ ?_ <;> intro hc <;> simp [*, encStmt_eq]) | (refine guard_splitN _ ?_ ?_ <;> intro hc <;> simp [*, encStmt_eq]) | (refine cond_splitM _ ?_ ?_ <;> intro hc <;> simp [*, encStmt_eq]) | (refine guard_splitM _ ?_ ?_ <;> intro hc <;> simp [*, encStmt_eq]) | (refine cond_split _ ?_ ?_ <;> intro hc <;> simp [*, encStmt_eq]) | (refine guard_split _ ?_ ?_ <;> intro hc <;> simp [*, encStmt_eq])))

theorem containsFuncStmt (l : List (Stmt)) (p : Stmt → Bool) (k : Nat) (first caps : List PV) (σ : Store) (hl : l.length < 1099511627776) (hc : (first.map stripA) = first ∧ (caps.map stripA) = caps) (hf : ∀ x ∈ l, pcall E k (first ++ [encStmt x] ++ caps) σ = some (.ret (.bool (p x)), σ)) :
    pcall E 21 [.slice .plain 6 (l.map (encStmt)), .fn k first caps] σ = some (.ret (.bool (l.any p)), σ) := by
  refine pcall_wp rfl rfl rfl (by simp) ?_
  have h := indexFuncStmt l p k first caps σ hl hf
  have h2 := idx_ge p l
  clear hf
  (simp [*, F21]) <;> (repeat' (first | (refine cond_splitP _ ?_ ?_ <;> intro hc <;> simp [*, F21]) | (refine guard_splitP _ ?_ ?_ <;> intro hc <;> simp [*, F21]) | (refine cond_splitN _ ?_ ?_ <;> intro hc <;> simp [*, F21]) | (refine guard_splitN _ ?_ ?_ <;> intro hc <;> simp [*, F21]) | (refine cond_splitM _ ?_ ?_ <;> intro hc <;> simp [*, F21]) | (refine guard_splitM _ ?_ ?_ <;> intro hc <;> simp [*, F21]) | (refine cond_split _ ?_ ?_ <;> intro hc <;> simp [*, F21]) | (refine guard_split _ ?_ ?_ <;> intro hc <;> simp [*, F21])))

theorem indexFuncPar (l : List (Par)) (p : Par → Bool) (k : Nat) (first caps : List PV) (σ : Store) (hl : l.length < 1099511627776) (hf : ∀ x ∈ l, pcall E k (first ++ [encPar x] ++ caps) σ = some (.ret (.bool (p x)), σ)) :
    pcall E 72 [.slice .plain 2 (l.map (encPar)), .fn k first caps] σ = some (.ret (.int .i64 (idx p l)), σ) := by
  refine pcall_wp rfl rfl rfl (by simp) ?_
  simp [F72]
  refine wp_each l K72_0 B72_0 (fun d => [(8, .int .i64 d.length)]) (fun _ => σ) (fun d => ∀ y ∈ d, p y = false) (by omega) (by simp) ?_ ?_
  · intros d x r s hl' hlt hget hget' hw hp h1 h2 h3 h4
    have hfx := hf x hl'.mem
    simp [encPar] at h1 h3 hfx
    clear h2 hf
    cases hx : p x
    · (simp [*, encPar]) <;> (repeat' (first | (refine cond_splitP _ ?_ ?_ <;> intro hc <;> simp [*, encPar]) | (refine guard_splitP _ ?_ ?_ <;> intro hc <;> simp [*, encPar]) | (refine cond_splitN _ ?_ ?_ <;> intro hc <;> simp [*, encPar]) | (refine guard_splitN _ ?_ ?_ <;> intro hc <;> simp [*, encPar]) | (refine cond_splitM _ ?_ ?_ <;> intro hc <;> simp [*, encPar]) | (refine guard_splitM _ ?_ ?_ <;> intro hc <;> simp [*, encPar]) | (refine cond_split _ ?_ ?_ <;> intro hc <;> simp [*, encPar]) | (refine guard_split _ ?_ ?_ <;> intro hc <;> simp [*, encPar])))
      all_goals grind
    · have := idx_hit hl' hp hx
      (simp [*, encPar]) <;> (repeat' (first | (refine cond_splitP _ ?_ ?_ <;> intro hc <;> simp [*, encPar]) | (refine guard_splitP _ ?_ ?_ <;> intro hc <;> simp [*, encPar]) | (refine cond_splitN _ ?_ ?_ <;> intro hc <;> simp [*, encPar]) | (refine guard_splitN _ ?_ ?_ <;> intro hc <;> simp [*, encPar]) | (refine cond_splitM _ ?_ ?_ <;> intro hc <;> simp [*, encPar]) | (refine guard_splitM _ ?_ ?_ <;> intro hc <;> simp [*, encPar]) | (refine cond_split _ ?_ ?_ <;> intro hc <;> simp [*, encPar]) | (refine guard_split _ ?_ ?_ <;> intro hc <;> simp [*, encPar])))
  · intros s hp h1 h2 h3 h4
    have := idx_none hp
    simp at h1 h3
    (simp [*, encPar]) <;> (repeat' (first | (refine cond_splitP _ ?_ ?_ <;> intro hc <;> simp [*, encPar]) | (refine guard_splitP _ ?_ ?_ <;> intro hc <;> simp [*, encPar]) | (refine cond_splitN _ ?_ ?_ <;> intro hc <;> simp [*, encPar]) | (refine guard_splitN _ ?_ ?_ <;> intro hc <;> simp [*, encPar]) | (refine cond_splitM _ ?_ ?_ <;> intro hc <;> simp [*, encPar]) | (refine guard_splitM _ ?_ ?_ <;> intro hc <;> simp [*, encPar]) | (refine cond_split _ ?_ ?_ <;> intro hc <;> simp [*, encPar]) | (refine guard_split _ ?_ ?_ <;> intro hc <;> simp [*, encPar])))

theorem containsFuncPar (l : List (Par)) (p : Par → Bool) (k : Nat) (first caps : List PV) (σ : Store) (hl : l.length < 1099511627776) (hc : (first.map stripA) = first ∧ (caps.map stripA) = caps) (hf : ∀ x ∈ l, pcall E k (first ++ [encPar x] ++ caps) σ = some (.ret (.bool (p x)), σ)) :
    pcall E 62 [.slice .plain 2 (l.map (encPar)), .fn k first caps] σ = some (.ret (.bool (l.any p)), σ) := by
  refine pcall_wp rfl rfl rfl (by simp) ?_
  have h := indexFuncPar l p k first caps σ hl hf
  have h2 := idx_ge p l
  clear hf
  (simp [*, F62]) <;> (repeat' (first | (refine cond_splitP _ ?_ ?_ <;> intro hc <;> simp [*, F62]) | (refine guard_splitP _ ?_ ?_ <;> intro hc <;> simp [*, F62]) | (refine cond_splitN _ ?_ ?_ <;> intro hc <;> simp [*, F62]) | (refine guard_splitN _ ?_ ?_ <;> intro hc <;> simp [*, F62]) | (refine cond_splitM _ ?_ ?_ <;> intro hc <;> simp [*, F62]) | (refine guard_splitM _ ?_ ?_ <;> intro hc <;> simp [*, F62]) | (refine cond_split _ ?_ ?_ <;> intro hc <;> simp [*, F62]) | (refine guard_split _ ?_ ?_ <;> intro hc <;> simp [*, F62])))

end PE.U

/-
  Operators' signs and levels.
-/
namespace PE.U
open Go PE

def signList : List (List UInt8) := [[], [43], [45], [42], [47], [37], [38], [124], [94], [60, 60], [62, 62], [62, 62, 62], [60], [60, 61], [62], [62, 61], [61, 61], [33, 61], [38, 38], [124, 124], [45], [126], [33], [105, 56], [105, 49, 54], [105, 51, 50], [117, 56], [117, 49, 54], [117, 51, 50]]
def levelList : List Int := [0, 9, 9, 10, 10, 10, 5, 3, 4, 8, 8, 8, 7, 7, 7, 7, 6, 6, 2, 1, 0, 0, 0, 0, 0, 0, 0, 0, 0]
def sgn (op : Int) : List UInt8 := if op < 0 then [] else (signList[op.toNat]?).getD []
def lvl (op : Int) : Int := if op < 0 then 0 else (levelList[op.toNat]?).getD 0

theorem sgnList_get (n : Nat) (h : n < 29) : signList[n]? = some ((signList[n]?).getD []) ∧ levelList[n]? = some ((levelList[n]?).getD 0) := by
  have h1 : n < signList.length := h
  have h2 : n < levelList.length := h
  simp [h1, h2]

theorem rowCells : ∀ n : Nat, n < 29 → List.take 2 (List.drop (n * 2) [.str [], .int .i64 0, .str [43], .int .i64 9, .str [45], .int .i64 9, .str [42], .int .i64 10, .str [47], .int .i64 10, .str [37], .int .i64 10, .str [38], .int .i64 5, .str [124], .int .i64 3, .str [94], .int .i64 4, .str [60, 60], .int .i64 8, .str [62, 62], .int .i64 8, .str [62, 62, 62], .int .i64 8, .str [60], .int .i64 7, .str [60, 61], .int .i64 7, .str [62], .int .i64 7, .str [62, 61], .int .i64 7, .str [61, 61], .int .i64 6, .str [33, 61], .int .i64 6, .str [38, 38], .int .i64 2, .str [124, 124], .int .i64 1, .str [45], .int .i64 0, .str [126], .int .i64 0, .str [33], .int .i64 0, .str [105, 56], .int .i64 0, .str [105, 49, 54], .int .i64 0, .str [105, 51, 50], .int .i64 0, .str [117, 56], .int .i64 0, .str [117, 49, 54], .int .i64 0, .str [117, 51, 50], .int .i64 0]) = [PV.str ((signList[n]?).getD []), PV.int .i64 ((levelList[n]?).getD 0)]
  | 0, _ => rfl
  | 1, _ => rfl
  | 2, _ => rfl
  | 3, _ => rfl
  | 4, _ => rfl
  | 5, _ => rfl
  | 6, _ => rfl
  | 7, _ => rfl
  | 8, _ => rfl
  | 9, _ => rfl
  | 10, _ => rfl
  | 11, _ => rfl
  | 12, _ => rfl
  | 13, _ => rfl
  | 14, _ => rfl
  | 15, _ => rfl
  | 16, _ => rfl
  | 17, _ => rfl
  | 18, _ => rfl
  | 19, _ => rfl
  | 20, _ => rfl
  | 21, _ => rfl
  | 22, _ => rfl
  | 23, _ => rfl
  | 24, _ => rfl
  | 25, _ => rfl
  | 26, _ => rfl
  | 27, _ => rfl
  | 28, _ => rfl
  | n + 29, h => by omega


set_option maxHeartbeats 4000000 in
theorem rowOf_spec (op : Int) (σ : Store) : pcall E 100 [.int .i64 op] σ = some (.ret (.agg [.str (sgn op), .int .i64 (lvl op)]), σ) := by
  refine pcall_wp rfl rfl rfl (by simp) ?_
  by_cases h0 : op < 0
  · simp [F100, h0, sgn, lvl]
  by_cases h1 : 29 ≤ op
  · have : 29 ≤ op.toNat := by omega
    simp [F100, h0, h1, sgn, lvl, signList, levelList, List.getElem?_eq_none, this]
  have h2 : op.toNat < 29 := by omega
  have h3 : 0 ≤ op := by omega
  have h4 : op.toNat * 2 ≤ 56 := by omega
  have e1 : sgn op = ((signList[op.toNat]?).getD []) := by simp [sgn, h0]
  have e2 : lvl op = ((levelList[op.toNat]?).getD 0) := by simp [lvl, h0]
  rw [e1, e2]
  have e3 := rowCells op.toNat h2
  generalize ((signList[op.toNat]?).getD []) = s at *
  generalize ((levelList[op.toNat]?).getD 0) = l at *
  simp [F100, h0, h1, h2, h3, h4, e3]

theorem level_spec (op : Int) (σ : Store) : pcall E 98 [.int .i64 op] σ = some (.ret (.int .i64 (lvl op)), σ) := by
  refine pcall_wp rfl rfl rfl (by simp) ?_
  (simp [*, F98, rowOf_spec]) <;> (repeat' (first | (refine cond_splitP _ ?_ ?_ <;> intro hc <;> simp [*, F98, rowOf_spec]) | (refine guard_splitP _ ?_ ?_ <;> intro hc <;> simp [*, F98, rowOf_spec]) | (refine cond_splitN _ ?_ ?_ <;> intro hc <;> simp [*, F98, rowOf_spec]) | (refine guard_splitN _ ?_ ?_ <;> intro hc <;> simp [*, F98, rowOf_spec]) | (refine cond_splitM _ ?_ ?_ <;> intro hc <;> simp [*, F98, rowOf_spec]) | (refine guard_splitM _ ?_ ?_ <;> intro hc <;> simp [*, F98, rowOf_spec]) | (refine cond_split _ ?_ ?_ <;> intro hc <;> simp [*, F98, rowOf_spec]) | (refine guard_split _ ?_ ?_ <;> intro hc <;> simp [*, F98, rowOf_spec])))

theorem lvl_eq (op : Int) : lvl op = levelR op := by
  unfold lvl levelR
  by_cases h0 : op < 0
  · rw [if_pos h0]
    repeat (rw [if_neg (by omega)])
  · rw [if_neg h0]
    by_cases h1 : 29 ≤ op
    · have : 29 ≤ op.toNat := by omega
      rw [List.getElem?_eq_none (by simpa [levelList] using this)]
      repeat (rw [if_neg (by omega)])
      rfl
    · obtain ⟨n, rfl⟩ : ∃ n : Nat, op = n := ⟨op.toNat, by omega⟩
      have hn : n < 29 := by omega
      have key : ∀ n : Nat, n < 29 → (levelList[((n : Int)).toNat]?).getD 0 = levelR (n : Int) := by decide
      have := key n hn
      unfold levelR at this
      exact this

end PE.U

/-
  What may be, as the program has it: expressions.
-/
namespace PE.U
open Go PE

theorem tblank_spec (k o n : Int) (s : List UInt8) (a : List Expr) : pcall E 97 [.agg [.int .i64 k, .int .i64 o, .int .i64 n, .str s, exprs a]] [] = some (.ret (.bool (decide (o = 0) && (decide (n = 0) && (decide (s = []) && decide (a = []))))), []) := by
  refine pcall_wp rfl rfl rfl (by simp) ?_
  have hl : ((a.length : Int) = 0) = (a = []) := by simp
  (simp [*, F97, exprs]) <;> (repeat' (first | (refine cond_splitP _ ?_ ?_ <;> intro hc <;> simp [*, F97, exprs]) | (refine guard_splitP _ ?_ ?_ <;> intro hc <;> simp [*, F97, exprs]) | (refine cond_splitN _ ?_ ?_ <;> intro hc <;> simp [*, F97, exprs]) | (refine guard_splitN _ ?_ ?_ <;> intro hc <;> simp [*, F97, exprs]) | (refine cond_splitM _ ?_ ?_ <;> intro hc <;> simp [*, F97, exprs]) | (refine guard_splitM _ ?_ ?_ <;> intro hc <;> simp [*, F97, exprs]) | (refine cond_split _ ?_ ?_ <;> intro hc <;> simp [*, F97, exprs]) | (refine guard_split _ ?_ ?_ <;> intro hc <;> simp [*, F97, exprs])))

/-- How many parts an expression has to have; whether it may be, but for these. -/
def ownT (k o n : Int) (s : List UInt8) (a : Nat) : Int × Bool :=
  if k = 1 then (0, decide (0 ≤ n) && (decide (o = 0) && decide (s = [])))
  else if k = 2 then (0, (decide (n = 0) || decide (n = 1)) && (decide (o = 0) && decide (s = [])))
  else if k = 4 then (1, oneR o && (decide (n = 0) && decide (s = [])))
  else if k = 5 then (2, decide (0 < levelR o) && (decide (n = 0) && decide (s = [])))
  else if k = 8 then (0, decide (o = 0) && (decide (n = 0) && decide (s = [])))
  else if k = 3 then (0, nameM s && (decide (o = 0) && decide (n = 0)))
  else if k = 6 then (1, nameM s && (decide (o = 0) && decide (n = 0)))
  else if k = 7 then (a, (nameM s && (decide (o = 0) && decide (n = 0))) && decide (a ≤ 8))
  else (0, false)

set_option maxHeartbeats 4000000 in
theorem town_spec (e : Expr) : pcall E 93 [encExpr e] [] = some (.ret (.tup [.int .i64 (ownT e.kind e.op e.n e.name e.args.length).1, .bool (ownT e.kind e.op e.n e.name e.args.length).2]), []) := by
  obtain ⟨k, o, n, s, a⟩ := e
  have hn := name_spec s []
  have hlv := level_spec o []
  rw [lvl_eq] at hlv
  have hb : ∀ k o n s, pcall E 97 [.agg [.int .i64 k, .int .i64 o, .int .i64 n, .str s, .slice .plain 5 []]] [] = some (.ret (.bool (decide (o = 0) && (decide (n = 0) && decide (s = [])))), []) := by
    intro k o n s
    have := tblank_spec k o n s []
    simpa [exprs] using this
  refine pcall_wp rfl rfl rfl (by simp [encExpr_eq]) ?_
  simp only
  unfold ownT
  by_cases k1 : k = 1
  · replace k1 := eqp k1
    (simp [*, F93, encExpr_eq, exprs]) <;> (repeat' (first | (refine cond_splitP _ ?_ ?_ <;> intro hc <;> (first | replace hc := eqn hc | replace hc := eqp hc) <;> simp [*, F93, encExpr_eq, exprs]) | (refine guard_splitP _ ?_ ?_ <;> intro hc <;> (first | replace hc := eqn hc | replace hc := eqp hc) <;> simp [*, F93, encExpr_eq, exprs]) | (refine cond_splitN _ ?_ ?_ <;> intro hc <;> (first | replace hc := eqn hc | replace hc := eqp hc) <;> simp [*, F93, encExpr_eq, exprs]) | (refine guard_splitN _ ?_ ?_ <;> intro hc <;> (first | replace hc := eqn hc | replace hc := eqp hc) <;> simp [*, F93, encExpr_eq, exprs]) | (refine cond_splitM _ ?_ ?_ <;> intro hc <;> skip <;> simp [*, F93, encExpr_eq, exprs]) | (refine guard_splitM _ ?_ ?_ <;> intro hc <;> skip <;> simp [*, F93, encExpr_eq, exprs]) | (refine cond_split _ ?_ ?_ <;> intro hc <;> skip <;> simp [*, F93, encExpr_eq, exprs]) | (refine guard_split _ ?_ ?_ <;> intro hc <;> skip <;> simp [*, F93, encExpr_eq, exprs])))
  replace k1 := eqn k1
  by_cases k2 : k = 2
  · replace k2 := eqp k2
    (simp [*, F93, encExpr_eq, exprs]) <;> (repeat' (first | (refine cond_splitP _ ?_ ?_ <;> intro hc <;> (first | replace hc := eqn hc | replace hc := eqp hc) <;> simp [*, F93, encExpr_eq, exprs]) | (refine guard_splitP _ ?_ ?_ <;> intro hc <;> (first | replace hc := eqn hc | replace hc := eqp hc) <;> simp [*, F93, encExpr_eq, exprs]) | (refine cond_splitN _ ?_ ?_ <;> intro hc <;> (first | replace hc := eqn hc | replace hc := eqp hc) <;> simp [*, F93, encExpr_eq, exprs]) | (refine guard_splitN _ ?_ ?_ <;> intro hc <;> (first | replace hc := eqn hc | replace hc := eqp hc) <;> simp [*, F93, encExpr_eq, exprs]) | (refine cond_splitM _ ?_ ?_ <;> intro hc <;> skip <;> simp [*, F93, encExpr_eq, exprs]) | (refine guard_splitM _ ?_ ?_ <;> intro hc <;> skip <;> simp [*, F93, encExpr_eq, exprs]) | (refine cond_split _ ?_ ?_ <;> intro hc <;> skip <;> simp [*, F93, encExpr_eq, exprs]) | (refine guard_split _ ?_ ?_ <;> intro hc <;> skip <;> simp [*, F93, encExpr_eq, exprs])))
  replace k2 := eqn k2
  by_cases k4 : k = 4
  · replace k4 := eqp k4
    (simp [*, F93, encExpr_eq, exprs, oneR]) <;> (repeat' (first | (refine cond_splitP _ ?_ ?_ <;> intro hc <;> (first | replace hc := eqn hc | replace hc := eqp hc) <;> simp [*, F93, encExpr_eq, exprs, oneR]) | (refine guard_splitP _ ?_ ?_ <;> intro hc <;> (first | replace hc := eqn hc | replace hc := eqp hc) <;> simp [*, F93, encExpr_eq, exprs, oneR]) | (refine cond_splitN _ ?_ ?_ <;> intro hc <;> (first | replace hc := eqn hc | replace hc := eqp hc) <;> simp [*, F93, encExpr_eq, exprs, oneR]) | (refine guard_splitN _ ?_ ?_ <;> intro hc <;> (first | replace hc := eqn hc | replace hc := eqp hc) <;> simp [*, F93, encExpr_eq, exprs, oneR]) | (refine cond_splitM _ ?_ ?_ <;> intro hc <;> skip <;> simp [*, F93, encExpr_eq, exprs, oneR]) | (refine guard_splitM _ ?_ ?_ <;> intro hc <;> skip <;> simp [*, F93, encExpr_eq, exprs, oneR]) | (refine cond_split _ ?_ ?_ <;> intro hc <;> skip <;> simp [*, F93, encExpr_eq, exprs, oneR]) | (refine guard_split _ ?_ ?_ <;> intro hc <;> skip <;> simp [*, F93, encExpr_eq, exprs, oneR])))
  replace k4 := eqn k4
  by_cases k5 : k = 5
  · replace k5 := eqp k5
    (simp [*, F93, encExpr_eq, exprs]) <;> (repeat' (first | (refine cond_splitP _ ?_ ?_ <;> intro hc <;> (first | replace hc := eqn hc | replace hc := eqp hc) <;> simp [*, F93, encExpr_eq, exprs]) | (refine guard_splitP _ ?_ ?_ <;> intro hc <;> (first | replace hc := eqn hc | replace hc := eqp hc) <;> simp [*, F93, encExpr_eq, exprs]) | (refine cond_splitN _ ?_ ?_ <;> intro hc <;> (first | replace hc := eqn hc | replace hc := eqp hc) <;> simp [*, F93, encExpr_eq, exprs]) | (refine guard_splitN _ ?_ ?_ <;> intro hc <;> (first | replace hc := eqn hc | replace hc := eqp hc) <;> simp [*, F93, encExpr_eq, exprs]) | (refine cond_splitM _ ?_ ?_ <;> intro hc <;> skip <;> simp [*, F93, encExpr_eq, exprs]) | (refine guard_splitM _ ?_ ?_ <;> intro hc <;> skip <;> simp [*, F93, encExpr_eq, exprs]) | (refine cond_split _ ?_ ?_ <;> intro hc <;> skip <;> simp [*, F93, encExpr_eq, exprs]) | (refine guard_split _ ?_ ?_ <;> intro hc <;> skip <;> simp [*, F93, encExpr_eq, exprs])))
  replace k5 := eqn k5
  by_cases k8 : k = 8
  · replace k8 := eqp k8
    (simp [*, F93, encExpr_eq, exprs]) <;> (repeat' (first | (refine cond_splitP _ ?_ ?_ <;> intro hc <;> (first | replace hc := eqn hc | replace hc := eqp hc) <;> simp [*, F93, encExpr_eq, exprs]) | (refine guard_splitP _ ?_ ?_ <;> intro hc <;> (first | replace hc := eqn hc | replace hc := eqp hc) <;> simp [*, F93, encExpr_eq, exprs]) | (refine cond_splitN _ ?_ ?_ <;> intro hc <;> (first | replace hc := eqn hc | replace hc := eqp hc) <;> simp [*, F93, encExpr_eq, exprs]) | (refine guard_splitN _ ?_ ?_ <;> intro hc <;> (first | replace hc := eqn hc | replace hc := eqp hc) <;> simp [*, F93, encExpr_eq, exprs]) | (refine cond_splitM _ ?_ ?_ <;> intro hc <;> skip <;> simp [*, F93, encExpr_eq, exprs]) | (refine guard_splitM _ ?_ ?_ <;> intro hc <;> skip <;> simp [*, F93, encExpr_eq, exprs]) | (refine cond_split _ ?_ ?_ <;> intro hc <;> skip <;> simp [*, F93, encExpr_eq, exprs]) | (refine guard_split _ ?_ ?_ <;> intro hc <;> skip <;> simp [*, F93, encExpr_eq, exprs])))
  replace k8 := eqn k8
  by_cases k3 : k = 3
  · replace k3 := eqp k3
    (simp [*, F93, encExpr_eq, exprs]) <;> (repeat' (first | (refine cond_splitP _ ?_ ?_ <;> intro hc <;> (first | replace hc := eqn hc | replace hc := eqp hc) <;> simp [*, F93, encExpr_eq, exprs]) | (refine guard_splitP _ ?_ ?_ <;> intro hc <;> (first | replace hc := eqn hc | replace hc := eqp hc) <;> simp [*, F93, encExpr_eq, exprs]) | (refine cond_splitN _ ?_ ?_ <;> intro hc <;> (first | replace hc := eqn hc | replace hc := eqp hc) <;> simp [*, F93, encExpr_eq, exprs]) | (refine guard_splitN _ ?_ ?_ <;> intro hc <;> (first | replace hc := eqn hc | replace hc := eqp hc) <;> simp [*, F93, encExpr_eq, exprs]) | (refine cond_splitM _ ?_ ?_ <;> intro hc <;> skip <;> simp [*, F93, encExpr_eq, exprs]) | (refine guard_splitM _ ?_ ?_ <;> intro hc <;> skip <;> simp [*, F93, encExpr_eq, exprs]) | (refine cond_split _ ?_ ?_ <;> intro hc <;> skip <;> simp [*, F93, encExpr_eq, exprs]) | (refine guard_split _ ?_ ?_ <;> intro hc <;> skip <;> simp [*, F93, encExpr_eq, exprs])))
  replace k3 := eqn k3
  by_cases k6 : k = 6
  · replace k6 := eqp k6
    (simp [*, F93, encExpr_eq, exprs]) <;> (repeat' (first | (refine cond_splitP _ ?_ ?_ <;> intro hc <;> (first | replace hc := eqn hc | replace hc := eqp hc) <;> simp [*, F93, encExpr_eq, exprs]) | (refine guard_splitP _ ?_ ?_ <;> intro hc <;> (first | replace hc := eqn hc | replace hc := eqp hc) <;> simp [*, F93, encExpr_eq, exprs]) | (refine cond_splitN _ ?_ ?_ <;> intro hc <;> (first | replace hc := eqn hc | replace hc := eqp hc) <;> simp [*, F93, encExpr_eq, exprs]) | (refine guard_splitN _ ?_ ?_ <;> intro hc <;> (first | replace hc := eqn hc | replace hc := eqp hc) <;> simp [*, F93, encExpr_eq, exprs]) | (refine cond_splitM _ ?_ ?_ <;> intro hc <;> skip <;> simp [*, F93, encExpr_eq, exprs]) | (refine guard_splitM _ ?_ ?_ <;> intro hc <;> skip <;> simp [*, F93, encExpr_eq, exprs]) | (refine cond_split _ ?_ ?_ <;> intro hc <;> skip <;> simp [*, F93, encExpr_eq, exprs]) | (refine guard_split _ ?_ ?_ <;> intro hc <;> skip <;> simp [*, F93, encExpr_eq, exprs])))
  replace k6 := eqn k6
  by_cases k7 : k = 7
  · replace k7 := eqp k7
    (simp [*, F93, encExpr_eq, exprs]) <;> (repeat' (first | (refine cond_splitP _ ?_ ?_ <;> intro hc <;> (first | replace hc := eqn hc | replace hc := eqp hc) <;> simp [*, F93, encExpr_eq, exprs]) | (refine guard_splitP _ ?_ ?_ <;> intro hc <;> (first | replace hc := eqn hc | replace hc := eqp hc) <;> simp [*, F93, encExpr_eq, exprs]) | (refine cond_splitN _ ?_ ?_ <;> intro hc <;> (first | replace hc := eqn hc | replace hc := eqp hc) <;> simp [*, F93, encExpr_eq, exprs]) | (refine guard_splitN _ ?_ ?_ <;> intro hc <;> (first | replace hc := eqn hc | replace hc := eqp hc) <;> simp [*, F93, encExpr_eq, exprs]) | (refine cond_splitM _ ?_ ?_ <;> intro hc <;> skip <;> simp [*, F93, encExpr_eq, exprs]) | (refine guard_splitM _ ?_ ?_ <;> intro hc <;> skip <;> simp [*, F93, encExpr_eq, exprs]) | (refine cond_split _ ?_ ?_ <;> intro hc <;> skip <;> simp [*, F93, encExpr_eq, exprs]) | (refine guard_split _ ?_ ?_ <;> intro hc <;> skip <;> simp [*, F93, encExpr_eq, exprs])))
    all_goals (try omega)
  replace k7 := eqn k7
  (simp [*, F93, encExpr_eq, exprs]) <;> (repeat' (first | (refine cond_splitP _ ?_ ?_ <;> intro hc <;> (first | replace hc := eqn hc | replace hc := eqp hc) <;> simp [*, F93, encExpr_eq, exprs]) | (refine guard_splitP _ ?_ ?_ <;> intro hc <;> (first | replace hc := eqn hc | replace hc := eqp hc) <;> simp [*, F93, encExpr_eq, exprs]) | (refine cond_splitN _ ?_ ?_ <;> intro hc <;> (first | replace hc := eqn hc | replace hc := eqp hc) <;> simp [*, F93, encExpr_eq, exprs]) | (refine guard_splitN _ ?_ ?_ <;> intro hc <;> (first | replace hc := eqn hc | replace hc := eqp hc) <;> simp [*, F93, encExpr_eq, exprs]) | (refine cond_splitM _ ?_ ?_ <;> intro hc <;> skip <;> simp [*, F93, encExpr_eq, exprs]) | (refine guard_splitM _ ?_ ?_ <;> intro hc <;> skip <;> simp [*, F93, encExpr_eq, exprs]) | (refine cond_split _ ?_ ?_ <;> intro hc <;> skip <;> simp [*, F93, encExpr_eq, exprs]) | (refine guard_split _ ?_ ?_ <;> intro hc <;> skip <;> simp [*, F93, encExpr_eq, exprs])))

theorem own_kind (k o n : Int) (s : List UInt8) (a : Nat) : ((ownT k o n s a).2 && decide ((a : Int) = (ownT k o n s a).1)) = kindR k o n s a := by
  rw [Bool.eq_iff_iff]
  unfold ownT kindR
  by_cases k1 : k = 1
  · subst k1; simp; grind
  by_cases k2 : k = 2
  · subst k2; simp; grind
  by_cases k4 : k = 4
  · subst k4; simp; grind
  by_cases k5 : k = 5
  · subst k5; simp; grind
  by_cases k8 : k = 8
  · subst k8; simp; grind
  by_cases k3 : k = 3
  · subst k3; simp; grind
  by_cases k6 : k = 6
  · subst k6; simp; grind
  by_cases k7 : k = 7
  · subst k7; simp; grind
  simp [*]

theorem exprsR_all (l : List Expr) (m : Int) : exprsR l m = l.all fun x => decide (2 ≤ m) && exprR x (m - 1) := by
  induction l with
  | nil => rfl
  | cons x r ih => simp [exprsR, ih]

set_option maxHeartbeats 4000000 in
theorem texpr_spec' : ∀ w (e : Expr) (m : Int), wtE e ≤ w → w < 1099511000000 → m ≤ 1000000 → pcall E 85 [encExpr e, .int .i64 m] [] = some (.ret (.bool (decide (0 < m) && exprR e m)), [])
  | 0, e, m, h, _, _ => by rw [wtE_eq] at h; omega
  | w + 1, e, m, h, hw, hm => by
    refine pcall_wp rfl rfl rfl (by simp [encExpr_eq]) ?_
    have hlen := len_wtEs e.args
    rw [wtE_eq] at h
    have ho := town_spec e
    have hk := own_kind e.kind e.op e.n e.name e.args.length
    have hR := exprR_eq e m
    rw [← hk] at hR
    generalize ownT e.kind e.op e.n e.name e.args.length = q at *
    obtain ⟨n, ok⟩ := q
    simp only at ho hk hR
    clear hk
    by_cases h0 : 0 < m
    · have hcl : ∀ x ∈ e.args, pcall E 94 ([] ++ [encExpr x] ++ [.iptr [.int .i64 m] 0]) [] = some (.ret (.bool (!(decide (0 < m - 1) && exprR x (m - 1)))), []) := by
        intro x hx
        have hwx := wtE_mem hx
        have ih := texpr_spec' w x (m - 1) (by omega) (by omega) (by omega)
        have hwm : wrapK .i64 (m - 1) = m - 1 := wrapK_small (by omega) (by omega)
        refine pcall_wp rfl rfl rfl (by simp [encExpr_eq]) ?_
        rw [encExpr_eq] at ih
        clear hR ho h hlen hwx hx
        simp [exprs] at ih
        (simp [*, F94, encExpr_eq, exprs]) <;> (repeat' (first | (refine cond_splitP _ ?_ ?_ <;> intro hc <;> simp [*, F94, encExpr_eq, exprs]) | (refine guard_splitP _ ?_ ?_ <;> intro hc <;> simp [*, F94, encExpr_eq, exprs]) | (refine cond_splitN _ ?_ ?_ <;> intro hc <;> simp [*, F94, encExpr_eq, exprs]) | (refine guard_splitN _ ?_ ?_ <;> intro hc <;> simp [*, F94, encExpr_eq, exprs]) | (refine cond_splitM _ ?_ ?_ <;> intro hc <;> simp [*, F94, encExpr_eq, exprs]) | (refine guard_splitM _ ?_ ?_ <;> intro hc <;> simp [*, F94, encExpr_eq, exprs]) | (refine cond_split _ ?_ ?_ <;> intro hc <;> simp [*, F94, encExpr_eq, exprs]) | (refine guard_split _ ?_ ?_ <;> intro hc <;> simp [*, F94, encExpr_eq, exprs])))
      have hc := containsFuncExpr e.args (fun x => !(decide (0 < m - 1) && exprR x (m - 1))) 94 [] [.iptr [.int .i64 m] 0] [] (by omega) (by simp) hcl
      have hany : (!(e.args.any fun x => !(decide (0 < m - 1) && exprR x (m - 1)))) = exprsR e.args m := by
        have h2 : decide (0 < m - 1) = decide (2 ≤ m) := by rw [decide_eq_decide]; omega
        rw [exprsR_all, List.not_any_eq_all_not, h2]
        simp
      generalize (e.args.any fun x => !(decide (0 < m - 1) && exprR x (m - 1))) = b at *
      rw [← hany] at hR
      clear hcl h hlen hany
      rw [encExpr_eq] at ho
      simp [exprs] at ho hc
      generalize hal : e.args.length = al at *
      (simp [*, F85, encExpr_eq, exprs]) <;> (repeat' (first | (refine cond_splitP _ ?_ ?_ <;> intro hc <;> (first | replace hc := eqn hc | replace hc := eqp hc) <;> simp [*, F85, encExpr_eq, exprs]) | (refine guard_splitP _ ?_ ?_ <;> intro hc <;> (first | replace hc := eqn hc | replace hc := eqp hc) <;> simp [*, F85, encExpr_eq, exprs]) | (refine cond_splitN _ ?_ ?_ <;> intro hc <;> (first | replace hc := eqn hc | replace hc := eqp hc) <;> simp [*, F85, encExpr_eq, exprs]) | (refine guard_splitN _ ?_ ?_ <;> intro hc <;> (first | replace hc := eqn hc | replace hc := eqp hc) <;> simp [*, F85, encExpr_eq, exprs]) | (refine cond_splitM _ ?_ ?_ <;> intro hc <;> skip <;> simp [*, F85, encExpr_eq, exprs]) | (refine guard_splitM _ ?_ ?_ <;> intro hc <;> skip <;> simp [*, F85, encExpr_eq, exprs]) | (refine cond_split _ ?_ ?_ <;> intro hc <;> skip <;> simp [*, F85, encExpr_eq, exprs]) | (refine guard_split _ ?_ ?_ <;> intro hc <;> skip <;> simp [*, F85, encExpr_eq, exprs])))
    · clear hlen h
      rw [encExpr_eq] at ho
      simp [exprs] at ho
      (simp [*, F85, encExpr_eq, exprs]) <;> (repeat' (first | (refine cond_splitP _ ?_ ?_ <;> intro hc <;> (first | replace hc := eqn hc | replace hc := eqp hc) <;> simp [*, F85, encExpr_eq, exprs]) | (refine guard_splitP _ ?_ ?_ <;> intro hc <;> (first | replace hc := eqn hc | replace hc := eqp hc) <;> simp [*, F85, encExpr_eq, exprs]) | (refine cond_splitN _ ?_ ?_ <;> intro hc <;> (first | replace hc := eqn hc | replace hc := eqp hc) <;> simp [*, F85, encExpr_eq, exprs]) | (refine guard_splitN _ ?_ ?_ <;> intro hc <;> (first | replace hc := eqn hc | replace hc := eqp hc) <;> simp [*, F85, encExpr_eq, exprs]) | (refine cond_splitM _ ?_ ?_ <;> intro hc <;> skip <;> simp [*, F85, encExpr_eq, exprs]) | (refine guard_splitM _ ?_ ?_ <;> intro hc <;> skip <;> simp [*, F85, encExpr_eq, exprs]) | (refine cond_split _ ?_ ?_ <;> intro hc <;> skip <;> simp [*, F85, encExpr_eq, exprs]) | (refine guard_split _ ?_ ?_ <;> intro hc <;> skip <;> simp [*, F85, encExpr_eq, exprs])))
theorem texpr_spec (e : Expr) (m : Int) (h : wtE e < 1099510000000) (hm : m ≤ 1000000) : pcall E 85 [encExpr e, .int .i64 m] [] = some (.ret (.bool (decide (0 < m) && exprR e m)), []) := texpr_spec' (wtE e) e m (Nat.le_refl _) (by omega) hm
end PE.U

/-
  What may be, as the program has it: statements.
-/
namespace PE.U
open Go PE

def shapeV (t n : Bool) (a : Int) (th o : Bool) : PV := .agg [.bool t, .bool n, .int .i64 a, .bool th, .bool o]
def shapesL : List (PV × PV) := [(.int .i64 1, shapeV true true 1 false false), (.int .i64 2, shapeV false true 1 false false), (.int .i64 3, shapeV false true 2 false false), (.int .i64 4, shapeV false false 1 true true), (.int .i64 5, shapeV false false 1 true false),
  (.int .i64 6, shapeV false false 0 false false), (.int .i64 7, shapeV false false 0 false false), (.int .i64 8, shapeV false false 1 false false), (.int .i64 9, shapeV false false 1 false false), (.int .i64 10, shapeV false false 1 false false)]

set_option maxHeartbeats 1000000 in
theorem shapes_spec (σ : Store) : pcall E 82 [] σ = some (.ret (.mp σ.length), σ ++ [.mp shapesL]) := by
  refine pcall_wp rfl rfl rfl (by simp) ?_
  simp [F82, shapesL, shapeV]

theorem shapes_find (k : Int) : mapFind false (.int .i64 k) shapesL = some (if 1 ≤ k ∧ k ≤ 10 then some (shapeV (shapeR k).1 (shapeR k).2.1 (shapeR k).2.2.1 (shapeR k).2.2.2.1 (shapeR k).2.2.2.2) else none) := by
  by_cases h : 1 ≤ k ∧ k ≤ 10
  · have : k = 1 ∨ k = 2 ∨ k = 3 ∨ k = 4 ∨ k = 5 ∨ k = 6 ∨ k = 7 ∨ k = 8 ∨ k = 9 ∨ k = 10 := by omega
    rcases this with h | h | h | h | h | h | h | h | h | h <;> subst h <;> simp [shapesL, shapeR, shapeV]
  · have h1 : ¬ k = 1 := by omega
    have h2 : ¬ k = 2 := by omega
    have h3 : ¬ k = 3 := by omega
    have h4 : ¬ k = 4 := by omega
    have h5 : ¬ k = 5 := by omega
    have h6 : ¬ k = 6 := by omega
    have h7 : ¬ k = 7 := by omega
    have h8 : ¬ k = 8 := by omega
    have h9 : ¬ k = 9 := by omega
    have h10 : ¬ k = 10 := by omega
    rw [if_neg h]
    simp [shapesL, *]

theorem tisType_spec (t : Int) (σ : Store) : pcall E 61 [.int .i64 t] σ = some (.ret (.bool (decide (t = 1) || decide (t = 2))), σ) := by
  refine pcall_wp rfl rfl rfl (by simp) ?_
  (simp [*, F61]) <;> (repeat' (first | (refine cond_splitP _ ?_ ?_ <;> intro hc <;> simp [*, F61]) | (refine guard_splitP _ ?_ ?_ <;> intro hc <;> simp [*, F61]) | (refine cond_splitN _ ?_ ?_ <;> intro hc <;> simp [*, F61]) | (refine guard_splitN _ ?_ ?_ <;> intro hc <;> simp [*, F61]) | (refine cond_splitM _ ?_ ?_ <;> intro hc <;> simp [*, F61]) | (refine guard_splitM _ ?_ ?_ <;> intro hc <;> simp [*, F61]) | (refine cond_split _ ?_ ?_ <;> intro hc <;> simp [*, F61]) | (refine guard_split _ ?_ ?_ <;> intro hc <;> simp [*, F61])))

theorem argsR_all (l : List Expr) (st : Store) (h : wtEs l < 1099509000000) : pcall E 83 [exprs l, .fn 84 [] []] st = some (.ret (.bool (!argsR l)), st) := by
  have hlen := len_wtEs l
  have hcl : ∀ x ∈ l, pcall E 84 ([] ++ [encExpr x] ++ []) st = some (.ret (.bool (!exprR x 100)), st) := by
    intro x hx
    have hwx := wtE_mem hx
    have ih := texpr_spec x 100 (by omega) (by omega)
    rw [encExpr_eq] at ih
    refine pcall_wp rfl rfl rfl (by simp [encExpr_eq]) ?_
    simp [exprs] at ih
    (simp [*, F84, encExpr_eq, exprs]) <;> (repeat' (first | (refine cond_splitP _ ?_ ?_ <;> intro hc <;> simp [*, F84, encExpr_eq, exprs]) | (refine guard_splitP _ ?_ ?_ <;> intro hc <;> simp [*, F84, encExpr_eq, exprs]) | (refine cond_splitN _ ?_ ?_ <;> intro hc <;> simp [*, F84, encExpr_eq, exprs]) | (refine guard_splitN _ ?_ ?_ <;> intro hc <;> simp [*, F84, encExpr_eq, exprs]) | (refine cond_splitM _ ?_ ?_ <;> intro hc <;> simp [*, F84, encExpr_eq, exprs]) | (refine guard_splitM _ ?_ ?_ <;> intro hc <;> simp [*, F84, encExpr_eq, exprs]) | (refine cond_split _ ?_ ?_ <;> intro hc <;> simp [*, F84, encExpr_eq, exprs]) | (refine guard_split _ ?_ ?_ <;> intro hc <;> simp [*, F84, encExpr_eq, exprs])))
  have hc := containsFuncExpr l (fun x => !exprR x 100) 84 [] [] st (by omega) (by simp) hcl
  have : (l.any fun x => !exprR x 100) = !argsR l := by
    unfold argsR; rw [List.not_all_eq_any_not]
  rw [this] at hc
  exact hc

set_option maxHeartbeats 16000000 in
theorem tstmt_of (s : Stmt) (m : Int) (hm : m ≤ 1000000) (hw : wtS s < 1099509000000)
    (h1 : ∀ m', m' ≤ 1000000 → pcall E 63 [stmts s.thn, .int .i64 m'] [] = some (.ret (.bool (stmtsR s.thn m')), []))
    (h2 : ∀ m', m' ≤ 1000000 → pcall E 63 [stmts s.els, .int .i64 m'] [] = some (.ret (.bool (stmtsR s.els m')), [])) :
    pcall E 74 [encStmt s, .int .i64 m] [] = some (.ret (.bool (stmtR s m)), []) := by
  refine pcall_wp rfl rfl rfl (by simp [encStmt_eq]) ?_
  have hs := shapes_spec []
  have hf := shapes_find s.kind
  have ht := tisType_spec s.type
  have hn := name_spec s.name
  have ha := argsR_all s.args [.mp shapesL] (by rw [wtS_eq] at hw; omega)
  rw [wtS_eq] at hw
  have hla := len_wtEs s.args
  have hlt := len_wtSs s.thn
  have hle := len_wtSs s.els
  rw [stmtR_eq]
  unfold headR
  have hk : (1 ≤ s.kind ∧ s.kind ≤ 10) ∨ (shapeR s.kind).2.2.1 = -1 := by
    by_cases h : 1 ≤ s.kind ∧ s.kind ≤ 10
    · exact Or.inl h
    · right
      unfold shapeR
      repeat' (first | rw [if_neg (by omega)] | rfl)
  by_cases hin : 1 ≤ s.kind ∧ s.kind ≤ 10
  case neg =>
    rw [if_neg hin] at hf
    have hneg : (shapeR s.kind).2.2.1 = -1 := by rcases hk with h | h; exact absurd h hin; exact h
    have hne : ¬ (s.args.length : Int) = -1 := by omega
    have hR : (decide (¬ (s.args.length : Int) = (shapeR s.kind).2.2.1)) = true := by rw [hneg]; simp [hne]
    rw [hR]
    clear hk h1 h2 hR hneg hne hla hlt hle hw ht hn ha hin
    simp [*, F74, encStmt_eq, exprs, stmts]
  rw [if_pos hin] at hf
  have hd : (s.kind = 10) → ∃ e r, s.args = e :: r ∨ ¬ (s.args.length : Int) = (shapeR s.kind).2.2.1 := by
    intro hk
    rcases he : s.args with _ | ⟨e, r⟩
    · refine ⟨⟨0, 0, 0, [], []⟩, [], Or.inr ?_⟩
      rw [hk]; simp [shapeR]
    · exact ⟨e, r, Or.inl rfl⟩
  clear hk hin
  generalize shapeR s.kind = q at *
  obtain ⟨t, nm, n, th, ot⟩ := q
  simp only at hf ⊢
  have h1' := h1 (m - 1) (by omega)
  have h2' := h2 (m - 1) (by omega)
  clear h1 h2
  by_cases hm1 : m < 1
  · replace hm1 := eqp hm1
    clear h1' h2' ht hn ha hd hla hlt hle hw
    simp [*, F74, encStmt_eq, exprs, stmts, shapeV]
  have hwm : wrapK .i64 (m - 1) = m - 1 := wrapK_small (by omega) (by omega)
  replace hm1 := eqn hm1
  by_cases hlen : (s.args.length : Int) = n
  case neg =>
    replace hlen := eqn hlen
    clear h1' h2' ht hn ha hd hla hlt hle hw
    simp [*, F74, encStmt_eq, exprs, stmts, shapeV]
  replace hd : (s.kind = 10) → ∃ e r, s.args = e :: r := by
    intro hk
    obtain ⟨e, r, h | h⟩ := hd hk
    · exact ⟨e, r, h⟩
    · exact absurd hlen h
  replace hlen := eqp hlen
  have g1 : (0 < s.thn.length) = ¬ (s.thn = []) := by
    rcases s.thn with _ | ⟨x, r⟩ <;> simp
  have g2 : (0 < s.els.length) = ¬ (s.els = []) := by
    rcases s.els with _ | ⟨x, r⟩ <;> simp
  have i1 : s.thn.isEmpty = decide (s.thn = []) := by
    rcases s.thn with _ | ⟨x, r⟩ <;> rfl
  have i2 : s.els.isEmpty = decide (s.els = []) := by
    rcases s.els with _ | ⟨x, r⟩ <;> rfl
  clear hla hlt hle hw
  have ht0 : (s.type = 0) = True → (decide (s.type = 1) || decide (s.type = 2)) = false := by intro h; rw [of_eq_true h]; decide
  generalize (decide (s.type = 1) || decide (s.type = 2)) = tt at *
  have hn0 : (s.name = []) = True → nameM s.name = false := by intro h; rw [of_eq_true h]; decide
  by_cases hk : s.kind = 10
  · obtain ⟨e, r, hel⟩ := hd hk
    have hD : doR s.kind s.args = decide (e.kind = 7) := by rw [hel]; unfold doR; simp [hk]
    have hget : s.args[0]? = some e := by rw [hel]; rfl
    clear hd hel
    replace hk := eqp hk
    rw [hD]
    clear hD
    simp [exprs, stmts] at ha h1' h2'
    (simp [*, F74, encStmt_eq, exprs, stmts, shapeV, encExpr_eq]) <;> (repeat' (first | (refine cond_splitP _ ?_ ?_ <;> intro hc <;> (first | replace hc := eqn hc | replace hc := eqp hc) <;> simp [*, F74, encStmt_eq, exprs, stmts, shapeV, encExpr_eq]) | (refine guard_splitP _ ?_ ?_ <;> intro hc <;> (first | replace hc := eqn hc | replace hc := eqp hc) <;> simp [*, F74, encStmt_eq, exprs, stmts, shapeV, encExpr_eq]) | (refine cond_splitN _ ?_ ?_ <;> intro hc <;> (first | replace hc := eqn hc | replace hc := eqp hc) <;> simp [*, F74, encStmt_eq, exprs, stmts, shapeV, encExpr_eq]) | (refine guard_splitN _ ?_ ?_ <;> intro hc <;> (first | replace hc := eqn hc | replace hc := eqp hc) <;> simp [*, F74, encStmt_eq, exprs, stmts, shapeV, encExpr_eq]) | (refine cond_splitM _ ?_ ?_ <;> intro hc <;> skip <;> simp [*, F74, encStmt_eq, exprs, stmts, shapeV, encExpr_eq]) | (refine guard_splitM _ ?_ ?_ <;> intro hc <;> skip <;> simp [*, F74, encStmt_eq, exprs, stmts, shapeV, encExpr_eq]) | (refine cond_split _ ?_ ?_ <;> intro hc <;> skip <;> simp [*, F74, encStmt_eq, exprs, stmts, shapeV, encExpr_eq]) | (refine guard_split _ ?_ ?_ <;> intro hc <;> skip <;> simp [*, F74, encStmt_eq, exprs, stmts, shapeV, encExpr_eq])))
    all_goals (intros; first | exact hn0 (by assumption) | exact ht0 (by assumption) | exact ⟨ht0 (by assumption), hn0 (by assumption)⟩)
  · clear hd
    replace hk := eqn hk
    have hD : doR s.kind s.args = true := by unfold doR; simp [hk]
    simp [exprs, stmts] at ha h1' h2'
    (simp [*, F74, encStmt_eq, exprs, stmts, shapeV]) <;> (repeat' (first | (refine cond_splitP _ ?_ ?_ <;> intro hc <;> (first | replace hc := eqn hc | replace hc := eqp hc) <;> simp [*, F74, encStmt_eq, exprs, stmts, shapeV]) | (refine guard_splitP _ ?_ ?_ <;> intro hc <;> (first | replace hc := eqn hc | replace hc := eqp hc) <;> simp [*, F74, encStmt_eq, exprs, stmts, shapeV]) | (refine cond_splitN _ ?_ ?_ <;> intro hc <;> (first | replace hc := eqn hc | replace hc := eqp hc) <;> simp [*, F74, encStmt_eq, exprs, stmts, shapeV]) | (refine guard_splitN _ ?_ ?_ <;> intro hc <;> (first | replace hc := eqn hc | replace hc := eqp hc) <;> simp [*, F74, encStmt_eq, exprs, stmts, shapeV]) | (refine cond_splitM _ ?_ ?_ <;> intro hc <;> skip <;> simp [*, F74, encStmt_eq, exprs, stmts, shapeV]) | (refine guard_splitM _ ?_ ?_ <;> intro hc <;> skip <;> simp [*, F74, encStmt_eq, exprs, stmts, shapeV]) | (refine cond_split _ ?_ ?_ <;> intro hc <;> skip <;> simp [*, F74, encStmt_eq, exprs, stmts, shapeV]) | (refine guard_split _ ?_ ?_ <;> intro hc <;> skip <;> simp [*, F74, encStmt_eq, exprs, stmts, shapeV])))
    all_goals (intros; first | exact hn0 (by assumption) | exact ht0 (by assumption) | exact ⟨ht0 (by assumption), hn0 (by assumption)⟩)
end PE.U

/-
  What may be, as the program has it: programs.
-/
namespace PE.U
open Go PE

theorem tstmts_spec' : ∀ w (l : List Stmt) (m : Int), wtSs l ≤ w → w < 1099508500000 → m ≤ 1000000 → pcall E 63 [stmts l, .int .i64 m] [] = some (.ret (.bool (stmtsR l m)), [])
  | 0, l, m, h, hw, hm => by
    have hl : l = [] := by
      have := len_wtSs l
      exact List.eq_nil_of_length_eq_zero (by omega)
    subst hl
    refine pcall_wp rfl rfl rfl (by simp [stmts]) ?_
    have hc := containsFuncStmt [] (fun _ => true) 73 [] [.iptr [.int .i64 m] 0] [] (by simp) (by simp) (by simp)
    simp at hc
    simp [*, F63, stmts, stmtsR]
  | w + 1, l, m, h, hw, hm => by
    have hlen := len_wtSs l
    refine pcall_wp rfl rfl rfl (by simp [stmts]) ?_
    have hcl : ∀ x ∈ l, pcall E 73 ([] ++ [encStmt x] ++ [.iptr [.int .i64 m] 0]) [] = some (.ret (.bool (!stmtR x m)), []) := by
      intro x hx
      have hwx := wtS_mem hx
      have hwe := wtS_eq x
      have ih := tstmt_of x m hm (by omega) (fun m' hm' => tstmts_spec' w x.thn m' (by omega) (by omega) hm') (fun m' hm' => tstmts_spec' w x.els m' (by omega) (by omega) hm')
      rw [encStmt_eq] at ih
      clear hwe hwx hx h hlen
      refine pcall_wp rfl rfl rfl (by simp [encStmt_eq]) ?_
      simp [exprs, stmts] at ih
      (simp [*, F73, encStmt_eq, exprs, stmts]) <;> (repeat' (first | (refine cond_splitP _ ?_ ?_ <;> intro hc <;> simp [*, F73, encStmt_eq, exprs, stmts]) | (refine guard_splitP _ ?_ ?_ <;> intro hc <;> simp [*, F73, encStmt_eq, exprs, stmts]) | (refine cond_splitN _ ?_ ?_ <;> intro hc <;> simp [*, F73, encStmt_eq, exprs, stmts]) | (refine guard_splitN _ ?_ ?_ <;> intro hc <;> simp [*, F73, encStmt_eq, exprs, stmts]) | (refine cond_splitM _ ?_ ?_ <;> intro hc <;> simp [*, F73, encStmt_eq, exprs, stmts]) | (refine guard_splitM _ ?_ ?_ <;> intro hc <;> simp [*, F73, encStmt_eq, exprs, stmts]) | (refine cond_split _ ?_ ?_ <;> intro hc <;> simp [*, F73, encStmt_eq, exprs, stmts]) | (refine guard_split _ ?_ ?_ <;> intro hc <;> simp [*, F73, encStmt_eq, exprs, stmts])))
    have hc := containsFuncStmt l (fun x => !stmtR x m) 73 [] [.iptr [.int .i64 m] 0] [] (by omega) (by simp) hcl
    have hR : (l.any fun x => !stmtR x m) = !stmtsR l m := by
      clear hcl hc h hlen
      induction l with
      | nil => rfl
      | cons x r ih => simp [stmtsR, ih]
    rw [hR] at hc
    clear hcl hR
    simp [*, F63, stmts]
theorem tstmts_spec (l : List Stmt) (m : Int) (h : wtSs l < 1099508000000) (hm : m ≤ 1000000) : pcall E 63 [stmts l, .int .i64 m] [] = some (.ret (.bool (stmtsR l m)), []) := tstmts_spec' (wtSs l) l m (Nat.le_refl _) (by omega) hm

theorem tparam_spec (p : Par) (σ : Store) : pcall E 60 [encPar p] σ = some (.ret (.bool (!parR p)), σ) := by
  refine pcall_wp rfl rfl rfl (by simp [encPar]) ?_
  have hn := name_spec p.name
  have ht := tisType_spec p.type
  unfold parR
  generalize (decide (p.type = 1) || decide (p.type = 2)) = tt at *
  (simp [*, F60, encPar]) <;> (repeat' (first | (refine cond_splitP _ ?_ ?_ <;> intro hc <;> simp [*, F60, encPar]) | (refine guard_splitP _ ?_ ?_ <;> intro hc <;> simp [*, F60, encPar]) | (refine cond_splitN _ ?_ ?_ <;> intro hc <;> simp [*, F60, encPar]) | (refine guard_splitN _ ?_ ?_ <;> intro hc <;> simp [*, F60, encPar]) | (refine cond_splitM _ ?_ ?_ <;> intro hc <;> simp [*, F60, encPar]) | (refine guard_splitM _ ?_ ?_ <;> intro hc <;> simp [*, F60, encPar]) | (refine cond_split _ ?_ ?_ <;> intro hc <;> simp [*, F60, encPar]) | (refine guard_split _ ?_ ?_ <;> intro hc <;> simp [*, F60, encPar])))
theorem tarr_spec (a : PArr) (σ : Store) : pcall E 43 [encPArr a] σ = some (.ret (.bool (!arrR a)), σ) := by
  refine pcall_wp rfl rfl rfl (by simp [encPArr]) ?_
  have hn := name_spec a.name
  unfold arrR
  (simp [*, F43, encPArr]) <;> (repeat' (first | (refine cond_splitP _ ?_ ?_ <;> intro hc <;> simp [*, F43, encPArr]) | (refine guard_splitP _ ?_ ?_ <;> intro hc <;> simp [*, F43, encPArr]) | (refine cond_splitN _ ?_ ?_ <;> intro hc <;> simp [*, F43, encPArr]) | (refine guard_splitN _ ?_ ?_ <;> intro hc <;> simp [*, F43, encPArr]) | (refine cond_splitM _ ?_ ?_ <;> intro hc <;> simp [*, F43, encPArr]) | (refine guard_splitM _ ?_ ?_ <;> intro hc <;> simp [*, F43, encPArr]) | (refine cond_split _ ?_ ?_ <;> intro hc <;> simp [*, F43, encPArr]) | (refine guard_split _ ?_ ?_ <;> intro hc <;> simp [*, F43, encPArr])))
  all_goals (try grind)

theorem tfunc_spec (f : Func) (h : wtSs f.body < 1099508000000 ∧ f.params.length < 1099509000000) : pcall E 48 [encFunc f] [] = some (.ret (.bool (funcR f)), []) := by
  refine pcall_wp rfl rfl rfl (by simp [encFunc]) ?_
  have hn := name_spec f.name
  have ht := tisType_spec f.type
  have hc := containsFuncPar f.params (fun p => !parR p) 60 [] [] [] (by omega) (by simp) (fun x _ => by simpa using tparam_spec x [])
  have hs := tstmts_spec f.body 100 h.1 (by omega)
  have hp : (f.params.any fun p => !parR p) = !f.params.all parR := by rw [List.not_all_eq_any_not]
  rw [hp] at hc
  unfold funcR
  have h8 : decide (f.params.length ≤ 8) = decide ((f.params.length : Int) ≤ 8) := by rw [decide_eq_decide]; omega
  rw [h8]
  generalize (decide (f.type = 1) || decide (f.type = 2)) = tt at *
  generalize f.params.all parR = pp at *
  clear h hp h8
  simp [stmts] at hs hc
  (simp [*, F48, encFunc, parsV, stmts]) <;> (repeat' (first | (refine cond_splitP _ ?_ ?_ <;> intro hc <;> (first | replace hc := eqn hc | replace hc := eqp hc) <;> simp [*, F48, encFunc, parsV, stmts]) | (refine guard_splitP _ ?_ ?_ <;> intro hc <;> (first | replace hc := eqn hc | replace hc := eqp hc) <;> simp [*, F48, encFunc, parsV, stmts]) | (refine cond_splitN _ ?_ ?_ <;> intro hc <;> (first | replace hc := eqn hc | replace hc := eqp hc) <;> simp [*, F48, encFunc, parsV, stmts]) | (refine guard_splitN _ ?_ ?_ <;> intro hc <;> (first | replace hc := eqn hc | replace hc := eqp hc) <;> simp [*, F48, encFunc, parsV, stmts]) | (refine cond_splitM _ ?_ ?_ <;> intro hc <;> skip <;> simp [*, F48, encFunc, parsV, stmts]) | (refine guard_splitM _ ?_ ?_ <;> intro hc <;> skip <;> simp [*, F48, encFunc, parsV, stmts]) | (refine cond_split _ ?_ ?_ <;> intro hc <;> skip <;> simp [*, F48, encFunc, parsV, stmts]) | (refine guard_split _ ?_ ?_ <;> intro hc <;> skip <;> simp [*, F48, encFunc, parsV, stmts])))

theorem tright_spec (p : Prog) (hz : PSz p) : pcall E 16 [encProg p] [] = some (.ret (.bool (rightR p)), []) := by
  obtain ⟨z1, z2, z3⟩ := hz
  refine pcall_wp rfl rfl rfl (by simp [encProg]) ?_
  have ha := containsFuncPArr p.arrays (fun a => !arrR a) 43 [] [] [] (by omega) (by simp) (fun x _ => by simpa using tarr_spec x [])
  have hcl : ∀ x ∈ p.funcs, pcall E 47 ([] ++ [encFunc x] ++ []) [] = some (.ret (.bool (!funcR x)), []) := by
    intro x hx
    have := tfunc_spec x (z3 x hx)
    refine pcall_wp rfl rfl rfl (by simp [encFunc]) ?_
    simp [encFunc, parsV, stmts] at this
    clear ha
    (simp [*, F47, encFunc, parsV, stmts]) <;> (repeat' (first | (refine cond_splitP _ ?_ ?_ <;> intro hc <;> simp [*, F47, encFunc, parsV, stmts]) | (refine guard_splitP _ ?_ ?_ <;> intro hc <;> simp [*, F47, encFunc, parsV, stmts]) | (refine cond_splitN _ ?_ ?_ <;> intro hc <;> simp [*, F47, encFunc, parsV, stmts]) | (refine guard_splitN _ ?_ ?_ <;> intro hc <;> simp [*, F47, encFunc, parsV, stmts]) | (refine cond_splitM _ ?_ ?_ <;> intro hc <;> simp [*, F47, encFunc, parsV, stmts]) | (refine guard_splitM _ ?_ ?_ <;> intro hc <;> simp [*, F47, encFunc, parsV, stmts]) | (refine cond_split _ ?_ ?_ <;> intro hc <;> simp [*, F47, encFunc, parsV, stmts]) | (refine guard_split _ ?_ ?_ <;> intro hc <;> simp [*, F47, encFunc, parsV, stmts])))
  have hf := containsFuncFunc p.funcs (fun x => !funcR x) 47 [] [] [] (by omega) (by simp) hcl
  have e1 : (p.arrays.any fun p => !arrR p) = !p.arrays.all arrR := by rw [List.not_all_eq_any_not]
  have e2 : (p.funcs.any fun p => !funcR p) = !p.funcs.all funcR := by rw [List.not_all_eq_any_not]
  rw [e1] at ha
  rw [e2] at hf
  unfold rightR
  generalize p.arrays.all arrR = x at *
  generalize p.funcs.all funcR = y at *
  clear e1 e2 hcl z1 z2 z3
  (simp [*, F16, encProg, parrs, funcs]) <;> (repeat' (first | (refine cond_splitP _ ?_ ?_ <;> intro hc <;> simp [*, F16, encProg, parrs, funcs]) | (refine guard_splitP _ ?_ ?_ <;> intro hc <;> simp [*, F16, encProg, parrs, funcs]) | (refine cond_splitN _ ?_ ?_ <;> intro hc <;> simp [*, F16, encProg, parrs, funcs]) | (refine guard_splitN _ ?_ ?_ <;> intro hc <;> simp [*, F16, encProg, parrs, funcs]) | (refine cond_splitM _ ?_ ?_ <;> intro hc <;> simp [*, F16, encProg, parrs, funcs]) | (refine guard_splitM _ ?_ ?_ <;> intro hc <;> simp [*, F16, encProg, parrs, funcs]) | (refine cond_split _ ?_ ?_ <;> intro hc <;> simp [*, F16, encProg, parrs, funcs]) | (refine guard_split _ ?_ ?_ <;> intro hc <;> simp [*, F16, encProg, parrs, funcs])))
end PE.U

/-
  Types: variables, places, operators.
-/
namespace PE.U
open Go PE

structure Vr where
  name : List UInt8
  type : Int
  depth : Int
def encVs : List Vr → PV
  | [] => .nilp
  | v :: r => .iptr [.str v.name, .int .i64 v.type, encVs r, .int .i64 v.depth] 0
@[simp] theorem encVs_nil : encVs [] = .nilp := Eq.trans rfl rfl
theorem encVs_cons (v : Vr) (r : List Vr) : encVs (v :: r) = .iptr [.str v.name, .int .i64 v.type, encVs r, .int .i64 v.depth] 0 := Eq.trans rfl rfl
section
variable (l : List Vr)
@[simp high] theorem isCell_vs : isCell (encVs l) = true := by cases l <;> rfl
@[simp high] theorem isVar_vs : isVar (encVs l) = true := by cases l <;> rfl
@[simp high] theorem canon1_vs : canon1 (encVs l) = encVs l := by cases l <;> rfl
@[simp high] theorem strip_vs : strip (encVs l) = encVs l := by cases l <;> rfl
@[simp high] theorem stripA_vs : stripA (encVs l) = encVs l := by cases l <;> rfl
@[simp high] theorem isOwn_vs : isOwn (encVs l) = none := by cases l <;> rfl
@[simp high] theorem cellsOf_vs : cellsOf (encVs l) = [encVs l] := by cases l <;> rfl
@[simp high] theorem avoids_vs (dead : List Nat) : avoids dead (encVs l) = true := by cases l <;> rfl
@[simp high] theorem fr1_vs (n : Nat) (st : Store) : freeze1 n st (encVs l) = encVs l := by cases l <;> rfl
@[simp high] theorem frA_vs (n : Nat) (st : Store) : freezeA n st (encVs l) = encVs l := by cases l <;> rfl
@[simp high] theorem below_vs (n : Nat) : belowV n (encVs l) = true := by
  induction l with
  | nil => rfl
  | cons v r ih => rw [encVs_cons]; simp [ih]
@[simp] theorem vs_eq_nil (ks : List Nat) : binSem 3 ks .eql (encVs l) .nilp = some (.bool (decide (l = []))) := by cases l <;> simp [encVs_cons]
@[simp] theorem vs_ne_nil (ks : List Nat) : binSem 3 ks .neq (encVs l) .nilp = some (.bool (!decide (l = []))) := by cases l <;> simp [encVs_cons]
end

def findV (s : List Vr) (nm : List UInt8) : List Vr := s.dropWhile fun v => decide (¬ v.name = nm)
theorem findV_cons (v : Vr) (r : List Vr) (nm : List UInt8) : findV (v :: r) nm = if v.name = nm then v :: r else findV r nm := by
  unfold findV
  by_cases h : v.name = nm <;> simp [h]

theorem find_spec (s : List Vr) (nm : List UInt8) (σ : Store) : pcall E 78 [encVs s, .str nm] σ = some (.ret (encVs (findV s nm)), σ) := by
  refine pcall_wp rfl rfl rfl (by simp) ?_
  simp [F78]
  refine wp_while K78_0 B78_0 (fun c : List Vr => c.length) (fun c => [(0, encVs c)]) (fun c => []) (fun c => σ) (fun c => findV c nm = findV s nm) s (by simp) ?_
  rintro c s1 hc h1 h2 h3 h4 h5
  simp at h1 h3 h5
  clear h2 h4
  cases c with
  | nil =>
    rw [← hc]
    simp at h3
    clear hc
    simp [*, findV]
  | cons v r =>
    rw [encVs_cons] at h3
    rw [findV_cons] at hc
    by_cases hn : v.name = nm
    · rw [if_pos hn] at hc
      rw [← hc, encVs_cons]
      replace hn := eqp hn
      clear hc
      (simp [*]) <;> (repeat' (first | (refine cond_splitP _ ?_ ?_ <;> intro hc <;> (first | replace hc := eqn hc | replace hc := eqp hc) <;> simp [*]) | (refine guard_splitP _ ?_ ?_ <;> intro hc <;> (first | replace hc := eqn hc | replace hc := eqp hc) <;> simp [*]) | (refine cond_splitN _ ?_ ?_ <;> intro hc <;> (first | replace hc := eqn hc | replace hc := eqp hc) <;> simp [*]) | (refine guard_splitN _ ?_ ?_ <;> intro hc <;> (first | replace hc := eqn hc | replace hc := eqp hc) <;> simp [*]) | (refine cond_splitM _ ?_ ?_ <;> intro hc <;> skip <;> simp [*]) | (refine guard_splitM _ ?_ ?_ <;> intro hc <;> skip <;> simp [*]) | (refine cond_split _ ?_ ?_ <;> intro hc <;> skip <;> simp [*]) | (refine guard_split _ ?_ ?_ <;> intro hc <;> skip <;> simp [*])))
    · rw [if_neg hn] at hc
      replace hn := eqn hn
      simp [*]
      exact ⟨r, by simp, rfl, hc⟩

theorem with_spec (s : List Vr) (p : Par) (d : Int) (σ : Store) : pcall E 50 [encVs s, encPar p, .int .i64 d] σ = some (.ret (encVs (⟨p.name, p.type, d⟩ :: s)), σ) := by
  refine pcall_wp rfl rfl rfl (by simp [encPar]) ?_
  simp [F50, encPar, encVs_cons]

def scopedV (l : List Par) : List Vr := l.foldl (fun s p => ⟨p.name, p.type, 0⟩ :: s) []
theorem scopedV_snoc (l : List Par) (p : Par) : scopedV (l ++ [p]) = ⟨p.name, p.type, 0⟩ :: scopedV l := by simp [scopedV]

theorem scoped_spec (l : List Par) (σ : Store) (hl : l.length < 1099511627776) : pcall E 20 [parsV l] σ = some (.ret (encVs (scopedV l)), σ) := by
  refine pcall_wp rfl rfl rfl (by simp [parsV]) ?_
  simp [F20, parsV]
  refine wp_each l K20_0 B20_0 (fun d => [(2, encVs (scopedV d)), (7, .int .i64 d.length)]) (fun _ => σ) (fun d => True) (by omega) (by simp [scopedV]) ?_ ?_
  · intros d x r s1 hl' hlt hget hget' hw hp h1 h2 h3 h4
    simp at h1 h2 h3
    have hwi := with_spec (scopedV d) x 0 σ
    simp [encPar] at hwi
    simp [*, encPar, scopedV_snoc]
  · intros s1 hp h1 h2 h3 h4
    simp at h1 h2 h3
    simp [*]

theorem fine_spec (ok : Bool) (e : Int) (σ : Store) : pcall E 66 [.bool ok, .int .i64 e] σ = some (.ret (.int .i64 (if ok then 0 else e)), σ) := by
  refine pcall_wp rfl rfl rfl (by simp) ?_
  (simp [*, F66]) <;> (repeat' (first | (refine cond_splitP _ ?_ ?_ <;> intro hc <;> simp [*, F66]) | (refine guard_splitP _ ?_ ?_ <;> intro hc <;> simp [*, F66]) | (refine cond_splitN _ ?_ ?_ <;> intro hc <;> simp [*, F66]) | (refine guard_splitN _ ?_ ?_ <;> intro hc <;> simp [*, F66]) | (refine cond_splitM _ ?_ ?_ <;> intro hc <;> simp [*, F66]) | (refine guard_splitM _ ?_ ?_ <;> intro hc <;> simp [*, F66]) | (refine cond_split _ ?_ ?_ <;> intro hc <;> simp [*, F66]) | (refine guard_split _ ?_ ?_ <;> intro hc <;> simp [*, F66])))

def takesT (op t : Int) : Int × Bool :=
  if op = 18 ∨ op = 19 ∨ op = 22 then (2, decide (t = 2))
  else if op = 16 ∨ op = 17 then (2, true)
  else if op = 12 ∨ op = 13 ∨ op = 14 ∨ op = 15 then (2, decide (t = 1))
  else (1, decide (t = 1))
set_option maxHeartbeats 1000000 in
theorem takes_spec (op t : Int) (σ : Store) : pcall E 86 [.int .i64 op, .int .i64 t] σ = some (.ret (.tup [.int .i64 (takesT op t).1, .bool (takesT op t).2]), σ) := by
  refine pcall_wp rfl rfl rfl (by simp) ?_
  unfold takesT
  (simp [*, F86]) <;> (repeat' (first | (refine cond_splitP _ ?_ ?_ <;> intro hc <;> (first | replace hc := eqn hc | replace hc := eqp hc) <;> simp [*, F86]) | (refine guard_splitP _ ?_ ?_ <;> intro hc <;> (first | replace hc := eqn hc | replace hc := eqp hc) <;> simp [*, F86]) | (refine cond_splitN _ ?_ ?_ <;> intro hc <;> (first | replace hc := eqn hc | replace hc := eqp hc) <;> simp [*, F86]) | (refine guard_splitN _ ?_ ?_ <;> intro hc <;> (first | replace hc := eqn hc | replace hc := eqp hc) <;> simp [*, F86]) | (refine cond_splitM _ ?_ ?_ <;> intro hc <;> skip <;> simp [*, F86]) | (refine guard_splitM _ ?_ ?_ <;> intro hc <;> skip <;> simp [*, F86]) | (refine cond_split _ ?_ ?_ <;> intro hc <;> skip <;> simp [*, F86]) | (refine guard_split _ ?_ ?_ <;> intro hc <;> skip <;> simp [*, F86])))

/-! ### Places -/

theorem idx_cases {α : Type} (p : α → Bool) (l : List α) : (idx p l = -1 ∧ l.find? p = none) ∨ ∃ (n : Nat) (f : α), idx p l = n ∧ l[n]? = some f ∧ l.find? p = some f ∧ n < l.length ∧ p f = true := by
  induction l with
  | nil => left; exact ⟨rfl, rfl⟩
  | cons x r ih =>
    cases hx : p x
    · rcases ih with ⟨h1, h2⟩ | ⟨n, f, h1, h2, h3, h4, h5⟩
      · left
        refine ⟨?_, by simp [hx, h2]⟩
        refine idx_none fun y hy => ?_
        rcases List.mem_cons.1 hy with rfl | hy
        · exact hx
        · have := List.find?_eq_none.1 h2 y hy; simpa using this
      · right
        refine ⟨n + 1, f, ?_, by simpa using h2, by simp [hx, h3], by simp; omega, h5⟩
        have : (x :: r).findIdx? p = (r.findIdx? p).map (· + 1) := by simp [List.findIdx?_cons, hx]
        unfold idx at h1 ⊢
        rw [this]
        cases h : r.findIdx? p with
        | none => rw [h] at h1; simp at h1 <;> omega
        | some i => rw [h] at h1; simp at h1 ⊢ <;> omega
    · right
      refine ⟨0, x, ?_, rfl, by simp [hx], by simp, hx⟩
      unfold idx
      simp [List.findIdx?_cons, hx]

def placeM (p : Prog) (nm : List UInt8) : Int := idx (fun f : Func => decide (f.name = nm)) p.funcs
def arrayM (p : Prog) (nm : List UInt8) : Int := idx (fun f : PArr => decide (f.name = nm)) p.arrays
theorem place_spec (p : Prog) (nm : List UInt8) (σ : Store) (hl : p.funcs.length < 1099511627776) : pcall E 10 [encProg p, .str nm] σ = some (.ret (.int .i64 (placeM p nm)), σ) := by
  refine pcall_wp rfl rfl rfl (by simp [encProg]) ?_
  have hcl : ∀ x ∈ p.funcs, pcall E 25 ([] ++ [encFunc x] ++ [.iptr [.str nm] 0]) σ = some (.ret (.bool (decide (x.name = nm))), σ) := by
    intro x hx
    refine pcall_wp rfl rfl rfl (by simp [encFunc]) ?_
    simp [F25, encFunc]
  have h := indexFuncFunc p.funcs _ 25 [] [.iptr [.str nm] 0] σ hl hcl
  clear hcl
  simp [*, F10, encProg, parrs, funcs, placeM]
theorem array_spec (p : Prog) (nm : List UInt8) (σ : Store) (hl : p.arrays.length < 1099511627776) : pcall E 11 [encProg p, .str nm] σ = some (.ret (.int .i64 (arrayM p nm)), σ) := by
  refine pcall_wp rfl rfl rfl (by simp [encProg]) ?_
  have hcl : ∀ x ∈ p.arrays, pcall E 27 ([] ++ [encPArr x] ++ [.iptr [.str nm] 0]) σ = some (.ret (.bool (decide (x.name = nm))), σ) := by
    intro x hx
    refine pcall_wp rfl rfl rfl (by simp [encPArr]) ?_
    simp [F27, encPArr]
  have h := indexFuncPArr p.arrays _ 27 [] [.iptr [.str nm] 0] σ hl hcl
  clear hcl
  simp [*, F11, encProg, parrs, funcs, arrayM]
end PE.U

/-
  Types of expressions.
-/
namespace PE.U
open Go PE

def funcAt (p : Prog) (nm : List UInt8) : Option Func := p.funcs.find? fun f : Func => decide (f.name = nm)
def hasArr (p : Prog) (nm : List UInt8) : Bool := p.arrays.any fun a : PArr => decide (a.name = nm)

def namedT (p : Prog) (s : List Vr) (k : Int) (nm : List UInt8) (a : Nat) : Int :=
  if k = 3 then (if findV s nm = [] then 50 else 0)
  else if k = 6 then (if hasArr p nm then 0 else 50)
  else if k = 7 then (match funcAt p nm with
    | none => 50
    | some f => if f.params.length = a then 0 else 51)
  else 0

/-- How much there is in a program, as the types' rules need it. -/
structure Fit (p : Prog) : Prop where
  a : p.arrays.length < 1099509000000
  f : p.funcs.length < 1099509000000
  p : ∀ f ∈ p.funcs, f.params.length < 1099509000000

theorem namedT_spec (p : Prog) (s : List Vr) (e : Expr) (σ : Store) (hz : Fit p) (hw : wtE e < 1099510000000) : pcall E 75 [encProg p, encVs s, encExpr e] σ = some (.ret (.int .i64 (namedT p s e.kind e.name e.args.length)), σ) := by
  have hla := len_wtEs e.args
  rw [wtE_eq] at hw
  refine pcall_wp rfl rfl rfl (by simp [encProg, encExpr_eq]) ?_
  unfold namedT
  by_cases k3 : e.kind = 3
  · replace k3 := eqp k3
    have h1 := find_spec s e.name σ
    have h2 := fine_spec (!decide (findV s e.name = [])) 50 []
    by_cases hn : findV s e.name = []
    · replace hn := eqp hn
      simp [hn] at h2
      (simp [*, F75, encProg, encExpr_eq]) <;> (repeat' (first | (refine cond_splitP _ ?_ ?_ <;> intro hc <;> (first | replace hc := eqn hc | replace hc := eqp hc) <;> simp [*, F75, encProg, encExpr_eq]) | (refine guard_splitP _ ?_ ?_ <;> intro hc <;> (first | replace hc := eqn hc | replace hc := eqp hc) <;> simp [*, F75, encProg, encExpr_eq]) | (refine cond_splitN _ ?_ ?_ <;> intro hc <;> (first | replace hc := eqn hc | replace hc := eqp hc) <;> simp [*, F75, encProg, encExpr_eq]) | (refine guard_splitN _ ?_ ?_ <;> intro hc <;> (first | replace hc := eqn hc | replace hc := eqp hc) <;> simp [*, F75, encProg, encExpr_eq]) | (refine cond_splitM _ ?_ ?_ <;> intro hc <;> skip <;> simp [*, F75, encProg, encExpr_eq]) | (refine guard_splitM _ ?_ ?_ <;> intro hc <;> skip <;> simp [*, F75, encProg, encExpr_eq]) | (refine cond_split _ ?_ ?_ <;> intro hc <;> skip <;> simp [*, F75, encProg, encExpr_eq]) | (refine guard_split _ ?_ ?_ <;> intro hc <;> skip <;> simp [*, F75, encProg, encExpr_eq])))
    · replace hn := eqn hn
      simp [hn] at h2
      (simp [*, F75, encProg, encExpr_eq]) <;> (repeat' (first | (refine cond_splitP _ ?_ ?_ <;> intro hc <;> (first | replace hc := eqn hc | replace hc := eqp hc) <;> simp [*, F75, encProg, encExpr_eq]) | (refine guard_splitP _ ?_ ?_ <;> intro hc <;> (first | replace hc := eqn hc | replace hc := eqp hc) <;> simp [*, F75, encProg, encExpr_eq]) | (refine cond_splitN _ ?_ ?_ <;> intro hc <;> (first | replace hc := eqn hc | replace hc := eqp hc) <;> simp [*, F75, encProg, encExpr_eq]) | (refine guard_splitN _ ?_ ?_ <;> intro hc <;> (first | replace hc := eqn hc | replace hc := eqp hc) <;> simp [*, F75, encProg, encExpr_eq]) | (refine cond_splitM _ ?_ ?_ <;> intro hc <;> skip <;> simp [*, F75, encProg, encExpr_eq]) | (refine guard_splitM _ ?_ ?_ <;> intro hc <;> skip <;> simp [*, F75, encProg, encExpr_eq]) | (refine cond_split _ ?_ ?_ <;> intro hc <;> skip <;> simp [*, F75, encProg, encExpr_eq]) | (refine guard_split _ ?_ ?_ <;> intro hc <;> skip <;> simp [*, F75, encProg, encExpr_eq])))
  replace k3 := eqn k3
  by_cases k6 : e.kind = 6
  · replace k6 := eqp k6
    have h1 := array_spec p e.name [] (by have := hz.a; omega)
    have h3 := idx_ge (fun f : PArr => decide (f.name = e.name)) p.arrays
    have h2 := fine_spec (hasArr p e.name) 50 []
    have h4 : decide (0 ≤ arrayM p e.name) = hasArr p e.name := h3
    simp [encProg] at h1
    generalize hasArr p e.name = b at *
    clear h3
    cases b
    · simp at h2 h4
      replace h4 : (0 ≤ arrayM p e.name) = False := by simpa using h4
      (simp [*, F75, encProg, encExpr_eq]) <;> (repeat' (first | (refine cond_splitP _ ?_ ?_ <;> intro hc <;> (first | replace hc := eqn hc | replace hc := eqp hc) <;> simp [*, F75, encProg, encExpr_eq]) | (refine guard_splitP _ ?_ ?_ <;> intro hc <;> (first | replace hc := eqn hc | replace hc := eqp hc) <;> simp [*, F75, encProg, encExpr_eq]) | (refine cond_splitN _ ?_ ?_ <;> intro hc <;> (first | replace hc := eqn hc | replace hc := eqp hc) <;> simp [*, F75, encProg, encExpr_eq]) | (refine guard_splitN _ ?_ ?_ <;> intro hc <;> (first | replace hc := eqn hc | replace hc := eqp hc) <;> simp [*, F75, encProg, encExpr_eq]) | (refine cond_splitM _ ?_ ?_ <;> intro hc <;> skip <;> simp [*, F75, encProg, encExpr_eq]) | (refine guard_splitM _ ?_ ?_ <;> intro hc <;> skip <;> simp [*, F75, encProg, encExpr_eq]) | (refine cond_split _ ?_ ?_ <;> intro hc <;> skip <;> simp [*, F75, encProg, encExpr_eq]) | (refine guard_split _ ?_ ?_ <;> intro hc <;> skip <;> simp [*, F75, encProg, encExpr_eq])))
    · simp at h2 h4
      replace h4 : (0 ≤ arrayM p e.name) = True := by simpa using h4
      (simp [*, F75, encProg, encExpr_eq]) <;> (repeat' (first | (refine cond_splitP _ ?_ ?_ <;> intro hc <;> (first | replace hc := eqn hc | replace hc := eqp hc) <;> simp [*, F75, encProg, encExpr_eq]) | (refine guard_splitP _ ?_ ?_ <;> intro hc <;> (first | replace hc := eqn hc | replace hc := eqp hc) <;> simp [*, F75, encProg, encExpr_eq]) | (refine cond_splitN _ ?_ ?_ <;> intro hc <;> (first | replace hc := eqn hc | replace hc := eqp hc) <;> simp [*, F75, encProg, encExpr_eq]) | (refine guard_splitN _ ?_ ?_ <;> intro hc <;> (first | replace hc := eqn hc | replace hc := eqp hc) <;> simp [*, F75, encProg, encExpr_eq]) | (refine cond_splitM _ ?_ ?_ <;> intro hc <;> skip <;> simp [*, F75, encProg, encExpr_eq]) | (refine guard_splitM _ ?_ ?_ <;> intro hc <;> skip <;> simp [*, F75, encProg, encExpr_eq]) | (refine cond_split _ ?_ ?_ <;> intro hc <;> skip <;> simp [*, F75, encProg, encExpr_eq]) | (refine guard_split _ ?_ ?_ <;> intro hc <;> skip <;> simp [*, F75, encProg, encExpr_eq])))
  replace k6 := eqn k6
  by_cases k7 : e.kind = 7
  · replace k7 := eqp k7
    have h1 := place_spec p e.name [] (by have := hz.f; omega)
    simp [encProg, funcs] at h1
    rcases idx_cases (fun f : Func => decide (f.name = e.name)) p.funcs with ⟨a1, a2⟩ | ⟨n, f, a1, a2, a3, a4, a5⟩
    · have a1 : placeM p e.name = -1 := a1
      have a2 : funcAt p e.name = none := a2
      rw [a1] at h1
      (simp [*, F75, encProg, encExpr_eq, funcs]) <;> (repeat' (first | (refine cond_splitP _ ?_ ?_ <;> intro hc <;> (first | replace hc := eqn hc | replace hc := eqp hc) <;> simp [*, F75, encProg, encExpr_eq, funcs]) | (refine guard_splitP _ ?_ ?_ <;> intro hc <;> (first | replace hc := eqn hc | replace hc := eqp hc) <;> simp [*, F75, encProg, encExpr_eq, funcs]) | (refine cond_splitN _ ?_ ?_ <;> intro hc <;> (first | replace hc := eqn hc | replace hc := eqp hc) <;> simp [*, F75, encProg, encExpr_eq, funcs]) | (refine guard_splitN _ ?_ ?_ <;> intro hc <;> (first | replace hc := eqn hc | replace hc := eqp hc) <;> simp [*, F75, encProg, encExpr_eq, funcs]) | (refine cond_splitM _ ?_ ?_ <;> intro hc <;> skip <;> simp [*, F75, encProg, encExpr_eq, funcs]) | (refine guard_splitM _ ?_ ?_ <;> intro hc <;> skip <;> simp [*, F75, encProg, encExpr_eq, funcs]) | (refine cond_split _ ?_ ?_ <;> intro hc <;> skip <;> simp [*, F75, encProg, encExpr_eq, funcs]) | (refine guard_split _ ?_ ?_ <;> intro hc <;> skip <;> simp [*, F75, encProg, encExpr_eq, funcs])))
    · have a1 : placeM p e.name = n := a1
      have a3 : funcAt p e.name = some f := a3
      rw [a1] at h1
      have hp := hz.p f (List.mem_of_getElem? a2)
      have hf := hz.f
      have n0 : ¬ ((n : Int) < 0) := by omega
      have hlen : decide ((f.params.length : Int) = e.args.length) = decide (f.params.length = e.args.length) := by rw [decide_eq_decide]; omega
      have h2 := fine_spec (decide (f.params.length = e.args.length)) 51 []
      by_cases hq : f.params.length = e.args.length
      · replace hq := eqp hq
        simp [hq] at h2 hlen
        replace hlen := eqp hlen
        clear a5 a4 a1
        (simp [*, F75, encProg, encExpr_eq, funcs, exprs, encFunc, parsV]) <;> (repeat' (first | (refine cond_splitP _ ?_ ?_ <;> intro hc <;> (first | replace hc := eqn hc | replace hc := eqp hc) <;> simp [*, F75, encProg, encExpr_eq, funcs, exprs, encFunc, parsV]) | (refine guard_splitP _ ?_ ?_ <;> intro hc <;> (first | replace hc := eqn hc | replace hc := eqp hc) <;> simp [*, F75, encProg, encExpr_eq, funcs, exprs, encFunc, parsV]) | (refine cond_splitN _ ?_ ?_ <;> intro hc <;> (first | replace hc := eqn hc | replace hc := eqp hc) <;> simp [*, F75, encProg, encExpr_eq, funcs, exprs, encFunc, parsV]) | (refine guard_splitN _ ?_ ?_ <;> intro hc <;> (first | replace hc := eqn hc | replace hc := eqp hc) <;> simp [*, F75, encProg, encExpr_eq, funcs, exprs, encFunc, parsV]) | (refine cond_splitM _ ?_ ?_ <;> intro hc <;> skip <;> simp [*, F75, encProg, encExpr_eq, funcs, exprs, encFunc, parsV]) | (refine guard_splitM _ ?_ ?_ <;> intro hc <;> skip <;> simp [*, F75, encProg, encExpr_eq, funcs, exprs, encFunc, parsV]) | (refine cond_split _ ?_ ?_ <;> intro hc <;> skip <;> simp [*, F75, encProg, encExpr_eq, funcs, exprs, encFunc, parsV]) | (refine guard_split _ ?_ ?_ <;> intro hc <;> skip <;> simp [*, F75, encProg, encExpr_eq, funcs, exprs, encFunc, parsV])))
      · replace hq := eqn hq
        simp [hq] at h2 hlen
        replace hlen : ((f.params.length : Int) = e.args.length) = False := by simpa using hlen
        clear a5 a4 a1
        (simp [*, F75, encProg, encExpr_eq, funcs, exprs, encFunc, parsV]) <;> (repeat' (first | (refine cond_splitP _ ?_ ?_ <;> intro hc <;> (first | replace hc := eqn hc | replace hc := eqp hc) <;> simp [*, F75, encProg, encExpr_eq, funcs, exprs, encFunc, parsV]) | (refine guard_splitP _ ?_ ?_ <;> intro hc <;> (first | replace hc := eqn hc | replace hc := eqp hc) <;> simp [*, F75, encProg, encExpr_eq, funcs, exprs, encFunc, parsV]) | (refine cond_splitN _ ?_ ?_ <;> intro hc <;> (first | replace hc := eqn hc | replace hc := eqp hc) <;> simp [*, F75, encProg, encExpr_eq, funcs, exprs, encFunc, parsV]) | (refine guard_splitN _ ?_ ?_ <;> intro hc <;> (first | replace hc := eqn hc | replace hc := eqp hc) <;> simp [*, F75, encProg, encExpr_eq, funcs, exprs, encFunc, parsV]) | (refine cond_splitM _ ?_ ?_ <;> intro hc <;> skip <;> simp [*, F75, encProg, encExpr_eq, funcs, exprs, encFunc, parsV]) | (refine guard_splitM _ ?_ ?_ <;> intro hc <;> skip <;> simp [*, F75, encProg, encExpr_eq, funcs, exprs, encFunc, parsV]) | (refine cond_split _ ?_ ?_ <;> intro hc <;> skip <;> simp [*, F75, encProg, encExpr_eq, funcs, exprs, encFunc, parsV]) | (refine guard_split _ ?_ ?_ <;> intro hc <;> skip <;> simp [*, F75, encProg, encExpr_eq, funcs, exprs, encFunc, parsV])))
  replace k7 := eqn k7
  (simp [*, F75, encProg, encExpr_eq]) <;> (repeat' (first | (refine cond_splitP _ ?_ ?_ <;> intro hc <;> (first | replace hc := eqn hc | replace hc := eqp hc) <;> simp [*, F75, encProg, encExpr_eq]) | (refine guard_splitP _ ?_ ?_ <;> intro hc <;> (first | replace hc := eqn hc | replace hc := eqp hc) <;> simp [*, F75, encProg, encExpr_eq]) | (refine cond_splitN _ ?_ ?_ <;> intro hc <;> (first | replace hc := eqn hc | replace hc := eqp hc) <;> simp [*, F75, encProg, encExpr_eq]) | (refine guard_splitN _ ?_ ?_ <;> intro hc <;> (first | replace hc := eqn hc | replace hc := eqp hc) <;> simp [*, F75, encProg, encExpr_eq]) | (refine cond_splitM _ ?_ ?_ <;> intro hc <;> skip <;> simp [*, F75, encProg, encExpr_eq]) | (refine guard_splitM _ ?_ ?_ <;> intro hc <;> skip <;> simp [*, F75, encProg, encExpr_eq]) | (refine cond_split _ ?_ ?_ <;> intro hc <;> skip <;> simp [*, F75, encProg, encExpr_eq]) | (refine guard_split _ ?_ ?_ <;> intro hc <;> skip <;> simp [*, F75, encProg, encExpr_eq])))

theorem param_eq_spec (t : Int) (p : Par) (σ : Store) : pcall E 88 [.int .i64 t, encPar p] σ = some (.ret (.bool (decide (t = p.type))), σ) := by
  refine pcall_wp rfl rfl rfl (by simp [encPar]) ?_
  simp [F88, encPar]

theorem types_eq {l : List Int} {ps : List Par} (h : l.length = ps.length) : decide (l = ps.map (·.type)) = (l.zip ps).all fun x => decide (x.1 = x.2.type) := by
  induction l generalizing ps with
  | nil => cases ps <;> simp at h ⊢
  | cons x r ih =>
    cases ps with
    | nil => simp at h
    | cons y q =>
      simp at h
      simp only [List.zip_cons_cons, List.all_cons, ← ih h, List.map_cons, List.cons.injEq, Bool.decide_and]

theorem equal_spec (l : List Int) (ps : List Par) (σ : Store) (hl : ps.length < 1099511000000) : pcall E 87 [.slice .plain 1 (l.map (PV.int .i64)), parsV ps, .fn 88 [] []] σ = some (.ret (.bool (decide (l = ps.map (·.type)))), σ) := by
  refine pcall_wp rfl rfl rfl (by simp [parsV]) ?_
  by_cases hlen : l.length = ps.length
  · have he := types_eq hlen
    rw [he]
    have hleni : ((l.length : Int) = ps.length) = True := eqp (by omega)
    simp [F87, parsV, hleni]
    clear he hleni
    refine wp_each (l.zip ps) K87_0 B87_0 (fun d => [(17, .int .i64 d.length)]) (fun _ => σ) (fun d => (d.all fun x => decide (x.1 = x.2.type)) = true) (by simp; omega) (by simp) ?_ ?_
    · intros d x r s1 hl' hlt hget hget' hw hp h1 h2 h3 h4
      simp at h1 h2 h3
      have hz : (l.zip ps)[d.length]? = some x := hget
      rw [List.getElem?_zip_eq_some] at hz
      obtain ⟨z1, z2⟩ := hz
      obtain ⟨x1, x2⟩ := x
      simp only at z1 z2
      have hc := param_eq_spec x1 x2 σ
      simp [encPar] at hc
      have hz2 : (l.zip ps).length = l.length := by simp [hlen]
      have hlt' : (d.length : Int) < ps.length := by rw [hz2] at hlt; omega
      clear hget' hlt hz2
      by_cases hx : x1 = x2.type
      · replace hp : ((d ++ [(x1, x2)]).all fun x => decide (x.1 = x.2.type)) = true := by rw [List.all_append, hp]; simp [hx]
        replace hx := eqp hx
        clear hl' hget
        simp [*, encPar]
        all_goals (try grind)
      · have hf : ((l.zip ps).all fun x => decide (x.1 = x.2.type)) = false := by rw [hl'.eq]; simp [hx]
        replace hx := eqn hx
        clear hl' hget hp
        simp [*, encPar]
        all_goals (try grind)
    · intros s1 hp h1 h2 h3 h4
      simp at h1 h2 h3
      have hz2 : (l.zip ps).length = l.length := by simp [hlen]
      simp [*]
      all_goals (try grind)
  · have hq : ¬ (l = ps.map (·.type)) := by intro h; apply hlen; rw [h]; simp
    have hleni : ((l.length : Int) = ps.length) = False := eqn (by omega)
    replace hq := eqn hq
    simp [*, F87, parsV]

def at0 (l : List Int) : Int := l[0]?.getD 0
def at1 (l : List Int) : Int := l[1]?.getD 0
def madeT (p : Prog) (s : List Vr) (k o : Int) (nm : List UInt8) (l : List Int) : Int × Bool :=
  if k = 2 then (2, true)
  else if k = 3 then (((findV s nm).head?.map (·.type)).getD 0, true)
  else if k = 6 then (1, decide (at0 l = 1))
  else if k = 4 then takesT o (at0 l)
  else if k = 5 then ((takesT o (at0 l)).1, (takesT o (at0 l)).2 && decide (at0 l = at1 l))
  else if k = 7 then (match funcAt p nm with
    | none => (0, false)
    | some f => (f.type, decide (l = f.params.map (·.type))))
  else (1, true)

set_option maxHeartbeats 4000000 in
theorem madeT_spec (p : Prog) (s : List Vr) (e : Expr) (l : List Int) (σ : Store) (hz : Fit p) (h0 : namedT p s e.kind e.name e.args.length = 0) (hk : kindR e.kind e.op e.n e.name l.length = true) : pcall E 77 [encProg p, encVs s, encExpr e, .slice .plain 1 (l.map (PV.int .i64))] σ = some (.ret (.tup [.int .i64 (madeT p s e.kind e.op e.name l).1, .bool (madeT p s e.kind e.op e.name l).2]), σ) := by
  refine pcall_wp rfl rfl rfl (by simp [encProg, encExpr_eq]) ?_
  unfold madeT
  by_cases k2 : e.kind = 2
  · replace k2 := eqp k2
    clear h0 hk
    (simp [*, F77, encProg, encExpr_eq]) <;> (repeat' (first | (refine cond_splitP _ ?_ ?_ <;> intro hc <;> (first | replace hc := eqn hc | replace hc := eqp hc) <;> simp [*, F77, encProg, encExpr_eq]) | (refine guard_splitP _ ?_ ?_ <;> intro hc <;> (first | replace hc := eqn hc | replace hc := eqp hc) <;> simp [*, F77, encProg, encExpr_eq]) | (refine cond_splitN _ ?_ ?_ <;> intro hc <;> (first | replace hc := eqn hc | replace hc := eqp hc) <;> simp [*, F77, encProg, encExpr_eq]) | (refine guard_splitN _ ?_ ?_ <;> intro hc <;> (first | replace hc := eqn hc | replace hc := eqp hc) <;> simp [*, F77, encProg, encExpr_eq]) | (refine cond_splitM _ ?_ ?_ <;> intro hc <;> skip <;> simp [*, F77, encProg, encExpr_eq]) | (refine guard_splitM _ ?_ ?_ <;> intro hc <;> skip <;> simp [*, F77, encProg, encExpr_eq]) | (refine cond_split _ ?_ ?_ <;> intro hc <;> skip <;> simp [*, F77, encProg, encExpr_eq]) | (refine guard_split _ ?_ ?_ <;> intro hc <;> skip <;> simp [*, F77, encProg, encExpr_eq])))
  by_cases k3 : e.kind = 3
  · have h1 := find_spec s e.name σ
    have hn : ¬ findV s e.name = [] := by
      intro h; unfold namedT at h0; rw [if_pos k3, if_pos h] at h0; exact absurd h0 (by decide)
    obtain ⟨v, r, hv⟩ := List.exists_cons_of_ne_nil hn
    rw [hv, encVs_cons] at h1
    replace k2 := eqn k2
    replace k3 := eqp k3
    clear h0 hk hn
    (simp [*, F77, encProg, encExpr_eq]) <;> (repeat' (first | (refine cond_splitP _ ?_ ?_ <;> intro hc <;> (first | replace hc := eqn hc | replace hc := eqp hc) <;> simp [*, F77, encProg, encExpr_eq]) | (refine guard_splitP _ ?_ ?_ <;> intro hc <;> (first | replace hc := eqn hc | replace hc := eqp hc) <;> simp [*, F77, encProg, encExpr_eq]) | (refine cond_splitN _ ?_ ?_ <;> intro hc <;> (first | replace hc := eqn hc | replace hc := eqp hc) <;> simp [*, F77, encProg, encExpr_eq]) | (refine guard_splitN _ ?_ ?_ <;> intro hc <;> (first | replace hc := eqn hc | replace hc := eqp hc) <;> simp [*, F77, encProg, encExpr_eq]) | (refine cond_splitM _ ?_ ?_ <;> intro hc <;> skip <;> simp [*, F77, encProg, encExpr_eq]) | (refine guard_splitM _ ?_ ?_ <;> intro hc <;> skip <;> simp [*, F77, encProg, encExpr_eq]) | (refine cond_split _ ?_ ?_ <;> intro hc <;> skip <;> simp [*, F77, encProg, encExpr_eq]) | (refine guard_split _ ?_ ?_ <;> intro hc <;> skip <;> simp [*, F77, encProg, encExpr_eq])))
  by_cases k6 : e.kind = 6
  · have hl : l.length = 1 := by
      unfold kindR at hk; simp [k2, k3, k6] at hk; exact hk.2.2
    obtain ⟨x, rfl⟩ := List.length_eq_one_iff.1 hl
    replace k2 := eqn k2
    replace k3 := eqn k3
    replace k6 := eqp k6
    clear h0 hk hl
    (simp [*, F77, encProg, encExpr_eq, at0]) <;> (repeat' (first | (refine cond_splitP _ ?_ ?_ <;> intro hc <;> (first | replace hc := eqn hc | replace hc := eqp hc) <;> simp [*, F77, encProg, encExpr_eq, at0]) | (refine guard_splitP _ ?_ ?_ <;> intro hc <;> (first | replace hc := eqn hc | replace hc := eqp hc) <;> simp [*, F77, encProg, encExpr_eq, at0]) | (refine cond_splitN _ ?_ ?_ <;> intro hc <;> (first | replace hc := eqn hc | replace hc := eqp hc) <;> simp [*, F77, encProg, encExpr_eq, at0]) | (refine guard_splitN _ ?_ ?_ <;> intro hc <;> (first | replace hc := eqn hc | replace hc := eqp hc) <;> simp [*, F77, encProg, encExpr_eq, at0]) | (refine cond_splitM _ ?_ ?_ <;> intro hc <;> skip <;> simp [*, F77, encProg, encExpr_eq, at0]) | (refine guard_splitM _ ?_ ?_ <;> intro hc <;> skip <;> simp [*, F77, encProg, encExpr_eq, at0]) | (refine cond_split _ ?_ ?_ <;> intro hc <;> skip <;> simp [*, F77, encProg, encExpr_eq, at0]) | (refine guard_split _ ?_ ?_ <;> intro hc <;> skip <;> simp [*, F77, encProg, encExpr_eq, at0])))
  by_cases k4 : e.kind = 4
  · have hl : l.length = 1 := by
      unfold kindR at hk; simp [k2, k3, k6, k4] at hk; exact hk.2.2.2
    obtain ⟨x, rfl⟩ := List.length_eq_one_iff.1 hl
    have ht := takes_spec e.op x []
    replace k2 := eqn k2
    replace k3 := eqn k3
    replace k6 := eqn k6
    replace k4 := eqp k4
    clear h0 hk hl
    (simp [*, F77, encProg, encExpr_eq, at0]) <;> (repeat' (first | (refine cond_splitP _ ?_ ?_ <;> intro hc <;> (first | replace hc := eqn hc | replace hc := eqp hc) <;> simp [*, F77, encProg, encExpr_eq, at0]) | (refine guard_splitP _ ?_ ?_ <;> intro hc <;> (first | replace hc := eqn hc | replace hc := eqp hc) <;> simp [*, F77, encProg, encExpr_eq, at0]) | (refine cond_splitN _ ?_ ?_ <;> intro hc <;> (first | replace hc := eqn hc | replace hc := eqp hc) <;> simp [*, F77, encProg, encExpr_eq, at0]) | (refine guard_splitN _ ?_ ?_ <;> intro hc <;> (first | replace hc := eqn hc | replace hc := eqp hc) <;> simp [*, F77, encProg, encExpr_eq, at0]) | (refine cond_splitM _ ?_ ?_ <;> intro hc <;> skip <;> simp [*, F77, encProg, encExpr_eq, at0]) | (refine guard_splitM _ ?_ ?_ <;> intro hc <;> skip <;> simp [*, F77, encProg, encExpr_eq, at0]) | (refine cond_split _ ?_ ?_ <;> intro hc <;> skip <;> simp [*, F77, encProg, encExpr_eq, at0]) | (refine guard_split _ ?_ ?_ <;> intro hc <;> skip <;> simp [*, F77, encProg, encExpr_eq, at0])))
  by_cases k5 : e.kind = 5
  · have hl : l.length = 2 := by
      unfold kindR at hk; simp [k2, k3, k6, k4, k5] at hk; exact hk.2.2.2
    obtain ⟨x, y, rfl⟩ : ∃ x y, l = [x, y] := by
      match l, hl with
      | [x, y], _ => exact ⟨x, y, rfl⟩
    have ht := takes_spec e.op x []
    replace k2 := eqn k2
    replace k3 := eqn k3
    replace k6 := eqn k6
    replace k4 := eqn k4
    replace k5 := eqp k5
    clear h0 hk hl
    (simp [*, F77, encProg, encExpr_eq, at0, at1]) <;> (repeat' (first | (refine cond_splitP _ ?_ ?_ <;> intro hc <;> (first | replace hc := eqn hc | replace hc := eqp hc) <;> simp [*, F77, encProg, encExpr_eq, at0, at1]) | (refine guard_splitP _ ?_ ?_ <;> intro hc <;> (first | replace hc := eqn hc | replace hc := eqp hc) <;> simp [*, F77, encProg, encExpr_eq, at0, at1]) | (refine cond_splitN _ ?_ ?_ <;> intro hc <;> (first | replace hc := eqn hc | replace hc := eqp hc) <;> simp [*, F77, encProg, encExpr_eq, at0, at1]) | (refine guard_splitN _ ?_ ?_ <;> intro hc <;> (first | replace hc := eqn hc | replace hc := eqp hc) <;> simp [*, F77, encProg, encExpr_eq, at0, at1]) | (refine cond_splitM _ ?_ ?_ <;> intro hc <;> skip <;> simp [*, F77, encProg, encExpr_eq, at0, at1]) | (refine guard_splitM _ ?_ ?_ <;> intro hc <;> skip <;> simp [*, F77, encProg, encExpr_eq, at0, at1]) | (refine cond_split _ ?_ ?_ <;> intro hc <;> skip <;> simp [*, F77, encProg, encExpr_eq, at0, at1]) | (refine guard_split _ ?_ ?_ <;> intro hc <;> skip <;> simp [*, F77, encProg, encExpr_eq, at0, at1])))
  by_cases k7 : e.kind = 7
  · have h1 := place_spec p e.name [] (by have := hz.f; omega)
    simp [encProg, funcs] at h1
    rcases idx_cases (fun f : Func => decide (f.name = e.name)) p.funcs with ⟨a1, a2⟩ | ⟨n, f, a1, a2, a3, a4, a5⟩
    · have a2 : funcAt p e.name = none := a2
      unfold namedT at h0
      rw [if_neg k3, if_neg k6, if_pos k7, a2] at h0
      exact absurd h0 (by simp)
    · have a1 : placeM p e.name = n := a1
      have a3 : funcAt p e.name = some f := a3
      rw [a1] at h1
      have hq := equal_spec l f.params σ (by have := hz.p f (List.mem_of_getElem? a2); omega)
      simp [parsV] at hq
      have n0 : ¬ ((n : Int) < 0) := by omega
      replace k2 := eqn k2
      replace k3 := eqn k3
      replace k6 := eqn k6
      replace k4 := eqn k4
      replace k5 := eqn k5
      replace k7 := eqp k7
      clear h0 hk a5 a4 a1
      (simp [*, F77, encProg, encExpr_eq, funcs, encFunc, parsV, stmts]) <;> (repeat' (first | (refine cond_splitP _ ?_ ?_ <;> intro hc <;> (first | replace hc := eqn hc | replace hc := eqp hc) <;> simp [*, F77, encProg, encExpr_eq, funcs, encFunc, parsV, stmts]) | (refine guard_splitP _ ?_ ?_ <;> intro hc <;> (first | replace hc := eqn hc | replace hc := eqp hc) <;> simp [*, F77, encProg, encExpr_eq, funcs, encFunc, parsV, stmts]) | (refine cond_splitN _ ?_ ?_ <;> intro hc <;> (first | replace hc := eqn hc | replace hc := eqp hc) <;> simp [*, F77, encProg, encExpr_eq, funcs, encFunc, parsV, stmts]) | (refine guard_splitN _ ?_ ?_ <;> intro hc <;> (first | replace hc := eqn hc | replace hc := eqp hc) <;> simp [*, F77, encProg, encExpr_eq, funcs, encFunc, parsV, stmts]) | (refine cond_splitM _ ?_ ?_ <;> intro hc <;> skip <;> simp [*, F77, encProg, encExpr_eq, funcs, encFunc, parsV, stmts]) | (refine guard_splitM _ ?_ ?_ <;> intro hc <;> skip <;> simp [*, F77, encProg, encExpr_eq, funcs, encFunc, parsV, stmts]) | (refine cond_split _ ?_ ?_ <;> intro hc <;> skip <;> simp [*, F77, encProg, encExpr_eq, funcs, encFunc, parsV, stmts]) | (refine guard_split _ ?_ ?_ <;> intro hc <;> skip <;> simp [*, F77, encProg, encExpr_eq, funcs, encFunc, parsV, stmts])))
  replace k2 := eqn k2
  replace k3 := eqn k3
  replace k6 := eqn k6
  replace k4 := eqn k4
  replace k5 := eqn k5
  replace k7 := eqn k7
  clear h0 hk
  (simp [*, F77, encProg, encExpr_eq]) <;> (repeat' (first | (refine cond_splitP _ ?_ ?_ <;> intro hc <;> (first | replace hc := eqn hc | replace hc := eqp hc) <;> simp [*, F77, encProg, encExpr_eq]) | (refine guard_splitP _ ?_ ?_ <;> intro hc <;> (first | replace hc := eqn hc | replace hc := eqp hc) <;> simp [*, F77, encProg, encExpr_eq]) | (refine cond_splitN _ ?_ ?_ <;> intro hc <;> (first | replace hc := eqn hc | replace hc := eqp hc) <;> simp [*, F77, encProg, encExpr_eq]) | (refine guard_splitN _ ?_ ?_ <;> intro hc <;> (first | replace hc := eqn hc | replace hc := eqp hc) <;> simp [*, F77, encProg, encExpr_eq]) | (refine cond_splitM _ ?_ ?_ <;> intro hc <;> skip <;> simp [*, F77, encProg, encExpr_eq]) | (refine guard_splitM _ ?_ ?_ <;> intro hc <;> skip <;> simp [*, F77, encProg, encExpr_eq]) | (refine cond_split _ ?_ ?_ <;> intro hc <;> skip <;> simp [*, F77, encProg, encExpr_eq]) | (refine guard_split _ ?_ ?_ <;> intro hc <;> skip <;> simp [*, F77, encProg, encExpr_eq])))

mutual
def exprT (p : Prog) (s : List Vr) : Expr → Int × Int
  | ⟨k, o, n, nm, a⟩ =>
    if namedT p s k nm a.length ≠ 0 then (0, namedT p s k nm a.length)
    else if (argsT p s a).2 ≠ 0 then (0, (argsT p s a).2)
    else if (madeT p s k o nm (argsT p s a).1).2 then ((madeT p s k o nm (argsT p s a).1).1, 0) else (0, 51)
def argsT (p : Prog) (s : List Vr) : List Expr → List Int × Int
  | [] => ([], 0)
  | x :: r => if (exprT p s x).2 ≠ 0 then ([], (exprT p s x).2) else if (argsT p s r).2 ≠ 0 then ([], (argsT p s r).2) else ((exprT p s x).1 :: (argsT p s r).1, 0)
end
theorem exprT_eq (p : Prog) (s : List Vr) (e : Expr) : exprT p s e = if namedT p s e.kind e.name e.args.length ≠ 0 then (0, namedT p s e.kind e.name e.args.length)
    else if (argsT p s e.args).2 ≠ 0 then (0, (argsT p s e.args).2)
    else if (madeT p s e.kind e.op e.name (argsT p s e.args).1).2 then ((madeT p s e.kind e.op e.name (argsT p s e.args).1).1, 0) else (0, 51) := by
  cases e; rw [exprT]
theorem argsT_len (p : Prog) (s : List Vr) : ∀ l, (argsT p s l).2 = 0 → (argsT p s l).1.length = l.length
  | [], _ => by simp [argsT]
  | x :: r, h => by
    simp only [argsT] at h ⊢
    split at h
    · rename_i h1; exact absurd h h1
    rename_i h1
    rw [if_neg h1]
    split at h
    · rename_i h2; exact absurd h h2
    rename_i h2
    rw [if_neg h2]
    simp only [List.length_cons]
    rw [argsT_len p s r (by simpa using h2)]
theorem argsT_pre (p : Prog) (s : List Vr) (x : Expr) (r : List Expr) : ∀ d, (argsT p s d).2 = 0 →
    ((exprT p s x).2 ≠ 0 → argsT p s (d ++ x :: r) = ([], (exprT p s x).2)) ∧ ((exprT p s x).2 = 0 → argsT p s (d ++ [x]) = ((argsT p s d).1 ++ [(exprT p s x).1], 0))
  | [], h => by
    constructor
    · intro hx; simp [argsT, hx]
    · intro hx; simp [argsT, hx]
  | y :: d, h => by
    simp only [argsT] at h
    split at h
    · rename_i h1; exact absurd h h1
    rename_i h1
    split at h
    · rename_i h2; exact absurd h h2
    rename_i h2
    obtain ⟨i1, i2⟩ := argsT_pre p s x r d (by simpa using h2)
    constructor
    · intro hx
      have := i1 hx
      simp only [List.cons_append, argsT]
      rw [if_neg h1, this]
      simp [hx]
    · intro hx
      have := i2 hx
      simp only [List.cons_append, argsT]
      rw [if_neg h1, if_neg h2, this, if_neg h1]
      simp

def encTR (r : Int × Int) : PV := .tup [.int .i64 r.1, .int .i64 r.2]

set_option maxHeartbeats 4000000 in
theorem targs_of (p : Prog) (s : List Vr) (e : Expr) (m : Int) (σ : Store) (hz : Fit p) (hw : wtE e < 1099510000000) (hm : exprsR e.args m = true)
    (IH : ∀ x ∈ e.args, ∀ m, exprR x m = true → pcall E 65 [encProg p, encVs s, encExpr x] σ = some (.ret (encTR (exprT p s x)), σ)) :
    pcall E 76 [encProg p, encVs s, encExpr e] σ = some (.ret (.tup [.slice .plain 1 ((argsT p s e.args).1.map (PV.int .i64)), .int .i64 (argsT p s e.args).2]), σ) := by
  have hla := len_wtEs e.args
  rw [wtE_eq] at hw
  refine pcall_wp rfl rfl rfl (by simp [encProg, encExpr_eq]) ?_
  simp [F76, encProg, encExpr_eq, exprs]
  refine wp_each e.args K76_0 B76_0 (fun d => [(6, acc 1 ((argsT p s d).1.map (PV.int .i64))), (15, .int .i64 d.length)]) (fun _ => σ) (fun d => (argsT p s d).2 = 0) (by omega) (by simp [argsT]) ?_ ?_
  · intros d x r s1 hl' hlt hget hget' hw1 hp h1 h2 h3 h4
    have hx : exprR x (m - 1) = true := by
      rw [exprsR_all, List.all_eq_true] at hm
      have := hm x hl'.mem
      simp at this; exact this.2
    have ih := IH x hl'.mem _ hx
    have hlen := argsT_len p s d hp
    obtain ⟨f1, f2⟩ := argsT_pre p s x r d hp
    rw [← hl'.eq] at f1
    clear IH hm hx hl'
    simp [encTR, encProg] at ih
    rw [encExpr_eq] at ih
    simp [exprs] at ih
    simp at h1 h2 h3
    have hroom : (d.length + 1) * 8 ≤ roomMax := by simp only [roomMax]; omega
    generalize exprT p s x = q at *
    obtain ⟨t, f⟩ := q
    simp only at ih f1 f2
    by_cases hf : f = 0
    · subst hf
      have f2 := f2 rfl
      clear f1
      simp [*, encExpr_eq, exprs]
      all_goals (try grind)
    · have f1 := f1 hf
      clear f2
      replace hf := eqn hf
      simp [*, encExpr_eq, exprs]
  · intros s1 hp h1 h2 h3 h4
    simp at h1 h2 h3
    clear IH hm
    simp [*]

theorem type_spec' : ∀ w (p : Prog) (s : List Vr) (e : Expr) (m : Int) (σ : Store), Fit p → wtE e ≤ w → w < 1099510000000 → exprR e m = true → pcall E 65 [encProg p, encVs s, encExpr e] σ = some (.ret (encTR (exprT p s e)), σ)
  | 0, p, s, e, m, σ, _, h, _, _ => by rw [wtE_eq] at h; omega
  | w + 1, p, s, e, m, σ, hz, h, hw, hR => by
    rw [exprR_eq, Bool.and_eq_true] at hR
    obtain ⟨hm, hk⟩ := hR
    have ha := targs_of p s e m σ hz (by omega) hm (fun x hx m' hm' => type_spec' w p s x m' σ hz (by have := wtE_mem hx; rw [wtE_eq] at h; omega) (by omega) hm')
    have hn := namedT_spec p s e σ hz (by omega)
    have hmd := madeT_spec p s e (argsT p s e.args).1 σ hz
    have hlen := argsT_len p s e.args
    refine pcall_wp rfl rfl rfl (by simp [encProg, encExpr_eq]) ?_
    rw [exprT_eq]
    generalize namedT p s e.kind e.name e.args.length = f at *
    by_cases hf : f = 0
    · replace hmd := hmd hf
      subst hf
      generalize argsT p s e.args = q at *
      obtain ⟨l, g⟩ := q
      simp only at ha hmd hlen ⊢
      by_cases hg : g = 0
      · subst hg
        rw [← hlen rfl] at hk
        replace hmd := hmd hk
        generalize madeT p s e.kind e.op e.name l = r at *
        obtain ⟨t, ok⟩ := r
        simp only at hmd ⊢
        clear hlen hk hm h
        rw [encExpr_eq] at ha hn hmd
        simp [encProg, exprs] at ha hn hmd
        cases ok <;> simp [*, F65, encProg, encExpr_eq, exprs, encTR]
      · clear hmd hlen hk hm h
        replace hg := eqn hg
        rw [encExpr_eq] at ha hn
        simp [encProg, exprs] at ha hn
        simp [*, F65, encProg, encExpr_eq, exprs, encTR]
    · clear hmd hlen hk hm h ha
      replace hf := eqn hf
      rw [encExpr_eq] at hn
      simp [encProg, exprs] at hn
      simp [*, F65, encProg, encExpr_eq, exprs, encTR]
theorem type_spec (p : Prog) (s : List Vr) (e : Expr) (m : Int) (σ : Store) (hz : Fit p) (hw : wtE e < 1099510000000) (hR : exprR e m = true) : pcall E 65 [encProg p, encVs s, encExpr e] σ = some (.ret (encTR (exprT p s e)), σ) :=
  type_spec' (wtE e) p s e m σ hz (Nat.le_refl _) hw hR
end PE.U

/-
  Types: whether statements end.
-/
namespace PE.U
open Go PE

def e0 : Expr := ⟨0, 0, 0, [], []⟩
def arg0 (l : List Expr) : Expr := l[0]?.getD e0
def arg1 (l : List Expr) : Expr := l[1]?.getD e0

mutual
def leaves1 : Stmt → Bool
  | ⟨k, _, _, _, th, el⟩ => decide (k = 6) || (decide (k = 4) && (leavesT th || leavesT el))
def leavesT : List Stmt → Bool
  | [] => false
  | x :: r => leaves1 x || leavesT r
end
theorem leaves1_eq (s : Stmt) : leaves1 s = (decide (s.kind = 6) || (decide (s.kind = 4) && (leavesT s.thn || leavesT s.els))) := by cases s; rw [leaves1]
theorem leavesT_any (l : List Stmt) : leavesT l = l.any leaves1 := by
  induction l with
  | nil => rfl
  | cons x r ih => rw [leavesT, ih]; rfl

mutual
def ends1 : Stmt → Bool
  | ⟨k, _, _, a, th, el⟩ => if k = 8 then true else if k = 4 then endsT th && endsT el else if k = 5 then (decide ((arg0 a).kind = 2) && decide ((arg0 a).n = 1)) && !leavesT th else false
def endsT : List Stmt → Bool
  | [] => false
  | x :: r => ends1 x || endsT r
end
theorem ends1_eq (s : Stmt) : ends1 s = if s.kind = 8 then true else if s.kind = 4 then endsT s.thn && endsT s.els else if s.kind = 5 then (decide ((arg0 s.args).kind = 2) && decide ((arg0 s.args).n = 1)) && !leavesT s.thn else false := by cases s; rw [ends1]
theorem endsT_any (l : List Stmt) : endsT l = l.any ends1 := by
  induction l with
  | nil => rfl
  | cons x r ih => rw [endsT, ih]; rfl

theorem stmtsR_all (l : List Stmt) (m : Int) : stmtsR l m = l.all fun x => stmtR x m := by
  induction l with
  | nil => rfl
  | cons x r ih => simp [stmtsR, ih]

/-- What a statement that may be has. -/
theorem stmtR_has {s : Stmt} {m : Int} (h : stmtR s m = true) : (s.args.length : Int) = (shapeR s.kind).2.2.1 ∧ (∀ x ∈ s.args, exprR x 100 = true) ∧ stmtsR s.thn (m - 1) = true ∧ stmtsR s.els (m - 1) = true := by
  rw [stmtR_eq] at h
  simp only [Bool.and_eq_true] at h
  obtain ⟨h1, h2, h3, h4, h5, h6⟩ := h
  refine ⟨?_, ?_, h5, h6⟩
  · unfold headR at h1
    simp at h1
    exact h1.2.1
  · unfold argsR at h2
    rw [List.all_eq_true] at h2
    exact h2

theorem leaves_spec' : ∀ w (l : List Stmt), wtSs l ≤ w → w < 1099508500000 → pcall E 23 [stmts l] [] = some (.ret (.bool (leavesT l)), [])
  | 0, l, h, hw => by
    have hl : l = [] := by
      have := len_wtSs l
      exact List.eq_nil_of_length_eq_zero (by omega)
    subst hl
    refine pcall_wp rfl rfl rfl (by simp [stmts]) ?_
    have hc := containsFuncStmt [] (fun _ => true) 52 [] [] [] (by simp) (by simp) (by simp)
    simp at hc
    simp [*, F23, stmts, leavesT]
  | w + 1, l, h, hw => by
    have hlen := len_wtSs l
    refine pcall_wp rfl rfl rfl (by simp [stmts]) ?_
    have hcl : ∀ x ∈ l, pcall E 52 ([] ++ [encStmt x] ++ []) [] = some (.ret (.bool (leaves1 x)), []) := by
      intro x hx
      have hwx := wtS_mem hx
      rw [wtS_eq] at hwx
      have i1 := leaves_spec' w x.thn (by omega) (by omega)
      have i2 := leaves_spec' w x.els (by omega) (by omega)
      rw [leaves1_eq]
      clear hwx hx h hlen
      refine pcall_wp rfl rfl rfl (by simp [encStmt_eq]) ?_
      simp [stmts] at i1 i2
      generalize leavesT x.thn = b1 at *
      generalize leavesT x.els = b2 at *
      by_cases k6 : x.kind = 6
      · replace k6 := eqp k6
        simp [*, F52, encStmt_eq, exprs, stmts]
      · replace k6 := eqn k6
        by_cases k4 : x.kind = 4
        · replace k4 := eqp k4
          cases b1 <;> simp [*, F52, encStmt_eq, exprs, stmts]
        · replace k4 := eqn k4
          simp [*, F52, encStmt_eq, exprs, stmts]
    have hc := containsFuncStmt l leaves1 52 [] [] [] (by omega) (by simp) hcl
    rw [← leavesT_any] at hc
    clear hcl h hlen
    simp [*, F23, stmts]
theorem leaves_spec (l : List Stmt) (h : wtSs l < 1099508000000) : pcall E 23 [stmts l] [] = some (.ret (.bool (leavesT l)), []) := leaves_spec' (wtSs l) l (Nat.le_refl _) (by omega)

set_option maxHeartbeats 1000000 in
theorem ends_spec' : ∀ w (l : List Stmt) (m : Int), wtSs l ≤ w → w < 1099508000000 → stmtsR l m = true → pcall E 9 [stmts l] [] = some (.ret (.bool (endsT l)), [])
  | 0, l, m, h, hw, _ => by
    have hl : l = [] := by
      have := len_wtSs l
      exact List.eq_nil_of_length_eq_zero (by omega)
    subst hl
    refine pcall_wp rfl rfl rfl (by simp [stmts]) ?_
    have hc := containsFuncStmt [] (fun _ => true) 22 [] [] [] (by simp) (by simp) (by simp)
    simp at hc
    simp [*, F9, stmts, endsT]
  | w + 1, l, m, h, hw, hR => by
    have hlen := len_wtSs l
    refine pcall_wp rfl rfl rfl (by simp [stmts]) ?_
    have hcl : ∀ x ∈ l, pcall E 22 ([] ++ [encStmt x] ++ []) [] = some (.ret (.bool (ends1 x)), []) := by
      intro x hx
      have hwx := wtS_mem hx
      rw [wtS_eq] at hwx
      have hxR : stmtR x m = true := by rw [stmtsR_all, List.all_eq_true] at hR; exact hR x hx
      obtain ⟨r1, r2, r3, r4⟩ := stmtR_has hxR
      have i1 := ends_spec' w x.thn _ (by omega) (by omega) r3
      have i2 := ends_spec' w x.els _ (by omega) (by omega) r4
      have i3 := leaves_spec x.thn (by omega)
      rw [ends1_eq]
      clear hwx hx h hlen hxR hR r2 r3 r4
      refine pcall_wp rfl rfl rfl (by simp [encStmt_eq]) ?_
      simp [stmts] at i1 i2 i3
      generalize endsT x.thn = b1 at *
      generalize endsT x.els = b2 at *
      generalize leavesT x.thn = b3 at *
      by_cases k8 : x.kind = 8
      · replace k8 := eqp k8
        simp [*, F22, encStmt_eq, exprs, stmts]
      replace k8 := eqn k8
      by_cases k4 : x.kind = 4
      · replace k4 := eqp k4
        cases b1 <;> simp [*, F22, encStmt_eq, exprs, stmts]
      replace k4 := eqn k4
      by_cases k5 : x.kind = 5
      · have hl1 : x.args.length = 1 := by rw [k5] at r1; simp [shapeR] at r1; omega
        obtain ⟨y, hy⟩ := List.length_eq_one_iff.1 hl1
        have hget : x.args[0]? = some y := by rw [hy]; rfl
        have ha0 : arg0 x.args = y := by unfold arg0; rw [hget]; rfl
        rw [ha0]
        clear hy hl1 r1 ha0
        replace k5 := eqp k5
        by_cases y2 : y.kind = 2
        · replace y2 := eqp y2
          by_cases y1 : y.n = 1
          · replace y1 := eqp y1
            simp [*, F22, encStmt_eq, exprs, stmts, encExpr_eq]
          · replace y1 := eqn y1
            simp [*, F22, encStmt_eq, exprs, stmts, encExpr_eq]
        · replace y2 := eqn y2
          simp [*, F22, encStmt_eq, exprs, stmts, encExpr_eq]
      · replace k5 := eqn k5
        clear r1
        simp [*, F22, encStmt_eq, exprs, stmts]
    have hc := containsFuncStmt l ends1 22 [] [] [] (by omega) (by simp) hcl
    rw [← endsT_any] at hc
    clear hcl h hlen hR
    simp [*, F9, stmts]
theorem ends_spec (l : List Stmt) (m : Int) (h : wtSs l < 1099508000000) (hR : stmtsR l m = true) : pcall E 9 [stmts l] [] = some (.ret (.bool (endsT l)), []) := ends_spec' (wtSs l) l m (Nat.le_refl _) h hR
end PE.U

/-
  Types: what is wrong with a statement, but for those in it.
-/
namespace PE.U
open Go PE

/-- What goes through a function. -/
def fob (p : Prog) (res n : Int) : Obj := .arr 4 [.agg [parrs p.arrays, funcs p.funcs, .int .i64 res, .int .i64 n]]

def wantT (p : Prog) (s : List Vr) (e : Expr) (t : Int) : Int := if (exprT p s e).2 ≠ 0 then (exprT p s e).2 else if (exprT p s e).1 = t then 0 else 51

theorem want_spec {p : Prog} {s : List Vr} {e : Expr} {t m : Int} {σ : Store} {k : Nat} {res n : Int} (hk : σ[k]? = some (fob p res n)) (hz : Fit p) (hw : wtE e < 1099510000000) (hR : exprR e m = true) :
    pcall E 64 [.ptr k 0 0, encVs s, encExpr e, .int .i64 t] σ = some (.ret (.int .i64 (wantT p s e t)), σ) := by
  refine pcall_wp rfl rfl rfl (by simp [encExpr_eq]) ?_
  have h1 := type_spec p s e m σ hz hw hR
  unfold wantT
  generalize exprT p s e = q at *
  obtain ⟨ty, f⟩ := q
  simp only
  clear hR hw hz
  rw [encExpr_eq] at h1
  simp [encProg, exprs, encTR] at h1
  unfold fob at hk
  by_cases hf : f = 0
  · subst hf
    have h2 := fine_spec (decide (ty = t)) 51 []
    by_cases ht : ty = t
    · replace ht := eqp ht
      simp [ht] at h2
      simp [*, F64, encExpr_eq, exprs]
    · replace ht := eqn ht
      simp [ht] at h2
      simp [*, F64, encExpr_eq, exprs]
  · replace hf := eqn hf
    simp [*, F64, encExpr_eq, exprs]

def boundT (p : Prog) (s : List Vr) (k t : Int) (nm : List UInt8) (a : List Expr) (d : Int) : Int :=
  if k = 1 then
    if wantT p s (arg0 a) t ≠ 0 then wantT p s (arg0 a) t
    else match findV s nm with
      | [] => 0
      | v :: _ => if v.depth < d then 0 else 50
  else if k = 2 then match findV s nm with
    | [] => 50
    | v :: _ => wantT p s (arg0 a) v.type
  else if k = 3 ∧ hasArr p nm = false then 50
  else if wantT p s (arg0 a) 1 ≠ 0 then wantT p s (arg0 a) 1 else wantT p s (arg1 a) 1

set_option maxHeartbeats 4000000 in
theorem bound_spec {p : Prog} {s : List Vr} {x : Stmt} {d m : Int} {σ : Store} {k : Nat} {res n : Int} (hk : σ[k]? = some (fob p res n)) (hz : Fit p) (hw : wtS x < 1099509000000) (hR : stmtR x m = true) (hb : 1 ≤ x.kind ∧ x.kind ≤ 3) :
    pcall E 67 [.ptr k 0 0, encStmt x, encVs s, .int .i64 d] σ = some (.ret (.int .i64 (boundT p s x.kind x.type x.name x.args d)), σ) := by
  refine pcall_wp rfl rfl rfl (by simp [encStmt_eq]) ?_
  obtain ⟨r1, r2, _, _⟩ := stmtR_has hR
  rw [wtS_eq] at hw
  have hwant : ∀ y ∈ x.args, ∀ t, pcall E 64 [.ptr k 0 0, encVs s, encExpr y, .int .i64 t] σ = some (.ret (.int .i64 (wantT p s y t)), σ) := by
    intro y hy t
    have := wtE_mem hy
    exact want_spec hk hz (by omega) (r2 y hy)
  have hf := find_spec s x.name σ
  have hfi := fun b => fine_spec b 50 []
  have hh := array_spec p x.name [] (by have := hz.a; omega)
  have h3 : decide (0 ≤ arrayM p x.name) = hasArr p x.name := idx_ge (fun f : PArr => decide (f.name = x.name)) p.arrays
  have h3' : (arrayM p x.name < 0) = (hasArr p x.name = false) := by
    rw [← h3, decide_eq_false_iff_not]; apply propext; omega
  clear r2 hR hw hz h3
  unfold boundT
  unfold fob at hk
  simp [encProg] at hh
  by_cases k1 : x.kind = 1
  · have hl1 : x.args.length = 1 := by rw [k1] at r1; simp [shapeR] at r1; omega
    obtain ⟨y, hy⟩ := List.length_eq_one_iff.1 hl1
    have hget : x.args[0]? = some y := by rw [hy]; rfl
    have ha0 : arg0 x.args = y := by unfold arg0; rw [hget]; rfl
    rw [ha0]
    have hw1 := hwant y (by rw [hy]; simp) x.type
    clear hy hl1 r1 ha0 hwant hb h3' hh
    replace k1 := eqp k1
    rw [encExpr_eq] at hw1
    simp [exprs] at hw1
    generalize wantT p s y x.type = f at *
    by_cases hff : f = 0
    · subst hff
      generalize findV s x.name = vs at *
      cases vs with
      | nil =>
        have hfi := hfi true
        simp at hfi hf
        simp [*, F67, encStmt_eq, exprs, encExpr_eq]
      | cons v r =>
        rw [encVs_cons] at hf
        by_cases hd : v.depth < d
        · have hfi := hfi true
          replace hd := eqp hd
          simp at hfi
          simp [*, F67, encStmt_eq, exprs, encExpr_eq]
        · have hfi := hfi false
          replace hd := eqn hd
          simp at hfi
          simp [*, F67, encStmt_eq, exprs, encExpr_eq]
    · replace hff := eqn hff
      clear hfi
      simp [*, F67, encStmt_eq, exprs, encExpr_eq]
  by_cases k2 : x.kind = 2
  · have hl1 : x.args.length = 1 := by rw [k2] at r1; simp [shapeR] at r1; omega
    obtain ⟨y, hy⟩ := List.length_eq_one_iff.1 hl1
    have hget : x.args[0]? = some y := by rw [hy]; rfl
    have ha0 : arg0 x.args = y := by unfold arg0; rw [hget]; rfl
    rw [ha0]
    have hw1 := hwant y (by rw [hy]; simp)
    have k3 : (x.kind = 3) = False := eqn (by omega)
    clear hy hl1 r1 ha0 hwant hb h3' hh hfi
    replace k1 := eqn k1
    replace k2 := eqp k2
    generalize findV s x.name = vs at *
    cases vs with
    | nil =>
      clear hw1
      simp at hf
      simp [*, F67, encStmt_eq, exprs, encExpr_eq]
    | cons v r =>
      have hw1 := hw1 v.type
      rw [encExpr_eq] at hw1
      simp [exprs] at hw1
      rw [encVs_cons] at hf
      simp [*, F67, encStmt_eq, exprs, encExpr_eq]
  · have k3 : x.kind = 3 := by omega
    have hl2 : x.args.length = 2 := by rw [k3] at r1; simp [shapeR] at r1; omega
    obtain ⟨y, z, hy⟩ : ∃ y z, x.args = [y, z] := by
      match h : x.args, hl2 with
      | [y, z], _ => exact ⟨y, z, rfl⟩
    have hget : x.args[0]? = some y := by rw [hy]; rfl
    have hget1 : x.args[1]? = some z := by rw [hy]; rfl
    have ha0 : arg0 x.args = y := by unfold arg0; rw [hget]; rfl
    have ha1 : arg1 x.args = z := by unfold arg1; rw [hget1]; rfl
    rw [ha0, ha1]
    have hw1 := hwant y (by rw [hy]; simp) 1
    have hw2 := hwant z (by rw [hy]; simp) 1
    clear hy hl2 r1 ha0 ha1 hwant hb hfi
    replace k1 := eqn k1
    replace k2 := eqn k2
    replace k3 := eqp k3
    rw [encExpr_eq] at hw1 hw2
    simp [exprs] at hw1 hw2
    generalize hasArr p x.name = b at *
    cases b
    · clear hw1 hw2
      simp at h3'
      replace h3' := eqp h3'
      simp [*, F67, encStmt_eq, exprs, encExpr_eq]
    · simp at h3'
      replace h3' : (arrayM p x.name < 0) = False := eqn (by omega)
      generalize wantT p s y 1 = f at *
      by_cases hff : f = 0
      · subst hff
        simp [*, F67, encStmt_eq, exprs, encExpr_eq]
      · replace hff := eqn hff
        simp [*, F67, encStmt_eq, exprs, encExpr_eq]

def stmtT (p : Prog) (res : Int) (s : List Vr) (k t : Int) (nm : List UInt8) (a : List Expr) (d : Int) (loop : Bool) : Int :=
  if k = 4 ∨ k = 5 then wantT p s (arg0 a) 2
  else if k = 8 then wantT p s (arg0 a) res
  else if k = 9 then wantT p s (arg0 a) 1
  else if k = 10 then (exprT p s (arg0 a)).2
  else if k = 6 ∨ k = 7 then (if loop then 0 else 53)
  else boundT p s k t nm a d

set_option maxHeartbeats 4000000 in
theorem stmtT_spec {p : Prog} {s : List Vr} {x : Stmt} {d m : Int} {loop : Bool} {σ : Store} {k : Nat} {res n : Int} (hk : σ[k]? = some (fob p res n)) (hz : Fit p) (hw : wtS x < 1099509000000) (hR : stmtR x m = true) :
    pcall E 49 [.ptr k 0 0, encStmt x, encVs s, .int .i64 d, .bool loop] σ = some (.ret (.int .i64 (stmtT p res s x.kind x.type x.name x.args d loop)), σ) := by
  refine pcall_wp rfl rfl rfl (by simp [encStmt_eq]) ?_
  obtain ⟨r1, r2, _, _⟩ := stmtR_has hR
  have hbound : 1 ≤ x.kind ∧ x.kind ≤ 3 → pcall E 67 [.ptr k 0 0, encStmt x, encVs s, .int .i64 d] σ = some (.ret (.int .i64 (boundT p s x.kind x.type x.name x.args d)), σ) := fun h => bound_spec hk hz hw hR h
  rw [wtS_eq] at hw
  have hwant : ∀ y ∈ x.args, ∀ t, pcall E 64 [.ptr k 0 0, encVs s, encExpr y, .int .i64 t] σ = some (.ret (.int .i64 (wantT p s y t)), σ) := by
    intro y hy t
    have := wtE_mem hy
    exact want_spec hk hz (by omega) (r2 y hy)
  have hexp : ∀ y ∈ x.args, pcall E 65 [encProg p, encVs s, encExpr y] σ = some (.ret (encTR (exprT p s y)), σ) := by
    intro y hy
    have := wtE_mem hy
    exact type_spec p s y 100 σ hz (by omega) (r2 y hy)
  have hone : (x.kind = 4 ∨ x.kind = 5 ∨ x.kind = 8 ∨ x.kind = 9 ∨ x.kind = 10) → ∃ y, x.args = [y] := by
    intro h
    have : x.args.length = 1 := by rcases h with h | h | h | h | h <;> (rw [h] at r1; simp [shapeR] at r1; omega)
    exact List.length_eq_one_iff.1 this
  have hkind : 1 ≤ x.kind ∧ x.kind ≤ 10 := by
    by_cases h : 1 ≤ x.kind ∧ x.kind ≤ 10
    · exact h
    · exfalso
      have : (shapeR x.kind).2.2.1 = -1 := by
        unfold shapeR
        repeat' (first | rw [if_neg (by omega)] | rfl)
      omega
  clear r2 hR hw hz
  unfold stmtT
  unfold fob at hk
  by_cases k4 : x.kind = 4 ∨ x.kind = 5
  · obtain ⟨y, hy⟩ := hone (by rcases k4 with h | h <;> simp [h])
    have hget : x.args[0]? = some y := by rw [hy]; rfl
    have ha0 : arg0 x.args = y := by unfold arg0; rw [hget]; rfl
    rw [ha0]
    have hw1 := hwant y (by rw [hy]; simp) 2
    rw [encExpr_eq] at hw1
    simp [exprs] at hw1
    rw [if_pos k4]
    clear hy r1 ha0 hwant hexp hone hbound hkind
    rcases k4 with k4 | k4
    · replace k4 := eqp k4
      simp [*, F49, encStmt_eq, exprs, encExpr_eq]
    · by_cases k4' : x.kind = 4
      · omega
      · replace k4 := eqp k4
        replace k4' := eqn k4'
        simp [*, F49, encStmt_eq, exprs, encExpr_eq]
  have k5 : ¬ x.kind = 5 := fun h => k4 (Or.inr h)
  have k4' : ¬ x.kind = 4 := fun h => k4 (Or.inl h)
  rw [if_neg k4]
  clear k4
  by_cases k8 : x.kind = 8
  · obtain ⟨y, hy⟩ := hone (by simp [k8])
    have hget : x.args[0]? = some y := by rw [hy]; rfl
    have ha0 : arg0 x.args = y := by unfold arg0; rw [hget]; rfl
    rw [ha0]
    have hw1 := hwant y (by rw [hy]; simp) res
    rw [encExpr_eq] at hw1
    simp [exprs] at hw1
    clear hy r1 ha0 hwant hexp hone hbound hkind
    replace k4' := eqn k4'
    replace k5 := eqn k5
    replace k8 := eqp k8
    simp [*, F49, encStmt_eq, exprs, encExpr_eq]
  by_cases k9 : x.kind = 9
  · obtain ⟨y, hy⟩ := hone (by simp [k9])
    have hget : x.args[0]? = some y := by rw [hy]; rfl
    have ha0 : arg0 x.args = y := by unfold arg0; rw [hget]; rfl
    rw [ha0]
    have hw1 := hwant y (by rw [hy]; simp) 1
    rw [encExpr_eq] at hw1
    simp [exprs] at hw1
    clear hy r1 ha0 hwant hexp hone hbound hkind
    replace k4' := eqn k4'
    replace k5 := eqn k5
    replace k8 := eqn k8
    replace k9 := eqp k9
    simp [*, F49, encStmt_eq, exprs, encExpr_eq]
  by_cases k10 : x.kind = 10
  · obtain ⟨y, hy⟩ := hone (by simp [k10])
    have hget : x.args[0]? = some y := by rw [hy]; rfl
    have ha0 : arg0 x.args = y := by unfold arg0; rw [hget]; rfl
    rw [ha0]
    have hw1 := hexp y (by rw [hy]; simp)
    rw [encExpr_eq] at hw1
    simp [exprs, encProg, encTR] at hw1
    clear hy r1 ha0 hwant hexp hone hbound hkind
    replace k4' := eqn k4'
    replace k5 := eqn k5
    replace k8 := eqn k8
    replace k9 := eqn k9
    replace k10 := eqp k10
    simp [*, F49, encStmt_eq, exprs, encExpr_eq]
  by_cases k6 : x.kind = 6 ∨ x.kind = 7
  · rw [if_neg k8, if_neg k9, if_neg k10, if_pos k6]
    have hfi := fine_spec loop 53 []
    clear r1 hwant hexp hone hbound hkind
    replace k4' := eqn k4'
    replace k5 := eqn k5
    replace k8 := eqn k8
    replace k9 := eqn k9
    replace k10 := eqn k10
    rcases k6 with k6 | k6
    · replace k6 := eqp k6
      simp [*, F49, encStmt_eq, exprs, encExpr_eq]
    · by_cases k6' : x.kind = 6
      · omega
      · replace k6 := eqp k6
        replace k6' := eqn k6'
        simp [*, F49, encStmt_eq, exprs, encExpr_eq]
  · rw [if_neg k8, if_neg k9, if_neg k10, if_neg k6]
    have k7 : ¬ x.kind = 7 := fun h => k6 (Or.inr h)
    have k6' : ¬ x.kind = 6 := fun h => k6 (Or.inl h)
    have hb := hbound (by omega)
    clear r1 hwant hexp hone hbound hkind k6
    replace k4' := eqn k4'
    replace k5 := eqn k5
    replace k8 := eqn k8
    replace k9 := eqn k9
    replace k10 := eqn k10
    replace k7 := eqn k7
    replace k6' := eqn k6'
    rw [encStmt_eq] at hb
    simp [exprs, stmts] at hb
    simp [*, F49, encStmt_eq, exprs, encExpr_eq, stmts]
end PE.U

/-
  Types: what is wrong with statements.
-/
namespace PE.U
open Go PE

mutual
def block1 (p : Prog) (res : Int) : Stmt → List Vr → Int → Bool → Int → Int × Int
  | ⟨k, t, nm, a, th, el⟩, vs, d, loop, n =>
    if stmtT p res vs k t nm a d loop ≠ 0 then (stmtT p res vs k t nm a d loop, n)
    else
      let q := blockT p res th (if k = 1 then ⟨nm, t, d⟩ :: vs else vs) (d + 1) (loop || decide (k = 5)) (n + 1)
      if q.1 ≠ 0 then q else blockT p res el (if k = 1 then ⟨nm, t, d⟩ :: vs else vs) (d + 1) loop q.2
def blockT (p : Prog) (res : Int) : List Stmt → List Vr → Int → Bool → Int → Int × Int
  | [], _, _, _, n => (0, n)
  | x :: r, vs, d, loop, n =>
    let q := block1 p res x vs d loop n
    if q.1 ≠ 0 then q else blockT p res r (if x.kind = 1 then ⟨x.name, x.type, d⟩ :: vs else vs) d loop q.2
end
/-- The variables behind a statement. -/
def behind (d : Int) (x : Stmt) (vs : List Vr) : List Vr := if x.kind = 1 then ⟨x.name, x.type, d⟩ :: vs else vs
theorem block1_eq (p : Prog) (res : Int) (x : Stmt) (vs : List Vr) (d : Int) (loop : Bool) (n : Int) : block1 p res x vs d loop n =
    if stmtT p res vs x.kind x.type x.name x.args d loop ≠ 0 then (stmtT p res vs x.kind x.type x.name x.args d loop, n)
    else if (blockT p res x.thn (behind d x vs) (d + 1) (loop || decide (x.kind = 5)) (n + 1)).1 ≠ 0 then blockT p res x.thn (behind d x vs) (d + 1) (loop || decide (x.kind = 5)) (n + 1)
    else blockT p res x.els (behind d x vs) (d + 1) loop (blockT p res x.thn (behind d x vs) (d + 1) (loop || decide (x.kind = 5)) (n + 1)).2 := by
  cases x; rw [block1]; rfl
theorem blockT_cons (p : Prog) (res : Int) (x : Stmt) (r : List Stmt) (vs : List Vr) (d : Int) (loop : Bool) (n : Int) : blockT p res (x :: r) vs d loop n =
    if (block1 p res x vs d loop n).1 ≠ 0 then block1 p res x vs d loop n else blockT p res r (behind d x vs) d loop (block1 p res x vs d loop n).2 := by
  rw [blockT]; rfl

/-- How statements so far leave it: the variables, and the count. -/
def blockGo (p : Prog) (res d : Int) (loop : Bool) (l : List Stmt) (vs : List Vr) (n : Int) : List Vr × Int := match l with
  | [] => (vs, n)
  | x :: r => blockGo p res d loop r (behind d x vs) (block1 p res x vs d loop n).2
def blockFine (p : Prog) (res d : Int) (loop : Bool) (l : List Stmt) (vs : List Vr) (n : Int) : Prop := match l with
  | [] => True
  | x :: r => (block1 p res x vs d loop n).1 = 0 ∧ blockFine p res d loop r (behind d x vs) (block1 p res x vs d loop n).2
theorem blockT_go (p : Prog) (res d : Int) (loop : Bool) (r : List Stmt) : ∀ (l : List Stmt) (vs : List Vr) (n : Int), blockFine p res d loop l vs n →
    blockT p res (l ++ r) vs d loop n = blockT p res r (blockGo p res d loop l vs n).1 d loop (blockGo p res d loop l vs n).2
  | [], _, _, _ => rfl
  | x :: l, vs, n, h => by
    simp only [blockFine] at h
    rw [List.cons_append, blockT_cons, if_neg (by rw [h.1]; simp)]
    exact blockT_go p res d loop r l _ _ h.2
theorem blockGo_snoc (p : Prog) (res d : Int) (loop : Bool) (x : Stmt) : ∀ (l : List Stmt) (vs : List Vr) (n : Int),
    blockGo p res d loop (l ++ [x]) vs n = (behind d x (blockGo p res d loop l vs n).1, (block1 p res x (blockGo p res d loop l vs n).1 d loop (blockGo p res d loop l vs n).2).2)
  | [], _, _ => rfl
  | y :: l, vs, n => by
    rw [List.cons_append, blockGo, blockGo_snoc p res d loop x l]; rfl
theorem blockFine_snoc (p : Prog) (res d : Int) (loop : Bool) (x : Stmt) : ∀ (l : List Stmt) (vs : List Vr) (n : Int), blockFine p res d loop l vs n → (block1 p res x (blockGo p res d loop l vs n).1 d loop (blockGo p res d loop l vs n).2).1 = 0 → blockFine p res d loop (l ++ [x]) vs n
  | [], _, _, _, h => ⟨h, trivial⟩
  | y :: l, vs, n, hf, h => by
    simp only [blockFine] at hf
    exact ⟨hf.1, blockFine_snoc p res d loop x l _ _ hf.2 h⟩

mutual
theorem block1_count (p : Prog) (res : Int) : ∀ (x : Stmt) (vs : List Vr) (d : Int) (loop : Bool) (n : Int), n ≤ (block1 p res x vs d loop n).2 ∧ (block1 p res x vs d loop n).2 ≤ n + wtS x
  | ⟨k, t, nm, a, th, el⟩, vs, d, loop, n => by
    rw [block1_eq]
    have h1 := blockT_count p res th (behind d ⟨k, t, nm, a, th, el⟩ vs) (d + 1) (loop || decide (k = 5)) (n + 1)
    have h2 := blockT_count p res el (behind d ⟨k, t, nm, a, th, el⟩ vs) (d + 1) loop (blockT p res th (behind d ⟨k, t, nm, a, th, el⟩ vs) (d + 1) (loop || decide (k = 5)) (n + 1)).2
    rw [wtS_eq]
    simp only
    split
    · simp only; omega
    · split
      · omega
      · omega
theorem blockT_count (p : Prog) (res : Int) : ∀ (l : List Stmt) (vs : List Vr) (d : Int) (loop : Bool) (n : Int), n ≤ (blockT p res l vs d loop n).2 ∧ (blockT p res l vs d loop n).2 ≤ n + wtSs l
  | [], vs, d, loop, n => by simp [blockT, wtSs]
  | x :: r, vs, d, loop, n => by
    rw [blockT_cons]
    have h1 := block1_count p res x vs d loop n
    have h2 := blockT_count p res r (behind d x vs) d loop (block1 p res x vs d loop n).2
    simp only [wtSs]
    split
    · omega
    · omega
end
theorem blockGo_count (p : Prog) (res d : Int) (loop : Bool) : ∀ (l : List Stmt) (vs : List Vr) (n : Int), n ≤ (blockGo p res d loop l vs n).2 ∧ (blockGo p res d loop l vs n).2 ≤ n + wtSs l
  | [], vs, n => by simp [blockGo, wtSs]
  | x :: r, vs, n => by
    have h1 := block1_count p res x vs d loop n
    have h2 := blockGo_count p res d loop r (behind d x vs) (block1 p res x vs d loop n).2
    simp only [wtSs, blockGo]
    omega

set_option maxRecDepth 20000 in
set_option maxHeartbeats 8000000 in
theorem block_spec' : ∀ w (p : Prog) (res : Int) (l : List Stmt) (vs : List Vr) (d m n : Int) (loop : Bool) (σ : Store) (k : Nat), wtSs l ≤ w → w < 1099508000000 → Fit p → stmtsR l m = true → 0 ≤ d → d + m ≤ 1000000 → 0 ≤ m → 0 ≤ n → n + wtSs l < 4000000000000 → σ[k]? = some (fob p res n) →
    pcall E 19 [.ptr k 0 0, stmts l, encVs vs, .int .i64 d, .bool loop] σ = some (.ret (.int .i64 (blockT p res l vs d loop n).1), σ.set k (fob p res (blockT p res l vs d loop n).2))
  | 0, p, res, l, vs, d, m, n, loop, σ, k, h, hw, hz, hR, hd, hdm, hm, hn0, hnw, hk => by
    have hl : l = [] := by
      have := len_wtSs l
      exact List.eq_nil_of_length_eq_zero (by omega)
    subst hl
    have hset : σ.set k (fob p res n) = σ := by
      have hlt := (List.getElem?_eq_some_iff.1 hk)
      obtain ⟨h1, h2⟩ := hlt
      rw [← h2, List.set_getElem_self]
    refine pcall_wp rfl rfl rfl (by simp [stmts]) ?_
    simp only [blockT, hset]
    simp [F19, stmts]
    refine wp_each ([] : List Stmt) K19_0 B19_0 (fun d' => [(2, encVs vs), (18, .int .i64 d'.length)]) (fun _ => σ) (fun _ => True) (by simp) (by simp) ?_ ?_
    · intros d' x r s1 hl' hlt
      simp at hlt
    · intros s1 hp h1 h2 h3 h4
      simp at h1 h2 h3
      simp [*]
  | w + 1, p, res, l, vs, d, m, n, loop, σ, k, h, hw, hz, hR, hd, hdm, hm, hn0, hnw, hk => by
    have hlen := len_wtSs l
    have hset : σ.set k (fob p res n) = σ := by
      have hlt := (List.getElem?_eq_some_iff.1 hk)
      obtain ⟨h1, h2⟩ := hlt
      rw [← h2, List.set_getElem_self]
    have hklt : k < σ.length := (List.getElem?_eq_some_iff.1 hk).1
    have hwd : wrapK .i64 (d + 1) = d + 1 := wrapK_small (by omega) (by omega)
    refine pcall_wp rfl rfl rfl (by simp [stmts]) ?_
    simp [F19, stmts]
    refine wp_each l K19_0 B19_0 (fun q => [(2, encVs (blockGo p res d loop q vs n).1), (18, .int .i64 q.length)]) (fun q => σ.set k (fob p res (blockGo p res d loop q vs n).2)) (fun q => blockFine p res d loop q vs n) (by omega) (by simp [blockGo, blockFine, hset]) ?_ ?_
    · intros q x r s1 hl' hlt hget hget' hw1 hp h1 h2 h3 h4
      have hT := blockT_go p res d loop (x :: r) q vs n hp
      rw [← hl'.eq, blockT_cons, block1_eq] at hT
      have hG := blockGo_snoc p res d loop x q vs n
      have hF := blockFine_snoc p res d loop x q vs n hp
      rw [block1_eq] at hG hF
      have hxR : stmtR x m = true := by rw [stmtsR_all, List.all_eq_true] at hR; exact hR x hl'.mem
      have hm1 : 1 ≤ m := by
        by_cases h1 : 1 ≤ m
        · exact h1
        · rw [stmtR_eq] at hxR; unfold headR at hxR; simp at hxR; omega
      have hwx := wtS_mem hl'.mem
      rw [wtS_eq] at hwx
      obtain ⟨r1, r2, r3, r4⟩ := stmtR_has hxR
      have hgc := blockGo_count p res d loop q vs n
      have hws : wtSs l = wtSs q + (1 + wtS x + wtSs r) := by rw [hl'.eq, wtSs_append]; rfl
      rw [wtS_eq] at hws
      generalize blockGo p res d loop q vs n = g at *
      obtain ⟨v1, n1⟩ := g
      simp only at hT hG hF h3 h4 hgc
      have hwn : wrapK .i64 (n1 + 1) = n1 + 1 := wrapK_small (by omega) (by omega)
      have hk1 : (σ.set k (fob p res n1))[k]? = some (fob p res n1) := by rw [List.getElem?_set_self hklt]
      have hst := stmtT_spec (d := d) (s := v1) (x := x) (loop := loop) hk1 hz (by rw [wtS_eq]; omega) hxR
      have hi1 := block_spec' w p res x.thn (behind d x v1) (d + 1) (m - 1) (n1 + 1) (loop || decide (x.kind = 5)) (σ.set k (fob p res (n1 + 1))) k (by omega) (by omega) hz r3 (by omega) (by omega) (by omega) (by omega) (by omega) (by rw [List.getElem?_set_self hklt])
      rw [List.set_set] at hi1
      have hc1 := blockT_count p res x.thn (behind d x v1) (d + 1) (loop || decide (x.kind = 5)) (n1 + 1)
      generalize hT1 : blockT p res x.thn (behind d x v1) (d + 1) (loop || decide (x.kind = 5)) (n1 + 1) = t1 at *
      obtain ⟨f1, n2⟩ := t1
      simp only at hc1
      have hi2 := block_spec' w p res x.els (behind d x v1) (d + 1) (m - 1) n2 loop (σ.set k (fob p res n2)) k (by omega) (by omega) hz r4 (by omega) (by omega) (by omega) (by omega) (by omega) (by rw [List.getElem?_set_self hklt])
      rw [List.set_set] at hi2
      simp only at hT hG hF hi1
      generalize hT2 : blockT p res x.els (behind d x v1) (d + 1) loop n2 = t2 at *
      obtain ⟨f2, n3⟩ := t2
      simp only at hT hG hF hi2
      generalize stmtT p res v1 x.kind x.type x.name x.args d loop = f0 at *
      have hwi := with_spec v1 ⟨x.name, x.type⟩ d (σ.set k (fob p res (n1 + 1)))
      have hb : behind d x v1 = if x.kind = 1 then ⟨x.name, x.type, d⟩ :: v1 else v1 := rfl
      clear hT1 hT2 r1 r2 r3 r4 hws hgc hc1 hnw hn0 hwx hxR hl' hR h hlen hset
      rw [encStmt_eq] at hst
      simp [exprs, stmts, encPar] at hst hi1 hi2 hwi
      simp [exprs, stmts] at h1 h2 h3 h4
      unfold fob at *
      by_cases hf0 : f0 = 0
      case neg =>
        simp [hf0] at hT
        rw [hT]
        clear hT hG hF hi1 hi2 hwi hb hp
        replace hf0 := eqn hf0
        simp [*, encStmt_eq, exprs, stmts]
      subst hf0
      by_cases hk1 : x.kind = 1
      · have hk5 : ¬ x.kind = 5 := by omega
        rw [if_pos hk1] at hb
        replace hk1 := eqp hk1
        replace hk5 := eqn hk5
        rw [hb] at hi1 hi2 hG
        clear hb
        simp only [hk5, decide_false, Bool.or_false] at hi1
        by_cases hf1 : f1 = 0
        case neg =>
          simp [hf1] at hT
          rw [hT]
          clear hT hG hF hi2 hp
          replace hf1 := eqn hf1
          cases loop <;> simp [*, encStmt_eq, exprs, stmts]
        subst hf1
        by_cases hf2 : f2 = 0
        case neg =>
          simp [hf2] at hT
          rw [hT]
          clear hT hG hF hp
          replace hf2 := eqn hf2
          cases loop <;> simp [*, encStmt_eq, exprs, stmts]
        subst hf2
        simp at hG hF
        clear hT hp
        cases loop <;> simp [*, encStmt_eq, exprs, stmts]
      · rw [if_neg hk1] at hb
        replace hk1 := eqn hk1
        rw [hb] at hi1 hi2 hG
        clear hb hwi
        by_cases hf1 : f1 = 0
        case neg =>
          simp [hf1] at hT
          rw [hT]
          clear hT hG hF hi2 hp
          replace hf1 := eqn hf1
          cases loop <;> simp at hi1 <;> simp [*, encStmt_eq, exprs, stmts]
        subst hf1
        by_cases hf2 : f2 = 0
        case neg =>
          simp [hf2] at hT
          rw [hT]
          clear hT hG hF hp
          replace hf2 := eqn hf2
          cases loop <;> simp at hi1 <;> simp [*, encStmt_eq, exprs, stmts]
        subst hf2
        simp at hG hF
        clear hT hp
        cases loop <;> simp at hi1 <;> simp [*, encStmt_eq, exprs, stmts]
    · intros s1 hp h1 h2 h3 h4
      have hT := blockT_go p res d loop [] l vs n hp
      rw [List.append_nil, blockT] at hT
      rw [hT]
      simp at h1 h2 h3 h4
      clear hT hp hR
      simp [*]
end PE.U

/-
  Types: names that are counted.
-/
namespace PE.U
open Go PE

abbrev Cnt := List (List UInt8 × Int)
def encCnt (l : Cnt) : List (PV × PV) := l.map fun x => (.str x.1, .int .i64 x.2)
def getC (nm : List UInt8) : Cnt → Int
  | [] => 0
  | x :: r => if nm = x.1 then x.2 else getC nm r
def hasC (nm : List UInt8) (l : Cnt) : Bool := l.any fun x => decide (nm = x.1)
def setC (nm : List UInt8) (v : Int) : Cnt → Cnt
  | [] => [(nm, v)]
  | x :: r => if nm = x.1 then (nm, v) :: r else x :: setC nm v r

theorem find_cnt (nm : List UInt8) (l : Cnt) : mapFind true (.str nm) (encCnt l) = some (if hasC nm l then some (.int .i64 (getC nm l)) else none) := by
  induction l with
  | nil => simp [encCnt, hasC]
  | cons x r ih =>
    have ih' : mapFind true (.str nm) (r.map fun x => (PV.str x.1, PV.int .i64 x.2)) = _ := ih
    simp only [encCnt, List.map_cons, mapFind, keyEq, if_true]
    by_cases h : nm = x.1
    · simp [h, hasC, getC]
    · have hd : decide (nm = x.1) = false := decide_eq_false h
      simp only [decide_eq_false h, ih', getC, if_neg h, hasC, List.any_cons, Bool.false_or]
      rfl
theorem set_cnt (nm : List UInt8) (v : Int) (l : Cnt) : mapSet true (.str nm) (.int .i64 v) (encCnt l) = some (encCnt (setC nm v l)) := by
  induction l with
  | nil => simp [encCnt, setC]
  | cons x r ih =>
    have ih' : mapSet true (.str nm) (.int .i64 v) (r.map fun x => (PV.str x.1, PV.int .i64 x.2)) = _ := ih
    simp only [encCnt, List.map_cons, mapSet, keyEq, if_true]
    by_cases h : nm = x.1
    · simp [h, setC]
    · simp [h, ih', setC, encCnt]

/-- Names, counted one by one. -/
noncomputable def bump (l : Cnt) (nm : List UInt8) : Cnt := setC nm (wrapK .i64 (getC nm l + 1)) l
noncomputable def counts (l : Cnt) (d : List (List UInt8)) : Cnt := d.foldl bump l
theorem counts_snoc (l : Cnt) (d : List (List UInt8)) (x : List UInt8) : counts l (d ++ [x]) = bump (counts l d) x := by simp [counts]
theorem getC_none {nm : List UInt8} {l : Cnt} (h : hasC nm l = false) : getC nm l = 0 := by
  induction l with
  | nil => rfl
  | cons x r ih =>
    simp [hasC] at h ih
    rw [getC, if_neg h.1]
    exact ih (by simpa [hasC] using h.2)

theorem setC_keys (nm : List UInt8) (v : Int) (l : Cnt) : (setC nm v l).length = (if hasC nm l then l.length else l.length + 1) ∧ ∀ y, hasC y (setC nm v l) = (decide (y = nm) || hasC y l) := by
  induction l with
  | nil => simp [setC, hasC]
  | cons x r ih =>
    obtain ⟨i1, i2⟩ := ih
    unfold setC
    by_cases h : nm = x.1
    · rw [if_pos h]
      subst h
      refine ⟨by simp [hasC], fun y => ?_⟩
      simp [hasC]
    · rw [if_neg h]
      refine ⟨?_, fun y => ?_⟩
      · have : hasC nm (x :: r) = hasC nm r := by simp [hasC, h]
        rw [List.length_cons, i1, this]
        split <;> simp
      · have e1 : hasC y (x :: setC nm v r) = (decide (y = x.1) || hasC y (setC nm v r)) := by simp [hasC]
        have e2 : hasC y (x :: r) = (decide (y = x.1) || hasC y r) := by simp [hasC]
        rw [e1, e2, i2]
        cases decide (y = x.1) <;> simp

/-- The count of names tells whether each is its own. -/
theorem counts_len (d : List (List UInt8)) : (counts [] d).length ≤ d.length ∧ ((counts [] d).length = d.length ↔ d.Nodup) ∧ ∀ y, hasC y (counts [] d) = decide (y ∈ d) := by
  suffices h : ∀ d : List (List UInt8), (counts [] d.reverse).length ≤ d.length ∧ ((counts [] d.reverse).length = d.length ↔ d.Nodup) ∧ ∀ y, hasC y (counts [] d.reverse) = decide (y ∈ d) by
    have := h d.reverse
    rw [(List.reverse_perm d).nodup_iff] at this
    simpa using this
  intro d
  induction d with
  | nil => simp [counts, hasC]
  | cons x r ih =>
    obtain ⟨i1, i2, i3⟩ := ih
    rw [List.reverse_cons, counts_snoc]
    unfold bump
    obtain ⟨k1, k2⟩ := setC_keys x (wrapK .i64 (getC x (counts [] r.reverse) + 1)) (counts [] r.reverse)
    rw [i3] at k1
    refine ⟨?_, ?_, ?_⟩
    · rw [k1]; split <;> simp <;> omega
    · rw [k1, List.nodup_cons]
      by_cases hx : x ∈ r
      · simp [hx]; omega
      · simp [hx]; exact i2
    · intro y
      rw [k2, i3]
      simp

theorem mapLen (l : Cnt) : (encCnt l).length = l.length := by simp [encCnt]

def twiceM (l : List Par) : Bool := !decide ((l.map (·.name)).Nodup)

set_option maxHeartbeats 1000000 in
theorem twice_spec (l : List Par) (hl : l.length < 1099511000000) : pcall E 18 [parsV l] [] = some (.ret (.bool (twiceM l)), []) := by
  refine pcall_wp rfl rfl rfl (by simp [parsV]) ?_
  simp [F18, parsV]
  refine wp_each l K18_0 B18_0 (fun d => [(9, .int .i64 d.length)]) (fun d => [.mp (encCnt (counts [] (d.map (·.name))))]) (fun _ => True) (by omega) (by simp [counts, encCnt]) ?_ ?_
  · intros d x r s1 hl' hlt hget hget' hw1 hp h1 h2 h3 h4
    simp at h1 h2 h3 h4
    have f1 := find_cnt x.name (counts [] (d.map (·.name)))
    have s1' := set_cnt x.name (wrapK .i64 (getC x.name (counts [] (d.map (·.name))) + 1)) (counts [] (d.map (·.name)))
    have e1 : counts [] ((d ++ [x]).map (·.name)) = setC x.name (wrapK .i64 (getC x.name (counts [] (d.map (·.name))) + 1)) (counts [] (d.map (·.name))) := by rw [List.map_append, List.map_cons, List.map_nil, counts_snoc]; rfl
    have e2 := getC_none (nm := x.name) (l := counts [] (d.map (·.name)))
    generalize counts [] (d.map (·.name)) = c at *
    clear hl'
    cases hh : hasC x.name c
    · rw [hh] at f1
      have e2 := e2 hh
      rw [e2] at s1' e1
      simp at f1 s1' e1
      simp [*, encPar]
    · rw [hh] at f1
      clear e2
      simp at f1 s1' e1
      simp [*, encPar]
  · intros s1 hp h1 h2 h3 h4
    simp at h1 h2 h3 h4
    obtain ⟨c1, c2, c3⟩ := counts_len (l.map (·.name))
    have hlen := mapLen (counts [] (l.map (·.name)))
    simp only [List.length_map] at c1 c2
    generalize counts [] (l.map (·.name)) = c at *
    have hR : twiceM l = decide ((c.length : Int) < l.length) := by
      unfold twiceM
      rw [← decide_not, decide_eq_decide, ← c2]; omega
    clear c1 c2 c3 hp
    simp [*]

def mainN : List UInt8 := [109, 97, 105, 110]
def namedM (p : Prog) : Bool := decide ((p.arrays.map (·.name) ++ p.funcs.map (·.name)).Nodup) && (match funcAt p mainN with
  | some f => decide (f.type = 1) && decide (f.params = [])
  | none => false)

set_option maxHeartbeats 4000000 in
theorem tnamed_spec (p : Prog) (hz : Fit p) : pcall E 17 [encProg p] [] = some (.ret (.bool (namedM p)), []) := by
  have ha := hz.a
  have hf := hz.f
  have hpl := place_spec p mainN [] (by omega)
  have hsum : wrapK .i64 ((p.arrays.length : Int) + p.funcs.length) = (p.arrays.length : Int) + p.funcs.length := wrapK_small (by omega) (by omega)
  refine pcall_wp rfl rfl rfl (by simp [encProg]) ?_
  simp [F17, encProg, parrs, funcs]
  refine wp_each p.arrays K17_0 B17_0 (fun d => [(13, .int .i64 d.length)]) (fun d => [.mp (encCnt (counts [] (d.map (·.name))))]) (fun _ => True) (by omega) (by simp [counts, encCnt]) ?_ ?_
  · intros d x r s1 hl' hlt hget hget' hw1 hp h1 h2 h3 h4
    simp at h1 h2 h3 h4
    have f1 := find_cnt x.name (counts [] (d.map (·.name)))
    have s1' := set_cnt x.name (wrapK .i64 (getC x.name (counts [] (d.map (·.name))) + 1)) (counts [] (d.map (·.name)))
    have e1 : counts [] ((d ++ [x]).map (·.name)) = setC x.name (wrapK .i64 (getC x.name (counts [] (d.map (·.name))) + 1)) (counts [] (d.map (·.name))) := by rw [List.map_append, List.map_cons, List.map_nil, counts_snoc]; rfl
    have e2 := getC_none (nm := x.name) (l := counts [] (d.map (·.name)))
    generalize counts [] (d.map (·.name)) = c at *
    clear hl' hpl hsum ha hf
    cases hh : hasC x.name c
    · rw [hh] at f1
      have e2 := e2 hh
      rw [e2] at s1' e1
      simp at f1 s1' e1
      simp [*, encPArr]
    · rw [hh] at f1
      clear e2
      simp at f1 s1' e1
      simp [*, encPArr]
  intros s1 hp h1 h2 h3 h4
  simp at h1 h2 h3 h4
  clear hp
  simp [*]
  refine wp_each p.funcs K17_1 B17_1 (fun d => [(26, .int .i64 d.length)]) (fun d => [.mp (encCnt (counts [] (p.arrays.map (·.name) ++ d.map (·.name))))]) (fun _ => True) (by omega) ?_ ?_ ?_
  · simp [*]
  · intros d x r s2 hl' hlt hget hget' hw1 hp g1 g2 g3 g4
    simp at g1 g2 g3 g4
    have f1 := find_cnt x.name (counts [] (p.arrays.map (·.name) ++ d.map (·.name)))
    have s1' := set_cnt x.name (wrapK .i64 (getC x.name (counts [] (p.arrays.map (·.name) ++ d.map (·.name))) + 1)) (counts [] (p.arrays.map (·.name) ++ d.map (·.name)))
    have e1 : counts [] (p.arrays.map (·.name) ++ (d ++ [x]).map (·.name)) = setC x.name (wrapK .i64 (getC x.name (counts [] (p.arrays.map (·.name) ++ d.map (·.name))) + 1)) (counts [] (p.arrays.map (·.name) ++ d.map (·.name))) := by rw [List.map_append, List.map_cons, List.map_nil, ← List.append_assoc, counts_snoc]; rfl
    have e2 := getC_none (nm := x.name) (l := counts [] (p.arrays.map (·.name) ++ d.map (·.name)))
    generalize counts [] (p.arrays.map (·.name) ++ d.map (·.name)) = c at *
    clear hl' hpl hsum ha hf h1 h2 h4
    cases hh : hasC x.name c
    · rw [hh] at f1
      have e2 := e2 hh
      rw [e2] at s1' e1
      simp at f1 s1' e1
      simp [*, encFunc]
    · rw [hh] at f1
      clear e2
      simp at f1 s1' e1
      simp [*, encFunc]
  · intros s2 hp g1 g2 g3 g4
    simp at g1 g2 g3 g4
    obtain ⟨c1, c2, c3⟩ := counts_len (p.arrays.map (·.name) ++ p.funcs.map (·.name))
    have hlen := mapLen (counts [] (p.arrays.map (·.name) ++ p.funcs.map (·.name)))
    simp only [List.length_map, List.length_append] at c1 c2
    unfold namedM
    have hR : decide ((p.arrays.map (·.name) ++ p.funcs.map (·.name)).Nodup) = decide (((counts [] (p.arrays.map (·.name) ++ p.funcs.map (·.name))).length : Int) = (p.arrays.length : Int) + p.funcs.length) := by
      rw [decide_eq_decide, ← c2]; omega
    rw [hR]
    generalize counts [] (p.arrays.map (·.name) ++ p.funcs.map (·.name)) = c at *
    clear c1 c2 c3 hp h1 h2 h4 hR
    simp [encProg, mainN, parrs, funcs] at hpl
    rcases idx_cases (fun f : Func => decide (f.name = mainN)) p.funcs with ⟨a1, a2⟩ | ⟨n, f, a1, a2, a3, a4, a5⟩
    · have a1 : placeM p mainN = -1 := a1
      have a2 : funcAt p mainN = none := a2
      simp [mainN] at a1
      rw [a1] at hpl
      rw [a2]
      clear ha hf a2 a1
      by_cases hq : (c.length : Int) = (p.arrays.length : Int) + p.funcs.length
      · replace hq := eqp hq
        simp [*]
      · replace hq := eqn hq
        simp [*]
    · have a1 : placeM p mainN = n := a1
      have a3 : funcAt p mainN = some f := a3
      simp [mainN] at a1
      rw [a1] at hpl
      rw [a3]
      clear ha hf a3 a4 a5 a1
      by_cases hq : (c.length : Int) = (p.arrays.length : Int) + p.funcs.length
      · replace hq := eqp hq
        by_cases ht : f.type = 1
        · replace ht := eqp ht
          simp [*, encFunc, parsV]
        · replace ht := eqn ht
          simp [*, encFunc, parsV]
      · replace hq := eqn hq
        simp [*]
end PE.U

/-
  Types: what is wrong with a program.
-/
namespace PE.U
open Go PE

/-- What is wrong with a function, and the number of statements. -/
def func1 (p : Prog) (f : Func) : Int × Int :=
  if twiceM f.params then (50, 0)
  else
    let q := blockT p f.type f.body (scopedV f.params) 1 false 0
    (if q.1 = 0 ∧ endsT f.body = false then 52 else q.1, q.2)
def checkGo (p : Prog) : List Func → Int → Int × Int × Int
  | [], _ => (0, 0, 0)
  | f :: r, i => if (func1 p f).1 ≠ 0 then ((func1 p f).1, i, (func1 p f).2) else checkGo p r (i + 1)
def checkT (p : Prog) : Int × Int × Int := if rightR p then if namedM p then checkGo p p.funcs 0 else (50, 0, 0) else (1, 0, 0)
def encCheck (r : Int × Int × Int) : PV := .tup [.int .i64 r.1, .agg [.int .i64 r.2.1, .int .i64 r.2.2]]

theorem checkGo_pre (p : Prog) (r : List Func) : ∀ (d : List Func) (i : Int), (∀ f ∈ d, (func1 p f).1 = 0) → checkGo p (d ++ r) i = checkGo p r (i + d.length)
  | [], i, _ => by simp
  | f :: d, i, h => by
    have h1 := h f (by simp)
    rw [List.cons_append, checkGo, if_neg (by rw [h1]; simp), checkGo_pre p r d (i + 1) (fun g hg => h g (by simp [hg]))]
    rw [List.length_cons]
    congr 1; omega

theorem PSz.fit {p : Prog} (h : PSz p) : Fit p := ⟨h.1, h.2.1, fun f hf => (h.2.2 f hf).2⟩

set_option maxRecDepth 20000 in
set_option maxHeartbeats 8000000 in
theorem check_spec (p : Prog) (hz : PSz p) : pcall E 8 [encProg p] [] = some (.ret (encCheck (checkT p)), []) := by
  have hfit := hz.fit
  obtain ⟨z1, z2, z3⟩ := hz
  have hr := tright_spec p ⟨z1, z2, z3⟩
  have hn := tnamed_spec p hfit
  refine pcall_wp rfl rfl rfl (by simp [encProg]) ?_
  unfold checkT
  cases hR : rightR p
  · rw [hR] at hr
    clear hn hfit z3
    simp [encProg] at hr
    simp [*, F8, encProg, encCheck]
  cases hN : namedM p
  · rw [hR] at hr
    rw [hN] at hn
    clear hfit z3
    simp [encProg] at hr hn
    simp [*, F8, encProg, encCheck]
  rw [hR] at hr
  rw [hN] at hn
  simp [encProg, funcs] at hr hn
  simp [hr, hn, F8, encProg, funcs]
  refine wp_eachB p.funcs K8_0 B8_0 (fun d => [(21, .int .i64 d.length)]) (fun d => [(3, .cells [.int .i64 0, .int .i64 0])]) (fun d => d.map fun f => fob p f.type (func1 p f).2) (fun d => ∀ f ∈ d, (func1 p f).1 = 0) (by omega) (by simp) ?_ ?_
  · intros d x r s1 hl' hlt hget hget' hw1 hp h1 h2 h3 h5 h4
    have hC := checkGo_pre p (x :: r) d 0 hp
    rw [← hl'.eq, checkGo, Int.zero_add] at hC
    obtain ⟨y1, y2⟩ := z3 x hl'.mem
    have hbR : stmtsR x.body 100 = true := by
      unfold rightR at hR
      rw [Bool.and_eq_true, List.all_eq_true, List.all_eq_true] at hR
      have := hR.2 x hl'.mem
      unfold funcR at this
      simp only [Bool.and_eq_true] at this
      exact this.2.2.2.1
    have e1 := twice_spec x.params (by omega)
    have e2 := scoped_spec x.params [] (by omega)
    have e3 := ends_spec x.body 100 y1 hbR
    have hlen : (d.map fun f => fob p f.type (func1 p f).2).length = d.length := by simp
    have e4 := block_spec' (wtSs x.body) p x.type x.body (scopedV x.params) 1 100 0 false ((d.map fun f => fob p f.type (func1 p f).2) ++ [fob p x.type 0]) d.length (Nat.le_refl _) y1 hfit hbR (by omega) (by omega) (by omega) (by omega) (by omega) (by rw [List.getElem?_append_right (by omega), hlen]; simp)
    have hnx : (func1 p x).1 = 0 → ∀ f ∈ d ++ [x], (func1 p f).1 = 0 := by
      intro h f hf
      rcases List.mem_append.1 hf with hf | hf
      · exact hp f hf
      · rw [List.mem_singleton.1 hf]; exact h
    have hset : ∀ v, ((d.map fun f => fob p f.type (func1 p f).2) ++ [fob p x.type 0]).set d.length v = (d.map fun f => fob p f.type (func1 p f).2) ++ [v] := by
      intro v
      rw [List.set_append_right _ _ (by omega), hlen]; simp
    have hmap : (d ++ [x]).map (fun f => fob p f.type (func1 p f).2) = (d.map fun f => fob p f.type (func1 p f).2) ++ [fob p x.type (func1 p x).2] := by simp
    rw [hset] at e4
    have h1x : func1 p x = if twiceM x.params then (50, 0) else (if (blockT p x.type x.body (scopedV x.params) 1 false 0).1 = 0 ∧ endsT x.body = false then 52 else (blockT p x.type x.body (scopedV x.params) 1 false 0).1, (blockT p x.type x.body (scopedV x.params) 1 false 0).2) := rfl
    generalize hfx : func1 p x = fx at *
    generalize blockT p x.type x.body (scopedV x.params) 1 false 0 = q at *
    generalize twiceM x.params = tw at *
    generalize endsT x.body = en at *
    obtain ⟨f, n⟩ := q
    obtain ⟨fe, fn⟩ := fx
    simp only at e4 hC hnx hmap h1x
    generalize hσ : (d.map fun f => fob p f.type (func1 p f).2) = σ at *
    have hget0 : (σ ++ [fob p x.type n])[d.length]? = some (fob p x.type n) := by rw [List.getElem?_append_right (by omega), hlen]; simp
    simp at h1 h2 h3 h4 h5
    simp [parsV] at e1 e2
    simp [stmts] at e3 e4
    clear hl' hR hN hset hbR y1 y2 z1 z2 z3 hfit hp
    unfold fob at *
    simp only [funcs] at e4 hget0 hmap
    cases tw
    case true =>
      simp at h1x
      obtain ⟨rfl, rfl⟩ := h1x
      simp at hC
      clear e2 e3 e4 hnx hmap hget0 hlen hfx
      simp [*, encFunc, parsV, stmts, encCheck]
    simp at h1x
    obtain ⟨ha, rfl⟩ := h1x
    by_cases hf : f = 0
    · subst hf
      cases en
      · simp at ha
        subst ha
        simp at hC
        clear hnx hmap hfx
        simp [*, encFunc, parsV, stmts, encCheck]
      · simp at ha
        subst ha
        replace hnx := hnx rfl
        have keep : fn = (func1 p x).2 ∧ ∀ g, g ∈ d ∨ g = x → (func1 p g).1 = 0 := ⟨by rw [hfx], fun g hg => hnx g (by simpa using hg)⟩
        clear hC hnx hfx hmap
        simp [*, -keep, encFunc, parsV, stmts, encCheck]
        exact ⟨⟨rfl, keep.1⟩, keep.2⟩
    · simp [hf] at ha
      subst ha
      simp [hf] at hC
      replace hf := eqn hf
      clear hnx hmap hfx
      simp [*, encFunc, parsV, stmts, encCheck]
  · intros s1 hp h1 h2 h3 h5 h4
    have hC := checkGo_pre p [] p.funcs 0 hp
    rw [List.append_nil, checkGo] at hC
    rw [hC]
    simp at h1 h2 h3 h4 h5
    clear hp hC z3
    simp [*, encCheck]
end PE.U

/-
  Texts of functions' bodies.
-/
namespace PE.U
open Go PE

def u8s (l : List UInt8) : PV := .slice .plain 1 (l.map fun b => .int .u8 b.toNat)
section
variable (l : List UInt8)
@[simp high] theorem isCell_u8s : isCell (u8s l) = true := Eq.trans rfl rfl
@[simp high] theorem isVar_u8s : isVar (u8s l) = true := Eq.trans rfl rfl
@[simp high] theorem canon1_u8s : canon1 (u8s l) = u8s l := Eq.trans rfl rfl
@[simp high] theorem strip_u8s : strip (u8s l) = u8s l := Eq.trans rfl rfl
@[simp high] theorem stripA_u8s : stripA (u8s l) = u8s l := Eq.trans rfl rfl
@[simp high] theorem isOwn_u8s : isOwn (u8s l) = none := Eq.trans rfl rfl
@[simp high] theorem cellsOf_u8s : cellsOf (u8s l) = [u8s l] := Eq.trans rfl rfl
@[simp high] theorem avoids_u8s (dead : List Nat) : avoids dead (u8s l) = true := Eq.trans rfl rfl
@[simp high] theorem bl_u8 (n : Nat) : belowL n (l.map fun b => PV.int .u8 b.toNat) = true := belowL_map _ _ _ (fun _ => rfl)
@[simp high] theorem below_u8s (n : Nat) : belowV n (u8s l) = true := by simp [u8s]
end

theorem remNat (a b : Nat) : remK (a : Int) (b : Int) = ((a % b : Nat) : Int) := by rw [remK_eq]; rfl

def texts05 : List (List UInt8) := [[120, 32, 61, 32, 49, 59], [105, 110, 116, 32, 121, 32, 61, 32, 120, 59], [98, 111, 111, 108, 32, 98, 32, 61, 32, 120, 32, 60, 32, 50, 59], [98, 32, 61, 32, 33, 98, 59], [97, 91, 120, 93, 32, 61, 32, 121, 59], [105, 102, 32, 40, 98, 41, 32, 123], [125, 32, 101, 108, 115, 101, 32, 123], [125], [119, 104, 105, 108, 101, 32, 40, 120, 32, 60, 32, 51, 41, 32, 123], [119, 104, 105, 108, 101, 32, 40, 116, 114, 117, 101, 41, 32, 123], [98, 114, 101, 97, 107, 59], [99, 111, 110, 116, 105, 110, 117, 101, 59], [114, 101, 116, 117, 114, 110, 32, 120, 59], [114, 101, 116, 117, 114, 110, 32, 98, 59], [112, 114, 105, 110, 116, 40, 120, 32, 43, 32, 97, 91, 48, 93, 41, 59], [102, 40, 120, 44, 32, 98, 41, 59], [105, 110, 116, 32, 120, 32, 61, 32, 50, 59], [120, 32, 61, 32, 102, 40, 49, 44, 32, 116, 114, 117, 101, 41, 59], [98, 32, 61, 32, 102, 40, 120, 44, 32, 98, 41, 32, 61, 61, 32, 50, 32, 38, 38, 32, 98, 59], [121, 32, 61, 32, 105, 56, 40, 120, 41, 59], [98, 32, 61, 32, 120, 59], [120, 32, 61, 32, 45, 98, 59], [114, 101, 116, 117, 114, 110, 32, 102, 40, 120, 44, 32, 98, 32, 61, 61, 32, 116, 114, 117, 101, 41, 59], [122, 32, 61, 32, 49, 59], [99, 91, 48, 93, 32, 61, 32, 49, 59], [104, 40, 41, 59], [120, 32, 61, 32, 114, 101, 97, 100, 40, 41, 59], [123], [114, 101, 116, 117, 114, 110, 32, 48, 59], [112, 114, 105, 110, 116, 40, 116, 114, 117, 101, 41, 59], [98, 32, 61, 32, 116, 114, 117, 101, 32, 33, 61, 32, 40, 120, 32, 62, 32, 49, 41, 59]]
theorem texts05_spec : pcall E 15 [] [] = some (.ret (.slice .plain 1 (texts05.map PV.str)), []) := by
  refine pcall_wp rfl rfl rfl (by simp) ?_
  simp [F15, texts05]

def pre05 : List UInt8 := [105, 110, 116, 32, 97, 91, 52, 93, 59, 10, 105, 110, 116, 32, 102, 40, 105, 110, 116, 32, 120, 44, 32, 98, 111, 111, 108, 32, 98, 41, 32, 123, 10]
def ret05 : List UInt8 := [114, 101, 116, 117, 114, 110, 32, 49, 59, 10]
def suf05 : List UInt8 := [125, 10, 105, 110, 116, 32, 109, 97, 105, 110, 40, 41, 32, 123, 32, 114, 101, 116, 117, 114, 110, 32, 102, 40, 49, 44, 32, 116, 114, 117, 101, 41, 59, 32, 125, 10]
def piece05 (b : UInt8) : List UInt8 := texts05[b.toNat % 31]?.getD [] ++ [10]
def bodyM (l : List UInt8) (ends : Bool) : List UInt8 := pre05 ++ ((l.take 14).flatMap piece05 ++ ((if ends then ret05 else []) ++ suf05))
theorem texts05_get (k : Nat) (h : k < 31) : texts05[k]? = some (texts05[k]?.getD []) ∧ (texts05[k]?.getD []).length ≤ 29 := by
  have : ∀ k, k < 31 → texts05[k]? = some (texts05[k]?.getD []) ∧ (texts05[k]?.getD []).length ≤ 29 := by decide
  exact this k h

def q05 (l : List UInt8) (i : Nat) : List UInt8 := (l.take i).flatMap piece05
theorem piece05_len (b : UInt8) : (piece05 b).length ≤ 30 := by
  obtain ⟨g1, g2⟩ := texts05_get (b.toNat % 31) (Nat.mod_lt _ (by decide))
  unfold piece05
  rw [List.length_append]
  simp only [List.length_cons, List.length_nil]
  omega
theorem flat05_len (l : List UInt8) : (l.flatMap piece05).length ≤ 30 * l.length := by
  induction l with
  | nil => simp
  | cons b r ih =>
    have := piece05_len b
    rw [List.flatMap_cons, List.length_append, List.length_cons]; omega
theorem q05_len (l : List UInt8) (i : Nat) : (q05 l i).length ≤ 30 * i := by
  have h1 := flat05_len (l.take i)
  have h2 : (l.take i).length ≤ i := by rw [List.length_take]; omega
  unfold q05; omega
theorem q05_succ (l : List UInt8) (i : Nat) (h : i < l.length) : q05 l (i + 1) = q05 l i ++ (texts05[l[i].toNat % 31]?.getD [] ++ [10]) := by
  unfold q05
  rw [List.take_add_one, List.getElem?_eq_getElem h, Option.toList_some, List.flatMap_append, List.flatMap_singleton]; rfl

set_option maxHeartbeats 1000000 in
theorem body_spec (l : List UInt8) (ends : Bool) (hl : l.length ≤ 9223372036854775807) : pcall E 7 [u8s l, .bool ends] [] = some (.ret (.str (bodyM l ends)), []) := by
  refine pcall_wp rfl rfl rfl (by simp) ?_
  have ht := texts05_spec
  have htl : texts05.length = 31 := rfl
  simp [*, F7, u8s]
  refine wp_while K7_0 B7_0 (fun i : Nat => 14 - i) (fun i => [(5, .str (pre05 ++ q05 l i)), (7, .int .i64 i)]) (fun _ => []) (fun _ => []) (fun i => i ≤ 14 ∧ i ≤ l.length) 0 (by simp [pre05, q05]) ?_
  rintro i s1 ⟨hi, hil⟩ h1 h2 h3 h4 h5
  simp at h1 h3 h5
  clear h2 h4
  have hlen := q05_len l i
  have hp : pre05.length = 33 := rfl
  by_cases hc : i < l.length ∧ i < 14
  · obtain ⟨c1, c2⟩ := hc
    obtain ⟨g1, g2⟩ := texts05_get (l[i].toNat % 31) (Nat.mod_lt _ (by decide))
    have hrem : remK (l[i].toNat : Int) 31 = ((l[i].toNat % 31 : Nat) : Int) := remNat _ 31
    have htk := q05_succ l i c1
    have hget : l[i]? = some l[i] := List.getElem?_eq_getElem c1
    generalize texts05[l[i].toNat % 31]?.getD [] = t at *
    generalize hb : l[i] = b at *
    generalize hk : b.toNat % 31 = k at *
    generalize q05 l i = q at *
    have k1 : ((i : Int) < l.length) = True := eqp (by omega)
    have k2 : ((i : Int) < 14) = True := eqp (by omega)
    have hw : wrapK .i64 ((i : Int) + 1) = (i : Int) + 1 := wrapK_small (by omega) (by omega)
    have m1 : 33 + q.length + t.length ≤ 9223372036854775807 := by omega
    have m2 : 33 + q.length + t.length + 1 ≤ 9223372036854775807 := by omega
    have m1' : 33 + (q.length + t.length) ≤ 9223372036854775807 := by omega
    have m2' : 33 + (q.length + (t.length + 1)) ≤ 9223372036854775807 := by omega
    have m2'' : 33 + (q.length + t.length) + 1 ≤ 9223372036854775807 := by omega
    clear ht hk c1 hb
    simp [*]
    exact ⟨i + 1, by omega, ⟨by rw [htk], by omega⟩, by omega, by have := of_eq_true k1; omega⟩
  · have e : l.take 14 = l.take i := by
      by_cases h14 : i = 14
      · rw [h14]
      · have : l.length ≤ i := by omega
        rw [List.take_of_length_le this, List.take_of_length_le (by omega)]
    have e2 : bodyM l ends = pre05 ++ (q05 l i ++ ((if ends then ret05 else []) ++ suf05)) := by unfold bodyM q05; rw [e]
    rw [e2]
    clear e e2
    generalize q05 l i = q at *
    have m1 : 33 + q.length + 10 ≤ 9223372036854775807 := by omega
    have m2 : 33 + q.length + 10 + 36 ≤ 9223372036854775807 := by omega
    have m3 : 33 + q.length + 36 ≤ 9223372036854775807 := by omega
    have m1' : 33 + (q.length + 10) ≤ 9223372036854775807 := by omega
    have m2' : 33 + (q.length + 10) + 36 ≤ 9223372036854775807 := by omega
    have m3' : 33 + (q.length + 36) ≤ 9223372036854775807 := by omega
    by_cases k1 : (i : Int) < l.length
    · have k2 : ¬ (i : Int) < 14 := by omega
      replace k1 := eqp k1
      replace k2 := eqn k2
      clear ht
      cases ends <;> simp [*, ret05, suf05]
    · replace k1 := eqn k1
      clear ht
      cases ends <;> simp [*, ret05, suf05]
end PE.U

/-
  Types: what any right program answers.
-/
namespace PE.U
open Go PE

def aw1 : List UInt8 := [105, 110, 116, 32, 109, 97, 105, 110, 40, 41, 32, 123, 32, 98, 111, 111, 108, 32, 98, 32, 61, 32, 49, 59, 32, 125]
def aw2 : List UInt8 := [105, 110, 116, 32, 97, 91, 50, 93, 59, 32, 105, 110, 116, 32, 109, 97, 105, 110, 40, 41, 32, 123, 32, 105, 110, 116, 32, 120, 32, 61, 32, 97, 91, 48, 93, 59, 32, 119, 104, 105, 108, 101, 32, 40, 120, 32, 60, 32, 50, 41, 32, 123, 32, 120, 32, 61, 32, 120, 32, 43, 32, 49, 59, 32, 125, 32, 114, 101, 116, 117, 114, 110, 32, 120, 59, 32, 125]

theorem aw1_ok : checkT (parseM aw1).1 = (51, 0, 0) := by decide +kernel
theorem aw2_ok : checkT (parseM aw2).1 = (0, 0, 0) ∧ placeM (parseM aw2).1 mainN = 0 ∧ arrayM (parseM aw2).1 [97] = 0 ∧ arrayM (parseM aw2).1 mainN = -1 := by decide +kernel

theorem parse_psz (s : List UInt8) : PSz (parseM s).1 := by
  have h0 : PSz ⟨[], []⟩ := ⟨by simp, by simp, by simp⟩
  unfold parseM
  split
  · rename_i h
    obtain ⟨v, p', e, I', hz⟩ := parse_run s h
    rw [e]
    simp only
    split
    · exact h0
    split
    · exact h0
    split
    · exact hz
    · exact h0
  · exact h0

set_option maxHeartbeats 1000000 in
theorem awake05_spec : pcall E 5 [] [] = some (.ret (.bool true), []) := by
  refine pcall_wp rfl rfl rfl (by simp) ?_
  have p1 := parse_spec aw1
  have p2 := parse_spec aw2
  have z1 := parse_psz aw1
  have z2 := parse_psz aw2
  have c1 := check_spec _ z1
  have c2 := check_spec _ z2
  obtain ⟨a1, a2, a3, a4⟩ := aw2_ok
  have b2 := place_spec (parseM aw2).1 mainN [] (by have := z2.2.1; omega)
  have b3 := array_spec (parseM aw2).1 [97] [] (by have := z2.1; omega)
  have b4 := array_spec (parseM aw2).1 mainN [] (by have := z2.1; omega)
  rw [aw1_ok] at c1
  rw [a1] at c2
  rw [a2] at b2
  rw [a3] at b3
  rw [a4] at b4
  clear z1 z2 a1 a2 a3 a4
  generalize parseM aw1 = q1 at *
  generalize parseM aw2 = q2 at *
  obtain ⟨⟨ar1, fs1⟩, e1, n1⟩ := q1
  obtain ⟨⟨ar2, fs2⟩, e2, n2⟩ := q2
  simp [encParse, encProg, encCheck, aw1, aw2, mainN] at p1 p2 c1 c2 b2 b3 b4
  simp [*, F5]
end PE.U

/-
  What the parser makes of a body's text.
-/
namespace PE.U
open Go PE

def preK : List KT := [(2, [105, 110, 116]), (1, [97]), (2, [91]), (0, [52]), (2, [93]), (2, [59]), (2, [105, 110, 116]), (1, [102]), (2, [40]), (2, [105, 110, 116]), (1, [120]), (2, [44]), (2, [98, 111, 111, 108]), (1, [98]), (2, [41]), (2, [123])]
def sufK : List KT := [(2, [125]), (2, [105, 110, 116]), (1, [109, 97, 105, 110]), (2, [40]), (2, [41]), (2, [123]), (2, [114, 101, 116, 117, 114, 110]), (1, [102]), (2, [40]), (0, [49]), (2, [44]), (2, [116, 114, 117, 101]), (2, [41]), (2, [59]), (2, [125])]
def retK : List KT := [(2, [114, 101, 116, 117, 114, 110]), (0, [49]), (2, [59])]
def pieceK (b : UInt8) : List KT := (tokS (texts05[b.toNat % 31]?.getD [])).getD []
def midK (l : List UInt8) (ends : Bool) : List KT := (l.take 14).flatMap pieceK ++ (if ends then retK else [])

theorem pieceK_ok (b : UInt8) : tokS (texts05[b.toNat % 31]?.getD []) = some (pieceK b) := by
  have h : ∀ k, k < 31 → tokS (texts05[k]?.getD []) = some ((tokS (texts05[k]?.getD [])).getD []) := by decide +kernel
  exact h _ (Nat.mod_lt _ (by decide))

theorem tokS_pieces (R : List UInt8) (K : List KT) (h : tokS R = some K) : ∀ l : List UInt8, tokS (l.flatMap piece05 ++ R) = some (l.flatMap pieceK ++ K)
  | [] => h
  | b :: l => by
    have e : (b :: l).flatMap piece05 ++ R = (texts05[b.toNat % 31]?.getD []) ++ 10 :: (l.flatMap piece05 ++ R) := by
      rw [List.flatMap_cons]; unfold piece05; simp
    rw [e, tokS_nl, pieceK_ok, tokS_pieces R K h l]
    simp

theorem tokS_body (l : List UInt8) (ends : Bool) : tokS (bodyM l ends) = some (preK ++ (midK l ends ++ sufK)) := by
  have e1 : ∀ x, pre05 ++ x = pre05.dropLast ++ 10 :: x := fun x => rfl
  have h1 : tokS pre05.dropLast = some preK := by decide +kernel
  have h2 : tokS suf05 = some sufK := by decide +kernel
  have h3 : tokS (ret05 ++ suf05) = some (retK ++ sufK) := by decide +kernel
  unfold bodyM
  rw [e1, tokS_nl, h1]
  have h4 : tokS ((if ends then ret05 else []) ++ suf05) = some ((if ends then retK else []) ++ sufK) := by
    cases ends
    · exact h2
    · exact h3
  rw [tokS_pieces _ _ h4]
  unfold midK
  simp

/-! ### Where a function may begin -/

def isTy (x : KT) : Bool := decide (x = (2, [105, 110, 116])) || decide (x = (2, [98, 111, 111, 108]))
def declB : List KT → Bool
  | [] => true
  | x :: r => (!isTy x || decide (r[1]? = some (2, [61]))) && declB r
theorem declB_get : ∀ {l : List KT} {i : Nat} {x : KT}, declB l = true → l[i]? = some x → isTy x = true → l[i + 2]? = some (2, [61])
  | [], i, x, _, h, _ => by simp at h
  | y :: r, 0, x, hd, h, ht => by
    simp only [List.getElem?_cons_zero, Option.some.injEq] at h
    subst h
    simp only [declB, ht, Bool.not_true, Bool.false_or, Bool.and_eq_true, decide_eq_true_eq] at hd
    exact hd.1
  | y :: r, i + 1, x, hd, h, ht => by
    simp only [declB, Bool.and_eq_true] at hd
    simp only [List.getElem?_cons_succ] at h
    have := declB_get (i := i) hd.2 h ht
    simpa using this
theorem declB_append : ∀ {a b : List KT}, declB a = true → declB b = true → declB (a ++ b) = true
  | [], b, _, h => h
  | x :: a, b, ha, hb => by
    simp only [declB, Bool.and_eq_true] at ha
    rw [List.cons_append, declB, declB_append ha.2 hb, Bool.and_true]
    rcases Bool.or_eq_true _ _ |>.mp ha.1 with h | h
    · rw [h]; rfl
    · simp only [decide_eq_true_eq] at h
      have hlt : 1 < a.length := (List.getElem?_eq_some_iff.1 h).1
      rw [List.getElem?_append_left hlt, h]; simp
theorem midK_decl (l : List UInt8) (ends : Bool) : declB (midK l ends) = true := by
  have hp : ∀ b, declB (pieceK b) = true := by
    intro b
    have h : ∀ k, k < 31 → declB ((tokS (texts05[k]?.getD [])).getD []) = true := by decide +kernel
    exact h _ (Nat.mod_lt _ (by decide))
  have h1 : ∀ l : List UInt8, declB (l.flatMap pieceK) = true := by
    intro l
    induction l with
    | nil => rfl
    | cons b r ih => rw [List.flatMap_cons]; exact declB_append (hp b) ih
  unfold midK
  refine declB_append (h1 _) ?_
  cases ends <;> decide

def sufE : List KT := sufK ++ [(3, [])]
def ktAt (L : List KT) (i : Nat) : KT := L[i]?.getD (3, [])
theorem kt_at {T : List Tok} {L : List KT} (h : T.map kt = L) (i : Nat) : kt (tk T i) = ktAt L i := by
  subst h
  unfold tk ktAt
  rw [List.getElem?_map]
  cases T[i]? <;> rfl

theorem begins (l : List UInt8) (ends : Bool) (q : Nat) (hq : 16 ≤ q) (h1 : isTy (ktAt (preK ++ (midK l ends ++ sufE)) q) = true) (h2 : ktAt (preK ++ (midK l ends ++ sufE)) (q + 2) = (2, [40])) : q = 16 + (midK l ends).length + 1 := by
  have hd := midK_decl l ends
  generalize midK l ends = M at *
  have hp : preK.length = 16 := rfl
  unfold ktAt at h1 h2
  rw [List.getElem?_append_right (by omega), hp] at h1 h2
  obtain ⟨i, rfl⟩ : ∃ i, q = 16 + i := ⟨q - 16, by omega⟩
  rw [show 16 + i - 16 = i from by omega] at h1
  rw [show 16 + i + 2 - 16 = i + 2 from by omega] at h2
  by_cases hi : i < M.length
  · exfalso
    rw [List.getElem?_append_left hi] at h1
    have hg : M[i]? = some M[i] := List.getElem?_eq_getElem hi
    rw [hg] at h1
    have := declB_get hd hg h1
    have hlt := (List.getElem?_eq_some_iff.1 this).1
    rw [List.getElem?_append_left hlt, this] at h2
    exact absurd h2 (by decide)
  · obtain ⟨j, rfl⟩ : ∃ j, i = M.length + j := ⟨i - M.length, by omega⟩
    rw [List.getElem?_append_right (by omega), show M.length + j - M.length = j from by omega] at h1
    have hj : ∀ j, j < 16 → isTy (sufE[j]?.getD (3, [])) = true → j = 1 := by decide
    by_cases h16 : j < 16
    · have := hj j h16 h1; omega
    · have : sufE[j]? = none := List.getElem?_eq_none (by simpa [sufE, sufK] using h16)
      rw [this] at h1
      exact absurd h1 (by decide)

/-! ### On the way nothing is given back -/

section
variable {T : List Tok} {M : Nat}
theorem params_fw : ∀ n l (f : Bool) p v p', paramsF T n l f p = some (v, p') → Fw p p' := by
  intro n
  induction n with
  | zero => intro l f p v p' h; simp [paramsF] at h
  | succ n ih =>
    intro l f p v p' h
    simp only [paramsF] at h
    have hq : Fw p (if f = true then p else adv p) := by split; exact Fw.refl _; exact fw_adv p
    by_cases c : (f || isF T [44] p) = true
    · rw [if_pos c] at h
      generalize (if f = true then p else adv p) = q at *
      split at h
      · cases h; exact hq
      · have := ih _ _ _ _ _ h
        exact hq.trans (((fw_typed T q).trans (fw_text T 1 _)).trans this)
    · rw [if_neg c] at h
      cases h; exact Fw.refl _
theorem function_fw {n : Nat} {t : Int} {s : List UInt8} {p p' : PS} {v : Func} (hS : Short T M) (I : Inv1 T p) (h : functionF T n t s p = some (v, p')) : Fw (mustF T [40] p) p' := by
  unfold functionF at h
  have I1 := I.must [40]
  split at h
  · rename_i hc
    split at h
    · cases h
    · rename_i q hq
      cases h
      have := ((lightS hS n).block _ _ _ _ _ ((I1.adv _ hc).must [123]) hq 0 (by simp [wtSs])).2.1
      exact ((fw_adv _).trans (fw_must T [123] _)).trans this
  · split at h
    · cases h
    · rename_i r hr
      have Ir := paramsF_inv _ _ _ _ _ _ hr I1
      have Fr := params_fw _ _ _ _ _ _ hr
      split at h
      · cases h
      · rename_i q hq
        cases h
        have := ((lightS hS n).block _ _ _ _ _ ((Ir.must [41]).must [123]) hq 0 (by simp [wtSs])).2.1
        exact (Fr.trans ((fw_must T [41] _).trans (fw_must T [123] _))).trans this
theorem prog_grow (hS : Short T M) : ∀ n ars fs p v p', n ≤ 999999980 → Inv1 T p → progF T n ars fs p = some (v, p') → (∃ ex, v.funcs = fs ++ ex) ∧ (fs ≠ [] → v.arrays = ars) ∧ Fw p p' := by
  intro n
  induction n with
  | zero => intro ars fs p v p' _ I h; simp [progF] at h
  | succ n ih =>
    intro ars fs p v p' hn I h
    simp only [progF] at h
    have I2 := I.typed.text 1 (by decide)
    have F2 := (fw_typed T p).trans (fw_text T 1 _)
    split at h
    · cases h; exact ⟨⟨[], by simp⟩, fun _ => rfl, Fw.refl _⟩
    split at h
    · cases h; exact ⟨⟨[], by simp⟩, fun _ => rfl, Fw.refl _⟩
    split at h
    · rename_i hc
      have I3 := (((I2.adv _ hc.2.2).text 0 (by decide)).must [93]).must [59]
      obtain ⟨e, a, F⟩ := ih _ _ _ _ _ (by omega) I3 h
      exact ⟨e, fun hne => absurd hc.2.1 hne, F2.trans (((((fw_adv _).trans (fw_text T 0 _)).trans (fw_must T [93] _)).trans (fw_must T [59] _)).trans F)⟩
    · split at h
      · cases h
      · rename_i q hq
        have I3 := (function_spec hq I2 (by omega)).2
        obtain ⟨⟨ex, e⟩, a, F⟩ := ih _ _ _ _ _ (by omega) I3 h
        exact ⟨⟨q.1 :: ex, by rw [e]; simp⟩, fun _ => a (by simp), ((F2.trans (fw_must T [40] _)).trans (function_fw hS I2 hq)).trans F⟩
end
theorem Fw.still {p q : PS} (h : Fw p q) (hq : overF q = false) : overF p = false := by
  cases hp : overF p
  · rfl
  · rw [h.2 hp] at hq; exact hq
theorem text_still {T : List Tok} {k : Int} {p : PS} (h : overF (textF T k p).2 = false) : (tk T p.at').kind = k ∧ (textF T k p).2 = adv p := by
  have hp : overF p = false := (fw_text T k p).still h
  unfold textF at h ⊢
  rw [if_neg (by rw [hp]; decide)] at h ⊢
  split at h
  · rename_i c; rw [if_pos c]; exact ⟨c, rfl⟩
  · exact absurd h (by simp [overF])
theorem must_still {T : List Tok} {s : List UInt8} {p : PS} (h : overF (mustF T s p) = false) : isF T s p = true := by
  unfold mustF at h
  split at h
  · assumption
  · split at h
    · rename_i c; exact absurd h (by simp [overF, c])
    · exact absurd h (by simp [overF])
theorem isF_kt {T : List Tok} {s : List UInt8} {p : PS} (h : isF T s p = true) : kt (tk T p.at') = (2, s) := by
  unfold isF at h
  simp only [Bool.and_eq_true, decide_eq_true_eq] at h
  unfold kt
  rw [h.2.1, h.2.2]
theorem typed_still {T : List Tok} {p : PS} (h : overF (typedF T p).2 = false) : isTy (kt (tk T p.at')) = true ∧ (typedF T p).2 = adv p := by
  unfold typedF at h ⊢
  split at h
  · rename_i c
    rw [if_pos c, isF_kt c]; exact ⟨rfl, rfl⟩
  · rename_i c
    rw [if_neg c]
    have hb := must_still h
    rw [isF_kt hb]
    refine ⟨rfl, ?_⟩
    unfold mustF
    rw [if_pos hb]; rfl

/-! ### The program -/

def mainX : Func := ⟨mainN, 1, [], [⟨8, 0, [], [⟨7, 0, 0, [102], [⟨1, 0, 1, [], []⟩, ⟨2, 0, 1, [], []⟩]⟩], [], []⟩]⟩
def fX (b : List Stmt) : Func := ⟨[102], 1, [⟨[120], 1⟩, ⟨[98], 2⟩], b⟩
def sufT : List Tok := sufE.map fun x => ⟨x.1, x.2, 0⟩

set_option maxRecDepth 100000 in
theorem mainX_parse : functionF sufT 1000 1 mainN ⟨3, false, false⟩ = some (mainX, ⟨15, false, false⟩) := by kernel_rfl

theorem sufT_typed : typedF sufT ⟨1, false, false⟩ = (1, ⟨2, false, false⟩) := by rfl
theorem sufT_text : textF sufT 1 ⟨2, false, false⟩ = (mainN, ⟨3, false, false⟩) := by rfl

theorem sufT_up {T : List Tok} {l : List UInt8} {ends : Bool} (hT : T.map kt = preK ++ (midK l ends ++ sufE)) : Up T sufT (16 + (midK l ends).length) := by
  intro i
  have h1 := kt_at hT (i + (16 + (midK l ends).length))
  have h2 : kt (tk sufT i) = ktAt sufE i := kt_at (by rfl) i
  rw [h1, h2]
  unfold ktAt
  have hp : preK.length = 16 := rfl
  rw [List.getElem?_append_right (by omega), List.getElem?_append_right (by omega), hp]
  congr 2; omega

set_option maxHeartbeats 4000000 in
theorem body_head {T : List Tok} {l : List UInt8} {ends : Bool} {k : Nat} {v : Prog} {p' : PS} (hT : T.map kt = preK ++ (midK l ends ++ sufE)) (h : progF T (k + 5) [] [] ⟨0, false, false⟩ = some (v, p')) :
    ∃ b q, blockF T (k + 3) 1 [] ⟨16, false, false⟩ = some (b, q) ∧ progF T (k + 3) [⟨[97], 4⟩] [fX b] q = some (v, p') := by
  have hk : ∀ i, i < 16 → kt (tk T i) = ktAt preK i := by
    intro i hi
    rw [kt_at hT]
    unfold ktAt
    rw [List.getElem?_append_left (by exact hi)]
  have K : ∀ i, i < 16 → (tk T i).kind = (ktAt preK i).1 ∧ (tk T i).text = (ktAt preK i).2 := fun i hi => ⟨congrArg Prod.fst (hk i hi), congrArg Prod.snd (hk i hi)⟩
  obtain ⟨a0, b0⟩ := K 0 (by decide)
  obtain ⟨a1, b1⟩ := K 1 (by decide)
  obtain ⟨a2, b2⟩ := K 2 (by decide)
  obtain ⟨a3, b3⟩ := K 3 (by decide)
  obtain ⟨a4, b4⟩ := K 4 (by decide)
  obtain ⟨a5, b5⟩ := K 5 (by decide)
  obtain ⟨a6, b6⟩ := K 6 (by decide)
  obtain ⟨a7, b7⟩ := K 7 (by decide)
  obtain ⟨a8, b8⟩ := K 8 (by decide)
  obtain ⟨a9, b9⟩ := K 9 (by decide)
  obtain ⟨a10, b10⟩ := K 10 (by decide)
  obtain ⟨a11, b11⟩ := K 11 (by decide)
  obtain ⟨a12, b12⟩ := K 12 (by decide)
  obtain ⟨a13, b13⟩ := K 13 (by decide)
  obtain ⟨a14, b14⟩ := K 14 (by decide)
  obtain ⟨a15, b15⟩ := K 15 (by decide)
  clear K hk
  simp [ktAt, preK] at a0 b0 a1 b1 a2 b2 a3 b3 a4 b4 a5 b5 a6 b6 a7 b7 a8 b8 a9 b9 a10 b10 a11 b11 a12 b12 a13 b13 a14 b14 a15 b15
  have hv : valueM [52] = 4 := by decide
  have e1 : progF T (k + 5) [] [] ⟨0, false, false⟩ = progF T (k + 4) [⟨[97], 4⟩] [] ⟨6, false, false⟩ := by
    rw [progF]
    simp [overF, typedF, textF, isF, mustF, adv, *]
  have e2 : progF T (k + 4) [⟨[97], 4⟩] [] ⟨6, false, false⟩ = match functionF T (k + 3) 1 [102] ⟨8, false, false⟩ with
      | none => none
      | some q => progF T (k + 3) [⟨[97], 4⟩] [q.1] q.2 := by
    rw [progF]
    simp [overF, typedF, textF, isF, mustF, adv, *]
    cases functionF T (k + 3) 1 [102] ⟨8, false, false⟩ <;> rfl
  have e3 : functionF T (k + 3) 1 [102] ⟨8, false, false⟩ = match blockF T (k + 3) 1 [] ⟨16, false, false⟩ with
      | none => none
      | some q => some (fX q.1, q.2) := by
    have ep : paramsF T (k + 3) [] true ⟨9, false, false⟩ = some ([⟨[120], 1⟩, ⟨[98], 2⟩], ⟨14, false, false⟩) := by
      simp [paramsF, overF, typedF, textF, isF, mustF, adv, *]
    have hm : mustF T [40] ⟨8, false, false⟩ = ⟨9, false, false⟩ := by simp [mustF, isF, overF, *]
    unfold functionF
    rw [hm, ep]
    have hi : isF T [41] ⟨9, false, false⟩ = false := by simp [isF, overF, *]
    rw [if_neg (by rw [hi]; decide)]
    have hm2 : mustF T [123] (mustF T [41] ⟨14, false, false⟩) = ⟨16, false, false⟩ := by simp [mustF, isF, overF, *]
    simp only [hm2]
    rfl
  rw [e1, e2, e3] at h
  cases hb : blockF T (k + 3) 1 [] ⟨16, false, false⟩ with
  | none => rw [hb] at h; cases h
  | some q =>
    rw [hb] at h
    exact ⟨q.1, q.2, rfl, h⟩

/-- A body's program of two functions: the first has the head that it was given, the second is main. -/
theorem body_two {l : List UInt8} {ends : Bool} (h0 : (parseM (bodyM l ends)).2.1 = 0) (h2 : (parseM (bodyM l ends)).1.funcs.length = 2) :
    ∃ b, (parseM (bodyM l ends)).1 = ⟨[⟨[97], 4⟩], [fX b, mainX]⟩ ∧ rightR ⟨[⟨[97], 4⟩], [fX b, mainX]⟩ = true := by
  have hs : (bodyM l ends).length ≤ 100000 := by
    have h1 := flat05_len (l.take 14)
    have h2 : (l.take 14).length ≤ 14 := by rw [List.length_take]; omega
    unfold bodyM
    simp only [List.length_append]
    have : pre05.length = 33 := rfl
    have : suf05.length = 36 := rfl
    have : (if ends then ret05 else []).length ≤ 10 := by cases ends <;> decide
    omega
  generalize hsd : bodyM l ends = s at *
  unfold parseM at h0 h2 ⊢
  by_cases ht : (tokensM s).2.1 = 0
  case neg => rw [if_neg ht] at h0; exact absurd h0 ht
  rw [if_pos ht] at h0 h2 ⊢
  obtain ⟨L, hL1, hL2⟩ := tokens_K s hs ht
  rw [← hsd, tokS_body] at hL1
  cases hL1
  have hT : (tokensM s).1.map kt = preK ++ (midK l ends ++ sufE) := by rw [hL2]; unfold sufE; simp
  have hS := tokens_short s
  have I0 := tokens_inv s ht
  have hcount := tokens_count s ht
  have hlen : (tokensM s).1.length = 16 + (midK l ends).length + 16 := by
    have := congrArg List.length hT
    rw [List.length_map, List.length_append, List.length_append] at this
    rw [this]; show 16 + (_ + 16) = _; omega
  obtain ⟨v, p', e, I', hz⟩ := parse_run s ht
  rw [e] at h0 h2 ⊢
  simp only at h0 h2 ⊢
  have hnd : p'.deep = false := by
    cases hd : p'.deep
    · rfl
    · rw [hd] at h0; simp at h0
  rw [hnd] at h0 h2 ⊢
  have hnb : p'.bad = false := by
    cases hd : p'.bad
    · rfl
    · rw [hd] at h0; simp at h0
  rw [hnb] at h0 h2 ⊢
  simp only [Bool.false_eq_true, if_false] at h0 h2 ⊢
  have hR : rightR v = true := by
    cases hd : rightR v
    · rw [hd] at h0; simp at h0
    · rfl
  rw [if_pos hR] at h2 ⊢
  simp only at h2 ⊢
  generalize (tokensM s).1 = T at *
  have hov : overF p' = false := by unfold overF; rw [hnd, hnb]; rfl
  obtain ⟨k, hk⟩ : ∃ k, fuel T = k + 5 := ⟨fuel T - 5, by unfold fuel; omega⟩
  have hkf : k + 5 = 64 * T.length + 100 := by rw [← hk]; rfl
  rw [hk] at e
  obtain ⟨b, q, hb, h⟩ := body_head hT e
  have I16 : Inv1 T ⟨16, false, false⟩ := ⟨by simp only; omega, I0.last, I0.sm, I0.num⟩
  obtain ⟨Iq, Fq, _⟩ := (lightS hS _).block _ _ _ _ _ I16 hb 0 (by simp [wtSs])
  obtain ⟨_, _, Fe⟩ := prog_grow hS _ _ _ _ _ _ (by omega) Iq h
  have hq := Fe.still hov
  rw [progF] at h
  rw [if_neg (by rw [hq]; decide)] at h
  split at h
  · cases h; simp at h2
  rw [if_neg (by simp)] at h
  split at h
  · cases h
  rename_i x hx
  have I2 := Iq.typed.text 1 (by decide)
  have I3 := (function_spec hx I2 (by omega)).2
  have F3 := function_fw hS I2 hx
  obtain ⟨⟨ex, e2⟩, ea, Fe⟩ := prog_grow hS _ _ _ _ _ _ (by omega) I3 h
  have ea := ea (by simp)
  have hex : ex = [] := by
    rw [e2] at h2
    simp at h2
    exact h2
  subst hex
  -- where the second function begins
  have s3 := (F3.trans Fe).still hov
  have c3 := isF_kt (must_still s3)
  have s2 := (fw_must T [40] _).still s3
  obtain ⟨c2, t2⟩ := text_still s2
  have s1 := (fw_text T 1 _).still s2
  obtain ⟨c1, t1⟩ := typed_still s1
  rw [t2, t1, kt_at hT] at c3
  rw [kt_at hT] at c1
  have hq16 : 16 ≤ q.at' := Fq.1
  have hpos := begins l ends q.at' hq16 c1 c3
  have hqu : q = up (16 + (midK l ends).length) ⟨1, false, false⟩ := by
    obtain ⟨qa, qb, qd⟩ := q
    simp only [overF, Bool.or_eq_false_iff] at hq
    obtain ⟨rfl, rfl⟩ := hq
    simp only at hpos
    unfold up
    simp only
    congr 1; omega
  have hU := sufT_up hT
  have f1 : typedF T q = (1, up (16 + (midK l ends).length) ⟨2, false, false⟩) := by rw [hqu, typedF_up hU, sufT_typed]
  have f2 : textF T 1 (typedF T q).2 = (mainN, up (16 + (midK l ends).length) ⟨3, false, false⟩) := by rw [f1]; simp only; rw [textF_up hU, sufT_text]
  rw [f2, f1] at hx
  have f3 := function_up hU (m := k + 2) (by omega) mainX_parse
  rw [f3] at hx
  cases hx
  refine ⟨b, ?_, ?_⟩
  · obtain ⟨va, vf⟩ := v
    simp only at ea e2
    rw [ea (by simp), e2]; rfl
  · obtain ⟨va, vf⟩ := v
    simp only at ea e2
    rw [ea (by simp), e2] at hR
    exact hR
end PE.U

/-
  Types: two programs of the same heads.
-/
namespace PE.U
open Go PE

/-- A function's head. -/
def sigAt (p : Prog) (nm : List UInt8) : Option (Int × List Par) := (funcAt p nm).map fun f => (f.type, f.params)
/-- Two programs that a function's body cannot tell apart. -/
structure Alike (p q : Prog) : Prop where
  s : ∀ nm, sigAt p nm = sigAt q nm
  a : ∀ nm, hasArr p nm = hasArr q nm

section
variable {p q : Prog}
theorem namedT_alike (A : Alike p q) (s : List Vr) (k : Int) (nm : List UInt8) (a : Nat) : namedT p s k nm a = namedT q s k nm a := by
  have h := A.s nm
  unfold namedT sigAt at *
  rw [A.a nm]
  cases h1 : funcAt p nm <;> cases h2 : funcAt q nm <;> rw [h1, h2] at h <;> simp at h ⊢
  rw [h.2]
theorem madeT_alike (A : Alike p q) (s : List Vr) (k o : Int) (nm : List UInt8) (l : List Int) : madeT p s k o nm l = madeT q s k o nm l := by
  have h := A.s nm
  unfold madeT sigAt at *
  cases h1 : funcAt p nm <;> cases h2 : funcAt q nm <;> rw [h1, h2] at h <;> simp at h ⊢
  rw [h.1, h.2]
mutual
theorem exprT_alike (A : Alike p q) (s : List Vr) : ∀ e : Expr, exprT p s e = exprT q s e
  | ⟨k, o, n, nm, a⟩ => by
    rw [exprT, exprT, namedT_alike A, argsT_alike A s a, madeT_alike A]
theorem argsT_alike (A : Alike p q) (s : List Vr) : ∀ l : List Expr, argsT p s l = argsT q s l
  | [] => by rw [argsT, argsT]
  | x :: r => by rw [argsT, argsT, exprT_alike A s x, argsT_alike A s r]
end
theorem wantT_alike (A : Alike p q) (s : List Vr) (e : Expr) (t : Int) : wantT p s e t = wantT q s e t := by unfold wantT; rw [exprT_alike A]
theorem stmtT_alike (A : Alike p q) (res : Int) (s : List Vr) (k t : Int) (nm : List UInt8) (a : List Expr) (d : Int) (loop : Bool) : stmtT p res s k t nm a d loop = stmtT q res s k t nm a d loop := by
  unfold stmtT boundT
  simp only [wantT_alike A, exprT_alike A, A.a]
mutual
theorem block1_alike (A : Alike p q) (res : Int) : ∀ (x : Stmt) (vs : List Vr) (d : Int) (loop : Bool) (n : Int), block1 p res x vs d loop n = block1 q res x vs d loop n
  | ⟨k, t, nm, a, th, el⟩, vs, d, loop, n => by
    rw [block1, block1, stmtT_alike A]
    simp only [blockT_alike A res th, blockT_alike A res el]
theorem blockT_alike (A : Alike p q) (res : Int) : ∀ (l : List Stmt) (vs : List Vr) (d : Int) (loop : Bool) (n : Int), blockT p res l vs d loop n = blockT q res l vs d loop n
  | [], _, _, _, _ => by rw [blockT, blockT]
  | x :: r, vs, d, loop, n => by
    rw [blockT, blockT]
    simp only [block1_alike A res x, blockT_alike A res r]
end
theorem func1_alike (A : Alike p q) (f : Func) : func1 p f = func1 q f := by
  unfold func1
  rw [blockT_alike A]
end

/-! ### What is wrong is one of these -/

def Errs (e : Int) : Prop := e = 0 ∨ e = 50 ∨ e = 51 ∨ e = 53
theorem namedT_errs (p : Prog) (s : List Vr) (k : Int) (nm : List UInt8) (a : Nat) : Errs (namedT p s k nm a) := by
  unfold namedT Errs
  repeat' (first | split | simp)
mutual
theorem exprT_errs (p : Prog) (s : List Vr) : ∀ e : Expr, Errs (exprT p s e).2
  | ⟨k, o, n, nm, a⟩ => by
    have h1 := namedT_errs p s k nm a.length
    have h2 := argsT_errs p s a
    rw [exprT]
    split
    · exact h1
    split
    · exact h2
    split
    · exact Or.inl rfl
    · exact Or.inr (Or.inr (Or.inl rfl))
theorem argsT_errs (p : Prog) (s : List Vr) : ∀ l : List Expr, Errs (argsT p s l).2
  | [] => by rw [argsT]; exact Or.inl rfl
  | x :: r => by
    have h1 := exprT_errs p s x
    have h2 := argsT_errs p s r
    rw [argsT]
    split
    · exact h1
    split
    · exact h2
    · exact Or.inl rfl
end
theorem wantT_errs (p : Prog) (s : List Vr) (e : Expr) (t : Int) : Errs (wantT p s e t) := by
  have h1 := exprT_errs p s e
  unfold wantT
  split
  · exact h1
  split
  · exact Or.inl rfl
  · exact Or.inr (Or.inr (Or.inl rfl))
theorem stmtT_errs (p : Prog) (res : Int) (s : List Vr) (k t : Int) (nm : List UInt8) (a : List Expr) (d : Int) (loop : Bool) : Errs (stmtT p res s k t nm a d loop) := by
  have w := fun e t => wantT_errs p s e t
  have x := exprT_errs p s (arg0 a)
  unfold stmtT boundT
  repeat' split
  all_goals first | exact w _ _ | exact x | exact Or.inl rfl | exact Or.inr (Or.inl rfl) | exact Or.inr (Or.inr (Or.inl rfl)) | exact Or.inr (Or.inr (Or.inr rfl))
mutual
theorem block1_errs (p : Prog) (res : Int) : ∀ (x : Stmt) (vs : List Vr) (d : Int) (loop : Bool) (n : Int), Errs (block1 p res x vs d loop n).1
  | ⟨k, t, nm, a, th, el⟩, vs, d, loop, n => by
    rw [block1_eq]
    split
    · exact stmtT_errs _ _ _ _ _ _ _ _ _
    · split
      · exact blockT_errs p res th _ _ _ _
      · exact blockT_errs p res el _ _ _ _
theorem blockT_errs (p : Prog) (res : Int) : ∀ (l : List Stmt) (vs : List Vr) (d : Int) (loop : Bool) (n : Int), Errs (blockT p res l vs d loop n).1
  | [], _, _, _, _ => by rw [blockT]; exact Or.inl rfl
  | x :: r, vs, d, loop, n => by
    rw [blockT_cons]
    split
    · exact block1_errs p res x _ _ _ _
    · exact blockT_errs p res r _ _ _ _
end

/-- Behind what is right comes the rest. -/
theorem blockT_append (p : Prog) (res d : Int) (loop : Bool) (r : List Stmt) : ∀ (l : List Stmt) (vs : List Vr) (n : Int),
    ((blockT p res l vs d loop n).1 ≠ 0 → blockT p res (l ++ r) vs d loop n = blockT p res l vs d loop n) ∧
    ((blockT p res l vs d loop n).1 = 0 → ∃ vs', blockT p res (l ++ r) vs d loop n = blockT p res r vs' d loop (blockT p res l vs d loop n).2)
  | [], vs, n => by
    constructor
    · intro h; exact absurd (by rw [blockT]) h
    · intro _; exact ⟨vs, by rw [blockT]; rfl⟩
  | x :: l, vs, n => by
    obtain ⟨i1, i2⟩ := blockT_append p res d loop r l (behind d x vs) (block1 p res x vs d loop n).2
    rw [List.cons_append, blockT_cons, blockT_cons]
    split
    · rename_i h
      exact ⟨fun _ => rfl, fun h' => absurd h' h⟩
    · exact ⟨i1, i2⟩

/-! ### A function of a body, and main -/

theorem endsT_append (a b : List Stmt) : endsT (a ++ b) = (endsT a || endsT b) := by
  rw [endsT_any, endsT_any, endsT_any, List.any_append]

def retOne : Stmt := ⟨8, 0, [], [⟨1, 0, 1, [], []⟩], [], []⟩

/-- The program of a body. -/
def pX (b : List Stmt) : Prog := ⟨[⟨[97], 4⟩], [fX b, mainX]⟩
def pY (b : List Stmt) : Prog := ⟨[⟨[97], 4⟩], [mainX, fX b]⟩

theorem alike_XY (b : List Stmt) : Alike (pX b) (pY b) := by
  refine ⟨fun nm => ?_, fun nm => rfl⟩
  unfold sigAt funcAt pX pY
  simp only [List.find?_cons, List.find?_nil]
  have h1 : (fX b).name = [102] := rfl
  have h2 : mainX.name = mainN := rfl
  rw [h1, h2]
  by_cases e1 : [102] = nm
  · have e2 : ¬ mainN = nm := by rw [← e1]; decide
    simp [e1, e2]
  · by_cases e2 : mainN = nm
    · simp [e1, e2]
    · simp [e1, e2]
theorem alike_XX (b c : List Stmt) : Alike (pX b) (pX c) := by
  refine ⟨fun nm => ?_, fun nm => rfl⟩
  unfold sigAt funcAt pX
  simp only [List.find?_cons, List.find?_nil]
  have h1 : (fX b).name = [102] := rfl
  have h1' : (fX c).name = [102] := rfl
  rw [h1, h1']
  by_cases e1 : [102] = nm
  · simp [e1]; exact ⟨rfl, rfl⟩
  · simp [e1]

theorem named_X (b : List Stmt) : namedM (pX b) = true := by
  unfold namedM
  have h : funcAt (pX b) mainN = some mainX := rfl
  rw [h]; rfl
theorem named_Y (b : List Stmt) : namedM (pY b) = true := by
  unfold namedM
  have h : funcAt (pY b) mainN = some mainX := rfl
  rw [h]; rfl
theorem main_X (b : List Stmt) : func1 (pX b) mainX = (0, 1) := by
  rw [func1_alike (alike_XX b [])]
  have : ∀ r : Int × Int, func1 (pX []) mainX = r ↔ func1 (pX []) mainX = r := fun r => Iff.rfl
  decide +kernel
theorem right_XY (b : List Stmt) : rightR (pY b) = rightR (pX b) := by
  unfold rightR pX pY
  simp only [List.all_cons, List.all_nil, Bool.and_true]
  cases funcR (fX b) <;> cases funcR mainX <;> rfl
theorem twice_f (b : List Stmt) : twiceM (fX b).params = false := by
  show twiceM [⟨[120], 1⟩, ⟨[98], 2⟩] = false
  decide
theorem right_more (b : List Stmt) (h : rightR (pX b) = true) : rightR (pX (b ++ [retOne])) = true := by
  unfold rightR pX at h ⊢
  simp only [List.all_cons, List.all_nil, Bool.and_true, Bool.and_eq_true] at h ⊢
  obtain ⟨h1, h2, h3⟩ := h
  refine ⟨h1, ?_, h3⟩
  unfold funcR fX at h2 ⊢
  simp only [Bool.and_eq_true] at h2 ⊢
  obtain ⟨g1, g2, g3, g4, g5⟩ := h2
  refine ⟨g1, g2, g3, ?_, g5⟩
  rw [stmtsR_append, g4]
  decide

/-- The order of functions makes no difference. -/
theorem order_law (b : List Stmt) (h : rightR (pX b) = true) :
    (checkT (pX b)).1 = (checkT (pY b)).1 ∧ ((checkT (pX b)).1 = 0 ∨ ((checkT (pX b)).2.1 = 0 ∧ (checkT (pY b)).2.1 = 1 ∧ (checkT (pX b)).2.2 = (checkT (pY b)).2.2)) := by
  unfold checkT
  rw [right_XY, h, named_X, named_Y]
  simp only [if_true]
  have hm := main_X b
  have hm' : func1 (pY b) mainX = (0, 1) := by rw [← func1_alike (alike_XY b)]; exact hm
  have hf : func1 (pY b) (fX b) = func1 (pX b) (fX b) := (func1_alike (alike_XY b) _).symm
  have e1 : checkGo (pX b) (pX b).funcs 0 = if (func1 (pX b) (fX b)).1 ≠ 0 then ((func1 (pX b) (fX b)).1, 0, (func1 (pX b) (fX b)).2) else (0, 0, 0) := by
    show checkGo (pX b) [fX b, mainX] 0 = _
    simp only [checkGo]
    rw [hm]
    simp
  have e2 : checkGo (pY b) (pY b).funcs 0 = if (func1 (pX b) (fX b)).1 ≠ 0 then ((func1 (pX b) (fX b)).1, 1, (func1 (pX b) (fX b)).2) else (0, 0, 0) := by
    show checkGo (pY b) [mainX, fX b] 0 = _
    simp only [checkGo]
    rw [hm', hf]
    simp
  rw [e1, e2]
  generalize func1 _ (fX b) = q
  by_cases hq : q.1 = 0 <;> simp [hq]

/-- With a return more. -/
theorem more_law (b : List Stmt) (h : rightR (pX b) = true) :
    if (checkT (pX b)).1 = 0 ∨ (checkT (pX b)).1 = 52 then (checkT (pX (b ++ [retOne]))).1 = 0 ∧ endsT (b ++ [retOne]) = true
    else checkT (pX (b ++ [retOne])) = checkT (pX b) := by
  have he : endsT (b ++ [retOne]) = true := by rw [endsT_append]; simp [show endsT [retOne] = true from by decide]
  have hm := main_X b
  have hm' := main_X (b ++ [retOne])
  have hc : checkT (pX b) = if (func1 (pX b) (fX b)).1 ≠ 0 then ((func1 (pX b) (fX b)).1, 0, (func1 (pX b) (fX b)).2) else (0, 0, 0) := by
    unfold checkT
    rw [h, named_X]
    simp only [if_true]
    show checkGo (pX b) [fX b, mainX] 0 = _
    simp only [checkGo]
    rw [hm]
    simp
  have hc' : checkT (pX (b ++ [retOne])) = if (func1 (pX (b ++ [retOne])) (fX (b ++ [retOne]))).1 ≠ 0 then ((func1 (pX (b ++ [retOne])) (fX (b ++ [retOne]))).1, 0, (func1 (pX (b ++ [retOne])) (fX (b ++ [retOne]))).2) else (0, 0, 0) := by
    unfold checkT
    rw [right_more b h, named_X]
    simp only [if_true]
    show checkGo (pX (b ++ [retOne])) [fX (b ++ [retOne]), mainX] 0 = _
    simp only [checkGo]
    rw [hm']
    simp
  rw [hc, hc', func1_alike (alike_XX (b ++ [retOne]) b)]
  clear hc hc' hm hm'
  have h1 : func1 (pX b) (fX b) = (if (blockT (pX b) 1 b (scopedV (fX b).params) 1 false 0).1 = 0 ∧ endsT b = false then 52 else (blockT (pX b) 1 b (scopedV (fX b).params) 1 false 0).1, (blockT (pX b) 1 b (scopedV (fX b).params) 1 false 0).2) := by
    unfold func1; rw [twice_f]; rfl
  have h2 : func1 (pX b) (fX (b ++ [retOne])) = (if (blockT (pX b) 1 (b ++ [retOne]) (scopedV (fX b).params) 1 false 0).1 = 0 ∧ endsT (b ++ [retOne]) = false then 52 else (blockT (pX b) 1 (b ++ [retOne]) (scopedV (fX b).params) 1 false 0).1, (blockT (pX b) 1 (b ++ [retOne]) (scopedV (fX b).params) 1 false 0).2) := by
    unfold func1; rw [twice_f]; rfl
  rw [h1, h2, he]
  clear h1 h2
  obtain ⟨a1, a2⟩ := blockT_append (pX b) 1 1 false [retOne] b (scopedV (fX b).params) 0
  have hE := blockT_errs (pX b) 1 b (scopedV (fX b).params) 1 false 0
  have hret : ∀ vs n, (blockT (pX b) 1 [retOne] vs 1 false n).1 = 0 := by
    intro vs n
    rw [blockT_cons, block1_eq]
    have hx : exprT (pX b) vs ⟨1, 0, 1, [], []⟩ = (1, 0) := by
      rw [exprT_eq]
      simp [namedT, argsT, madeT]
    have hs : stmtT (pX b) 1 vs retOne.kind retOne.type retOne.name retOne.args 1 false = 0 := by
      show wantT (pX b) vs ⟨1, 0, 1, [], []⟩ 1 = 0
      unfold wantT
      rw [hx]
      simp
    rw [hs]
    simp [retOne, blockT]
  generalize blockT (pX b) 1 b (scopedV (fX b).params) 1 false 0 = q at *
  by_cases hq : q.1 = 0
  · obtain ⟨vs', e⟩ := a2 hq
    rw [e]
    have := hret vs' q.2
    cases hb : endsT b <;> simp [hq, this]
  · rw [a1 hq]
    have h52 : ¬ q.1 = 52 := by rcases hE with h | h | h | h <;> omega
    simp [hq, h52]
end PE.U

/-
  Law 05: functions in another order; a statement more.
-/
namespace PE.U
open Go PE

theorem parse_small (s : List UInt8) : ∀ f ∈ (parseM s).1.funcs, wtSs f.body ≤ 90000000000 := by
  unfold parseM
  split
  · rename_i h0
    have I := tokens_inv s h0
    have hc := tokens_count s h0
    have hS := tokens_short s
    have hf : fuel (tokensM s).1 ≤ 6400164 := by unfold fuel; omega
    split
    · intro f hf; cases hf
    · rename_i q hq
      obtain ⟨a1, a2, a3⟩ := prog_wt hS _ _ _ _ _ _ (by omega) I hq (fuel (tokensM s).1) (Nat.le_refl _) (by simp)
      have hm : 100008 * (tokensM s).1.length ≤ 100008 * 100001 := Nat.mul_le_mul_left _ hc
      split
      · intro f hf; cases hf
      split
      · intro f hf; cases hf
      split
      · intro f hff
        have := (a3 f hff).1
        omega
      · intro f hf; cases hf
  · intro f hf; cases hf

theorem psz_X {b : List Stmt} (h : wtSs b < 1099508000000) : PSz (pX b) := by
  refine ⟨by simp [pX], by simp [pX], fun f hf => ?_⟩
  simp only [pX, List.mem_cons, List.not_mem_nil, or_false] at hf
  rcases hf with rfl | rfl
  · exact ⟨h, by simp [fX]⟩
  · exact ⟨by decide, by decide⟩
theorem psz_Y {b : List Stmt} (h : wtSs b < 1099508000000) : PSz (pY b) := by
  refine ⟨by simp [pY], by simp [pY], fun f hf => ?_⟩
  simp only [pY, List.mem_cons, List.not_mem_nil, or_false] at hf
  rcases hf with rfl | rfl
  · exact ⟨by decide, by decide⟩
  · exact ⟨h, by simp [fX]⟩

/-- A body's program, if it is one of two functions. -/
theorem body_case (l : List UInt8) (ends : Bool) : (∃ b, (parseM (bodyM l ends)).1 = pX b ∧ (parseM (bodyM l ends)).2.1 = 0 ∧ rightR (pX b) = true ∧ wtSs b ≤ 90000000000) ∨ ¬ ((parseM (bodyM l ends)).2.1 = 0 ∧ (parseM (bodyM l ends)).1.funcs.length = 2) := by
  by_cases h : (parseM (bodyM l ends)).2.1 = 0 ∧ (parseM (bodyM l ends)).1.funcs.length = 2
  · left
    obtain ⟨b, hb, hR⟩ := body_two h.1 h.2
    refine ⟨b, hb, h.1, hR, ?_⟩
    have := parse_small (bodyM l ends) (fX b) (by rw [hb]; simp)
    exact this
  · exact Or.inr h

set_option maxHeartbeats 4000000 in
theorem typesOrder_spec (l : List UInt8) (ends : Bool) (hl : l.length ≤ 9223372036854775807) : pcall E 3 [u8s l, .bool ends] [] = some (.ret (.bool true), []) := by
  refine pcall_wp rfl rfl rfl (by simp) ?_
  have ha := awake05_spec
  have hb := body_spec l ends hl
  have hp := parse_spec (bodyM l ends)
  have hz := parse_psz (bodyM l ends)
  rcases body_case l ends with ⟨b, h1, h0, hR, hw⟩ | hno
  · have hx := check_spec (pX b) (psz_X (by omega))
    have hy := check_spec (pY b) (psz_Y (by omega))
    obtain ⟨o1, o2⟩ := order_law b hR
    generalize bodyM l ends = s at *
    generalize parseM s = q at *
    obtain ⟨p, e, n⟩ := q
    simp only at h1 h0
    subst h1 h0
    generalize checkT (pX b) = cx at *
    generalize checkT (pY b) = cy at *
    obtain ⟨e1, i1, n1⟩ := cx
    obtain ⟨e2, i2, n2⟩ := cy
    simp only at o1 o2
    subst o1
    clear hz hR hw
    have g0 : (pX b).funcs = [fX b, mainX] := rfl
    have g1 : (pX b).arrays = [⟨[97], 4⟩] := rfl
    have g2 : (pY b).funcs = [mainX, fX b] := rfl
    have g3 : (pY b).arrays = [⟨[97], 4⟩] := rfl
    simp [encParse, encProg, encCheck, funcs, parrs, g0, g1, g2, g3, fX, encFunc, stmts, parsV, encPar] at hp hx hy
    clear g0 g1 g2 g3
    by_cases he : e1 = 0
    · subst he
      clear o2
      simp [*, F3, fX, encFunc, stmts, parsV, encPar]
    · rcases o2 with o2 | ⟨rfl, rfl, rfl⟩
      · exact absurd o2 he
      · replace he := eqn he
        simp [*, F3, fX, encFunc, stmts, parsV, encPar]
  · generalize bodyM l ends = s at *
    generalize parseM s = q at *
    obtain ⟨⟨ars, fs⟩, e, n⟩ := q
    simp only at hno
    simp [encParse, encProg, funcs, parrs] at hp
    have hfl := hz.2.1
    simp only at hfl
    clear hz
    by_cases he : e = 0
    · have hlen : ¬ (fs.length : Int) = 2 := by
        intro h; exact hno ⟨he, by omega⟩
      subst he
      replace hlen := eqn hlen
      clear hno
      simp [*, F3]
    · replace he := eqn he
      clear hno
      simp [*, F3]

set_option maxRecDepth 20000 in
set_option maxHeartbeats 4000000 in
theorem typesMore_spec (l : List UInt8) (ends : Bool) (hl : l.length ≤ 9223372036854775807) : pcall E 4 [u8s l, .bool ends] [] = some (.ret (.bool true), []) := by
  refine pcall_wp rfl rfl rfl (by simp) ?_
  have ha := awake05_spec
  have hb := body_spec l ends hl
  have hp := parse_spec (bodyM l ends)
  have hz := parse_psz (bodyM l ends)
  rcases body_case l ends with ⟨b, h1, h0, hR, hw⟩ | hno
  · have hwt : wtSs (b ++ [retOne]) = wtSs b + 4 := by rw [wtSs_append]; rfl
    have hx := check_spec (pX b) (psz_X (by omega))
    have hy := check_spec (pX (b ++ [retOne])) (psz_X (by omega))
    have hm := more_law b hR
    have hbR : stmtsR (b ++ [retOne]) 100 = true := by
      have := right_more b hR
      unfold rightR pX at this
      simp only [List.all_cons, List.all_nil, Bool.and_true, Bool.and_eq_true] at this
      have := this.2.1
      unfold funcR fX at this
      simp only [Bool.and_eq_true] at this
      exact this.2.2.2.1
    have hend := ends_spec (b ++ [retOne]) 100 (by omega) hbR
    have hlb := len_wtSs b
    have hroom : (b.length + 1) * 104 ≤ roomMax := by simp only [roomMax]; omega
    have hroom0 : b.length * 104 ≤ roomMax := by simp only [roomMax]; omega
    generalize bodyM l ends = s at *
    generalize parseM s = q at *
    obtain ⟨p, e, n⟩ := q
    simp only at h1 h0
    subst h1 h0
    generalize checkT (pX b) = cx at *
    generalize checkT (pX (b ++ [retOne])) = cy at *
    generalize endsT (b ++ [retOne]) = en at *
    obtain ⟨e1, i1, n1⟩ := cx
    obtain ⟨e2, i2, n2⟩ := cy
    simp only at hm
    clear hz hR hw hwt hbR hlb
    have g0 : (pX b).funcs = [fX b, mainX] := rfl
    have g1 : (pX b).arrays = [⟨[97], 4⟩] := rfl
    have g2 : (pX (b ++ [retOne])).funcs = [fX (b ++ [retOne]), mainX] := rfl
    have g3 : (pX (b ++ [retOne])).arrays = [⟨[97], 4⟩] := rfl
    have gr : encStmt retOne = .agg [.int .i64 8, .int .i64 0, .str [], .slice .plain 5 [.agg [.int .i64 1, .int .i64 0, .int .i64 1, .str [], .slice .plain 5 []]], .slice .plain 6 [], .slice .plain 6 []] := rfl
    simp [encParse, encProg, encCheck, funcs, parrs, g0, g1, g2, g3, fX, encFunc, stmts, gr, parsV, encPar] at hp hx hy hend
    clear g0 g1 g2 g3 gr
    by_cases he : e1 = 0
    · rw [if_pos (Or.inl he)] at hm
      obtain ⟨rfl, rfl⟩ := hm
      subst he
      simp [*, F4, fX, encFunc, stmts, parsV, encPar]
    · by_cases he2 : e1 = 52
      · rw [if_pos (Or.inr he2)] at hm
        obtain ⟨rfl, rfl⟩ := hm
        subst he2
        clear he
        simp [*, F4, fX, encFunc, stmts, parsV, encPar]
      · rw [if_neg (by simp [he, he2])] at hm
        cases hm
        replace he := eqn he
        replace he2 := eqn he2
        simp [*, F4, fX, encFunc, stmts, parsV, encPar]
  · generalize bodyM l ends = s at *
    generalize parseM s = q at *
    obtain ⟨⟨ars, fs⟩, e, n⟩ := q
    simp only at hno
    simp [encParse, encProg, funcs, parrs] at hp
    have hfl := hz.2.1
    simp only at hfl
    clear hz
    by_cases he : e = 0
    · have hlen : ¬ (fs.length : Int) = 2 := by
        intro h; exact hno ⟨he, by omega⟩
      subst he
      replace hlen := eqn hlen
      clear hno
      simp [*, F4]
    · replace he := eqn he
      clear hno
      simp [*, F4]
end PE.U
