/-
  Texts joined by program: A7P24, A7P25, A7P26, A7P27, A7P28, A7P29, A7T13a, A7W1, A7V1, A7V2, A7V3, A7V4, A7V5, A7V6, A7V7, A7V8, A7V9, A7V10, A7R1, A7R2, A7R3, A7R4, A7R5, A7R6, A7Q1, A7Q2, A7Q3, A7Q4, A7Q5, PeHand, A7V11, A7Q6, A7T12, A7J1, A7J3, A7J4, A7J5, A7J6, A7J7, A7J8, A7J9, A7J10, A7V12, A7V13, A7J11, A7J12, PeEnd.
-/
import Derived.Test.YtojkcioiciehfaaGreatC04
import Derived.Laws.BitsLemmas
import Derived.WalkKit
import Derived.ProofKit
import Derived.OpenShut
import Derived.ShutString
import Derived.ChangeOld
import Derived.Below
set_option linter.unusedVariables false
set_option linter.unusedSectionVars false
set_option linter.unusedSimpArgs false
namespace PE.U
open Go PE
def TokOK (t : Tok) : Prop := t.kind = 0 -> digs t.text = true /\ t.text.length < 1000000
theorem tokGo_ok : ∀ n (q : List UInt8) line acc, q.length < n -> q.length <= 100000 -> (∀ t ∈ acc, TokOK t) -> (zTa n q line acc).2.1 = 0 →
  (∀ t ∈ (zTa n q line acc).1, TokOK t) /\ (zTa n q line acc).1.length <= acc.length + q.length + 1 /\ 0 < (zTa n q line acc).1.length /\ ∃ t, (zTa n q line acc).1[(zTa n q line acc).1.length - 1]? = some t /\ t.kind = 3 := by
 intro n
 induction n with
 | zero => intro q line acc h; omega
 | succ n ih =>
  intro q line acc hq hs ha h0
  cases q with
  | nil =>
   simp only [zTa]
   refine ⟨?_, by simp, by simp, ⟨3, [], line⟩, by simp, rfl⟩
   intro t ht
   rcases List.mem_append.1 ht with h | h
   ·exact ha t h
   ·rw [List.mem_singleton.1 h]; intro h; exact absurd h (by simp)
  | cons b r =>
   simp only [List.length_cons] at hq hs
   have mono : ∀ (q' : List UInt8) line' acc', q'.length <= r.length -> acc'.length + q'.length <= acc.length + r.length + 1 -> (∀ t ∈ acc', TokOK t) -> (zTa n q' line' acc').2.1 = 0 →
     (∀ t ∈ (zTa n q' line' acc').1, TokOK t) /\ (zTa n q' line' acc').1.length <= acc.length + (b :: r).length + 1 /\ 0 < (zTa n q' line' acc').1.length /\ ∃ t, (zTa n q' line' acc').1[(zTa n q' line' acc').1.length - 1]? = some t /\ t.kind = 3 := by
    intro q' line' acc' h1 h2 h3 h4
    obtain ⟨x1, x2, x3, x4⟩ := ih q' line' acc' (by omega) (by omega) h3 h4
    exact ⟨x1, by simp only [List.length_cons]; omega, x3, x4⟩
   simp only [zTa] at h0 ⊢
   split at h0
   ·rename_i c; rw [if_pos c]; exact mono r _ _ (Nat.le_refl _) (by omega) ha h0
   rename_i c; rw [if_neg c]
   split at h0
   ·rename_i c; rw [if_pos c]; exact mono r _ _ (Nat.le_refl _) (by omega) ha h0
   rename_i c; rw [if_neg c]
   split at h0
   ·rename_i c; rw [if_pos c]
    have hl : ((b :: r).dropWhile (· != 10)).length <= r.length := by
     rw [List.dropWhile_cons, c.1]
     simp only [show ((47 : UInt8) != 10) = true from rfl, if_true]
     rw [zlc, List.length_drop]; omega
    exact mono _ _ _ hl (by omega) ha h0
   rename_i c; rw [if_neg c]
   split at h0
   ·rename_i c; rw [if_pos c]
    split at h0
    ·exact absurd h0 (by simp)
    rename_i c2; rw [if_neg c2]
    have hw : 0 < ((b :: r).takeWhile zB).length := by rw [List.takeWhile_cons, c]; simp
    have hw2 := (List.takeWhile_prefix (l := b :: r) (p := zB)).length_le
    simp only [List.length_cons] at hw2
    refine mono _ _ _ (by rw [List.length_drop]; simp only [List.length_cons]; omega) (by rw [List.length_drop]; simp only [List.length_cons, List.length_append, List.length_nil]; omega) ?_ h0
    intro t ht
    rcases List.mem_append.1 ht with h | h
    ·exact ha t h
    ·rw [List.mem_singleton.1 h]
     intro hk
     simp only at hk
     refine ⟨?_, by simp only; omega⟩
     simp only [tokBad, hk, Bool.or_eq_true, Bool.and_eq_true, decide_eq_true_eq, Bool.not_eq_true', not_or, not_and, Bool.not_eq_false] at c2
     have := c2.2 trivial
     simp only [zrd, Bool.and_eq_true] at this
     exact this.1
   rename_i c; rw [if_neg c]
   split at h0
   ·exact absurd h0 (by simp)
   rename_i c2; rw [if_neg c2]
   have hp : 0 < (zxd (b :: r)).length := List.length_pos_iff.2 c2
   have hp2 := sign_len (b :: r)
   simp only [List.length_cons] at hp2
   refine mono _ _ _ (by rw [List.length_drop]; simp only [List.length_cons]; omega) (by rw [List.length_drop]; simp only [List.length_cons, List.length_append, List.length_nil]; omega) ?_ h0
   intro t ht
   rcases List.mem_append.1 ht with h | h
   ·exact ha t h
   ·rw [List.mem_singleton.1 h]; intro h; exact absurd h (by simp)
theorem tokens_inv (s : List UInt8) (h : (zF s).2.1 = 0) : Inv1 (zF s).1 ⟨0, false, false⟩ := by
 unfold zF at h ⊢
 split at h
 ·exact absurd h (by decide)
 rename_i hs
 rw [if_neg hs]
 obtain ⟨x1, x2, x3, x4⟩ := tokGo_ok (s.length + 1) s 1 [] (by omega) (by omega) (by simp) h
 exact ⟨x3, x4, by simp at x2; omega, x1⟩
def fuel (l : List Tok) : Nat := 64 * l.length + 100
def zva (s : List UInt8) : Prog × Int × Int :=
 if (zF s).2.1 = 0 then
  match progF (zF s).1 (fuel (zF s).1) [] [] ⟨0, false, false⟩ with
  | none => (⟨[], []⟩, 0, 0)
  | some q =>
   if q.2.deep then (⟨[], []⟩, 2, (tk (zF s).1 q.2.at').line)
   else if q.2.bad then (⟨[], []⟩, 20, (tk (zF s).1 q.2.at').line)
   else if zrc q.1 then (q.1, 0, 0) else (⟨[], []⟩, 2, 0)
 else (⟨[], []⟩, (zF s).2.1, (zF s).2.2)
end PE.U

namespace PE.U
open Go PE
def Short (T : List Tok) (M : Nat) : Prop := 8 <= M /\ ∀ t ∈ T, t.text.length + 8 <= M
theorem short_text {T : List Tok} {M : Nat} {k : Int} {p : PS} (I : Inv1 T p) (h : Short T M) : (zW T k p).1.length + 8 <= M := by
 unfold zW
 split
 ·simpa using h.1
 ·split
  ·refine h.2 _ ?_
   rw [<- tk_get' I.lt]; exact List.getElem_mem I.lt
  ·simpa using h.1
def wa (M : Nat) (p : PS) : Nat := M * p.at'
theorem zOb (M : Nat) (p : PS) : wa M (adv p) = wa M p + M := Nat.mul_succ _ _
theorem zMb {M : Nat} {p q : PS} (h : Fw p q) : wa M p <= wa M q := Nat.mul_le_mul_left _ h.1
structure Light (T : List Tok) (M n : Nat) : Prop where
 primary : ∀ d p v p', Inv1 T p -> zoc T n d p = some (v, p') -> Inv1 T p' /\ Fw p p' /\ wtE v + 2 * wa M p <= 2 * wa M p' + M
 unary : ∀ d p v p', Inv1 T p -> unaryF T n d p = some (v, p') -> Inv1 T p' /\ Fw p p' /\ wtE v + 2 * wa M p <= 2 * wa M p' + M
 expr : ∀ L d p v p', Inv1 T p -> zUb T n L d p = some (v, p') -> Inv1 T p' /\ Fw p p' /\ wtE v + 2 * wa M p <= 2 * wa M p' + M
 loop : ∀ L d a p v p', Inv1 T p -> zJa T n L d a p = some (v, p') -> ∀ k : Nat, wtE a + k <= 2 * wa M p + M -> Inv1 T p' /\ Fw p p' /\ wtE v + k <= 2 * wa M p' + M
 args : ∀ d p v p', Inv1 T p -> argsF T n d p = some (v, p') -> Inv1 T p' /\ Fw p p' /\ wtEs v + 2 * wa M p <= 2 * wa M p' + 2 * M
 al : ∀ d l (f : Bool) p v p', Inv1 T p -> zia T n d l f p = some (v, p') -> ∀ k : Nat, wtEs l + k <= 2 * wa M p + (if f then 0 else 2 * M) -> Inv1 T p' /\ Fw p p' /\ wtEs v + k <= 2 * wa M p' + 2 * M
theorem light_of {T : List Tok} {M n : Nat} (hS : Short T M) (E : Light T M n) : Light T M (n + 1) := by
 have h8 := hS.1
 refine ⟨?_, ?_, ?_, ?_, ?_, ?_⟩
 ·intro d p v p' I h
  simp only [zoc] at h
  split at h
  ·cases h; exact ⟨I, Fw.refl _, by simp [wtE, wtEs]; omega⟩
  split at h
  ·rename_i hc
   split at h
   ·cases h
   ·rename_i q hq
    cases h
    obtain ⟨I', F, W⟩ := E.expr _ _ _ _ _ (I.adv _ hc) hq
    have := zOb M p
    have := zMb (M := M) (zm T [41] q.2)
    exact ⟨I'.must _, ((zH p).trans F).trans (zm _ _ _), by omega⟩
  split at h
  ·rename_i hc; cases h
   have := zOb M p
   exact ⟨I.adv _ hc, zH p, by simp [wtE, wtEs]; omega⟩
  split at h
  ·rename_i hc; cases h
   have := zOb M p
   exact ⟨I.adv _ hc, zH p, by simp [wtE, wtEs]; omega⟩
  split at h
  ·rename_i hc; cases h
   have F := ((zH p).trans (zm T [40] _)).trans (zm T [41] _)
   have := zMb (M := M) F
   exact ⟨((I.adv _ hc).must _).must _, F, by simp [wtE, wtEs]; omega⟩
  split at h
  ·rename_i hc; cases h
   have := zOb M p
   exact ⟨I.next (by rw [hc]; decide) _ _, zH p, by simp [wtE, wtEs]; omega⟩
  have I1 := I.text 1 (by decide)
  have F1 := zkc T 1 p
  have w1 := zMb (M := M) F1
  have hs := short_text (k := 1) I hS
  split at h
  ·rename_i hc
   split at h
   ·cases h
   ·rename_i q hq
    cases h
    obtain ⟨I', F, W⟩ := E.args _ _ _ _ (I1.adv _ hc) hq
    have := zOb M (zW T 1 p).2
    exact ⟨I', (F1.trans (zH _)).trans F, by simp only [wtE]; omega⟩
  split at h
  ·rename_i hc
   split at h
   ·cases h
   ·rename_i q hq
    cases h
    obtain ⟨I', F, W⟩ := E.expr _ _ _ _ _ (I1.adv _ hc) hq
    have := zOb M (zW T 1 p).2
    have := zMb (M := M) (zm T [93] q.2)
    exact ⟨I'.must _, ((F1.trans (zH _)).trans F).trans (zm _ _ _), by simp only [wtE, wtEs]; omega⟩
  ·cases h
   exact ⟨I1, F1, by simp only [wtE, wtEs]; omega⟩
 ·intro d p v p' I h
  simp only [unaryF] at h
  have I1 := I.deepF d
  have F1 := fw_deepF d p
  have w1 := zMb (M := M) F1
  cases hu : unF T (deepF d p) with
  | none =>
   rw [hu] at h
   obtain ⟨I', F, W⟩ := E.primary _ _ _ _ I1 h
   exact ⟨I', F1.trans F, by omega⟩
  | some i =>
   rw [hu] at h
   simp only at h
   have hi : isF T (zNc ((i + 20 : Nat) : Int)) (deepF d p) = true := (unF_get hu).2.1
   have := zOb M (deepF d p)
   split at h
   ·split at h
    ·cases h
    ·rename_i q hq
     cases h
     have F2 := zm T [40] (adv (deepF d p))
     have := zMb (M := M) F2
     obtain ⟨I', F, W⟩ := E.expr _ _ _ _ _ ((I1.adv _ hi).must _) hq
     have := zMb (M := M) (zm T [41] q.2)
     exact ⟨I'.must _, (((F1.trans (zH _)).trans F2).trans F).trans (zm _ _ _), by simp only [wtE, wtEs, List.length_nil]; omega⟩
   ·split at h
    ·cases h
    ·rename_i q hq
     cases h
     obtain ⟨I', F, W⟩ := E.unary _ _ _ _ (I1.adv _ hi) hq
     exact ⟨I', (F1.trans (zH _)).trans F, by simp only [wtE, wtEs, List.length_nil]; omega⟩
 ·intro L d p v p' I h
  simp only [zUb] at h
  split at h
  ·exact E.unary _ _ _ _ I h
  ·split at h
   ·cases h
   ·rename_i q hq
    obtain ⟨I', F, W⟩ := E.expr _ _ _ _ _ I hq
    obtain ⟨I2, F2, W2⟩ := E.loop _ _ _ _ _ _ I' h (2 * wa M p) W
    exact ⟨I2, F.trans F2, W2⟩
 ·intro L d a p v p' I h k hk
  simp only [zJa] at h
  split at h
  ·cases h; exact ⟨I, Fw.refl _, hk⟩
  ·rename_i hne
   obtain ⟨s, hs⟩ := opF_pos hne
   have := zOb M p
   split at h
   ·cases h
   ·rename_i q hq
    obtain ⟨I', F, W⟩ := E.expr _ _ _ _ _ (I.adv _ hs) hq
    obtain ⟨I2, F2, W2⟩ := E.loop _ _ _ _ _ _ I' h k (by simp only [wtE, wtEs, List.length_nil]; omega)
    exact ⟨I2, ((zH p).trans F).trans F2, W2⟩
 ·intro d p v p' I h
  simp only [argsF] at h
  split at h
  ·rename_i hc; cases h
   have := zOb M p
   exact ⟨I.adv _ hc, zH p, by simp only [wtEs]; omega⟩
  ·split at h
   ·cases h
   ·rename_i q hq
    cases h
    obtain ⟨I', F, W⟩ := E.al _ _ _ _ _ _ I hq (2 * wa M p) (by simp [wtEs])
    have := zMb (M := M) (zm T [41] q.2)
    exact ⟨I'.must _, F.trans (zm _ _ _), by omega⟩
 ·intro d l f p v p' I h k hk
  simp only [zia] at h
  have fin : ∀ q : PS, Inv1 T q -> Fw p q -> wtEs l + k + (if f then 0 else M + 1) <= 2 * wa M q + (if f then 0 else M + 1) -> (f = false -> wtEs l + k <= 2 * wa M q) -> (if zAa q then some (l, q) else match zUb T n 1 d q with | none => none | some x => zia T n d (l ++ [x.1]) false x.2) = some (v, p') -> Inv1 T p' /\ Fw p p' /\ wtEs v + k <= 2 * wa M p' + 2 * M := by
   intro q Iq Fq hq hq2 h
   have hq3 : wtEs l + k <= 2 * wa M q := by cases f <;> simp at hq <;> omega
   split at h
   ·cases h; exact ⟨Iq, Fq, by omega⟩
   ·split at h
    ·cases h
    ·rename_i x hx
     obtain ⟨I', F, W⟩ := E.expr _ _ _ _ _ Iq hx
     obtain ⟨I2, F2, W2⟩ := E.al _ _ _ _ _ _ I' h k (by rw [wtEs_append]; simp [wtEs]; omega)
     exact ⟨I2, (Fq.trans F).trans F2, W2⟩
  cases f
  ·cases c2 : isF T [44] p
   ·rw [c2] at h
    simp at h hk
    obtain ⟨rfl, rfl⟩ := h
    exact ⟨I, Fw.refl _, by omega⟩
   ·have := zOb M p
    rw [c2] at h
    simp at hk
    exact fin (adv p) (I.adv _ c2) (zH p) (by simp; omega) (fun _ => by omega) h
  ·simp at hk
   exact fin p I (Fw.refl _) (by simp; omega) (fun h => by cases h) h
theorem light {T : List Tok} {M : Nat} (hS : Short T M) : ∀ n, Light T M n
 | 0 => ⟨fun _ _ _ _ _ h => by simp [zoc] at h, fun _ _ _ _ _ h => by simp [unaryF] at h, fun _ _ _ _ _ _ h => by simp [zUb] at h, fun _ _ _ _ _ _ _ h => by simp [zJa] at h, fun _ _ _ _ _ h => by simp [argsF] at h, fun _ _ _ _ _ _ _ h => by simp [zia] at h⟩
 | n + 1 => light_of hS (light hS n)
end PE.U

namespace PE.U
open Go PE
section
variable {T : List Tok} {M : Nat}
theorem light1 (hS : Short T M) {n : Nat} {p p' : PS} {v : Expr} (I : Inv1 T p) (h : zUb T n 1 1 p = some (v, p')) : Inv1 T p' /\ Fw p p' /\ wtE v + 2 * wa M p <= 2 * wa M p' + M := (light hS n).expr _ _ _ _ _ I h
theorem lightI (hS : Short T M) {n : Nat} {p p' : PS} {v : Expr} (I : Inv1 T p) (h : zbe T n p = some (v, p')) : Inv1 T p' /\ Fw p p' /\ wtE v + 2 * wa M p <= 2 * wa M p' + M := by
 unfold zbe at h
 split at h
 ·cases h
 ·rename_i q hq
  cases h
  obtain ⟨I', F, W⟩ := light1 hS (I.must _) hq
  have := zMb (M := M) (zm T [40] p)
  have := zMb (M := M) (zm T [41] q.2)
  exact ⟨I'.must _, ((zm _ _ _).trans F).trans (zm _ _ _), by omega⟩
theorem lightN (hS : Short T M) {n : Nat} {p p' : PS} {v : Stmt} (I : Inv1 T p) (h : namedF T n p = some (v, p')) : Inv1 T p' /\ Fw p p' /\ wtS v + 2 * wa M p <= 2 * wa M p' + 3 * M := by
 unfold namedF at h
 have h8 := hS.1
 have I1 := I.text 1 (by decide)
 have F1 := zkc T 1 p
 have w1 := zMb (M := M) F1
 have hs := short_text (k := 1) I hS
 split at h
 ·rename_i hc
  split at h
  ·cases h
  ·rename_i q hq
   cases h
   obtain ⟨I', F, W⟩ := (light hS n).args _ _ _ _ (I1.adv _ hc) hq
   have := zOb M (zW T 1 p).2
   exact ⟨I', (F1.trans (zH _)).trans F, by simp only [wtS, wtE, wtEs, wtSs, List.length_nil]; omega⟩
 split at h
 ·rename_i hc
  split at h
  ·cases h
  ·rename_i q hq
   obtain ⟨I', F, W⟩ := light1 hS (I1.adv _ hc) hq
   have := zOb M (zW T 1 p).2
   have F2 := (zm T [93] q.2).trans (zm T [61] _)
   have := zMb (M := M) F2
   split at h
   ·cases h
   ·rename_i r hr
    cases h
    obtain ⟨I2, F3, W2⟩ := light1 hS ((I'.must [93]).must [61]) hr
    exact ⟨I2, (((F1.trans (zH _)).trans F).trans F2).trans F3, by simp only [wtS, wtE, wtEs, wtSs, List.length_nil]; omega⟩
 ·split at h
  ·cases h
  ·rename_i q hq
   cases h
   obtain ⟨I', F, W⟩ := light1 hS (I1.must _) hq
   have := zMb (M := M) (zm T [61] (zW T 1 p).2)
   exact ⟨I', (F1.trans (zm _ _ _)).trans F, by simp only [wtS, wtE, wtEs, wtSs, List.length_nil]; omega⟩
end
end PE.U

namespace PE.U
open Go PE
def ovM (M : Nat) (p : PS) : Nat := if zAa p then 8 * M else 0
theorem ovM_le (M : Nat) (p : PS) : ovM M p <= 8 * M := by unfold ovM; split <;> omega
theorem ovM_fw {M : Nat} {p q : PS} (h : Fw p q) : ovM M p <= ovM M q := by
 unfold ovM
 cases ho : zAa p
 ·simp
 ·rw [h.2 ho]; exact Nat.le_refl _
theorem go_wa {M : Nat} {p q : PS} (h : Go1 p q) : wa M p + M <= wa M q \/ ovM M q = 8 * M := by
 rcases h with h | h
 ·left
  unfold wa
  have := Nat.mul_le_mul_left M h
  rw [Nat.mul_succ] at this
  exact this
 ·right
  unfold ovM; rw [if_pos h]
theorem named_go {T : List Tok} {M n : Nat} {p p' : PS} {v : Stmt} (hS : Short T M) (I : Inv1 T p) (h : namedF T n p = some (v, p')) : Go1 p p' := by
 unfold namedF at h
 have I1 := I.text 1 (by decide)
 have F1 := zkc T 1 p
 have G1 := text_go (T := T) (k := 1) (p := p)
 split at h
 ·rename_i hc
  split at h
  ·cases h
  ·rename_i q hq
   cases h
   obtain ⟨I', F, W⟩ := (light hS n).args _ _ _ _ (I1.adv _ hc) hq
   exact G1.fw ((zH _).trans F)
 split at h
 ·rename_i hc
  split at h
  ·cases h
  ·rename_i q hq
   obtain ⟨I', F, W⟩ := light1 hS (I1.adv _ hc) hq
   have F2 := (zm T [93] q.2).trans (zm T [61] _)
   split at h
   ·cases h
   ·rename_i r hr
    cases h
    obtain ⟨I2, F3, W2⟩ := light1 hS ((I'.must [93]).must [61]) hr
    exact G1.fw ((((zH _).trans F).trans F2).trans F3)
 ·split at h
  ·cases h
  ·rename_i q hq
   cases h
   obtain ⟨I', F, W⟩ := light1 hS (I1.must _) hq
   exact G1.fw ((zm _ _ _).trans F)
structure LightS (T : List Tok) (M n : Nat) : Prop where
 stmt : ∀ d p v p', Inv1 T p -> stmtF T n d p = some (v, p') -> Inv1 T p' /\ Fw p p' /\ wtS v + 1 + 8 * wa M p <= 8 * wa M p' + ovM M p'
 block : ∀ d l p v p', Inv1 T p -> zob T n d l p = some (v, p') -> ∀ k : Nat, wtSs l + k <= 8 * wa M p + ovM M p -> Inv1 T p' /\ Fw p p' /\ wtSs v + k <= 8 * wa M p' + ovM M p'
theorem lightS_of {T : List Tok} {M n : Nat} (hS : Short T M) (E : LightS T M n) : LightS T M (n + 1) := by
 have h8 := hS.1
 refine ⟨?_, ?_⟩
 ·intro d p v p' I0 h
  simp only [stmtF] at h
  have I := I0.deepS d
  have F0 := fw_deepS d p
  have w0 : wa M (deepS d p) = wa M p := by unfold wa deepS; split <;> rfl
  generalize deepS d p = q at *
  -- something is taken, and what is made weighs little
  have fin : ∀ r : PS, Fw q r -> Go1 q r -> ∀ W : Nat, W + 2 * wa M q <= 2 * wa M r + 4 * M -> Fw p r /\ W + 1 + 8 * wa M p <= 8 * wa M r + ovM M r := by
   intro r F G W hW
   refine ⟨F0.trans F, ?_⟩
   have := zMb (M := M) F
   rcases go_wa (M := M) G with g | g <;> omega
  split at h
  ·have G1 := typed_go (T := T) (p := q)
   have Ft := (fw_typed T q).trans (zkc T 1 _)
   have F1 := Ft.trans (zm T [61] _)
   have hs := short_text (k := 1) I.typed hS
   split at h
   ·cases h
   ·rename_i x hx
    cases h
    obtain ⟨I', F, W⟩ := light1 hS ((I.typed.text 1 (by decide)).must [61]) hx
    have F2 := zm T [59] x.2
    have := zMb (M := M) F1
    have := zMb (M := M) F2
    have := fin _ ((F1.trans F).trans F2) (G1.fw ((((zkc T 1 _).trans (zm T [61] _)).trans F).trans F2)) (wtS ⟨1, (zaa T q).1, (zW T 1 (zaa T q).2).1, [x.1], [], []⟩) (by simp only [wtS, wtEs, wtSs]; omega)
    exact ⟨I'.must _, this.1, this.2⟩
  split at h
  ·rename_i hc
   have wadv := zOb M q
   split at h
   ·cases h
   ·rename_i x hx
    obtain ⟨I', F, W⟩ := lightI hS (I.adv _ hc) hx
    have F2 := zm T [123] x.2
    have w2 := zMb (M := M) F2
    have w1 := zMb (M := M) F
    split at h
    ·cases h
    ·rename_i y hy
     obtain ⟨I2, F3, W3⟩ := E.block _ _ _ _ _ (I'.must [123]) hy (8 * wa M (zla T [123] x.2) + ovM M (zla T [123] x.2)) (by simp [wtSs])
     split at h
     ·rename_i hc2
      split at h
      ·cases h
      ·rename_i z hz
       cases h
       have F4 := (zH y.2).trans (zm T [123] _)
       have w4 := zMb (M := M) F4
       have o4 := ovM_fw (M := M) F4
       obtain ⟨I3, F5, W5⟩ := E.block _ _ _ _ _ ((I2.adv _ hc2).must [123]) hz (8 * wa M (zla T [123] (adv y.2)) + ovM M (zla T [123] (adv y.2))) (by simp [wtSs])
       have w5 := zMb (M := M) F5
       have w3 := zMb (M := M) F3
       exact ⟨I3, F0.trans ((((((zH q).trans F).trans F2).trans F3).trans F4).trans F5), by simp only [wtS, wtEs, List.length_nil]; omega⟩
     ·cases h
      have w3 := zMb (M := M) F3
      exact ⟨I2, F0.trans ((((zH q).trans F).trans F2).trans F3), by simp only [wtS, wtEs, wtSs, List.length_nil]; omega⟩
  split at h
  ·rename_i hc
   have wadv := zOb M q
   split at h
   ·cases h
   ·rename_i x hx
    obtain ⟨I', F, W⟩ := lightI hS (I.adv _ hc) hx
    have F2 := zm T [123] x.2
    have w2 := zMb (M := M) F2
    have w1 := zMb (M := M) F
    split at h
    ·cases h
    ·rename_i y hy
     obtain ⟨I2, F3, W3⟩ := E.block _ _ _ _ _ (I'.must [123]) hy (8 * wa M (zla T [123] x.2) + ovM M (zla T [123] x.2)) (by simp [wtSs])
     cases h
     have w3 := zMb (M := M) F3
     exact ⟨I2, F0.trans ((((zH q).trans F).trans F2).trans F3), by simp only [wtS, wtEs, wtSs, List.length_nil]; omega⟩
  split at h
  ·rename_i hc
   cases h
   have wadv := zOb M q
   have F2 := zm T [59] (adv q)
   have := zMb (M := M) F2
   have := fin _ ((zH q).trans F2) ((adv_go q).fw F2) (wtS ⟨6, 0, [], [], [], []⟩) (by simp only [wtS, wtEs, wtSs, List.length_nil]; omega)
   exact ⟨(I.adv _ hc).must _, this.1, this.2⟩
  split at h
  ·rename_i hc
   cases h
   have wadv := zOb M q
   have F2 := zm T [59] (adv q)
   have := zMb (M := M) F2
   have := fin _ ((zH q).trans F2) ((adv_go q).fw F2) (wtS ⟨7, 0, [], [], [], []⟩) (by simp only [wtS, wtEs, wtSs, List.length_nil]; omega)
   exact ⟨(I.adv _ hc).must _, this.1, this.2⟩
  split at h
  ·rename_i hc
   have wadv := zOb M q
   split at h
   ·cases h
   ·rename_i x hx
    cases h
    obtain ⟨I', F, W⟩ := light1 hS (I.adv _ hc) hx
    have F2 := zm T [59] x.2
    have := zMb (M := M) F2
    have := fin _ (((zH q).trans F).trans F2) ((adv_go q).fw (F.trans F2)) (wtS ⟨8, 0, [], [x.1], [], []⟩) (by simp only [wtS, wtEs, wtSs, List.length_nil]; omega)
    exact ⟨I'.must _, this.1, this.2⟩
  split at h
  ·rename_i hc
   have wadv := zOb M q
   split at h
   ·cases h
   ·rename_i x hx
    cases h
    obtain ⟨I', F, W⟩ := lightI hS (I.adv _ hc) hx
    have F2 := zm T [59] x.2
    have := zMb (M := M) F2
    have := fin _ (((zH q).trans F).trans F2) ((adv_go q).fw (F.trans F2)) (wtS ⟨9, 0, [], [x.1], [], []⟩) (by simp only [wtS, wtEs, wtSs, List.length_nil]; omega)
    exact ⟨I'.must _, this.1, this.2⟩
  ·split at h
   ·cases h
   ·rename_i x hx
    cases h
    obtain ⟨I', F, W⟩ := lightN hS I hx
    have G := named_go hS I hx
    have F2 := zm T [59] x.2
    have := zMb (M := M) F2
    have := fin _ (F.trans F2) (G.fw F2) (wtS x.1) (by omega)
    exact ⟨I'.must _, this.1, this.2⟩
 ·intro d l p v p' I h k hk
  simp only [zob] at h
  split at h
  ·cases h; exact ⟨I, Fw.refl _, hk⟩
  rename_i hno
  have ho0 : ovM M p = 0 := by unfold ovM; rw [if_neg hno]
  split at h
  ·rename_i hc
   cases h
   have := zOb M p
   exact ⟨I.adv _ hc, zH p, by omega⟩
  ·split at h
   ·cases h
   ·rename_i x hx
    obtain ⟨I', F, W⟩ := E.stmt _ _ _ _ I hx
    obtain ⟨I2, F2, W2⟩ := E.block _ _ _ _ _ I' h k (by rw [wtSs_append]; simp only [wtSs]; omega)
    exact ⟨I2, F.trans F2, W2⟩
theorem lightS {T : List Tok} {M : Nat} (hS : Short T M) : ∀ n, LightS T M n
 | 0 => ⟨fun _ _ _ _ _ h => by simp [stmtF] at h, fun _ _ _ _ _ _ h => by simp [zob] at h⟩
 | n + 1 => lightS_of hS (lightS hS n)
end PE.U

namespace PE.U
open Go PE
theorem tokGo_short (N : Nat) : ∀ n (q : List UInt8) line acc, q.length <= N -> (∀ t ∈ acc, t.text.length <= N) -> ∀ t ∈ (zTa n q line acc).1, t.text.length <= N := by
 intro n
 induction n with
 | zero => intro q line acc hs ha; exact ha
 | succ n ih =>
  intro q line acc hs ha
  cases q with
  | nil =>
   simp only [zTa]
   intro t ht
   rcases List.mem_append.1 ht with h | h
   ·exact ha t h
   ·rw [List.mem_singleton.1 h]; simp
  | cons b r =>
   simp only [List.length_cons] at hs
   simp only [zTa]
   split
   ·exact ih _ _ _ (by omega) ha
   split
   ·exact ih _ _ _ (by omega) ha
   split
   ·refine ih _ _ _ ?_ ha
    rw [zlc, List.length_drop]; simp only [List.length_cons]; omega
   split
   ·split
    ·intro t ht; cases ht
    ·have hw2 := (List.takeWhile_prefix (l := b :: r) (p := zB)).length_le
     simp only [List.length_cons] at hw2
     refine ih _ _ _ (by rw [List.length_drop]; simp only [List.length_cons]; omega) ?_
     intro t ht
     rcases List.mem_append.1 ht with h | h
     ·exact ha t h
     ·rw [List.mem_singleton.1 h]; simp only; omega
   split
   ·intro t ht; cases ht
   ·have hp2 := sign_len (b :: r)
    simp only [List.length_cons] at hp2
    refine ih _ _ _ (by rw [List.length_drop]; simp only [List.length_cons]; omega) ?_
    intro t ht
    rcases List.mem_append.1 ht with h | h
    ·exact ha t h
    ·rw [List.mem_singleton.1 h]; simp only; omega
theorem tokens_short (s : List UInt8) : Short (zF s).1 100008 := by
 refine ⟨by decide, ?_⟩
 unfold zF
 split
 ·intro t ht; cases ht
 ·rename_i h
  intro t ht
  have := tokGo_short 100000 _ _ _ _ (by omega) (by simp) t ht
  omega
theorem tokens_count (s : List UInt8) (h : (zF s).2.1 = 0) : (zF s).1.length <= 100001 := by
 unfold zF at h ⊢
 split at h
 ·exact absurd h (by decide)
 rename_i hs
 rw [if_neg hs]
 obtain ⟨x1, x2, x3, x4⟩ := tokGo_ok (s.length + 1) s 1 [] (by omega) (by omega) (by simp) h
 simp at x2; omega
section
variable {T : List Tok} {M : Nat} (hS : Short T M)
theorem block_wt {n : Nat} {d : Int} {p p' : PS} {v : List Stmt} (hS : Short T M) (I : Inv1 T p) (h : zob T n d [] p = some (v, p')) : wtSs v <= 8 * (M * T.length) + 8 * M := by
 obtain ⟨I', F, W⟩ := (lightS hS n).block _ _ _ _ _ I h (8 * wa M p + ovM M p) (by simp [wtSs])
 have := ovM_le M p'
 have h2 : wa M p' <= M * T.length := Nat.mul_le_mul_left _ (Nat.le_of_lt I'.lt)
 omega
theorem params_len : ∀ n l (f : Bool) p v p', zOa T n l f p = some (v, p') -> v.length <= l.length + n := by
 intro n
 induction n with
 | zero => intro l f p v p' h; simp [zOa] at h
 | succ n ih =>
  intro l f p v p' h
  simp only [zOa] at h
  by_cases hc : (f || isF T [44] p) = true
  ·rw [if_pos hc] at h
   generalize (if f = true then p else adv p) = q at h
   split at h
   ·cases h; omega
   ·have := ih _ _ _ _ _ h
    simp only [List.length_append, List.length_cons, List.length_nil] at this
    omega
  ·rw [if_neg hc] at h; cases h; omega
theorem function_wt {n : Nat} {t : Int} {s : List UInt8} {p p' : PS} {v : Func} (hS : Short T M) (I : Inv1 T p) (h : zUc T n t s p = some (v, p')) : wtSs v.body <= 8 * (M * T.length) + 8 * M /\ v.params.length <= n := by
 unfold zUc at h
 have I1 := I.must [40]
 split at h
 ·rename_i hc
  split at h
  ·cases h
  ·rename_i q hq
   cases h
   exact ⟨block_wt hS ((I1.adv _ hc).must _) hq, by simp⟩
 ·split at h
  ·cases h
  ·rename_i r hr
   have Ir := paramsF_inv _ _ _ _ _ _ hr I1
   have hl := params_len _ _ _ _ _ _ hr
   split at h
   ·cases h
   ·rename_i q hq
    cases h
    exact ⟨block_wt hS ((Ir.must _).must _) hq, by simpa using hl⟩
theorem prog_wt (hS : Short T M) : ∀ n ars fs p v p', n <= 999999980 -> Inv1 T p -> progF T n ars fs p = some (v, p') -> ∀ B : Nat, n <= B →
  (∀ f ∈ fs, wtSs f.body <= 8 * (M * T.length) + 8 * M /\ f.params.length <= B) →
  v.arrays.length <= ars.length + n /\ v.funcs.length <= fs.length + n /\ ∀ f ∈ v.funcs, wtSs f.body <= 8 * (M * T.length) + 8 * M /\ f.params.length <= B := by
 intro n
 induction n with
 | zero => intro ars fs p v p' _ I h; simp [progF] at h
 | succ n ih =>
  intro ars fs p v p' hn I h B hB hf
  simp only [progF] at h
  have I2 := I.typed.text 1 (by decide)
  split at h
  ·cases h; exact ⟨Nat.le_add_right _ _, Nat.le_add_right _ _, hf⟩
  split at h
  ·cases h; exact ⟨Nat.le_add_right _ _, Nat.le_add_right _ _, hf⟩
  split at h
  ·rename_i hc
   have I3 := (((I2.adv _ hc.2.2).text 0 (by decide)).must [93]).must [59]
   obtain ⟨a1, a2, a3⟩ := ih _ _ _ _ _ (by omega) I3 h B (by omega) hf
   simp only [List.length_append, List.length_cons, List.length_nil] at a1
   exact ⟨by omega, by omega, a3⟩
  ·split at h
   ·cases h
   ·rename_i q hq
    have I3 := (zce hq I2 (by omega)).2
    have hw := function_wt hS I2 hq
    obtain ⟨a1, a2, a3⟩ := ih _ _ _ _ _ (by omega) I3 h B (by omega) (by
     intro f hff
     rcases List.mem_append.1 hff with h' | h'
     ·exact hf f h'
     ·rw [List.mem_singleton.1 h']; exact ⟨hw.1, by omega⟩)
    simp only [List.length_append, List.length_cons, List.length_nil] at a2
    exact ⟨by omega, by omega, a3⟩
end
theorem parse_sz (s : List UInt8) (h0 : (zF s).2.1 = 0) {v : Prog} {p' : PS} (h : progF (zF s).1 (fuel (zF s).1) [] [] ⟨0, false, false⟩ = some (v, p')) : PSz v := by
 have I := tokens_inv s h0
 have hc := tokens_count s h0
 have hS := tokens_short s
 have hf : fuel (zF s).1 <= 6400164 := by unfold fuel; omega
 obtain ⟨a1, a2, a3⟩ := prog_wt hS _ _ _ _ _ _ (by omega) I h (fuel (zF s).1) (Nat.le_refl _) (by simp)
 simp only [List.length_nil] at a1 a2
 have hm : 100008 * (zF s).1.length <= 100008 * 100001 := Nat.mul_le_mul_left _ hc
 refine ⟨by omega, by omega, fun f hff => ?_⟩
 obtain ⟨b1, b2⟩ := a3 f hff
 exact ⟨by omega, by omega⟩
theorem parse_run (s : List UInt8) (h0 : (zF s).2.1 = 0) : ∃ v p', progF (zF s).1 (fuel (zF s).1) [] [] ⟨0, false, false⟩ = some (v, p') /\ Inv1 (zF s).1 p' /\ PSz v := by
 have I := tokens_inv s h0
 obtain ⟨v, p', e, I'⟩ := prog_enough (fuel (zF s).1) [] [] _ I (Or.inl (by unfold fuel left; omega))
 exact ⟨v, p', e, I', parse_sz s h0 e⟩
end PE.U

namespace PE.U
open Go PE
def zid (r : Prog × Int × Int) : PV := .tup [zg r.1, .int .i64 r.2.1, .int .i64 r.2.2]
set_option maxHeartbeats 4000000 in
theorem parse_spec (s : List UInt8) : zh E 13 [.str s] [] = some (.ret (zid (zva s)), []) := by
 refine zc rfl rfl rfl (by simp) ?_
 have ht := tokens_spec s
 by_cases h0 : (zF s).2.1 = 0
 ·obtain ⟨v, p', e, I', hz⟩ := parse_run s h0
  have I := tokens_inv s h0
  have hf : fuel (zF s).1 <= 6400164 := by have := tokens_count s h0; unfold fuel; omega
  have hp := (prog_spec e I (by omega)).1
  have hr := right_spec v hz
  have hm : zva s = if p'.deep then (⟨[], []⟩, 2, (tk (zF s).1 p'.at').line) else if p'.bad then (⟨[], []⟩, 20, (tk (zF s).1 p'.at').line) else if zrc v then (v, 0, 0) else (⟨[], []⟩, 2, 0) := by
   unfold zva; rw [if_pos h0, e]
  have hg := tk_get I'.lt
  rw [hm]
  clear hm e hz I hf
  generalize zF s = tt at *
  obtain ⟨T, e0, ln⟩ := tt
  simp only at h0 hp hg ht I'
  subst h0
  have hlt := I'.lt
  clear I'
  obtain ⟨pa, pb, pd⟩ := p'
  obtain ⟨ars, fs⟩ := v
  simp [encTokR, toks, pob, zg, zwa, funcs] at ht hp hr hg hlt
  cases pd
  ·cases pb
   ·cases hR : zrc ⟨ars, fs⟩
    ·rw [hR] at hr
     simp [*, F13, zid, zg, zwa, funcs]
    ·rw [hR] at hr
     simp [*, F13, zid, zg, zwa, funcs]
   ·clear hr
    simp [*, F13, zid, zg, zwa, funcs, zp]
    exact congrArg Tok.line (tk_get' hlt)
  ·clear hr
   simp [*, F13, zid, zg, zwa, funcs, zp]
   exact congrArg Tok.line (tk_get' hlt)
 ·have hm : zva s = (⟨[], []⟩, (zF s).2.1, (zF s).2.2) := by unfold zva; rw [if_neg h0]
  rw [hm]
  clear hm
  generalize zF s = tt at *
  obtain ⟨T, e0, ln⟩ := tt
  simp only at h0 ht
  simp [encTokR, toks] at ht
  replace h0 := eqn h0
  simp [*, F13, zid, zg, zwa, funcs]
end PE.U

namespace PE.U
open Go PE
theorem zCd (s : List UInt8) : PSz (zva s).1 := by
 have h0 : PSz ⟨[], []⟩ := ⟨by simp, by simp, by simp⟩
 unfold zva
 split
 ·rename_i h
  obtain ⟨v, p', e, I', hz⟩ := parse_run s h
  rw [e]
  simp only
  split
  ·exact h0
  split
  ·exact h0
  split
  ·exact hz
  ·exact h0
 ·exact h0
end PE.U

namespace PE.U
open Go PE
theorem zcb (b : Bool) (σ : zd) : zh E 171 [.bool b] σ = some (.ret (.int .i64 (if b then 1 else 0)), σ) := by
 refine zc rfl rfl rfl rfl ?_
 cases b <;> simp [F171]
theorem zqa (b : Bool) (σ : zd) : zh E 41 [.bool b] σ = some (.ret (.int .i64 (if b then 1 else 0)), σ) := by
 refine zc rfl rfl rfl rfl ?_
 cases b <;> simp [F41]
noncomputable def one (op a : Int) : Int :=
 if op = 20 then W (0 - a) else if op = 21 then xor64 (-1) a else if op = 22 then (if a = 0 then 1 else 0)
 else if op = 23 then W (zy .i8 a) else if op = 24 then W (zy .i16 a) else if op = 25 then W (zy .i32 a)
 else if op = 26 then W (zy .u8 a) else if op = 27 then W (zy .u16 a) else if op = 28 then W (zy .u32 a) else 0
theorem one_spec (op a : Int) (σ : zd) : zh E 166 [.int .i64 op, .int .i64 a] σ = some (.ret (.int .i64 (one op a)), σ) := by
 refine zc rfl rfl rfl rfl ?_
 by_cases h1 : op = 20
 ·subst h1; simp [F166, one]
 by_cases h2 : op = 21
 ·subst h2; simp [F166, one]
 by_cases h3 : op = 22
 ·subst h3; simp [F166, one, zcb]
 by_cases h4 : op = 23
 ·subst h4; simp [F166, one, zcb]
 by_cases h5 : op = 24
 ·subst h5; simp [F166, one, zcb]
 by_cases h6 : op = 25
 ·subst h6; simp [F166, one, zcb]
 by_cases h7 : op = 26
 ·subst h7; simp [F166, one, zcb]
 by_cases h8 : op = 27
 ·subst h8; simp [F166, one, zcb]
 by_cases h9 : op = 28
 ·subst h9; simp [F166, one, zcb]
 simp [F166, one, h1, h2, h3, h4, h5, h6, h7, h8, h9]
def cmp (op a b : Int) : Bool × Bool :=
 if op = 12 then (decide (a < b), true) else if op = 13 then (decide (a <= b), true) else if op = 14 then (decide (b < a), true)
 else if op = 15 then (decide (b <= a), true) else if op = 16 then (decide (a = b), true) else if op = 17 then (!decide (a = b), true) else (false, false)
theorem zta (op a b : Int) (σ : zd) : zh E 172 [.int .i64 op, .int .i64 a, .int .i64 b] σ = some (.ret (.tup [.bool (cmp op a b).1, .bool (cmp op a b).2]), σ) := by
 refine zc rfl rfl rfl rfl ?_
 by_cases h1 : op = 12
 ·subst h1; simp [F172, cmp]
 by_cases h2 : op = 13
 ·subst h2; simp [F172, cmp]
 by_cases h3 : op = 14
 ·subst h3; simp [F172, cmp]
 by_cases h4 : op = 15
 ·subst h4; simp [F172, cmp]
 by_cases h5 : op = 16
 ·subst h5; simp [F172, cmp]
 by_cases h6 : op = 17
 ·subst h6; simp [F172, cmp]
 simp [F172, cmp, h1, h2, h3, h4, h5, h6]
noncomputable def two (op a b : Int) : Int × Bool :=
 if (cmp op a b).2 = true then (if (cmp op a b).1 = true then 1 else 0, true)
 else if op = 1 then (W (a + b), true) else if op = 2 then (W (a - b), true) else if op = 3 then (W (a * b), true)
 else if op = 6 then (and64 a b, true) else if op = 7 then (or64 a b, true) else if op = 8 then (xor64 a b, true)
 else if op = 9 then (W (a * 2 ^ (min (and64 b 63).toNat 64)), true) else if op = 10 then (shrK a (min (and64 b 63).toNat 64), true)
 else if op = 11 then (W (shrK (zy .u64 a) (min (and64 b 63).toNat 64)), true)
 else if b = 0 then (0, false) else if op = 4 then (W (a.tdiv b), true) else if op = 5 then (remK a b, true) else (0, false)
theorem wrap64 (n : Int) : W n = (BitVec.ofInt 64 n).toInt := by
 rw [BitVec.toInt_ofInt, W, zea, IntKind.wrap_i64]
 unfold Int.bmod
 simp only
 split <;> omega
theorem zUd (z : BitVec 64) : W (z.toNat : Int) = z.toInt := by
 rw [wrap64]; simp
theorem and64_eq (a b : Int) : and64 a b = (BitVec.ofInt 64 a &&& BitVec.ofInt 64 b).toInt := (andK_eq .i64 a b).trans ((zea _ _).symm.trans (zUd (BitVec.ofInt 64 a &&& BitVec.ofInt 64 b)))
theorem or64_eq (a b : Int) : or64 a b = (BitVec.ofInt 64 a ||| BitVec.ofInt 64 b).toInt := (orK_eq .i64 a b).trans ((zea _ _).symm.trans (zUd (BitVec.ofInt 64 a ||| BitVec.ofInt 64 b)))
theorem xor64_eq (a b : Int) : xor64 a b = (BitVec.ofInt 64 a ^^^ BitVec.ofInt 64 b).toInt := (xorK_eq .i64 a b).trans ((zea _ _).symm.trans (zUd (BitVec.ofInt 64 a ^^^ BitVec.ofInt 64 b)))
theorem and_mask (a : Int) (m : Nat) (hm : m < 63) : and64 a (2 ^ m - 1) = a % 2 ^ m := by
 rw [and64_eq]
 have e : (BitVec.ofInt 64 (2 ^ m - 1)).toNat = 2 ^ m - 1 := by
  have h1 : (2 : Nat) ^ m < 2 ^ 63 := Nat.pow_lt_pow_right (by decide) hm
  have h2 : 0 < (2 : Nat) ^ m := Nat.pow_pos (by decide)
  have h3 : ((2 : Int) ^ m - 1) = (((2 : Nat) ^ m - 1 : Nat) : Int) := by
   rw [Int.natCast_sub h2]; simp
  rw [h3, BitVec.ofInt_natCast, BitVec.toNat_ofNat]
  apply Nat.mod_eq_of_lt; omega
 have hN : (BitVec.ofInt 64 a &&& BitVec.ofInt 64 (2 ^ m - 1)).toNat = (BitVec.ofInt 64 a).toNat % 2 ^ m := by
  rw [BitVec.toNat_and, e, Nat.and_two_pow_sub_one_eq_mod]
 have hlt : (BitVec.ofInt 64 a).toNat % 2 ^ m < 2 ^ 63 := by
  have h1 : (2 : Nat) ^ m < 2 ^ 63 := Nat.pow_lt_pow_right (by decide) hm
  have := Nat.mod_lt (BitVec.ofInt 64 a).toNat (Nat.pow_pos (n := m) (show 0 < 2 by decide))
  omega
 rw [BitVec.toInt_eq_toNat_cond, if_pos (by rw [hN]; omega), hN, BitVec.toNat_ofInt, Int.natCast_emod, Int.toNat_of_nonneg (Int.emod_nonneg _ (by decide))]
 have : ((2 ^ m : Nat) : Int) = (2 : Int) ^ m := by simp
 rw [this]
 apply Int.emod_emod_of_dvd
 have hd : (2 : Nat) ^ m ∣ 2 ^ 64 := Nat.pow_dvd_pow 2 (by omega)
 have := Int.natCast_dvd_natCast.2 hd
 simpa using this
theorem and63 (b : Int) : 0 <= and64 b 63 /\ and64 b 63 < 64 := by
 have := and_mask b 6 (by decide)
 simp at this
 rw [this]; omega
theorem zbc (b : Int) : ¬ and64 b 63 < 0 := by have := (and63 b).1; omega
theorem two_spec (op a b : Int) (σ : zd) : zh E 168 [.int .i64 op, .int .i64 a, .int .i64 b] σ = some (.ret (.tup [.int .i64 (two op a b).1, .bool (two op a b).2]), σ) := by
 refine zc rfl rfl rfl rfl ?_
 by_cases hc : (cmp op a b).2 = true
 ·simp [F168, two, zta, hc, zcb]
 have hc' : (cmp op a b).2 = false := by simpa using hc
 by_cases h1 : op = 1
 ·subst h1; simp [F168, two, zta, hc']
 by_cases h2 : op = 2
 ·subst h2; simp [F168, two, zta, hc']
 by_cases h3 : op = 3
 ·subst h3; simp [F168, two, zta, hc']
 by_cases h4 : op = 6
 ·subst h4; simp [F168, two, zta, hc']
 by_cases h5 : op = 7
 ·subst h5; simp [F168, two, zta, hc']
 by_cases h6 : op = 8
 ·subst h6; simp [F168, two, zta, hc']
 by_cases h7 : op = 9
 ·subst h7; simp [F168, two, zta, hc', zbc, IntKind.bits]
 by_cases h8 : op = 10
 ·subst h8; simp [F168, two, zta, hc', zbc, IntKind.bits]
 by_cases h9 : op = 11
 ·subst h9; simp [F168, two, zta, hc', zbc, IntKind.bits]
 by_cases h10 : b = 0
 ·subst h10; simp [F168, two, zta, hc', h1, h2, h3, h4, h5, h6, h7, h8, h9]
 by_cases h11 : op = 4
 ·subst h11; simp [F168, two, zta, hc', h10]
 by_cases h12 : op = 5
 ·subst h12; simp [F168, two, zta, hc', h10]
 simp [F168, two, zta, hc', h1, h2, h3, h4, h5, h6, h7, h8, h9, h10, h11, h12]
theorem rtwo_spec (op a b : Int) (σ : zd) : zh E 22 [.int .i64 op, .int .i64 a, .int .i64 b] σ = some (.ret (.tup [.int .i64 (two op a b).1, .bool (two op a b).2]), σ) := by
 refine zc rfl rfl rfl rfl ?_
 by_cases h1 : op = 1
 ·subst h1; simp [F22, two, cmp, zqa, zbc, IntKind.bits]
 by_cases h2 : op = 2
 ·subst h2; simp [F22, two, cmp, zqa, zbc, IntKind.bits]
 by_cases h3 : op = 3
 ·subst h3; simp [F22, two, cmp, zqa, zbc, IntKind.bits]
 by_cases h4 : op = 4
 ·subst h4
  by_cases hb : b = 0
  ·subst hb; simp [F22, two, cmp]
  ·simp [F22, two, cmp, hb]
 by_cases h5 : op = 5
 ·subst h5
  by_cases hb : b = 0
  ·subst hb; simp [F22, two, cmp]
  ·simp [F22, two, cmp, hb]
 by_cases h6 : op = 6
 ·subst h6; simp [F22, two, cmp, zqa, zbc, IntKind.bits]
 by_cases h7 : op = 7
 ·subst h7; simp [F22, two, cmp, zqa, zbc, IntKind.bits]
 by_cases h8 : op = 8
 ·subst h8; simp [F22, two, cmp, zqa, zbc, IntKind.bits]
 by_cases h9 : op = 9
 ·subst h9; simp [F22, two, cmp, zqa, zbc, IntKind.bits]
 by_cases h10 : op = 10
 ·subst h10; simp [F22, two, cmp, zqa, zbc, IntKind.bits]
 by_cases h11 : op = 11
 ·subst h11; simp [F22, two, cmp, zqa, zbc, IntKind.bits]
 by_cases h12 : op = 12
 ·subst h12; simp [F22, two, cmp, zqa, zbc, IntKind.bits]
 by_cases h13 : op = 13
 ·subst h13; simp [F22, two, cmp, zqa, zbc, IntKind.bits]
 by_cases h14 : op = 14
 ·subst h14; simp [F22, two, cmp, zqa, zbc, IntKind.bits]
 by_cases h15 : op = 15
 ·subst h15; simp [F22, two, cmp, zqa, zbc, IntKind.bits]
 by_cases h16 : op = 16
 ·subst h16; simp [F22, two, cmp, zqa, zbc, IntKind.bits]
 by_cases h17 : op = 17
 ·subst h17; simp [F22, two, cmp, zqa, zbc, IntKind.bits]
 simp [F22, two, cmp, h1, h2, h3, h4, h5, h6, h7, h8, h9, h10, h11, h12, h13, h14, h15, h16, h17]
theorem W_id (n : Int) (h : -9223372036854775808 <= n) (h' : n <= 9223372036854775807) : W n = n := by
 rw [W, zea, IntKind.wrap_i64]; omega
theorem wrapK_i8 (n : Int) : zy .i8 n = (n + 128) % 256 - 128 := by
 rw [zea]; simp [IntKind.wrap, IntKind.bits, IntKind.signed]; split <;> omega
theorem wrapK_i16 (n : Int) : zy .i16 n = (n + 32768) % 65536 - 32768 := by
 rw [zea]; simp [IntKind.wrap, IntKind.bits, IntKind.signed]; split <;> omega
theorem wrapK_i32 (n : Int) : zy .i32 n = (n + 2147483648) % 4294967296 - 2147483648 := by
 rw [zea, IntKind.wrap_i32]
theorem wrapK_u8 (n : Int) : zy .u8 n = n % 256 := by rw [zea, IntKind.wrap_u8]
theorem wrapK_u16 (n : Int) : zy .u16 n = n % 65536 := by
 rw [zea]; simp [IntKind.wrap, IntKind.bits, IntKind.signed]
theorem wrapK_u32 (n : Int) : zy .u32 n = n % 4294967296 := by rw [zea, IntKind.wrap_u32]
theorem not64 (a : Int) : xor64 (-1) a = W (-1 - a) := by
 rw [xor64_eq, wrap64]
 congr 1
 have h1 : BitVec.ofInt 64 (-1) = BitVec.allOnes 64 := by decide
 rw [h1, BitVec.allOnes_xor]
 have h2 : (-1 - a) = -a - 1 := by omega
 apply BitVec.eq_of_toInt_eq
 rw [BitVec.toInt_not, BitVec.toInt_ofInt, BitVec.toNat_ofInt]
 have : 0 <= a % ((2 ^ 64 : Nat) : Int) := Int.emod_nonneg _ (by decide)
 simp only [Int.bmod]
 omega
end PE.U

namespace PE.U
open Go PE
structure RS where
 inp : List Int
 arrs : List (List Int)
 out : List Int
 cost : Int
 fuel : Nat
inductive How where
 | on | brk | cont
 | ret (n : Int)
inductive Rt (α : Type) where
 | ok (a : α)
 | stop (k : Int)
abbrev Vs := List (List UInt8 × Int)
structure Ev where
 expr : Expr -> Vs -> RS -> Rt Int × RS
 stmt : Stmt -> Vs -> RS -> Rt (How × Vs) × RS
def getV (nm : List UInt8) : Vs -> Int
 | [] => 0
 | x :: r => if x.1 = nm then x.2 else getV nm r
def setV (nm : List UInt8) (n : Int) : Vs -> Vs
 | [] => []
 | x :: r => if x.1 = nm then (nm, n) :: r else x :: setV nm n r
def oneC (op a : Int) : Int :=
 if op = 20 then IntKind.wrap .i64 (0 - a) else if op = 21 then IntKind.wrap .i64 (-1 - a) else if op = 22 then (if a = 0 then 1 else 0)
 else if op = 23 then (a + 128) % 256 - 128 else if op = 24 then (a + 32768) % 65536 - 32768 else if op = 25 then (a + 2147483648) % 4294967296 - 2147483648
 else if op = 26 then a % 256 else if op = 27 then a % 65536 else if op = 28 then a % 4294967296 else 0
def and64C (a b : Int) : Int := (BitVec.ofInt 64 a &&& BitVec.ofInt 64 b).toInt
def or64C (a b : Int) : Int := (BitVec.ofInt 64 a ||| BitVec.ofInt 64 b).toInt
def xor64C (a b : Int) : Int := (BitVec.ofInt 64 a ^^^ BitVec.ofInt 64 b).toInt
def twoC (op a b : Int) : Int × Bool :=
 if (cmp op a b).2 = true then (if (cmp op a b).1 = true then 1 else 0, true)
 else if op = 1 then (IntKind.wrap .i64 (a + b), true) else if op = 2 then (IntKind.wrap .i64 (a - b), true) else if op = 3 then (IntKind.wrap .i64 (a * b), true)
 else if op = 6 then (and64C a b, true) else if op = 7 then (or64C a b, true) else if op = 8 then (xor64C a b, true)
 else if op = 9 then (IntKind.wrap .i64 (a * 2 ^ (b % 64).toNat), true) else if op = 10 then (a.fdiv (2 ^ (b % 64).toNat), true)
 else if op = 11 then (IntKind.wrap .i64 ((a % 18446744073709551616).fdiv (2 ^ (b % 64).toNat)), true)
 else if b = 0 then (0, false) else if op = 4 then (IntKind.wrap .i64 (a.tdiv b), true) else if op = 5 then (a.tmod b, true) else (0, false)
theorem one_eqC (op a : Int) : one op a = oneC op a := by
 unfold one oneC
 by_cases h1 : op = 20
 ·subst h1; simp [W, zea]
 by_cases h2 : op = 21
 ·subst h2; simp [not64, W, zea]
 by_cases h3 : op = 22
 ·subst h3; simp
 by_cases h4 : op = 26
 ·subst h4; simp only [wrapK_u8]; simp; rw [W_id] <;> omega
 by_cases h5 : op = 27
 ·subst h5; simp only [wrapK_u16]; simp; rw [W_id] <;> omega
 by_cases h6 : op = 28
 ·subst h6; simp only [wrapK_u32]; simp; rw [W_id] <;> omega
 by_cases h7 : op = 23
 ·subst h7; simp only [wrapK_i8]; simp; rw [W_id] <;> omega
 by_cases h8 : op = 24
 ·subst h8; simp only [wrapK_i16]; simp; rw [W_id] <;> omega
 by_cases h9 : op = 25
 ·subst h9; simp only [wrapK_i32]; simp; rw [W_id] <;> omega
 simp [h1, h2, h3, h4, h5, h6, h7, h8, h9]
theorem two_eqC (op a b : Int) : two op a b = twoC op a b := by
 have h63 : and64 b 63 = b % 64 := by have := and_mask b 6 (by decide); simpa using this
 have hm : min (b % 64).toNat 64 = (b % 64).toNat := by omega
 unfold two twoC
 rw [h63, hm]
 simp only [W, zea, and64_eq, or64_eq, xor64_eq, remK_eq, shrK_eq, and64C, or64C, xor64C, IntKind.wrap_u64]
def zZ (S : RS) : RS := { S with cost := IntKind.wrap .i64 (S.cost + 1) }
def cellAt (p : Prog) (S : RS) (nm : List UInt8) (n : Int) : Option Int :=
 if n < 0 then none else (S.arrs[(zRd p nm).toNat]?).bind fun l => l[n.toNat]?
def putAt (p : Prog) (S : RS) (nm : List UInt8) (n m : Int) : Option RS :=
 if n < 0 then none else (S.arrs[(zRd p nm).toNat]?).bind fun l => if n.toNat < l.length then some { S with arrs := S.arrs.set (zRd p nm).toNat (l.set n.toNat m) } else none
section
variable (p : Prog) (ev : Ev)
def zad (V : Vs) : List Expr -> List Int -> RS -> Rt (List Int) × RS
 | [], acc, S => (.ok acc, S)
 | x :: r, acc, S => match ev.expr x V S with
  | (.ok n, S1) => zad V r (acc ++ [n]) S1
  | (.stop k, S1) => (.stop k, S1)
def zGa : List Stmt -> Vs -> RS -> Rt (How × Vs) × RS
 | [], V, S => (.ok (.on, V), S)
 | s :: r, V, S => match ev.stmt s V S with
  | (.ok (.on, V1), S1) => zGa r V1 S1
  | (.ok (h, V1), S1) => (.ok (h, V1), S1)
  | (.stop k, S1) => (.stop k, S1)
def zT (l : List Stmt) (V : Vs) (S : RS) : Rt (How × Vs) × RS := match zGa ev l V S with
 | (.ok (h, V1), S1) => (.ok (h, V1.drop (V1.length - V.length)), S1)
 | (.stop k, S1) => (.stop k, S1)
def bindV (ps : List Par) (l : List Int) : Vs := ((ps.map (·.name)).zip l).reverse
def callW (f : Func) (l : List Int) (S : RS) : Rt Int × RS := match zT ev f.body (bindV f.params l) S with
 | (.ok (.ret n, _), S1) => (.ok n, S1)
 | (.ok (_, _), S1) => (.ok 0, S1)
 | (.stop k, S1) => (.stop k, S1)
def madeW (e : Expr) (l : List Int) (S : RS) : Rt Int × RS :=
 if e.kind = 4 then (.ok (oneC e.op (at0 l)), S)
 else if e.kind = 6 then (match cellAt p S e.name (at0 l) with
  | some n => (.ok n, S)
  | none => (.stop 3, S))
 else if e.kind = 8 then (match S.inp with
  | [] => (.stop 4, S)
  | n :: r => (.ok n, { S with inp := r }))
 else if e.kind = 7 then (match zEb p e.name with
  | some f => callW ev f l S
  | none => (.ok 0, S))
 else if (twoC e.op (at0 l) (at1 l)).2 then (.ok (twoC e.op (at0 l) (at1 l)).1, S) else (.stop 2, S)
def shortW (e : Expr) (V : Vs) (S : RS) : Rt Int × RS := match ev.expr (arg0 e.args) V S with
 | (.stop j, S1) => (.stop j, S1)
 | (.ok a, S1) => if decide (a = 0) = decide (e.op = 18) then (.ok a, S1) else ev.expr (arg1 e.args) V S1
def exprW (e : Expr) (V : Vs) (S : RS) : Rt Int × RS :=
 if e.kind = 1 \/ e.kind = 2 then (.ok e.n, S)
 else if e.kind = 3 then (.ok (getV e.name V), S)
 else if e.kind = 5 /\ (e.op = 18 \/ e.op = 19) then shortW ev e V S
 else match zad ev V e.args [] S with
  | (.stop j, S1) => (.stop j, S1)
  | (.ok l, S1) => madeW p ev e l (zZ S1)
def zgc (c : Expr) (b : List Stmt) : Nat -> Vs -> RS -> Rt (How × Vs) × RS
 | 0, V, S => (.stop 0, S)
 | k + 1, V, S => match ev.expr c V S with
  | (.stop j, S1) => (.stop j, S1)
  | (.ok n, S1) => if n = 0 then (.ok (.on, V), S1) else
   match zT ev b V S1 with
   | (.ok (.brk, V1), S2) => (.ok (.on, V1), S2)
   | (.ok (.ret m, V1), S2) => (.ok (.ret m, V1), S2)
   | (.ok (_, V1), S2) => zgc c b k V1 S2
   | (.stop j, S2) => (.stop j, S2)
def zYb (s : Stmt) (V : Vs) (n : Int) (S1 : RS) : Rt (How × Vs) × RS :=
 if s.kind = 1 then (.ok (.on, (s.name, n) :: V), S1)
 else if s.kind = 2 then (.ok (.on, setV s.name n V), S1)
 else if s.kind = 3 then (match ev.expr (arg1 s.args) V S1 with
  | (.stop j, S2) => (.stop j, S2)
  | (.ok m, S2) => match putAt p (zZ S2) s.name n m with
   | some S3 => (.ok (.on, V), S3)
   | none => (.stop 3, zZ S2))
 else if s.kind = 4 then zT ev (if n = 0 then s.els else s.thn) V S1
 else if s.kind = 8 then (.ok (.ret n, V), S1)
 else if s.kind = 9 then (.ok (.on, V), { zZ S1 with out := S1.out ++ [n] })
 else (.ok (.on, V), S1)
def stmtW (w : Nat) (s : Stmt) (V : Vs) (S : RS) : Rt (How × Vs) × RS :=
 if s.kind = 5 then zgc ev (arg0 s.args) s.thn (w + 1) V S
 else if s.kind = 6 then (.ok (.brk, V), S)
 else if s.kind = 7 then (.ok (.cont, V), S)
 else match ev.expr (arg0 s.args) V S with
  | (.stop j, S1) => (.stop j, S1)
  | (.ok n, S1) => zYb p ev s V n S1
end
def evF (p : Prog) : Nat -> Ev
 | 0 => ⟨fun _ _ S => (.stop 0, S), fun _ _ S => (.stop 0, S)⟩
 | w + 1 => ⟨fun e V S => match S.fuel with
   | 0 => (.stop 0, S)
   | k + 1 => exprW p (evF p w) e V { S with fuel := k },
  fun s V S => match S.fuel with
   | 0 => (.stop 0, S)
   | k + 1 => stmtW p (evF p w) w s V { S with fuel := k }⟩
structure Rn where
 status : Int
 code : Int
 out : List Int
 cost : Int
 fuel : Int
def run0 (p : Prog) (inp : List Int) (fuel : Int) : RS := ⟨inp, p.arrays.map (fun a => List.replicate a.size.toNat 0), [], 0, fuel.toNat⟩
def zzd : Rt Int × RS -> Rn
 | (.ok n, S) => ⟨1, n, S.out, S.cost, S.fuel⟩
 | (.stop k, S) => ⟨k, 0, S.out, S.cost, S.fuel⟩
def zFd (p : Prog) (S : RS) : Rt Int × RS := match zEb p zGd with
 | some f => callW (evF p S.fuel) f [] S
 | none => (.ok 0, S)
def zbb (p : Prog) (inp : List Int) (fuel : Int) : Rn :=
 if (checkT p).1 = 0 then zzd (zFd p (run0 p inp fuel)) else ⟨0, 0, [], 0, 0⟩
end PE.U

namespace PE.U
open Go PE
structure Mono (S S1 : RS) : Prop where
 fuel : S1.fuel <= S.fuel
 out : S1.out.length + S1.fuel <= S.out.length + S.fuel
 arrs : S1.arrs.map List.length = S.arrs.map List.length
theorem Mono.refl (S : RS) : Mono S S := ⟨Nat.le_refl _, Nat.le_refl _, rfl⟩
theorem Mono.trans {a b c : RS} (h : Mono a b) (k : Mono b c) : Mono a c := ⟨Nat.le_trans k.1 h.1, Nat.le_trans k.2 h.2, k.3.trans h.3⟩
theorem Mono.cost {a b : RS} (h : Mono a b) : Mono a (zZ b) := ⟨h.1, h.2, h.3⟩
def zha (V : Vs) : List (List UInt8) := V.map (·.1)
theorem names_set (nm : List UInt8) (n : Int) (V : Vs) : zha (setV nm n V) = zha V := by
 induction V with
 | nil => rfl
 | cons x r ih =>
  unfold setV
  split
  ·rename_i h; simp [zha, h]
  ·simp only [zha, List.map_cons] at ih ⊢; rw [ih]
def zcc (s : Stmt) : List (List UInt8) := if s.kind = 1 then [s.name] else []
structure EvOk (ev : Ev) : Prop where
 expr : ∀ e V S, Mono S (ev.expr e V S).2 /\ ∀ n, (ev.expr e V S).1 = .ok n -> (ev.expr e V S).2.fuel < S.fuel
 stmt : ∀ s V S, Mono S (ev.stmt s V S).2 /\ ∀ h V1, (ev.stmt s V S).1 = .ok (h, V1) -> (ev.stmt s V S).2.fuel < S.fuel /\ zha V1 = zcc s ++ zha V
def RtV (S : RS) (N : List (List UInt8) -> Prop) (x : Rt (How × Vs) × RS) : Prop := Mono S x.2 /\ ∀ h V1, x.1 = .ok (h, V1) -> N (zha V1)
theorem RtV.mono {S : RS} {N M : List (List UInt8) -> Prop} {x : Rt (How × Vs) × RS} (h : RtV S N x) (k : ∀ l, N l -> M l) : RtV S M x := ⟨h.1, fun a b c => k _ (h.2 a b c)⟩
theorem RtV.trans {S S1 : RS} {N : List (List UInt8) -> Prop} {x : Rt (How × Vs) × RS} (h : RtV S1 N x) (k : Mono S S1) : RtV S N x := ⟨k.trans h.1, h.2⟩
section
variable {p : Prog} {ev : Ev} (E : EvOk ev)
include E
theorem argsW_mono (V : Vs) : ∀ (l : List Expr) (acc : List Int) (S : RS), Mono S (zad ev V l acc S).2 /\ ∀ m, (zad ev V l acc S).1 = .ok m -> m.length = acc.length + l.length
 | [], acc, S => ⟨Mono.refl _, fun m h => by cases h; rfl⟩
 | x :: r, acc, S => by
  have h := (E.expr x V S).1
  unfold zad
  generalize ev.expr x V S = q at *
  obtain ⟨a, S1⟩ := q
  cases a with
  | ok n =>
   have := argsW_mono V r (acc ++ [n]) S1
   refine ⟨h.trans this.1, fun m hm => ?_⟩
   rw [this.2 m hm]; simp; omega
  | stop k => exact ⟨h, fun m hm => by cases hm⟩
theorem stmtsW_mono : ∀ (l : List Stmt) (V : Vs) (S : RS), RtV S (fun N => ∃ a, N = a ++ zha V) (zGa ev l V S)
 | [], V, S => ⟨Mono.refl _, fun h V1 e => by cases e; exact ⟨[], rfl⟩⟩
 | x :: r, V, S => by
  obtain ⟨h, h2⟩ := E.stmt x V S
  unfold zGa
  generalize ev.stmt x V S = q at *
  obtain ⟨a, S1⟩ := q
  cases a with
  | ok y =>
   obtain ⟨y, V1⟩ := y
   obtain ⟨_, n1⟩ := h2 y V1 rfl
   have i := stmtsW_mono r V1 S1
   cases y with
   | on =>
    refine (i.trans h).mono ?_
    rintro N ⟨a, rfl⟩
    exact ⟨a ++ zcc x, by rw [n1]; simp⟩
   | brk => exact ⟨h, fun a b e => by cases e; exact ⟨_, n1⟩⟩
   | cont => exact ⟨h, fun a b e => by cases e; exact ⟨_, n1⟩⟩
   | ret n => exact ⟨h, fun a b e => by cases e; exact ⟨_, n1⟩⟩
  | stop k => exact ⟨h, fun a b e => by cases e⟩
theorem drop_names {V V1 : Vs} (h : ∃ a, zha V1 = a ++ zha V) : zha (V1.drop (V1.length - V.length)) = zha V := by
 obtain ⟨a, h⟩ := h
 have hl : V1.length = a.length + V.length := by
  have := congrArg List.length h
  simpa [zha] using this
 have : zha (V1.drop (V1.length - V.length)) = (zha V1).drop (V1.length - V.length) := by simp [zha, List.map_drop]
 rw [this, h, hl]
 have : a.length + V.length - V.length = a.length := by omega
 rw [this, List.drop_left]
theorem zeb (l : List Stmt) (V : Vs) (S : RS) : RtV S (fun N => N = zha V) (zT ev l V S) := by
 have h := stmtsW_mono E l V S
 unfold zT
 generalize zGa ev l V S = q at *
 obtain ⟨a, S1⟩ := q
 cases a with
 | ok y =>
  obtain ⟨y, V1⟩ := y
  exact ⟨h.1, fun a b e => by cases e; exact drop_names E (h.2 _ _ rfl)⟩
 | stop k => exact ⟨h.1, fun a b e => by cases e⟩
theorem callW_mono (f : Func) (l : List Int) (S : RS) : Mono S (callW ev f l S).2 := by
 have h := (zeb E f.body (bindV f.params l) S).1
 unfold callW
 generalize zT ev f.body (bindV f.params l) S = q at *
 obtain ⟨a, S1⟩ := q
 cases a with
 | ok y => obtain ⟨y, V1⟩ := y; cases y <;> exact h
 | stop k => exact h
theorem madeW_mono (e : Expr) (l : List Int) (S : RS) : Mono S (madeW p ev e l S).2 := by
 unfold madeW
 split
 ·exact Mono.refl _
 split
 ·split <;> exact Mono.refl _
 split
 ·split
  ·exact Mono.refl _
  ·exact ⟨Nat.le_refl _, Nat.le_refl _, rfl⟩
 split
 ·split
  ·exact callW_mono E _ _ _
  ·exact Mono.refl _
 split <;> exact Mono.refl _
theorem shortW_mono (e : Expr) (V : Vs) (S : RS) : Mono S (shortW ev e V S).2 := by
 have h := (E.expr (arg0 e.args) V S).1
 unfold shortW
 generalize ev.expr (arg0 e.args) V S = q at *
 obtain ⟨a, S1⟩ := q
 cases a with
 | ok n =>
  simp only
  split
  ·exact h
  ·exact h.trans (E.expr _ V S1).1
 | stop k => exact h
theorem exprW_mono (e : Expr) (V : Vs) (S : RS) : Mono S (exprW p ev e V S).2 := by
 unfold exprW
 split
 ·exact Mono.refl _
 split
 ·exact Mono.refl _
 split
 ·exact shortW_mono E e V S
 have h := (argsW_mono E V e.args [] S).1
 generalize zad ev V e.args [] S = q at *
 obtain ⟨a, S1⟩ := q
 cases a with
 | ok n => exact h.cost.trans (madeW_mono E e n _)
 | stop k => exact h
theorem loopW_mono (c : Expr) (b : List Stmt) : ∀ (k : Nat) (V : Vs) (S : RS), RtV S (fun N => N = zha V) (zgc ev c b k V S)
 | 0, V, S => ⟨Mono.refl _, fun _ _ e => by cases e⟩
 | k + 1, V, S => by
  have h := (E.expr c V S).1
  unfold zgc
  generalize ev.expr c V S = q at *
  obtain ⟨a, S1⟩ := q
  cases a with
  | stop j => exact ⟨h, fun _ _ e => by cases e⟩
  | ok n =>
   simp only
   split
   ·exact ⟨h, fun _ _ e => by cases e; rfl⟩
   have hb := zeb E b V S1
   generalize zT ev b V S1 = q at *
   obtain ⟨a, S2⟩ := q
   cases a with
   | stop j => exact ⟨h.trans hb.1, fun _ _ e => by cases e⟩
   | ok y =>
    obtain ⟨y, V1⟩ := y
    have hn := hb.2 _ _ rfl
    have i := loopW_mono c b k V1 S2
    cases y with
    | on => exact (i.mono fun l hl => hl.trans hn).trans (h.trans hb.1)
    | brk => exact ⟨h.trans hb.1, fun _ _ e => by cases e; exact hn⟩
    | cont => exact (i.mono fun l hl => hl.trans hn).trans (h.trans hb.1)
    | ret m => exact ⟨h.trans hb.1, fun _ _ e => by cases e; exact hn⟩
theorem putAt_mono {S S1 : RS} {nm : List UInt8} {n m : Int} (h : putAt p S nm n m = some S1) : Mono S S1 := by
 unfold putAt at h
 split at h
 ·cases h
 rw [Option.bind_eq_some_iff] at h
 obtain ⟨l, hl, h⟩ := h
 split at h
 ·cases h
  refine ⟨Nat.le_refl _, Nat.le_refl _, ?_⟩
  simp only [List.map_set, List.length_set]
  apply List.ext_getElem?
  intro i
  rw [List.getElem?_set]
  split
  ·rename_i hi
   subst hi
   rw [List.getElem?_map, hl]
   have := (List.getElem?_eq_some_iff.1 hl).1
   simp [this]
  ·rfl
 ·cases h
theorem plainW_mono {B : Nat} (s : Stmt) (V : Vs) (n : Int) (S : RS) (hf : S.out.length + S.fuel < B) : (zYb p ev s V n S).2.out.length + (zYb p ev s V n S).2.fuel <= B /\ (zYb p ev s V n S).2.fuel <= S.fuel /\ (zYb p ev s V n S).2.arrs.map List.length = S.arrs.map List.length /\ ∀ h V1, (zYb p ev s V n S).1 = .ok (h, V1) -> zha V1 = zcc s ++ zha V := by
 have lift : ∀ {x : Rt (How × Vs) × RS}, Mono S x.2 -> (∀ h V1, x.1 = .ok (h, V1) -> zha V1 = zcc s ++ zha V) -> x.2.out.length + x.2.fuel <= B /\ x.2.fuel <= S.fuel /\ x.2.arrs.map List.length = S.arrs.map List.length /\ ∀ h V1, x.1 = .ok (h, V1) -> zha V1 = zcc s ++ zha V :=
  fun m k => ⟨by have := m.out; omega, m.fuel, m.arrs, k⟩
 have h0 : s.kind ≠ 1 -> zcc s = [] := fun h => if_neg h
 unfold zYb
 split
 ·rename_i h1
  exact lift (Mono.refl _) fun _ _ e => by cases e; simp [zcc, h1, zha]
 rename_i h1
 rw [h0 h1]
 rw [h0 h1] at lift
 split
 ·exact lift (Mono.refl _) fun _ _ e => by cases e; exact names_set _ _ _
 split
 ·have h := (E.expr (arg1 s.args) V S).1
  generalize ev.expr (arg1 s.args) V S = q at *
  obtain ⟨a, S2⟩ := q
  cases a with
  | stop j => exact lift h fun _ _ e => by cases e
  | ok m =>
   simp only
   split
   ·rename_i S3 h3
    exact lift (h.cost.trans (putAt_mono E h3)) fun _ _ e => by cases e; rfl
   ·exact lift h.cost fun _ _ e => by cases e
 split
 ·have h := zeb E (if n = 0 then s.els else s.thn) V S
  exact lift h.1 h.2
 split
 ·exact lift (Mono.refl _) fun _ _ e => by cases e; rfl
 split
 ·refine ⟨?_, Nat.le_refl _, rfl, fun _ _ e => by cases e; rfl⟩
  simp [zZ]; omega
 ·exact lift (Mono.refl _) fun _ _ e => by cases e; rfl
theorem stmtW_mono {B : Nat} (w : Nat) (s : Stmt) (V : Vs) (S : RS) (hf : S.out.length + S.fuel < B) : (stmtW p ev w s V S).2.out.length + (stmtW p ev w s V S).2.fuel <= B /\ (stmtW p ev w s V S).2.fuel <= S.fuel /\ (stmtW p ev w s V S).2.arrs.map List.length = S.arrs.map List.length /\ ∀ h V1, (stmtW p ev w s V S).1 = .ok (h, V1) -> zha V1 = zcc s ++ zha V := by
 have lift : ∀ {x : Rt (How × Vs) × RS}, Mono S x.2 -> (∀ h V1, x.1 = .ok (h, V1) -> zha V1 = zcc s ++ zha V) -> x.2.out.length + x.2.fuel <= B /\ x.2.fuel <= S.fuel /\ x.2.arrs.map List.length = S.arrs.map List.length /\ ∀ h V1, x.1 = .ok (h, V1) -> zha V1 = zcc s ++ zha V :=
  fun m k => ⟨by have := m.out; omega, m.fuel, m.arrs, k⟩
 have h0 : s.kind ≠ 1 -> zcc s = [] := fun h => if_neg h
 unfold stmtW
 split
 ·rename_i h5
  have h := loopW_mono E (arg0 s.args) s.thn (w + 1) V S
  rw [h0 (by omega)] at lift ⊢
  exact lift h.1 h.2
 split
 ·rw [h0 (by omega)] at lift ⊢
  exact lift (Mono.refl _) fun _ _ e => by cases e; rfl
 split
 ·rw [h0 (by omega)] at lift ⊢
  exact lift (Mono.refl _) fun _ _ e => by cases e; rfl
 have h := (E.expr (arg0 s.args) V S).1
 generalize ev.expr (arg0 s.args) V S = q at *
 obtain ⟨a, S2⟩ := q
 cases a with
 | stop j => exact lift h fun _ _ e => by cases e
 | ok n =>
  have k := plainW_mono (p := p) (B := B) E s V n S2 (by have := h.out; simp only at this; omega)
  exact ⟨k.1, Nat.le_trans k.2.1 h.fuel, k.2.2.1.trans h.arrs, k.2.2.2⟩
end
theorem zyc (p : Prog) : ∀ w, EvOk (evF p w)
 | 0 => ⟨fun e V S => ⟨Mono.refl _, fun _ e => by cases e⟩, fun s V S => ⟨Mono.refl _, fun _ _ e => by cases e⟩⟩
 | w + 1 => by
  have E := zyc p w
  refine ⟨fun e V S => ?_, fun s V S => ?_⟩
  ·simp only [evF]
   cases h : S.fuel with
   | zero => exact ⟨by simp only; exact Mono.refl _, fun _ e => by cases e⟩
   | succ k =>
    have m := exprW_mono (p := p) E e V { S with fuel := k }
    refine ⟨⟨by have := m.fuel; simp only at this ⊢; omega, by have := m.out; simp only at this ⊢; omega, m.arrs⟩, fun n e => ?_⟩
    have := m.fuel; simp only at this ⊢; omega
  ·simp only [evF]
   cases h : S.fuel with
   | zero => exact ⟨by simp only; exact Mono.refl _, fun _ _ e => by cases e⟩
   | succ k =>
    have m := stmtW_mono (p := p) (B := S.out.length + S.fuel) E w s V { S with fuel := k } (by simp only; omega)
    refine ⟨⟨by have := m.2.1; simp only at this ⊢; omega, m.1, m.2.2.1⟩, fun h V1 e => ⟨by have := m.2.1; simp only at this ⊢; omega, m.2.2.2 h V1 e⟩⟩
end PE.U

namespace PE.U
open Go PE
mutual
def okE (p : Prog) (ns : List (List UInt8)) : Expr -> Prop
 | ⟨k, o, n, nm, a⟩ => kindR k o n nm a.length = true /\ (k = 3 -> nm ∈ ns) /\ (k = 6 -> zac p nm = true) /\ (k = 7 -> ∃ f, zEb p nm = some f /\ f.params.length = a.length) /\ okEs p ns a
def okEs (p : Prog) (ns : List (List UInt8)) : List Expr -> Prop
 | [] => True
 | x :: r => okE p ns x /\ okEs p ns r
end
mutual
def okS (p : Prog) (ns : List (List UInt8)) (loop : Bool) : Stmt -> Prop
 | ⟨k, _, nm, a, th, el⟩ => (1 <= k /\ k <= 10) /\ (a.length : Int) = (zR k).2.2.1 /\ okEs p ns a /\ (k = 2 -> nm ∈ ns) /\ (k = 3 -> zac p nm = true) /\ (k = 6 \/ k = 7 -> loop = true) ∧
  okB p ((if k = 1 then [nm] else []) ++ ns) (loop || decide (k = 5)) th /\ okB p ((if k = 1 then [nm] else []) ++ ns) loop el
def okB (p : Prog) (ns : List (List UInt8)) (loop : Bool) : List Stmt -> Prop
 | [] => True
 | x :: r => okS p ns loop x /\ okB p (zcc x ++ ns) loop r
end
theorem okE_eq (p : Prog) (ns : List (List UInt8)) (e : Expr) : okE p ns e = (kindR e.kind e.op e.n e.name e.args.length = true /\ (e.kind = 3 -> e.name ∈ ns) /\ (e.kind = 6 -> zac p e.name = true) /\ (e.kind = 7 -> ∃ f, zEb p e.name = some f /\ f.params.length = e.args.length) /\ okEs p ns e.args) := by
 cases e; rw [okE]
theorem okS_eq (p : Prog) (ns : List (List UInt8)) (loop : Bool) (s : Stmt) : okS p ns loop s = ((1 <= s.kind /\ s.kind <= 10) /\ (s.args.length : Int) = (zR s.kind).2.2.1 /\ okEs p ns s.args /\ (s.kind = 2 -> s.name ∈ ns) /\ (s.kind = 3 -> zac p s.name = true) /\ (s.kind = 6 \/ s.kind = 7 -> loop = true) ∧
  okB p (zcc s ++ ns) (loop || decide (s.kind = 5)) s.thn /\ okB p (zcc s ++ ns) loop s.els) := by
 cases s; rw [okS]; rfl
theorem okEs_mem {p : Prog} {ns : List (List UInt8)} {l : List Expr} (h : okEs p ns l) {x : Expr} (hx : x ∈ l) : okE p ns x := by
 induction l with
 | nil => cases hx
 | cons y r ih =>
  rw [okEs] at h
  rcases List.mem_cons.1 hx with rfl | hx
  ·exact h.1
  ·exact ih h.2 hx
def nmsVr (s : List Vr) : List (List UInt8) := s.map (·.name)
theorem vfindV_mem {s : List Vr} {nm : List UInt8} (h : ¬ findV s nm = []) : nm ∈ nmsVr s := by
 induction s with
 | nil => exact absurd rfl h
 | cons v r ih =>
  rw [findV_cons] at h
  split at h
  ·rename_i hn; simp [nmsVr, hn]
  ·have := ih h; simp only [nmsVr, List.map_cons, List.mem_cons] at this ⊢; exact .inr this
mutual
theorem okE_of (p : Prog) (s : List Vr) : ∀ (e : Expr) (m : Int), (ztd p s e).2 = 0 -> zkb e m = true -> okE p (nmsVr s) e
 | ⟨k, o, n, nm, a⟩, m, h, hR => by
  rw [ztd] at h
  rw [zkb, Bool.and_eq_true] at hR
  split at h
  ·rename_i h1; exact absurd h h1
  rename_i h1
  split at h
  ·rename_i h2; exact absurd h h2
  rename_i h2
  have h1 : zfd p s k nm a.length = 0 := by simpa using h1
  rw [okE]
  refine ⟨hR.2, ?_, ?_, ?_, okEs_of p s a m (by simpa using h2) hR.1⟩
  ·intro hk
   subst hk
   simp only [zfd, if_true] at h1
   split at h1
   ·cases h1
   ·rename_i hf; exact vfindV_mem hf
  ·intro hk
   subst hk
   simp only [zfd] at h1
   rw [if_neg (by decide), if_pos trivial] at h1
   split at h1
   ·assumption
   ·cases h1
  ·intro hk
   subst hk
   simp only [zfd] at h1
   rw [if_neg (by decide), if_neg (by decide), if_pos trivial] at h1
   split at h1
   ·cases h1
   ·rename_i f hf
    split at h1
    ·exact ⟨f, hf, by assumption⟩
    ·cases h1
theorem okEs_of (p : Prog) (s : List Vr) : ∀ (l : List Expr) (m : Int), (zqb p s l).2 = 0 -> zFb l m = true -> okEs p (nmsVr s) l
 | [], m, _, _ => by rw [okEs]; trivial
 | x :: r, m, h, hR => by
  rw [zqb] at h
  rw [zFb, Bool.and_eq_true, Bool.and_eq_true] at hR
  split at h
  ·rename_i h1; exact absurd h h1
  rename_i h1
  split at h
  ·rename_i h2; exact absurd h h2
  rename_i h2
  rw [okEs]
  exact ⟨okE_of p s x (m - 1) (by simpa using h1) hR.1.2, okEs_of p s r m (by simpa using h2) hR.2⟩
end
theorem want_ok {p : Prog} {s : List Vr} {e : Expr} {t m : Int} (h : zTd p s e t = 0) (hR : zkb e m = true) : okE p (nmsVr s) e := by
 unfold zTd at h
 split at h
 ·rename_i h1; exact absurd h h1
 ·rename_i h1; exact okE_of p s e m (by simpa using h1) hR
theorem arg_one {l : List Expr} {p : Prog} {ns : List (List UInt8)} (hl : (l.length : Int) = 1) (h : okE p ns (arg0 l)) : okEs p ns l := by
 match l, hl with
 | [x], _ => rw [okEs, okEs]; exact ⟨h, trivial⟩
theorem arg_two {l : List Expr} {p : Prog} {ns : List (List UInt8)} (hl : (l.length : Int) = 2) (h : okE p ns (arg0 l)) (h' : okE p ns (arg1 l)) : okEs p ns l := by
 match l, hl with
 | [x, y], _ => rw [okEs, okEs, okEs]; exact ⟨h, h', trivial⟩
theorem arg0_mem {l : List Expr} (hl : 1 <= (l.length : Int)) : arg0 l ∈ l := by
 match l, hl with
 | x :: r, _ => simp [arg0]
theorem arg1_mem {l : List Expr} (hl : 2 <= (l.length : Int)) : arg1 l ∈ l := by
 match l, hl with
 | x :: y :: r, _ => simp [arg1]
theorem nms_behind (d : Int) (x : Stmt) (vs : List Vr) : nmsVr (zvb d x vs) = zcc x ++ nmsVr vs := by
 unfold zvb zcc
 split <;> rfl
theorem stmt_ok {p : Prog} {s : List Vr} {x : Stmt} {res d m : Int} {loop : Bool} (h : stmtT p res s x.kind x.type x.name x.args d loop = 0) (hR : zXb x m = true) :
  (1 <= x.kind /\ x.kind <= 10) /\ (x.args.length : Int) = (zR x.kind).2.2.1 /\ okEs p (nmsVr s) x.args /\ (x.kind = 2 -> x.name ∈ nmsVr s) /\ (x.kind = 3 -> zac p x.name = true) /\ (x.kind = 6 \/ x.kind = 7 -> loop = true) := by
 obtain ⟨r1, r2, _, _⟩ := zwd hR
 have hb : 1 <= x.kind /\ x.kind <= 10 := by
  by_cases h : 1 <= x.kind /\ x.kind <= 10
  ·exact h
  ·exfalso
   have : (zR x.kind).2.2.1 = -1 := by
    unfold zR
    repeat' (first | rw [if_neg (by omega)] | rfl)
   omega
 refine ⟨hb, r1, ?_⟩
 have m0 : 1 <= (x.args.length : Int) -> zkb (arg0 x.args) 100 = true := fun h => r2 _ (arg0_mem h)
 have m1 : 2 <= (x.args.length : Int) -> zkb (arg1 x.args) 100 = true := fun h => r2 _ (arg1_mem h)
 unfold stmtT at h
 by_cases k4 : x.kind = 4 \/ x.kind = 5
 ·rw [if_pos k4] at h
  have hl : (x.args.length : Int) = 1 := by rcases k4 with k | k <;> rw [r1, k] <;> rfl
  exact ⟨arg_one hl (want_ok h (m0 (by omega))), fun k => by omega, fun k => by omega, fun k => by omega⟩
 rw [if_neg k4] at h
 by_cases k8 : x.kind = 8
 ·rw [if_pos k8] at h
  have hl : (x.args.length : Int) = 1 := by rw [r1, k8]; rfl
  exact ⟨arg_one hl (want_ok h (m0 (by omega))), fun k => by omega, fun k => by omega, fun k => by omega⟩
 rw [if_neg k8] at h
 by_cases k9 : x.kind = 9
 ·rw [if_pos k9] at h
  have hl : (x.args.length : Int) = 1 := by rw [r1, k9]; rfl
  exact ⟨arg_one hl (want_ok h (m0 (by omega))), fun k => by omega, fun k => by omega, fun k => by omega⟩
 rw [if_neg k9] at h
 by_cases k10 : x.kind = 10
 ·rw [if_pos k10] at h
  have hl : (x.args.length : Int) = 1 := by rw [r1, k10]; rfl
  exact ⟨arg_one hl (okE_of p s _ 100 h (m0 (by omega))), fun k => by omega, fun k => by omega, fun k => by omega⟩
 rw [if_neg k10] at h
 by_cases k6 : x.kind = 6 \/ x.kind = 7
 ·rw [if_pos k6] at h
  have hl : (x.args.length : Int) = 0 := by rcases k6 with k | k <;> rw [r1, k] <;> rfl
  have hn : x.args = [] := List.eq_nil_of_length_eq_zero (by omega)
  refine ⟨by rw [hn, okEs]; trivial, fun k => by omega, fun k => by omega, fun k => ?_⟩
  cases loop
  ·simp at h
  ·rfl
 rw [if_neg k6] at h
 unfold boundT at h
 by_cases k1 : x.kind = 1
 ·rw [if_pos k1] at h
  have hl : (x.args.length : Int) = 1 := by rw [r1, k1]; rfl
  refine ⟨arg_one hl (want_ok (t := x.type) ?_ (m0 (by omega))), fun k => by omega, fun k => by omega, fun k => by omega⟩
  by_cases hw : zTd p s (arg0 x.args) x.type = 0
  ·exact hw
  ·rw [if_pos hw] at h; exact h
 rw [if_neg k1] at h
 by_cases k2 : x.kind = 2
 ·rw [if_pos k2] at h
  have hl : (x.args.length : Int) = 1 := by rw [r1, k2]; rfl
  split at h
  ·cases h
  ·rename_i v r hv
   exact ⟨arg_one hl (want_ok h (m0 (by omega))), fun k => vfindV_mem (by rw [hv]; simp), fun k => by omega, fun k => by omega⟩
 rw [if_neg k2] at h
 have k3 : x.kind = 3 := by omega
 have hl : (x.args.length : Int) = 2 := by rw [r1, k3]; rfl
 by_cases ha : x.kind = 3 /\ zac p x.name = false
 ·rw [if_pos ha] at h; cases h
 rw [if_neg ha] at h
 have ha : zac p x.name = true := by
  cases hq : zac p x.name
  ·exact absurd ⟨k3, hq⟩ ha
  ·rfl
 by_cases hw : zTd p s (arg0 x.args) 1 = 0
 ·rw [if_neg (by simp [hw])] at h
  exact ⟨arg_two hl (want_ok hw (m0 (by omega))) (want_ok h (m1 (by omega))), fun k => by omega, fun _ => ha, fun k => by omega⟩
 ·rw [if_pos hw] at h; exact absurd h hw
theorem okB_of (p : Prog) (res : Int) : ∀ (w : Nat) (l : List Stmt) (vs : List Vr) (d n m : Int) (loop : Bool), wtSs l <= w -> (zDa p res l vs d loop n).1 = 0 -> zN l m = true -> okB p (nmsVr vs) loop l := by
 intro w
 induction w with
 | zero =>
  intro l vs d n m loop hw h hR
  have hl : l = [] := by
   have := zjb l
   exact List.eq_nil_of_length_eq_zero (by omega)
  subst hl
  rw [okB]; trivial
 | succ w ih =>
  intro l vs d n m loop hw h hR
  cases l with
  | nil => rw [okB]; trivial
  | cons x r =>
   rw [zke] at h
   rw [zN, Bool.and_eq_true] at hR
   simp only [wtSs] at hw
   have hwx := zKc x
   split at h
   ·rename_i h1; exact absurd h h1
   rename_i h1
   have h1 : (zzc p res x vs d loop n).1 = 0 := by simpa using h1
   rw [okB]
   have i := ih r _ _ _ _ _ (by omega) h hR.2
   rw [nms_behind] at i
   refine ⟨?_, i⟩
   rw [block1_eq] at h1
   split at h1
   ·rename_i h2; exact absurd h1 h2
   rename_i h2
   split at h1
   ·rename_i h3; exact absurd h1 h3
   rename_i h3
   obtain ⟨r1, r2, r3, r4⟩ := zwd hR.1
   obtain ⟨s1, s2, s3, s4, s5, s6⟩ := stmt_ok (by simpa using h2) hR.1
   rw [okS_eq]
   have i1 := ih x.thn _ _ _ _ _ (by omega) (by simpa using h3) r3
   have i2 := ih x.els _ _ _ _ _ (by omega) h1 r4
   rw [nms_behind] at i1 i2
   exact ⟨s1, s2, s3, s4, s5, s6, i1, i2⟩
theorem nms_scoped (l : List Par) : nmsVr (zCb l) = (l.map (·.name)).reverse := by
 suffices h : ∀ d : List Par, nmsVr (zCb d.reverse) = d.map (·.name) by
  have := h l.reverse
  rw [List.reverse_reverse] at this
  rw [this, List.map_reverse]
 intro d
 induction d with
 | nil => rfl
 | cons x r ih => rw [List.reverse_cons, scopedV_snoc]; simp only [nmsVr, List.map_cons] at ih ⊢; rw [ih]
structure OkP (p : Prog) : Prop where
 sz : PSz p
 fn : ∀ f ∈ p.funcs, okB p ((f.params.map (·.name)).reverse) false f.body /\ zud f.body = true /\ (f.params.map (·.name)).Nodup
 main : ∃ f, zEb p zGd = some f /\ f.params = []
 names : (p.arrays.map (·.name)).Nodup
 size : ∀ a ∈ p.arrays, 1 <= a.size /\ a.size <= 1000
theorem checkGo_ok (p : Prog) : ∀ (l : List Func) (i : Int), (zje p l i).1 = 0 -> ∀ f ∈ l, (zZc p f).1 = 0
 | [], _, _, _, h => by cases h
 | g :: r, i, h, f, hf => by
  rw [zje] at h
  split at h
  ·rename_i h1; exact absurd h h1
  rename_i h1
  rcases List.mem_cons.1 hf with rfl | hf
  ·simpa using h1
  ·exact checkGo_ok p r _ h f hf
theorem checkT_ok {p : Prog} (hz : PSz p) (h : (checkT p).1 = 0) : OkP p := by
 unfold checkT at h
 split at h
 case isFalse => cases h
 rename_i hR
 split at h
 case isFalse => cases h
 rename_i hN
 unfold zrc at hR
 rw [Bool.and_eq_true, List.all_eq_true, List.all_eq_true] at hR
 unfold namedM at hN
 rw [Bool.and_eq_true, decide_eq_true_eq] at hN
 obtain ⟨hN1, hN2⟩ := hN
 refine ⟨hz, ?_, ?_, (List.nodup_append.1 hN1).1, ?_⟩
 ·intro f hf
  have h1 := checkGo_ok p _ _ h f hf
  have hfR := hR.2 f hf
  unfold funcR at hfR
  simp only [Bool.and_eq_true] at hfR
  unfold zZc at h1
  split at h1
  ·cases h1
  rename_i ht
  simp only at h1
  have ht : (f.params.map (·.name)).Nodup := by
   unfold twiceM at ht
   simpa using ht
  split at h1
  ·cases h1
  rename_i he
  have hb := okB_of p f.type _ f.body _ _ _ _ _ (Nat.le_refl _) h1 hfR.2.2.2.1
  rw [nms_scoped] at hb
  refine ⟨hb, ?_, ht⟩
  cases hq : zud f.body
  ·exact absurd ⟨h1, hq⟩ he
  ·rfl
 ·split at hN2
  ·rename_i f hf
   rw [Bool.and_eq_true, decide_eq_true_eq, decide_eq_true_eq] at hN2
   exact ⟨f, hf, hN2.2⟩
  ·cases hN2
 ·intro a ha
  have := hR.1 a ha
  unfold arrR at this
  simp only [Bool.and_eq_true, decide_eq_true_eq] at this
  exact this.2
end PE.U

namespace PE.U
open Go PE
structure Fx (p : Prog) (ev : Ev) : Prop where
 brk : ∀ s V S V1, leaves1 s = false -> (ev.stmt s V S).1 ≠ .ok (.brk, V1)
 loop : ∀ s ns V S, okS p ns false s -> ∀ h V1, (ev.stmt s V S).1 = .ok (h, V1) -> h = .on \/ ∃ n, h = .ret n
 ends : ∀ s V S V1, ends1 s = true -> (ev.stmt s V S).1 ≠ .ok (.on, V1)
 tru : ∀ e V S, e.kind = 2 -> ∀ n, (ev.expr e V S).1 = .ok n -> n = e.n
section
variable {p : Prog} {ev : Ev} (E : Fx p ev)
include E
theorem stmtsW_brk : ∀ (l : List Stmt) (V : Vs) (S : RS) (V1 : Vs), zPa l = false -> (zGa ev l V S).1 ≠ .ok (.brk, V1)
 | [], V, S, V1, _ => by simp [zGa]
 | x :: r, V, S, V1, h => by
  rw [zPa, Bool.or_eq_false_iff] at h
  have hb := E.brk x V S
  unfold zGa
  generalize ev.stmt x V S = q at *
  obtain ⟨a, S1⟩ := q
  cases a with
  | stop k => simp
  | ok y =>
   obtain ⟨y, V2⟩ := y
   cases y with
   | on => exact stmtsW_brk r V2 S1 V1 h.2
   | brk => exact fun _ => hb V2 h.1 rfl
   | cont => simp
   | ret n => simp
theorem blockW_brk (l : List Stmt) (V : Vs) (S : RS) (V1 : Vs) (h : zPa l = false) : (zT ev l V S).1 ≠ .ok (.brk, V1) := by
 have hb := fun V1 => stmtsW_brk E l V S V1 h
 unfold zT
 generalize zGa ev l V S = q at *
 obtain ⟨a, S1⟩ := q
 cases a with
 | stop k => simp
 | ok y =>
  obtain ⟨y, V2⟩ := y
  cases y with
  | brk => exact fun _ => hb V2 rfl
  | on => simp
  | cont => simp
  | ret n => simp
theorem stmtsW_loop : ∀ (l : List Stmt) (ns : List (List UInt8)) (V : Vs) (S : RS), okB p ns false l -> ∀ h V1, (zGa ev l V S).1 = .ok (h, V1) -> h = .on \/ ∃ n, h = .ret n
 | [], ns, V, S, _, h, V1, e => by cases e; exact .inl rfl
 | x :: r, ns, V, S, ho, h, V1, e => by
  rw [okB] at ho
  have hb := E.loop x ns V S ho.1
  unfold zGa at e
  generalize ev.stmt x V S = q at *
  obtain ⟨a, S1⟩ := q
  cases a with
  | stop k => cases e
  | ok y =>
   obtain ⟨y, V2⟩ := y
   cases y with
   | on => exact stmtsW_loop r _ V2 S1 ho.2 h V1 e
   | brk => rcases hb _ _ rfl with h | ⟨n, h⟩ <;> cases h
   | cont => rcases hb _ _ rfl with h | ⟨n, h⟩ <;> cases h
   | ret n => cases e; exact .inr ⟨n, rfl⟩
theorem blockW_loop (l : List Stmt) (ns : List (List UInt8)) (V : Vs) (S : RS) (ho : okB p ns false l) (h : How) (V1 : Vs) (e : (zT ev l V S).1 = .ok (h, V1)) : h = .on \/ ∃ n, h = .ret n := by
 have hb := stmtsW_loop E l ns V S ho
 unfold zT at e
 generalize zGa ev l V S = q at *
 obtain ⟨a, S1⟩ := q
 cases a with
 | stop k => cases e
 | ok y => obtain ⟨y, V2⟩ := y; cases e; exact hb _ _ rfl
theorem stmtsW_ends : ∀ (l : List Stmt) (V : Vs) (S : RS) (V1 : Vs), zud l = true -> (zGa ev l V S).1 ≠ .ok (.on, V1)
 | [], V, S, V1, h => by cases h
 | x :: r, V, S, V1, h => by
  rw [zud, Bool.or_eq_true] at h
  have hb := E.ends x V S
  unfold zGa
  generalize ev.stmt x V S = q at *
  obtain ⟨a, S1⟩ := q
  cases a with
  | stop k => simp
  | ok y =>
   obtain ⟨y, V2⟩ := y
   cases y with
   | on =>
    rcases h with h | h
    ·exact fun _ => hb V2 h rfl
    ·exact stmtsW_ends r V2 S1 V1 h
   | brk => simp
   | cont => simp
   | ret n => simp
theorem blockW_ends (l : List Stmt) (V : Vs) (S : RS) (V1 : Vs) (h : zud l = true) : (zT ev l V S).1 ≠ .ok (.on, V1) := by
 have hb := fun V1 => stmtsW_ends E l V S V1 h
 unfold zT
 generalize zGa ev l V S = q at *
 obtain ⟨a, S1⟩ := q
 cases a with
 | stop k => simp
 | ok y =>
  obtain ⟨y, V2⟩ := y
  cases y with
  | on => exact fun _ => hb V2 rfl
  | brk => simp
  | cont => simp
  | ret n => simp
theorem blockW_ret (l : List Stmt) (ns : List (List UInt8)) (V : Vs) (S : RS) (ho : okB p ns false l) (he : zud l = true) (h : How) (V1 : Vs) (e : (zT ev l V S).1 = .ok (h, V1)) : ∃ n, h = .ret n := by
 rcases blockW_loop E l ns V S ho h V1 e with rfl | h
 ·exact absurd e (blockW_ends E l V S V1 he)
 ·exact h
theorem loopW_how (c : Expr) (b : List Stmt) : ∀ (k : Nat) (V : Vs) (S : RS) (h : How) (V1 : Vs), (zgc ev c b k V S).1 = .ok (h, V1) -> h = .on \/ ∃ n, h = .ret n
 | 0, V, S, h, V1, e => by cases e
 | k + 1, V, S, h, V1, e => by
  unfold zgc at e
  generalize ev.expr c V S = q at *
  obtain ⟨a, S1⟩ := q
  cases a with
  | stop k => cases e
  | ok n =>
   simp only at e
   split at e
   ·cases e; exact .inl rfl
   generalize zT ev b V S1 = q at *
   obtain ⟨a, S2⟩ := q
   cases a with
   | stop k => cases e
   | ok y =>
    obtain ⟨y, V2⟩ := y
    cases y with
    | on => exact loopW_how c b k V2 S2 h V1 e
    | brk => cases e; exact .inl rfl
    | cont => exact loopW_how c b k V2 S2 h V1 e
    | ret n => cases e; exact .inr ⟨n, rfl⟩
theorem loopW_ends (c : Expr) (b : List Stmt) (hc : c.kind = 2 /\ c.n = 1) (hb : zPa b = false) : ∀ (k : Nat) (V : Vs) (S : RS) (V1 : Vs), (zgc ev c b k V S).1 ≠ .ok (.on, V1)
 | 0, V, S, V1 => by simp [zgc]
 | k + 1, V, S, V1 => by
  have ht := E.tru c V S hc.1
  unfold zgc
  generalize ev.expr c V S = q at *
  obtain ⟨a, S1⟩ := q
  cases a with
  | stop k => simp
  | ok n =>
   have hn : n = 1 := by rw [ht n rfl, hc.2]
   subst hn
   simp only
   rw [if_neg (by decide)]
   have h2 := blockW_brk E b V S1
   generalize zT ev b V S1 = q at *
   obtain ⟨a, S2⟩ := q
   cases a with
   | stop k => simp
   | ok y =>
    obtain ⟨y, V2⟩ := y
    cases y with
    | on => exact loopW_ends c b hc hb k V2 S2 V1
    | brk => exact fun _ => h2 V2 hb rfl
    | cont => exact loopW_ends c b hc hb k V2 S2 V1
    | ret n => simp
end
theorem evF_fx (p : Prog) : ∀ w, Fx p (evF p w)
 | 0 => ⟨fun _ _ _ _ _ e => (by cases e), fun _ _ _ _ _ _ _ e => (by cases e), fun _ _ _ _ _ e => (by cases e), fun _ _ _ _ _ e => (by cases e)⟩
 | w + 1 => by
  have E := evF_fx p w
  refine ⟨fun s V S V1 h => ?_, fun s ns V S h hh V1 e => ?_, fun s V S V1 h => ?_, fun e V S h n hn => ?_⟩
  ·rw [leaves1_eq, Bool.or_eq_false_iff, decide_eq_false_iff_not] at h
   obtain ⟨h6, h4⟩ := h
   simp only [evF]
   cases S.fuel with
   | zero => simp
   | succ k =>
    simp only
    unfold stmtW
    split
    ·intro e
     rcases loopW_how E _ _ _ _ _ _ _ e with h | ⟨n, h⟩ <;> cases h
    split
    ·simp
    generalize (evF p w).expr (arg0 s.args) V { S with fuel := k } = q
    obtain ⟨a, S1⟩ := q
    cases a with
    | stop k => simp
    | ok n =>
     simp only
     unfold zYb
     split
     ·simp
     split
     ·simp
     split
     ·generalize (evF p w).expr (arg1 s.args) V S1 = q
      obtain ⟨a, S2⟩ := q
      cases a with
      | stop k => simp
      | ok m => simp only; split <;> simp
     split
     ·rename_i k4
      simp only [k4, decide_true, Bool.true_and, Bool.or_eq_false_iff] at h4
      split
      ·exact blockW_brk E _ _ _ _ h4.2
      ·exact blockW_brk E _ _ _ _ h4.1
     split
     ·simp
     split
     ·simp
     ·simp
  ·rw [okS_eq] at h
   obtain ⟨h1, h2, h3, h4, h5, h6, h7, h8⟩ := h
   simp only [evF] at e
   cases hS : S.fuel with
   | zero => rw [hS] at e; cases e
   | succ k =>
    rw [hS] at e
    simp only at e
    unfold stmtW at e
    split at e
    ·exact loopW_how E _ _ _ _ _ _ _ e
    split at e
    ·rename_i k6; exact absurd (h6 (.inl k6)) (by simp)
    split at e
    ·rename_i k6; exact absurd (h6 (.inr k6)) (by simp)
    generalize (evF p w).expr (arg0 s.args) V { S with fuel := k } = q at e
    obtain ⟨a, S1⟩ := q
    cases a with
    | stop k => cases e
    | ok n =>
     simp only at e
     unfold zYb at e
     split at e
     ·cases e; exact .inl rfl
     split at e
     ·cases e; exact .inl rfl
     split at e
     ·generalize (evF p w).expr (arg1 s.args) V S1 = q at e
      obtain ⟨a, S2⟩ := q
      cases a with
      | stop k => cases e
      | ok m =>
       simp only at e
       split at e
       ·cases e; exact .inl rfl
       ·cases e
     split at e
     ·rename_i k5 _ _ _ _ _ _
      simp only [k5, decide_false, Bool.or_false] at h7
      split at e
      ·exact blockW_loop E _ _ _ _ h8 _ _ e
      ·exact blockW_loop E _ _ _ _ h7 _ _ e
     split at e
     ·cases e; exact .inr ⟨_, rfl⟩
     split at e
     ·cases e; exact .inl rfl
     ·cases e; exact .inl rfl
  ·rw [ends1_eq] at h
   simp only [evF]
   cases S.fuel with
   | zero => simp
   | succ k =>
    simp only
    unfold stmtW
    split
    ·rename_i k5
     rw [if_neg (by omega), if_neg (by omega), if_pos k5] at h
     simp only [Bool.and_eq_true, decide_eq_true_eq, Bool.not_eq_true'] at h
     exact loopW_ends E _ _ h.1 h.2 _ _ _ _
    rename_i k5
    split
    ·simp
    split
    ·simp
    generalize (evF p w).expr (arg0 s.args) V { S with fuel := k } = q
    obtain ⟨a, S1⟩ := q
    cases a with
    | stop k => simp
    | ok n =>
     simp only
     by_cases k8 : s.kind = 8
     ·unfold zYb
      rw [if_neg (by omega), if_neg (by omega), if_neg (by omega), if_neg (by omega), if_pos k8]
      simp
     rw [if_neg k8] at h
     by_cases k4 : s.kind = 4
     ·rw [if_pos k4, Bool.and_eq_true] at h
      unfold zYb
      rw [if_neg (by omega), if_neg (by omega), if_neg (by omega), if_pos k4]
      split
      ·exact blockW_ends E _ _ _ _ h.2
      ·exact blockW_ends E _ _ _ _ h.1
     rw [if_neg k4, if_neg k5] at h
     cases h
  ·simp only [evF] at hn
   cases hS : S.fuel with
   | zero => rw [hS] at hn; cases hn
   | succ k =>
    rw [hS] at hn
    simp only [exprW] at hn
    rw [if_pos (.inr h)] at hn
    cases hn; rfl
end PE.U

namespace PE.U
open Go PE
def zYa (k : Nat) : List PArr -> List (PV × PV)
 | [] => []
 | a :: r => (.str a.name, .mslice k 0 a.size.toNat 1) :: zYa (k + 1) r
def intO (l : List Int) : Obj := .arr 1 (l.map (PV.int .i64))
def boxO (n : Int) : Obj := .arr 1 [.int .i64 n]
def rowsO (l : List (List Int)) : zd := l.map intO
def runCells (p : Prog) (S : RS) (v : Int) : List PV := [zwa p.arrays, funcs p.funcs, ints S.inp, .mp 0, .int .i64 0, .int .i64 0, acc 1 (S.out.map (PV.int .i64)), .int .i64 S.cost, .int .i64 S.fuel, .int .i64 v]
def runO (p : Prog) (S : RS) (v : Int) : Obj := .arr 10 [.agg (runCells p S v)]
def sto (p : Prog) (S : RS) (v : Int) (T : zd) : zd := .mp (zYa 2 p.arrays) :: runO p S v :: (rowsO S.arrs ++ T)
def endV (k : Int) : PV := .iface 119 (.agg [.int .i64 k])
section
variable (p : Prog) (S : RS) (v : Int) (T : zd)
@[simp] theorem sto_0 : (sto p S v T)[0]? = some (.mp (zYa 2 p.arrays)) := rfl
@[simp] theorem sto_1 : (sto p S v T)[1]? = some (.arr 10 [.agg [zwa p.arrays, funcs p.funcs, ints S.inp, .mp 0, .int .i64 0, .int .i64 0, acc 1 (S.out.map (PV.int .i64)), .int .i64 S.cost, .int .i64 S.fuel, .int .i64 v]]) := rfl
@[simp] theorem set_fuel (k : Nat) : (sto p S v T).set 1 (.arr 10 [.agg [zwa p.arrays, funcs p.funcs, ints S.inp, .mp 0, .int .i64 0, .int .i64 0, acc 1 (S.out.map (PV.int .i64)), .int .i64 S.cost, .int .i64 k, .int .i64 v]]) = sto p { S with fuel := k } v T := rfl
@[simp] theorem set_cost : (sto p S v T).set 1 (.arr 10 [.agg [zwa p.arrays, funcs p.funcs, ints S.inp, .mp 0, .int .i64 0, .int .i64 0, acc 1 (S.out.map (PV.int .i64)), .int .i64 (zy .i64 (S.cost + 1)), .int .i64 S.fuel, .int .i64 v]]) = sto p (zZ S) v T := by
 rw [zea]; rfl
@[simp] theorem set_val (u : Int) : (sto p S v T).set 1 (.arr 10 [.agg [zwa p.arrays, funcs p.funcs, ints S.inp, .mp 0, .int .i64 0, .int .i64 0, acc 1 (S.out.map (PV.int .i64)), .int .i64 S.cost, .int .i64 S.fuel, .int .i64 u]]) = sto p S u T := rfl
@[simp] theorem set_inp (l : List Int) : (sto p S v T).set 1 (.arr 10 [.agg [zwa p.arrays, funcs p.funcs, .slice .plain 1 (l.map (PV.int .i64)), .mp 0, .int .i64 0, .int .i64 0, acc 1 (S.out.map (PV.int .i64)), .int .i64 S.cost, .int .i64 S.fuel, .int .i64 v]]) = sto p { S with inp := l } v T := rfl
end
@[simp] theorem rebuild_int (k : IntKind) (n : Int) (cs : List PV) : zza (.int k n) cs = cs.headD .undef := Eq.trans rfl rfl
theorem stop_spec (k : Int) (σ : zd) : zh E 159 [.ptr 1 0 0, .int .i64 k] σ = some (.pan (endV k), σ) := by
 refine zc rfl rfl rfl (by simp) ?_
 simp [F159, endV]
theorem step_spec (p : Prog) (S : RS) (v : Int) (T : zd) (hf : S.fuel <= 9000000000000000000) : zh E 141 [.ptr 1 0 0] (sto p S v T) = some (match S.fuel with
  | 0 => (.pan (endV 0), sto p S v T)
  | k + 1 => (.ret (.tup []), sto p { S with fuel := k } v T)) := by
 refine zc rfl rfl rfl (by simp) ?_
 have h0 := stop_spec 0 (sto p S v T)
 cases h : S.fuel with
 | zero => simp [*, F141]
 | succ k =>
  have hw : zy .i64 (((k + 1 : Nat) : Int) - 1) = (k : Int) := by rw [zj] <;> omega
  have hne : (((k + 1 : Nat) : Int) = 0) = False := eqn (by omega)
  clear h0
  have hs : (sto p S v T).set 1 (.arr 10 [.agg [zwa p.arrays, funcs p.funcs, ints S.inp, .mp 0, .int .i64 0, .int .i64 0, acc 1 (S.out.map (PV.int .i64)), .int .i64 S.cost, .int .i64 k, .int .i64 v]]) = sto p { S with fuel := k } v T := rfl
  generalize hc : ((k + 1 : Nat) : Int) = c at *
  simp [*, F141]
def FitS (p : Prog) (S : RS) : Prop := S.arrs.map List.length = p.arrays.map (fun a => a.size.toNat) /\ S.out.length + S.fuel <= 1000000000000
theorem FitS.mono {p : Prog} {S S1 : RS} (h : FitS p S) (m : Mono S S1) : FitS p S1 := ⟨m.arrs.trans h.1, Nat.le_trans m.out h.2⟩
theorem FitS.len {p : Prog} {S : RS} (h : FitS p S) : S.arrs.length = p.arrays.length := by
 have := congrArg List.length h.1
 simpa using this
theorem FitS.cost {p : Prog} {S : RS} (h : FitS p S) : FitS p (zZ S) := h
theorem arrFrom_find (nm : List UInt8) : ∀ (l : List PArr) (k : Nat), zO true (.str nm) (zYa k l) = some (match l.findIdx? (fun a => decide (a.name = nm)) with
  | some i => match l[i]? with
   | some a => some (.mslice (k + i) 0 a.size.toNat 1)
   | none => none
  | none => none)
 | [], k => rfl
 | a :: r, k => by
  have ih := arrFrom_find nm r (k + 1)
  rw [zYa, List.findIdx?_cons]
  by_cases h : a.name = nm
  ·simp [h]
  ·have h' : ¬ nm = a.name := fun e => h e.symm
   simp only [zO, zsc, if_true, h', decide_false, h]
   rw [ih]
   cases r.findIdx? (fun a => decide (a.name = nm)) with
   | none => simp
   | some i =>
    simp only [Option.map_some, List.getElem?_cons_succ, Bool.false_eq_true, if_false]
    cases r[i]? with
    | none => rfl
    | some b => simp only; congr 3; omega
theorem arr_at {p : Prog} {S : RS} {nm : List UInt8} (hS : FitS p S) (h : zac p nm = true) : ∃ (i : Nat) (l : List Int), zRd p nm = i /\ i < S.arrs.length /\ S.arrs[i]? = some l /\ zO true (.str nm) (zYa 2 p.arrays) = some (some (.mslice (i + 2) 0 l.length 1)) := by
 have h1 := idx_ge (fun f : PArr => decide (f.name = nm)) p.arrays
 rcases zJd (fun f : PArr => decide (f.name = nm)) p.arrays with ⟨a1, a2⟩ | ⟨i, a, a1, a2, a3, a4, a5⟩
 ·rw [a1] at h1
  exfalso
  have : zac p nm = decide ((0 : Int) <= -1) := h1.symm
  rw [this] at h
  exact absurd h (by decide)
 ·have hlt : i < S.arrs.length := by rw [hS.len]; exact a4
  refine ⟨i, S.arrs[i], a1, hlt, List.getElem?_eq_getElem hlt, ?_⟩
  rw [arrFrom_find]
  have hx : p.arrays.findIdx? (fun a => decide (a.name = nm)) = some i := by
   have : idx (fun f : PArr => decide (f.name = nm)) p.arrays = i := a1
   unfold idx at this
   cases hq : p.arrays.findIdx? (fun a => decide (a.name = nm)) with
   | none => rw [hq] at this; simp at this <;> omega
   | some j => rw [hq] at this; simp at this; exact congrArg some (by omega)
  rw [hx]
  simp only [a2]
  have hl : (S.arrs[i]).length = a.size.toNat := by
   have e := congrArg (fun l : List Nat => l[i]?) hS.1
   simp only [List.getElem?_map, a2, List.getElem?_eq_getElem hlt, Option.map_some, Option.some.injEq] at e
   exact e
  rw [hl, Nat.add_comm 2 i]
theorem sto_row {p : Prog} {S : RS} {v : Int} {T : zd} {i : Nat} {l : List Int} (h : S.arrs[i]? = some l) : (sto p S v T)[i + 2]? = some (.arr 1 (l.map (PV.int .i64))) := by
 have hlt := (List.getElem?_eq_some_iff.1 h).1
 simp only [sto, List.getElem?_cons_succ]
 rw [List.getElem?_append_left (by simpa [rowsO] using hlt)]
 simp [rowsO, h, intO]
theorem sto_setrow {p : Prog} {S : RS} {v : Int} {T : zd} {i : Nat} {l : List Int} (h : S.arrs[i]? = some l) (l' : List Int) : (sto p S v T).set (i + 2) (.arr 1 (l'.map (PV.int .i64))) = sto p { S with arrs := S.arrs.set i l' } v T := by
 have hlt := (List.getElem?_eq_some_iff.1 h).1
 simp only [sto, List.set_cons_succ]
 rw [List.set_append_left _ _ (by simpa [rowsO] using hlt)]
 have : (rowsO S.arrs).set i (.arr 1 (l'.map (PV.int .i64))) = rowsO (S.arrs.set i l') := by simp [rowsO, List.map_set, intO]
 rw [this]
 rfl
theorem cell_spec {p : Prog} {S : RS} {v : Int} {T : zd} {nm : List UInt8} {i : Nat} {l : List Int} (n : Int) (hl : S.arrs[i]? = some l) (hm : zO true (.str nm) (zYa 2 p.arrays) = some (some (.mslice (i + 2) 0 l.length 1))) :
  zh E 144 [.ptr 1 0 0, .str nm, .int .i64 n] (sto p S v T) = some (if 0 <= n /\ n < l.length then (.ret (.ptr (i + 2) n.toNat 0), sto p S v T) else (.pan (endV 3), sto p S v T)) := by
 refine zc rfl rfl rfl (by simp) ?_
 have h3 := stop_spec 3 (sto p S v T)
 by_cases h0 : n < 0
 ·have hn : ¬ (0 <= n /\ n < l.length) := by omega
  rw [if_neg hn]
  replace h0 := eqp h0
  simp [*, F144]
 ·by_cases h1 : (l.length : Int) <= n
  ·have hn : ¬ (0 <= n /\ n < l.length) := by omega
   rw [if_neg hn]
   replace h0 := eqn h0
   replace h1 := eqp h1
   simp [*, F144]
  ·rw [if_pos (by omega)]
   have h4 : 0 <= n := by omega
   have h5 : n.toNat < l.length := by omega
   replace h0 := eqn h0
   replace h1 := eqn h1
   clear h3
   simp [*, F144]
theorem read_spec (p : Prog) (S : RS) (v : Int) (T : zd) : zh E 167 [.ptr 1 0 0] (sto p S v T) = some (match S.inp with
  | [] => (.pan (endV 4), sto p S v T)
  | n :: r => (.ret (.int .i64 n), sto p { S with inp := r } v T)) := by
 refine zc rfl rfl rfl (by simp) ?_
 have h4 := stop_spec 4 (sto p S v T)
 cases h : S.inp with
 | nil => simp [*, F167, ints]
 | cons n r =>
  have hne : ¬ ((r.length : Int) + 1 = 0) := by omega
  have hs : (sto p S v T).set 1 (.arr 10 [.agg [zwa p.arrays, funcs p.funcs, .slice .plain 1 (r.map (PV.int .i64)), .mp 0, .int .i64 0, .int .i64 0, acc 1 (S.out.map (PV.int .i64)), .int .i64 S.cost, .int .i64 S.fuel, .int .i64 v]]) = sto p { S with inp := r } v T := rfl
  have ht : List.take r.length (r.map (PV.int .i64)) = r.map (PV.int .i64) := by rw [List.take_of_length_le]; simp
  clear h4
  simp [*, F167, ints]
end PE.U

namespace PE.U
open Go PE
structure Bnd where
 name : List UInt8
 box : Nat
 val : Int
def zA (B : List Bnd) : Vs := B.map fun b => (b.name, b.val)
def zQa (B : List Bnd) : List (List UInt8 × Nat) := B.map fun b => (b.name, b.box)
def zBc (nm : List UInt8) : List Bnd -> Option Bnd
 | [] => none
 | b :: r => if b.name = nm then some b else zBc nm r
def setB (nm : List UInt8) (n : Int) : List Bnd -> List Bnd
 | [] => []
 | b :: r => if b.name = nm then { b with val := n } :: r else b :: setB nm n r
theorem names_valsB (B : List Bnd) : zha (zA B) = B.map (·.name) := by simp [zha, zA]
theorem keysB_names {B C : List Bnd} (h : zQa B = zQa C) : B.map (·.name) = C.map (·.name) := by
 have := congrArg (List.map Prod.fst) h
 simpa [zQa, List.map_map, Function.comp_def] using this
theorem keys_set (nm : List UInt8) (n : Int) (B : List Bnd) : zQa (setB nm n B) = zQa B := by
 induction B with
 | nil => rfl
 | cons b r ih =>
  unfold setB
  split
  ·rfl
  ·simp only [zQa, List.map_cons] at ih ⊢; rw [ih]
theorem vals_set (nm : List UInt8) (n : Int) (B : List Bnd) : zA (setB nm n B) = setV nm n (zA B) := by
 induction B with
 | nil => rfl
 | cons b r ih =>
  simp only [setB, zA, List.map_cons, setV] at ih ⊢
  split
  ·rename_i h; simp [h]
  ·simp only [List.map_cons]; rw [ih]
theorem lookB_of {nm : List UInt8} {B : List Bnd} (h : nm ∈ B.map (·.name)) : ∃ b, zBc nm B = some b /\ b ∈ B /\ b.name = nm /\ getV nm (zA B) = b.val := by
 induction B with
 | nil => cases h
 | cons b r ih =>
  by_cases hb : b.name = nm
  ·exact ⟨b, by simp [zBc, hb], by simp, hb, by simp [zA, getV, hb]⟩
  ·have : nm ∈ r.map (·.name) := by
    rcases List.mem_cons.1 h with h | h
    ·exact absurd h.symm hb
    ·exact h
   obtain ⟨c, h1, h2, h3, h4⟩ := ih this
   exact ⟨c, by simp [zBc, hb, h1], by simp [h2], h3, by simp only [zA, List.map_cons, getV, hb, if_false] at h4 ⊢; exact h4⟩
theorem lookB_box {B C : List Bnd} (h : zQa B = zQa C) (nm : List UInt8) : (zBc nm B).map (·.box) = (zBc nm C).map (·.box) := by
 induction B generalizing C with
 | nil =>
  cases C with
  | nil => rfl
  | cons c q => cases h
 | cons b r ih =>
  cases C with
  | nil => cases h
  | cons c q =>
   simp only [zQa, List.map_cons, List.cons.injEq, Prod.mk.injEq] at h
   simp only [zBc]
   rw [h.1.1]
   split
   ·simp [h.1.2]
   ·exact ih h.2
def nb (p : Prog) : Nat := p.arrays.length + 2
def strK (es : List (PV × PV)) : Prop := ∀ q ∈ es, ∃ s, q.1 = .str s
structure FR (p : Prog) (T : zd) (m r : Nat) (B : List Bnd) : Prop where
 map : ∃ es, T[r]? = some (.mp es) /\ strK es /\ ∀ x, zO true (.str x) es = some ((zBc x B).map fun b => .ptr (nb p + b.box) 0 0)
 val : ∀ b ∈ B, T[b.box]? = some (boxO b.val) /\ m <= b.box
 nd : (B.map (·.box)).Nodup
 lo : m <= r
def Keep (m : Nat) (ex : Option Nat) (T T' : zd) : Prop := T.length <= T'.length /\ ∀ j, j < T.length -> ex ≠ some j -> T'[j]? = T[j]? \/ (m <= j /\ ∃ a b, T[j]? = some (boxO a) /\ T'[j]? = some (boxO b))
theorem Keep.refl (m : Nat) (ex : Option Nat) (T : zd) : Keep m ex T T := ⟨Nat.le_refl _, fun _ _ _ => .inl rfl⟩
theorem Keep.trans {m : Nat} {ex : Option Nat} {A B C : zd} (h : Keep m ex A B) (k : Keep m ex B C) : Keep m ex A C := by
 refine ⟨Nat.le_trans h.1 k.1, fun j hj he => ?_⟩
 have h1 := h.2 j hj he
 have h2 := k.2 j (by have := h.1; omega) he
 rcases h1 with h1 | ⟨hm, a, b, h1, h1'⟩ <;> rcases h2 with h2 | ⟨hm', c, d, h2, h2'⟩
 ·exact .inl (h2.trans h1)
 ·exact .inr ⟨hm', c, d, by rw [<- h1]; exact h2, h2'⟩
 ·exact .inr ⟨hm, a, b, h1, by rw [h2]; exact h1'⟩
 ·exact .inr ⟨hm, a, d, h1, h2'⟩
theorem Keep.weaken {m : Nat} {ex : Option Nat} {A B : zd} (h : Keep m none A B) : Keep m ex A B := ⟨h.1, fun j hj _ => h.2 j hj (by simp)⟩
theorem zLc {p : Prog} {S : RS} {v : Int} {T : zd} (hS : FitS p S) : (sto p S v T).length = nb p + T.length := by
 simp [sto, rowsO, hS.len, nb]; omega
theorem zpd {p : Prog} {S : RS} {v : Int} {T : zd} (hS : FitS p S) (j : Nat) : (sto p S v T)[nb p + j]? = T[j]? := by
 have : nb p + j = p.arrays.length + j + 2 := by unfold nb; omega
 rw [this]
 simp only [sto, List.getElem?_cons_succ]
 rw [List.getElem?_append_right (by simp [rowsO, hS.len])]
 simp [rowsO, hS.len]
theorem sto_set {p : Prog} {S : RS} {v : Int} {T : zd} (hS : FitS p S) (j : Nat) (o : Obj) : (sto p S v T).set (nb p + j) o = sto p S v (T.set j o) := by
 have : nb p + j = p.arrays.length + j + 2 := by unfold nb; omega
 rw [this]
 simp only [sto, List.set_cons_succ]
 rw [List.set_append_right _ _ (by simp [rowsO, hS.len])]
 simp [rowsO, hS.len]
theorem zec {p : Prog} {S : RS} {v : Int} {T L : zd} : sto p S v T ++ L = sto p S v (T ++ L) := by simp [sto]
theorem sto_take {p : Prog} {S : RS} {v : Int} {T : zd} (hS : FitS p S) (j : Nat) : (sto p S v T).take (nb p + j) = sto p S v (T.take j) := by
 have : nb p + j = p.arrays.length + j + 2 := by unfold nb; omega
 rw [this]
 simp only [sto, List.take_succ_cons]
 rw [List.take_append, List.take_of_length_le (by simp [rowsO, hS.len])]
 simp [rowsO, hS.len]
theorem arrFrom_below (n : Nat) : ∀ (l : List PArr) (k : Nat), k + l.length <= n -> zAc n (zYa k l) = true
 | [], _, _ => rfl
 | a :: r, k, h => by
  simp only [List.length_cons] at h
  simp only [zYa, zAc, below_str, below_mslice, Bool.true_and, Bool.and_eq_true, decide_eq_true_eq]
  exact ⟨by omega, arrFrom_below n r (k + 1) (by omega)⟩
theorem belowL_acc (n : Nat) (l : List Int) : zu n (acc 1 (l.map (PV.int .i64))) = true := by
 cases l with
 | nil => rfl
 | cons x r => simp
theorem sto_wf {p : Prog} {S : RS} {v : Int} {T : zd} (hS : FitS p S) {n : Nat} (hn : nb p <= n) (hT : zd.wf n T = true) : zd.wf n (sto p S v T) = true := by
 unfold zd.wf at hT ⊢
 simp only [sto, List.all_cons, List.all_append, Bool.and_eq_true]
 refine ⟨?_, ?_, ?_, hT⟩
 ·exact arrFrom_below n p.arrays 2 (by unfold nb at hn; omega)
 ·have h0 : 0 < n := by unfold nb at hn; omega
  simp [runO, runCells, Obj.below, belowL_acc, ints, h0]
 ·rw [List.all_eq_true]
  intro o ho
  simp only [rowsO, List.mem_map] at ho
  obtain ⟨l, _, rfl⟩ := ho
  simp [intO, Obj.below]
def outE (q : Rt Int) : CRes := match q with
 | .ok n => .ret (.int .i64 n)
 | .stop k => .pan (endV k)
@[simp] theorem outE_ok (n : Int) : outE (.ok n) = .ret (.int .i64 n) := rfl
@[simp] theorem outE_stop (n : Int) : outE (.stop n) = .pan (endV n) := rfl
def isE (p : Prog) (T : zd) (q : Rt Int × RS) : CRes -> zd -> Prop := fun res st => ∃ v, res = outE q.1 /\ st = sto p q.2 v T
@[simp] theorem isE_ok (p : Prog) (T : zd) (n : Int) (S : RS) (v : Int) : isE p T (.ok n, S) (.ret (.int .i64 n)) (sto p S v T) = True := eq_true ⟨v, rfl, rfl⟩
@[simp] theorem isE_stop (p : Prog) (T : zd) (n : Int) (S : RS) (v : Int) : isE p T (.stop n, S) (.pan (endV n)) (sto p S v T) = True := eq_true ⟨v, rfl, rfl⟩
theorem zsd {p : Prog} {T : zd} {q : Rt Int × RS} {x : Option (CRes × zd)} (h : PC x (isE p T q)) : ∃ v, x = some (outE q.1, sto p q.2 v T) := by
 obtain ⟨r, st, e, v, rfl, rfl⟩ := zSd.1 h
 exact ⟨v, e⟩
def howN : How -> Int
 | .on => 0
 | .brk => 1
 | .cont => 2
 | .ret _ => 3
def outH (q : Rt (How × Vs)) : CRes := match q with
 | .ok x => .ret (.int .i64 (howN x.1))
 | .stop k => .pan (endV k)
def WT (p : Prog) (T : zd) : Prop := zd.wf (nb p + T.length) T = true
theorem endV_below (n : Nat) (k : Int) : zu n (endV k) = true := by simp [endV]
structure BkR (p : Prog) (T T' : zd) (m r : Nat) (B : List Bnd) (V1 : Vs) (add : List (List UInt8 × Nat) -> Prop) : Prop where
 env : ∃ B1 a, zA B1 = V1 /\ FR p T' m r B1 /\ zQa B1 = a ++ zQa B /\ add a
 wt : WT p T'
def isS (p : Prog) (T : zd) (m r : Nat) (B : List Bnd) (q : Rt (How × Vs) × RS) : CRes -> zd -> Prop := fun res st => ∃ v T', res = outH q.1 /\ st = sto p q.2 v T' /\ Keep m (some r) T T' ∧
 ∀ h V1, q.1 = .ok (h, V1) -> (∀ n, h = .ret n -> v = n) /\ BkR p T T' m r B V1 (fun _ => True)
def isBk (p : Prog) (T : zd) (m r : Nat) (B : List Bnd) (q : Rt (How × Vs) × RS) : CRes -> zd -> Prop := fun res st => ∃ v T', res = outH q.1 /\ st = sto p q.2 v T' /\ Keep m none T T' /\ T'.length = T.length ∧
 ∀ h V1, q.1 = .ok (h, V1) -> (∀ n, h = .ret n -> v = n) /\ BkR p T T' m r B V1 (fun a => a = [])
def capE : Nat := 1099508000000
structure SpecE (p : Prog) (w : Nat) : Prop where
 expr : ∀ e S v T m r B, FitS p S -> S.fuel <= w -> okE p (B.map (·.name)) e -> wtE e < capE -> FR p T m r B -> WT p T →
  PC (zh E 143 [.ptr 1 0 0, zw e, .mp (nb p + r)] (sto p S v T)) (isE p T ((evF p w).expr e (zA B) S))
structure SpecS (p : Prog) (w : Nat) : Prop where
 stmt : ∀ s S v T m r B loop, FitS p S -> S.fuel <= w -> okS p (B.map (·.name)) loop s -> wtS s < capE -> FR p T m r B -> WT p T →
  PC (zh E 120 [.ptr 1 0 0, zda s, .mp (nb p + r)] (sto p S v T)) (isS p T m r B ((evF p w).stmt s (zA B) S))
theorem FR.look {p : Prog} {T : zd} {m r : Nat} {B : List Bnd} (h : FR p T m r B) {nm : List UInt8} (hn : nm ∈ B.map (·.name)) : ∃ es b, T[r]? = some (.mp es) /\ zO true (.str nm) es = some (some (.ptr (nb p + b.box) 0 0)) /\ T[b.box]? = some (boxO (getV nm (zA B))) /\ zBc nm B = some b := by
 obtain ⟨es, h1, _, h2⟩ := h.map
 obtain ⟨b, b1, b2, b3, b4⟩ := lookB_of hn
 refine ⟨es, b, h1, ?_, ?_, b1⟩
 ·rw [h2, b1]; rfl
 ·rw [b4]; exact (h.val b b2).1
theorem FR.lt {p : Prog} {T : zd} {m r : Nat} {B : List Bnd} (h : FR p T m r B) : r < T.length := by
 obtain ⟨es, h1, _⟩ := h.map
 exact (List.getElem?_eq_some_iff.1 h1).1
end PE.U

namespace PE.U
open Go PE
theorem vshort_of {p : Prog} {w : Nat} (hE : SpecE p w) {e : Expr} {S : RS} {v : Int} {T : zd} {m r : Nat} {B : List Bnd} (hS : FitS p S) (hf : S.fuel <= w) (ho : okE p (B.map (·.name)) e) (hk : e.kind = 5) (hw : wtE e < capE) (hF : FR p T m r B) (hT : WT p T) :
  PC (zh E 160 [.ptr 1 0 0, zw e, .mp (nb p + r)] (sto p S v T)) (isE p T (shortW (evF p w) e (zA B) S)) := by
 rw [okE_eq] at ho
 obtain ⟨o1, _, _, _, o5⟩ := ho
 rw [hk] at o1
 have hl : e.args.length = 2 := by
  simp only [kindR] at o1
  simp at o1
  exact o1.2.2.2
 obtain ⟨x, y, hxy⟩ : ∃ x y, e.args = [x, y] := by
  match h : e.args, hl with
  | [x, y], _ => exact ⟨x, y, rfl⟩
 rw [wtE_eq, hxy] at hw
 simp only [wtEs] at hw
 rw [hxy, okEs, okEs] at o5
 have h1 := hE.expr x S v T m r B hS hf o5.1 (by omega) hF hT
 have m1 := (zyc p w).expr x (zA B) S
 refine zga rfl rfl rfl (by simp [za]) ?_
 unfold shortW
 have e0 : arg0 e.args = x := by rw [hxy]; rfl
 have e1 : arg1 e.args = y := by rw [hxy]; rfl
 rw [e0, e1]
 have g0 : e.args[0]? = some x := by rw [hxy]; rfl
 have g1 : e.args[1]? = some y := by rw [hxy]; rfl
 generalize (evF p w).expr x (zA B) S = q at *
 obtain ⟨a, S1⟩ := q
 obtain ⟨v1, h1⟩ := zsd h1
 rw [za x] at h1
 cases a with
 | stop k =>
  clear hE hF hT hw hxy o1 o5 m1 hl e0 e1
  simp [ze] at h1
  simp [*, F160, za, ze]
 | ok n =>
  have h2 := hE.expr y S1 v1 T m r B (hS.mono m1.1) (Nat.le_trans m1.1.fuel hf) o5.2.1 (by omega) hF hT
  simp only
  generalize (evF p w).expr y (zA B) S1 = q at *
  obtain ⟨b, S2⟩ := q
  obtain ⟨v2, h2⟩ := zsd h2
  rw [za y] at h2
  clear hE hF hT hw hxy o1 o5 m1 hl e0 e1
  simp [ze] at h1
  by_cases hc : decide (n = 0) = decide (e.op = 18)
  ·simp only [hc, if_true]
   have hb : (decide (n = 0) == decide (e.op = 18)) = true := by rw [hc]; simp
   clear h2 hc
   simp [*, F160, za, ze]
  ·simp only [hc, if_false]
   have hb : (decide (n = 0) == decide (e.op = 18)) = false := by simpa using hc
   cases b <;> simp [ze] at h2 <;> simp [*, F160, za, ze]
structure BlockSpec (p : Prog) (w : Nat) : Prop where
 block : ∀ l S v T m r B loop, FitS p S -> S.fuel <= w -> okB p (B.map (·.name)) loop l -> wtSs l < capE -> FR p T m r B -> WT p T →
  PC (zh E 95 [.ptr 1 0 0, zi l, .mp (nb p + r)] (sto p S v T)) (isBk p T m r B (zT (evF p w) l (zA B) S))
def zma (b : Nat) : List Par -> List (PV × PV)
 | [] => []
 | x :: r => (.str x.name, .ptr b 0 0) :: zma (b + 1) r
def zIa (l : List Int) : zd := l.map boxO
theorem parEnt_snoc (x : Par) : ∀ (d : List Par) (b : Nat), zma b (d ++ [x]) = zma b d ++ [(.str x.name, .ptr (b + d.length) 0 0)]
 | [], b => by simp [zma]
 | y :: d, b => by
  simp only [List.cons_append, zma, parEnt_snoc x d, List.length_cons]
  rw [show b + 1 + d.length = b + (d.length + 1) from by omega]
theorem zEd (nm : List UInt8) (u : PV) : ∀ (d : List Par) (b : Nat), nm ∉ d.map (·.name) -> zmb true (.str nm) u (zma b d) = some (zma b d ++ [(.str nm, u)])
 | [], b, _ => rfl
 | y :: d, b, h => by
  simp only [List.map_cons, List.mem_cons, not_or] at h
  have ih := zEd nm u d (b + 1) h.2
  simp only [zma, zmb, zsc, if_true, h.1, decide_false]
  rw [ih]; rfl
theorem parEnt_find (x : List UInt8) : ∀ (d : List Par) (b : Nat), zO true (.str x) (zma b d) = some ((d.findIdx? (fun q => decide (q.name = x))).map fun i => .ptr (b + i) 0 0)
 | [], b => rfl
 | y :: d, b => by
  rw [zma, List.findIdx?_cons]
  by_cases h : y.name = x
  ·simp [h]
  ·have h' : ¬ x = y.name := fun e => h e.symm
   simp only [zO, zsc, if_true, h', decide_false, h]
   rw [parEnt_find x d (b + 1)]
   cases d.findIdx? (fun q => decide (q.name = x)) with
   | none => rfl
   | some i => simp; omega
def zle (b : Nat) : List Par -> List Int -> List Bnd
 | [], _ => []
 | _, [] => []
 | x :: r, n :: l => zle (b + 1) r l ++ [⟨x.name, b, n⟩]
theorem vals_bind : ∀ (ps : List Par) (l : List Int) (b : Nat), zA (zle b ps l) = bindV ps l
 | [], l, b => by simp [zle, bindV, zA]
 | x :: r, [], b => by simp [zle, bindV, zA]
 | x :: r, n :: l, b => by
  have ih := vals_bind r l (b + 1)
  simp only [zle, bindV, zA, List.map_append, List.map_cons, List.map_nil, List.zip_cons_cons, List.reverse_cons] at ih ⊢
  rw [ih]
theorem names_bind : ∀ (ps : List Par) (l : List Int) (b : Nat), l.length = ps.length -> (zle b ps l).map (·.name) = (ps.map (·.name)).reverse
 | [], l, b, _ => rfl
 | x :: r, [], b, h => by simp at h
 | x :: r, n :: l, b, h => by
  simp only [zle, List.map_append, List.map_cons, List.map_nil, List.reverse_cons]
  rw [names_bind r l (b + 1) (by simpa using h)]
theorem bind_box : ∀ (ps : List Par) (l : List Int) (b : Nat), ∀ q ∈ zle b ps l, b <= q.box /\ q.box < b + l.length /\ l[q.box - b]? = some q.val /\ (ps[q.box - b]?).map (·.name) = some q.name
 | [], l, b, q, h => by simp [zle] at h
 | x :: r, [], b, q, h => by simp [zle] at h
 | x :: r, n :: l, b, q, h => by
  simp only [zle, List.mem_append, List.mem_singleton] at h
  rcases h with h | rfl
  ·obtain ⟨h1, h2, h3, h4⟩ := bind_box r l (b + 1) q h
   have e : q.box - b = q.box - (b + 1) + 1 := by omega
   refine ⟨by omega, by simp only [List.length_cons]; omega, ?_, ?_⟩
   ·rw [e, List.getElem?_cons_succ]; exact h3
   ·rw [e, List.getElem?_cons_succ]; exact h4
  ·exact ⟨Nat.le_refl _, by simp only [List.length_cons]; omega, by simp, by simp⟩
theorem bind_nd : ∀ (ps : List Par) (l : List Int) (b : Nat), ((zle b ps l).map (·.box)).Nodup
 | [], l, b => by simp [zle]
 | x :: r, [], b => by simp [zle]
 | x :: r, n :: l, b => by
  simp only [zle, List.map_append, List.map_cons, List.map_nil]
  rw [List.nodup_append]
  refine ⟨bind_nd r l (b + 1), by simp, ?_⟩
  intro a ha c hc
  simp only [List.mem_singleton] at hc
  obtain ⟨q, hq, rfl⟩ := List.mem_map.1 ha
  have := (bind_box r l (b + 1) q hq).1
  omega
theorem lookB_mem {nm : List UInt8} {B : List Bnd} {b : Bnd} (h : zBc nm B = some b) : b ∈ B /\ b.name = nm := by
 induction B with
 | nil => cases h
 | cons c r ih =>
  simp only [zBc] at h
  split at h
  ·cases h; exact ⟨by simp, by assumption⟩
  ·have := ih h; exact ⟨by simp [this.1], this.2⟩
theorem lookB_none {nm : List UInt8} {B : List Bnd} (h : zBc nm B = none) : nm ∉ B.map (·.name) := by
 intro hm
 obtain ⟨b, hb, _⟩ := lookB_of hm
 rw [h] at hb; cases hb
theorem bind_look {ps : List Par} {l : List Int} {b : Nat} (hl : l.length = ps.length) (hn : (ps.map (·.name)).Nodup) (x : List UInt8) : (ps.findIdx? (fun q => decide (q.name = x))).map (fun i => b + i) = (zBc x (zle b ps l)).map (·.box) := by
 cases h : zBc x (zle b ps l) with
 | none =>
  have h1 := lookB_none h
  rw [names_bind _ _ _ hl, List.mem_reverse] at h1
  have : ps.findIdx? (fun q => decide (q.name = x)) = none := by
   rw [List.findIdx?_eq_none_iff]
   intro q hq
   rw [decide_eq_false_iff_not]
   rintro rfl
   exact h1 (List.mem_map.2 ⟨q, hq, rfl⟩)
  rw [this]; rfl
 | some q =>
  obtain ⟨q1, q2⟩ := lookB_mem h
  obtain ⟨b1, b2, b3, b4⟩ := bind_box ps l b q q1
  rw [Option.map_some]
  have hi : ps.findIdx? (fun q => decide (q.name = x)) = some (q.box - b) := by
   rw [List.findIdx?_eq_some_iff_getElem]
   rw [Option.map_eq_some_iff] at b4
   obtain ⟨z, z1, z2⟩ := b4
   obtain ⟨z3, z4⟩ := List.getElem?_eq_some_iff.1 z1
   refine ⟨z3, by rw [z4]; simp [z2, q2], ?_⟩
   intro j hj
   simp only [Bool.not_eq_true, decide_eq_false_iff_not]
   intro e
   have h2 : (ps.map (·.name))[j]'(by simp; omega) = (ps.map (·.name))[q.box - b]'(by simpa using z3) := by
    simp only [List.getElem_map]
    rw [e, z4, z2, q2]
   exact absurd h2 (List.pairwise_iff_getElem.1 hn j (q.box - b) _ _ (by omega))
  rw [hi]
  simp; omega
theorem parEnt_str : ∀ (ps : List Par) (b : Nat), strK (zma b ps)
 | [], b => fun q h => by cases h
 | x :: r, b => fun q h => by
  rcases List.mem_cons.1 h with rfl | h
  ·exact ⟨_, rfl⟩
  ·exact parEnt_str r (b + 1) q h
theorem FR_bind {p : Prog} {T : zd} {ps : List Par} {l : List Int} (hl : l.length = ps.length) (hn : (ps.map (·.name)).Nodup) : FR p (T ++ [.mp (zma (nb p + (T.length + 1)) ps)] ++ zIa l) T.length T.length (zle (T.length + 1) ps l) := by
 refine ⟨⟨_, by rw [List.getElem?_append_left (by simp), List.getElem?_append_right (Nat.le_refl _)]; simp; rfl, parEnt_str _ _, ?_⟩, ?_, bind_nd _ _ _, Nat.le_refl _⟩
 ·intro x
  rw [parEnt_find]
  have := bind_look (b := T.length + 1) hl hn x
  congr 1
  have e1 : (ps.findIdx? fun q => decide (q.name = x)).map (fun i => PV.ptr (nb p + (T.length + 1) + i) 0 0) = ((ps.findIdx? fun q => decide (q.name = x)).map (fun i => T.length + 1 + i)).map (fun i => PV.ptr (nb p + i) 0 0) := by
   rw [Option.map_map]
   congr 1
   funext i
   simp only [Function.comp_apply, Nat.add_assoc]
  rw [e1, this, Option.map_map]
  rfl
 ·intro q hq
  obtain ⟨b1, b2, b3, b4⟩ := bind_box _ _ _ q hq
  refine ⟨?_, by omega⟩
  rw [List.getElem?_append_right (by simp; omega)]
  simp only [List.length_append, List.length_cons, List.length_nil]
  simp only [zIa, List.getElem?_map]
  have : q.box - (T.length + (0 + 1)) = q.box - (T.length + 1) := by omega
  rw [this, b3]; rfl
theorem parEnt_below (n : Nat) : ∀ (ps : List Par) (b : Nat), b + ps.length <= n -> zAc n (zma b ps) = true
 | [], b, _ => rfl
 | x :: r, b, h => by
  simp only [List.length_cons] at h
  simp only [zma, zAc, below_str, below_ptr, Bool.true_and, Bool.and_eq_true, decide_eq_true_eq]
  exact ⟨by omega, parEnt_below n r (b + 1) (by omega)⟩
mutual
theorem belowV_le {n k : Nat} (h : n <= k) : ∀ x : PV, zu n x = true -> zu k x = true
 | .ptr l i o, q => by simp at q ⊢; omega
 | .mslice l i o z, q => by simp at q ⊢; omega
 | .mp l, q => by simp at q ⊢; omega
 | .iptr cs o, q => by simp at q ⊢; exact zwc h cs q
 | .slice _ _ cs, q => by simp at q ⊢; exact zwc h cs q
 | .agg cs, q => by simp at q ⊢; exact zwc h cs q
 | .tup cs, q => by simp at q ⊢; exact zwc h cs q
 | .fn _ a b, q => by simp at q ⊢; exact ⟨zwc h a q.1, zwc h b q.2⟩
 | .iface _ x, q => by simp at q ⊢; exact belowV_le h x q
 | .undef, _ => rfl
 | .bool _, _ => rfl
 | .int _ _, _ => rfl
 | .str _, _ => rfl
 | .nilp, _ => rfl
 | .lptr _ _, _ => rfl
 | .nilfn, _ => rfl
 | .nilmap, _ => rfl
 | .nilif, _ => rfl
theorem zwc {n k : Nat} (h : n <= k) : ∀ l : List PV, zP n l = true -> zP k l = true
 | [], _ => rfl
 | x :: r, q => by simp at q ⊢; exact ⟨belowV_le h x q.1, zwc h r q.2⟩
end
theorem belowP_le {n k : Nat} (h : n <= k) : ∀ l : List (PV × PV), zAc n l = true -> zAc k l = true
 | [], _ => rfl
 | (x, y) :: r, q => by simp [zAc] at q ⊢; exact ⟨⟨belowV_le h x q.1.1, belowV_le h y q.1.2⟩, belowP_le h r q.2⟩
theorem below_le {n k : Nat} (h : n <= k) (o : Obj) (q : o.below n = true) : o.below k = true := by
 cases o with
 | arr sz es => exact zwc h es q
 | mp es => exact belowP_le h es q
 | dead _ => rfl
theorem wf_le {n k : Nat} (h : n <= k) {T : zd} (q : zd.wf n T = true) : zd.wf k T = true := by
 unfold zd.wf at q ⊢
 rw [List.all_eq_true] at q ⊢
 exact fun o ho => below_le h o (q o ho)
theorem wf_app {n : Nat} {A B : zd} : zd.wf n (A ++ B) = (zd.wf n A && zd.wf n B) := by simp [zd.wf]
theorem wf_box (n : Nat) (l : List Int) : zd.wf n (zIa l) = true := by
 simp only [zd.wf, List.all_eq_true, zIa, List.mem_map]
 rintro o ⟨x, _, rfl⟩
 simp [boxO, Obj.below]
theorem Keep.wf {m : Nat} {T T' : zd} {n : Nat} (h : Keep m none T T') (hT : zd.wf n T = true) : zd.wf n (T'.take T.length) = true := by
 unfold zd.wf at hT ⊢
 rw [List.all_eq_true] at hT ⊢
 intro o ho
 obtain ⟨j, hj, rfl⟩ := List.getElem_of_mem ho
 simp only [List.length_take] at hj
 have hj' : j < T.length := by omega
 rcases h.2 j hj' (by simp) with q | ⟨_, a, b, _, q⟩
 ·rw [List.getElem_take]
  have e1 : T'[j]? = some T'[j] := List.getElem?_eq_getElem (by omega)
  have e2 : T[j]? = some T[j] := List.getElem?_eq_getElem hj'
  rw [e1, e2, Option.some.injEq] at q
  rw [q]
  exact hT _ (List.getElem_mem hj')
 ·rw [List.getElem_take]
  have e1 : T'[j]? = some T'[j] := List.getElem?_eq_getElem (by omega)
  rw [e1, Option.some.injEq] at q
  rw [q]; rfl
theorem Keep.same {m : Nat} {A L T' : zd} (h : Keep m none (A ++ L) T') (hm : A.length <= m) : T'.take A.length = A := by
 apply List.ext_getElem?
 intro j
 rw [List.getElem?_take]
 split
 ·rename_i hj
  rcases h.2 j (by simp; omega) (by simp) with q | ⟨q, _⟩
  ·rw [q, List.getElem?_append_left hj]
  ·omega
 ·rename_i hj
  rw [List.getElem?_eq_none (by omega)]
end PE.U

namespace PE.U
open Go PE
structure CS where
 rest : List Expr
 acc : List Int
 S : RS
 v : Int
theorem isBk_get {p : Prog} {T : zd} {m r : Nat} {B : List Bnd} {q : Rt (How × Vs) × RS} {x : Option (CRes × zd)} (h : PC x (isBk p T m r B q)) : ∃ v T', x = some (outH q.1, sto p q.2 v T') /\ Keep m none T T' /\ T'.length = T.length ∧
  ∀ h V1, q.1 = .ok (h, V1) -> (∀ n, h = .ret n -> v = n) /\ BkR p T T' m r B V1 (fun a => a = []) := by
 obtain ⟨r, st, e, v, T', rfl, rfl, h1, h2, h3⟩ := zSd.1 h
 exact ⟨v, T', e, h1, h2, h3⟩
set_option maxHeartbeats 2000000 in
theorem vcall_of {p : Prog} (hP : OkP p) {w : Nat} (hB : BlockSpec p w) {f : Func} (hf : f ∈ p.funcs) {S : RS} {v : Int} {T : zd} {l : List Int} (hS : FitS p S) (hw : S.fuel <= w) (hl : l.length = f.params.length) (hT : WT p T) :
  PC (zh E 68 [.ptr 1 0 0, zo f, ints l] (sto p S v T)) (isE p T (callW (evF p w) f l S)) := by
 obtain ⟨z1, z2, z3⟩ := hP.sz
 obtain ⟨f1, f2⟩ := z3 f hf
 obtain ⟨ok1, ok2, ok3⟩ := hP.fn f hf
 have hlen := zLc (v := v) (T := T) hS
 have hfr := FR_bind (p := p) (T := T) hl ok3
 have hbw : WT p (T ++ [.mp (zma (nb p + (T.length + 1)) f.params)] ++ zIa l) := by
  unfold WT
  rw [wf_app, wf_app, wf_box, Bool.and_true, Bool.and_eq_true]
  refine ⟨wf_le (by simp) hT, ?_⟩
  simp only [zd.wf, List.all_cons, List.all_nil, Bool.and_true, Obj.below]
  exact parEnt_below _ _ _ (by simp [zIa]; omega)
 have hblk := hB.block f.body S v _ T.length T.length (zle (T.length + 1) f.params l) false hS hw (by rw [names_bind _ _ _ hl]; exact ok1) (by unfold capE; omega) hfr hbw
 rw [vals_bind] at hblk
 have hret := blockW_ret (evF_fx p w) f.body _ (bindV f.params l) S ok1 ok2
 have hmono := (zeb (zyc p w) f.body (bindV f.params l) S).1
 refine zga rfl rfl rfl (by simp [zo]) ?_
 unfold callW
 generalize zT (evF p w) f.body (bindV f.params l) S = q at *
 obtain ⟨a, S1⟩ := q
 obtain ⟨v1, T1, h1, h2, h3, h4⟩ := isBk_get hblk
 have hsame : T1.take T.length = T := by
  have := h2
  rw [List.append_assoc] at this
  exact Keep.same this (Nat.le_refl _)
 have hS1 := hS.mono hmono
 have htk : (sto p S1 v1 T1).take (nb p + T.length) = sto p S1 v1 T := by rw [sto_take hS1, hsame]
 have hwf : zd.wf (nb p + T.length) (sto p S1 v1 T) = true := sto_wf hS1 (by omega) hT
 have hle : nb p + T.length <= (sto p S1 v1 T1).length := by
  rw [zLc hS1, h3]; simp
 have hv : ∀ n V1, a = .ok (.ret n, V1) -> v1 = n := fun n V1 e => (h4 _ _ e).1 n rfl
 have hgo : (∃ k, a = .stop k) \/ ∃ n V1, a = .ok (.ret n, V1) := by
  cases a with
  | stop k => exact .inl ⟨k, rfl⟩
  | ok x =>
   obtain ⟨h, V1⟩ := x
   obtain ⟨n, hn⟩ := hret h V1 rfl
   exact .inr ⟨n, V1, by rw [hn]⟩
 clear hblk hret hmono h2 h3 h4 hsame hbw hfr
 simp [F68, zo, parsV, ints, zec]
 refine zX f.params K68_0 B68_0 (fun d => [(15, .int .i64 d.length)]) (fun d => sto p S v (T ++ [.mp (zma (nb p + (T.length + 1)) d)] ++ zIa (l.take d.length))) (fun d => (d.map (·.name)).Nodup) (by omega) (by simp [zma, zIa]) ?_ ?_
 ·intros d x r s1 hl' hlt hget hget' hwr hp g1 g2 g3 g4
  simp at g1 g3
  have hx : x.name ∉ d.map (·.name) /\ ((d ++ [x]).map (·.name)).Nodup := by
   have h := ok3
   rw [hl'.eq] at h
   simp only [List.map_append, List.map_cons] at h ⊢
   rw [List.nodup_append] at h
   obtain ⟨h1, h2, h3⟩ := h
   have hx : x.name ∉ d.map (·.name) := fun hm => h3 _ hm _ (by simp) rfl
   refine ⟨hx, ?_⟩
   rw [List.nodup_append]
   exact ⟨h1, by simp, fun a ha b hb => by simp at hb; rintro rfl; exact hx (hb ▸ ha)⟩
  have hms := zEd x.name (.ptr (nb p + (T.length + 1 + d.length)) 0 0) d (nb p + (T.length + 1)) hx.1
  have hln : d.length < l.length := by omega
  obtain ⟨n, hn⟩ : ∃ n, l[d.length]? = some n := ⟨_, List.getElem?_eq_getElem hln⟩
  have htk1 : l.take (d.length + 1) = l.take d.length ++ [n] := by
   rw [List.take_add_one, hn]; rfl
  have hpb : zIa (l.take d.length) ++ [.arr 1 [.int .i64 n]] = zIa (l.take d.length ++ [n]) := by simp [zIa, boxO]
  have hbl : (zIa (l.take d.length)).length = d.length := by simp [zIa]; omega
  have hL : (sto p S v (T ++ [.mp (zma (nb p + (T.length + 1)) d)] ++ zIa (l.take d.length))).length = nb p + (T.length + 1 + d.length) := by
   rw [zLc hS]; simp [hbl]; omega
  have hps := parEnt_snoc x d (nb p + (T.length + 1))
  rw [show nb p + (T.length + 1) + d.length = nb p + (T.length + 1 + d.length) from by omega] at hps
  rw [<- hps] at hms
  have hset1 : (sto p S v (T ++ [.mp (zma (nb p + (T.length + 1)) d)] ++ zIa (l.take d.length) ++ [.arr 1 [.int .i64 0]])).set (nb p + (T.length + 1 + d.length)) (.arr 1 [.int .i64 n]) = sto p S v (T ++ [.mp (zma (nb p + (T.length + 1)) d)] ++ zIa (l.take d.length) ++ [.arr 1 [.int .i64 n]]) := by
   have e : T.length + 1 + d.length = (T ++ [Obj.mp (zma (nb p + (T.length + 1)) d)] ++ zIa (l.take d.length)).length := by simp [hbl]; omega
   rw [sto_set hS, e, List.set_append_right _ _ (Nat.le_refl _)]
   simp
  have hget1 : (sto p S v (T ++ [.mp (zma (nb p + (T.length + 1)) d)] ++ zIa (l.take d.length) ++ [.arr 1 [.int .i64 0]]))[nb p + (T.length + 1 + d.length)]? = some (.arr 1 [.int .i64 0]) := by
   have e : T.length + 1 + d.length = (T ++ [Obj.mp (zma (nb p + (T.length + 1)) d)] ++ zIa (l.take d.length)).length := by simp [hbl]; omega
   rw [zpd hS, e, List.getElem?_append_right (Nat.le_refl _)]
   simp
  have hget2 : (sto p S v (T ++ [.mp (zma (nb p + (T.length + 1)) d)] ++ zIa (l.take d.length) ++ [.arr 1 [.int .i64 n]]))[nb p + T.length]? = some (.mp (zma (nb p + (T.length + 1)) d)) := by
   rw [zpd hS, List.getElem?_append_left (by simp), List.getElem?_append_left (by simp), List.getElem?_append_right (Nat.le_refl _)]
   simp
  have hset2 : (sto p S v (T ++ [.mp (zma (nb p + (T.length + 1)) d)] ++ zIa (l.take d.length) ++ [.arr 1 [.int .i64 n]])).set (nb p + T.length) (.mp (zma (nb p + (T.length + 1)) (d ++ [x]))) = sto p S v (T ++ [.mp (zma (nb p + (T.length + 1)) (d ++ [x]))] ++ zIa (l.take (d.length + 1))) := by
   rw [sto_set hS, htk1]
   congr 1
   rw [List.append_assoc, List.append_assoc, List.set_append_right _ _ (Nat.le_refl _), hpb]
   simp
  have hfin : sto p S v (T ++ [.mp (zma (nb p + (T.length + 1)) (d ++ [x]))] ++ zIa (l.take (d.length + 1))) = sto p S v (T ++ [.mp (zma (nb p + (T.length + 1)) (d ++ [x]))] ++ zIa (l.take (d.length + 1))) := rfl
  generalize hA3 : (T ++ [.mp (zma (nb p + (T.length + 1)) (d ++ [x]))] ++ zIa (l.take (d.length + 1))) = A3 at hset2
  generalize hA2 : (T ++ [.mp (zma (nb p + (T.length + 1)) d)] ++ zIa (l.take d.length) ++ [.arr 1 [.int .i64 n]]) = A2 at hset1 hget2 hset2
  generalize hA : (T ++ [.mp (zma (nb p + (T.length + 1)) d)] ++ zIa (l.take d.length)) = A at hset1 hget1 hL g4
  simp at hA3
  have hx2 := hx.2
  simp only [List.map_append, List.map_cons, List.map_nil] at hx2
  have hdec : decide (d.length < f.params.length) = true := decide_eq_true hlt
  clear hx hS1 htk hwf hle hv hgo h1 hl' hps ok1 ok2 ok3 hT hf hB hP hln hbl htk1 hpb hfin hA2 hA hget' hlt hp f1 f2 z1 z2 z3 hw hl
  simp [*, encPar, zec]
 ·intros s1 hp g1 g2 g3 g4
  simp at g1 g3
  have e1 : l.take f.params.length = l := by rw [<- hl]; exact List.take_length
  rw [e1] at g4
  clear hT hf hB hP ok1 ok2 ok3 hp
  rcases hgo with ⟨k, hgo⟩ | ⟨n, V1, hgo⟩
  ·subst hgo
   clear hv
   simp [outH] at h1
   simp [*, finPan, endV_below]
  ·have hv1 := hv n V1 hgo
   clear hv
   subst hgo
   subst hv1
   simp [outH, howN] at h1
   simp [*, fin]
theorem vmade_of {p : Prog} (hP : OkP p) {w : Nat} (hB : BlockSpec p w) {e : Expr} {S : RS} {v : Int} {T : zd} {l : List Int} {ns : List (List UInt8)} (hS : FitS p S) (hw : S.fuel <= w) (hl : l.length = e.args.length) (ho : okE p ns e) (hk : ¬ (e.kind = 1 \/ e.kind = 2 \/ e.kind = 3)) (hT : WT p T) :
  PC (zh E 161 [.ptr 1 0 0, zw e, ints l] (sto p S v T)) (isE p T (madeW p (evF p w) e l S)) := by
 rw [okE_eq] at ho
 obtain ⟨o1, _, o6, o7, _⟩ := ho
 refine zga rfl rfl rfl (by simp [za, ints]) ?_
 unfold madeW
 by_cases k4 : e.kind = 4
 ·rw [if_pos k4]
  have h1 : l.length = 1 := by
   rw [k4] at o1; simp [kindR] at o1; omega
  obtain ⟨x, hx⟩ := List.length_eq_one_iff.1 h1
  subst hx
  have hone := one_spec e.op x []
  rw [one_eqC] at hone
  have e0 : at0 [x] = x := rfl
  rw [e0]
  replace k4 := eqp k4
  clear o1 o6 o7 hk
  simp [*, F161, za, ints, ze]
 rw [if_neg k4]
 by_cases k6 : e.kind = 6
 ·rw [if_pos k6]
  have h1 : l.length = 1 := by
   rw [k6] at o1; simp [kindR] at o1; omega
  obtain ⟨x, hx⟩ := List.length_eq_one_iff.1 h1
  subst hx
  have e0 : at0 [x] = x := rfl
  rw [e0]
  obtain ⟨i, row, a1, a2, a3, a4⟩ := arr_at hS (o6 k6)
  have hc := cell_spec (v := v) (T := T) x a3 a4
  have hr := sto_row (v := v) (T := T) (p := p) a3
  unfold cellAt
  rw [a1]
  simp only [Int.toNat_natCast, a3, Option.bind_some]
  by_cases hx : 0 <= x /\ x < row.length
  ·rw [if_pos hx] at hc
   have hn : ¬ x < 0 := by omega
   have hlt : x.toNat < row.length := by omega
   rw [if_neg hn]
   obtain ⟨y, hy⟩ : ∃ y, row[x.toNat]? = some y := ⟨_, List.getElem?_eq_getElem hlt⟩
   rw [hy]
   replace k6 := eqp k6
   replace k4 := eqn k4
   clear o1 o6 o7 hk hx hn hlt
   simp [*, F161, za, ints, ze]
  ·rw [if_neg hx] at hc
   have hnone : (if x < 0 then none else row[x.toNat]?) = none := by
    split
    ·rfl
    ·rw [List.getElem?_eq_none]; omega
   rw [hnone]
   replace k6 := eqp k6
   replace k4 := eqn k4
   clear o1 o6 o7 hk hx hnone
   simp [*, F161, za, ints, ze]
 rw [if_neg k6]
 by_cases k8 : e.kind = 8
 ·rw [if_pos k8]
  have hr := read_spec p S v T
  replace k4 := eqn k4
  replace k6 := eqn k6
  replace k8 := eqp k8
  clear o1 o6 o7 hk
  cases hi : S.inp with
  | nil => rw [hi] at hr; simp [*, F161, za, ints, ze]
  | cons n r => rw [hi] at hr; simp [*, F161, za, ints, ze]
 rw [if_neg k8]
 by_cases k7 : e.kind = 7
 ·rw [if_pos k7]
  obtain ⟨f, hf, hfl⟩ := o7 k7
  have hpl := zBd p e.name [] (by have := hP.sz.2.1; omega)
  rcases zJd (fun f : Func => decide (f.name = e.name)) p.funcs with ⟨a1, a2⟩ | ⟨n, g, a1, a2, a3, a4, a5⟩
  ·have a2 : zEb p e.name = none := a2
   rw [a2] at hf; cases hf
  have a3 : zEb p e.name = some g := a3
  have a1 : placeM p e.name = n := a1
  rw [a3, Option.some.injEq] at hf
  subst hf
  rw [a3]
  simp only
  rw [a1] at hpl
  have hcall := vcall_of hP hB (List.mem_of_getElem? a2) (v := v) hS hw (hl.trans hfl.symm) hT
  generalize callW (evF p w) g l S = q at *
  obtain ⟨a, S1⟩ := q
  obtain ⟨v1, hcall⟩ := zsd hcall
  simp [zo, ints] at hcall
  simp [zg, funcs] at hpl
  replace k4 := eqn k4
  replace k6 := eqn k6
  replace k8 := eqn k8
  replace k7 := eqp k7
  clear o1 o6 o7 hk a3 a4 a5 a1 hB hP
  cases a <;> simp at hcall <;> simp [*, F161, za, ints, ze, zo, funcs]
 rw [if_neg k7]
 have k5 : e.kind = 5 := by
  by_cases k5 : e.kind = 5
  ·exact k5
  ·exfalso
   unfold kindR at o1
   rw [if_neg (by omega), if_neg (by omega), if_neg (by omega), if_neg k4, if_neg k5, if_neg k6, if_neg k7, if_neg k8] at o1
   cases o1
 have h2 : l.length = 2 := by
  rw [k5] at o1; simp [kindR] at o1; omega
 obtain ⟨x, y, hxy⟩ : ∃ x y, l = [x, y] := by
  match h : l, h2 with
  | [x, y], _ => exact ⟨x, y, rfl⟩
 subst hxy
 have e0 : at0 [x, y] = x := rfl
 have e1 : at1 [x, y] = y := rfl
 rw [e0, e1]
 have htwo := two_spec e.op x y []
 rw [two_eqC] at htwo
 have hst := stop_spec 2 (sto p S v T)
 generalize twoC e.op x y = q at *
 obtain ⟨n, ok⟩ := q
 simp only at htwo ⊢
 replace k4 := eqn k4
 replace k6 := eqn k6
 replace k8 := eqn k8
 replace k7 := eqn k7
 clear o1 o6 o7 hk k5
 cases ok <;> simp [*, F161, za, ints, ze]
theorem argsW_len {ev : Ev} {V : Vs} : ∀ (l : List Expr) (acc : List Int) (S : RS) (m : List Int) (S1 : RS), zad ev V l acc S = (.ok m, S1) -> m.length = acc.length + l.length
 | [], acc, S, m, S1, h => by cases h; rfl
 | x :: r, acc, S, m, S1, h => by
  unfold zad at h
  split at h
  ·have := argsW_len r _ _ _ _ h
   rw [this]; simp; omega
  ·cases h
set_option maxHeartbeats 4000000 in
theorem vexpr_of {p : Prog} (hP : OkP p) {w : Nat} (hE : SpecE p w) (hB : BlockSpec p w) : SpecE p (w + 1) := by
 refine ⟨fun e S v T m r B hS hf ho hw hF hT => ?_⟩
 have hstep := step_spec p S v T (by have := hS.2; omega)
 have hoe := ho
 rw [okE_eq] at ho
 obtain ⟨o1, o3, o6, o7, oa⟩ := ho
 have hla := zhd e.args
 have hwe := wtE_eq e
 refine zga rfl rfl rfl (by simp [za]) ?_
 simp only [evF]
 cases hfu : S.fuel with
 | zero =>
  rw [hfu] at hstep
  clear o1 o3 o6 o7 oa
  simp [*, F143, za, ze]
 | succ k =>
  rw [hfu] at hstep
  simp only at hstep ⊢
  have hS0 : FitS p { S with fuel := k } := hS.mono ⟨by simp only; omega, by simp only; omega, rfl⟩
  have hf0 : ({ S with fuel := k } : RS).fuel <= w := by simp only; omega
  generalize hSS : ({ S with fuel := k } : RS) = S0 at *
  clear hSS hfu hf hS
  unfold exprW
  by_cases k1 : e.kind = 1
  ·rw [if_pos (.inl k1)]
   replace k1 := eqp k1
   clear o1 o3 o6 o7 oa
   simp [*, F143, za, ze]
  by_cases k2 : e.kind = 2
  ·rw [if_pos (.inr k2)]
   replace k1 := eqn k1
   replace k2 := eqp k2
   clear o1 o3 o6 o7 oa
   simp [*, F143, za, ze]
  rw [if_neg (by omega)]
  by_cases k3 : e.kind = 3
  ·rw [if_pos k3]
   obtain ⟨es, b, f1, f2, f3, f4⟩ := hF.look (o3 k3)
   have g1 := zpd (v := v) (T := T) hS0 r
   have g2 := zpd (v := v) (T := T) hS0 b.box
   rw [f1] at g1
   rw [f3] at g2
   unfold boxO at g2
   replace k1 := eqn k1
   replace k2 := eqn k2
   replace k3 := eqp k3
   clear o1 o3 o6 o7 oa f1 f3 f4
   simp [*, F143, za, ze]
  rw [if_neg k3]
  by_cases k5 : e.kind = 5 /\ (e.op = 18 \/ e.op = 19)
  ·rw [if_pos k5]
   have hsh := vshort_of hE (v := v) hS0 hf0 hoe k5.1 hw hF hT
   generalize shortW (evF p w) e (zA B) S0 = q at *
   obtain ⟨a, S1⟩ := q
   obtain ⟨v1, hsh⟩ := zsd hsh
   rw [za] at hsh
   replace k1 := eqn k1
   replace k2 := eqn k2
   replace k3 := eqn k3
   obtain ⟨k5, hop⟩ := k5
   replace k5 := eqp k5
   clear o1 o3 o6 o7 oa hoe hE hB hP
   rcases hop with hop | hop
   ·replace hop := eqp hop
    cases a <;> simp [ze, hop] at hsh <;> simp [*, F143, za, ze]
   ·have h18 : (e.op = 18) = False := eqn (by omega)
    replace hop := eqp hop
    cases a <;> simp [ze, hop] at hsh <;> simp [*, F143, za, ze]
  rw [if_neg k5]
  have hop : (e.kind = 5) = False \/ ((e.kind = 5) = True /\ (e.op = 18) = False /\ (e.op = 19) = False) := by
   by_cases h : e.kind = 5
   ·exact .inr ⟨eqp h, eqn (fun h' => k5 ⟨h, .inl h'⟩), eqn (fun h' => k5 ⟨h, .inr h'⟩)⟩
   ·exact .inl (eqn h)
  have hmade : ∀ l S1 v1, zad (evF p w) (zA B) e.args [] S0 = (.ok l, S1) -> PC (zh E 161 [.ptr 1 0 0, zw e, ints l] (sto p (zZ S1) v1 T)) (isE p T (madeW p (evF p w) e l (zZ S1))) := by
   intro l S1 v1 h
   have hm := (argsW_mono (zyc p w) (zA B) e.args [] S0).1
   rw [h] at hm
   exact vmade_of hP hB (hS0.mono hm).cost (Nat.le_trans hm.fuel hf0) (by have := argsW_len _ _ _ _ _ h; simpa using this) hoe (by omega) hT
  have hin : ∀ x ∈ e.args, ∀ S1 v1, FitS p S1 -> S1.fuel <= w -> PC (zh E 143 [.ptr 1 0 0, zw x, .mp (nb p + r)] (sto p S1 v1 T)) (isE p T ((evF p w).expr x (zA B) S1)) := by
   intro x hx S1 v1 h1 h2
   have := zdc hx
   exact hE.expr x S1 v1 T m r B h1 h2 (okEs_mem oa hx) (by omega) hF hT
  replace k1 := eqn k1
  replace k2 := eqn k2
  replace k3 := eqn k3
  clear o1 o3 o6 o7 oa hoe hE hB hP hF hT k5
  -- the loop through the parts
  have key : ∀ {cf : zz} (h5 : (e.kind = 5) = False \/ ((e.kind = 5) = True /\ (e.op = 18) = False /\ (e.op = 19) = False)), True := fun _ => trivial
  clear key
  rcases hop with k5 | ⟨k5, k18, k19⟩
  all_goals
   simp [*, F143, za, ze]
   refine zwb K143_0 B143_0 (fun c : CS => c.rest.length) (fun c => [(7, acc 1 (c.acc.map (PV.int .i64))), (52, .int .i64 c.acc.length)]) (fun c => []) (fun c => sto p c.S c.v T)
    (fun c => ∃ d, e.args = d ++ c.rest /\ d.length = c.acc.length /\ zad (evF p w) (zA B) e.args [] S0 = zad (evF p w) (zA B) c.rest c.acc c.S /\ FitS p c.S /\ c.S.fuel <= w) ⟨e.args, [], S0, v⟩ ?_ ?_
   ·simp [hS0, hf0]
   ·rintro ⟨rest, ac, S1, v1⟩ s1 ⟨d, d1, d2, d3, d4, d5⟩ g1 g2 g3 g4 g5
    simp at d1 d2 d3 d4 d5 g1 g2 g3 g4 g5
    cases rest with
    | nil =>
     have hlen : ac.length = e.args.length := by rw [d1, <- d2]; simp
     have d3' : zad (evF p w) (zA B) e.args [] S0 = (.ok ac, S1) := d3
     have hm := hmade ac S1 v1 d3'
     rw [d3']
     simp only
     generalize madeW p (evF p w) e ac (zZ S1) = q at *
     obtain ⟨a, S2⟩ := q
     obtain ⟨v2, hm⟩ := zsd hm
     rw [za] at hm
     clear hmade hin d1 d2 d3 d3' d4 d5 hstep
     cases a <;> simp [ze, ints] at hm <;> simp [*, ze]
    | cons x rest =>
     have hx : e.args[ac.length]? = some x := by rw [d1, <- d2]; simp
     have hlt : (ac.length : Int) < e.args.length := by rw [d1, <- d2]; simp; omega
     have hc := hin x (by rw [d1]; simp) S1 v1 d4 d5
     have hm := ((zyc p w).expr x (zA B) S1).1
     have hwr : zy .i64 ((ac.length : Int) + 1) = (ac.length : Int) + 1 := zj (by omega) (by unfold capE at hw; omega)
     have hroom : (ac.length + 1) * 8 <= zL := by simp only [zL]; unfold capE at hw; omega
     have d3' : zad (evF p w) (zA B) e.args [] S0 = (match (evF p w).expr x (zA B) S1 with
      | (.ok n, S2) => zad (evF p w) (zA B) rest (ac ++ [n]) S2
      | (.stop k, S2) => (.stop k, S2)) := d3
     generalize (evF p w).expr x (zA B) S1 = q at *
     obtain ⟨a, S2⟩ := q
     obtain ⟨v2, hc⟩ := zsd hc
     rw [za] at hc
     have d6 := d4.mono hm
     have d7 : S2.fuel <= w := Nat.le_trans hm.fuel d5
     clear hmade hin d3 d4 d5 hm hstep
     cases a with
     | stop k =>
      simp only at d3'
      rw [d3']
      simp [ze] at hc
      clear d1 d2 d3'
      simp [*, za, ze]
     | ok n =>
      simp only at d3'
      simp [ze] at hc
      replace hlt := eqp hlt
      have hex : ∃ d', e.args = d' ++ rest /\ d'.length = ac.length + 1 := ⟨d ++ [x], by rw [d1]; simp, by simp [d2]⟩
      clear d1 d2
      simp [*, za, ze]
      refine ⟨⟨rest, ac ++ [n], S2, v2⟩, ?_⟩
      simp [*]
end PE.U

namespace PE.U
open Go PE
theorem clone_spec {r : Nat} {es : List (PV × PV)} {σ : zd} (h : σ[r]? = some (.mp es)) : zh E 119 [.mp r] σ = some (.ret (.mp σ.length), σ ++ [.mp es]) := by
 rw [pcall_ext (E := E) (f := 119) (g := cloneX) rfl]
 simp [cloneX, h]
theorem isS_get {p : Prog} {T : zd} {m r : Nat} {B : List Bnd} {q : Rt (How × Vs) × RS} {x : Option (CRes × zd)} (h : PC x (isS p T m r B q)) : ∃ v T', x = some (outH q.1, sto p q.2 v T') /\ Keep m (some r) T T' ∧
  ∀ h V1, q.1 = .ok (h, V1) -> (∀ n, h = .ret n -> v = n) /\ BkR p T T' m r B V1 (fun _ => True) := by
 obtain ⟨r, st, e, v, T', rfl, rfl, h1, h2⟩ := zSd.1 h
 exact ⟨v, T', e, h1, h2⟩
structure BSt where
 rest : List Stmt
 S : RS
 v : Int
 T : zd
 B : List Bnd
theorem FR_back {p : Prog} {T T' : zd} {m r : Nat} {B B' : List Bnd} {es : List (PV × PV)} (hF : FR p T m r B) (hk : Keep m none T T') (hF' : FR p T' m T.length B') {a : List (List UInt8 × Nat)} (ha : zQa B' = a ++ zQa B) :
  FR p (T'.take T.length) m r (B'.drop (B'.length - B.length)) /\ zQa (B'.drop (B'.length - B.length)) = zQa B := by
 have hl : B'.length = a.length + B.length := by
  have := congrArg List.length ha
  simpa [zQa] using this
 have hkeys : zQa (B'.drop (B'.length - B.length)) = zQa B := by
  have : zQa (B'.drop (B'.length - B.length)) = (zQa B').drop (B'.length - B.length) := by simp [zQa, List.map_drop]
  rw [this, ha, hl]
  have : a.length + B.length - B.length = a.length := by omega
  rw [this, List.drop_left]
 refine ⟨⟨?_, ?_, ?_, hF.lo⟩, hkeys⟩
 ·obtain ⟨es, h1, hs, h2⟩ := hF.map
  have hr := (List.getElem?_eq_some_iff.1 h1).1
  refine ⟨es, ?_, hs, fun x => ?_⟩
  ·rw [List.getElem?_take, if_pos hr]
   rcases hk.2 r hr (by simp) with q | ⟨_, a, b, q, _⟩
   ·rw [q, h1]
   ·rw [h1] at q; simp [boxO] at q
  ·rw [h2]
   have := lookB_box hkeys x
   congr 1
   have e1 : (zBc x B).map (fun b => PV.ptr (nb p + b.box) 0 0) = ((zBc x B).map (·.box)).map (fun i => PV.ptr (nb p + i) 0 0) := by rw [Option.map_map]; rfl
   have e2 : (zBc x (B'.drop (B'.length - B.length))).map (fun b => PV.ptr (nb p + b.box) 0 0) = ((zBc x (B'.drop (B'.length - B.length))).map (·.box)).map (fun i => PV.ptr (nb p + i) 0 0) := by rw [Option.map_map]; rfl
   rw [e1, e2, this]
 ·intro b hb
  obtain ⟨h1, h2⟩ := hF'.val b (List.mem_of_mem_drop hb)
  refine ⟨?_, h2⟩
  have hbk : (b.name, b.box) ∈ zQa B := by rw [<- hkeys]; exact List.mem_map.2 ⟨b, hb, rfl⟩
  obtain ⟨c, hc, hcb⟩ := List.mem_map.1 hbk
  have := (hF.val c hc).1
  have hlt := (List.getElem?_eq_some_iff.1 this).1
  have e : c.box = b.box := congrArg Prod.snd hcb
  rw [List.getElem?_take, if_pos (by omega)]
  exact h1
 ·have h := hF'.nd
  exact List.Nodup.sublist (List.Sublist.map _ (List.drop_sublist _ _)) h
theorem FR_clone {p : Prog} {T : zd} {m r : Nat} {B : List Bnd} {es : List (PV × PV)} (hF : FR p T m r B) (h : T[r]? = some (.mp es)) : FR p (T ++ [.mp es]) m T.length B := by
 obtain ⟨es', h1, hs, h2⟩ := hF.map
 rw [h, Option.some.injEq, Obj.mp.injEq] at h1
 subst h1
 refine ⟨⟨es, by simp, hs, h2⟩, ?_, hF.nd, ?_⟩
 ·intro b hb
  obtain ⟨h3, h4⟩ := hF.val b hb
  have := (List.getElem?_eq_some_iff.1 h3).1
  exact ⟨by rw [List.getElem?_append_left this]; exact h3, h4⟩
 ·have := hF.lo; have := hF.lt; omega
theorem WT_clone {p : Prog} {T : zd} {r : Nat} {es : List (PV × PV)} (hT : WT p T) (h : T[r]? = some (.mp es)) : WT p (T ++ [.mp es]) := by
 unfold WT
 rw [wf_app, Bool.and_eq_true]
 refine ⟨wf_le (by simp) hT, ?_⟩
 have : (Obj.mp es).below (nb p + T.length) = true := by
  unfold WT zd.wf at hT
  rw [List.all_eq_true] at hT
  exact hT _ (List.mem_of_getElem? h)
 simp only [zd.wf, List.all_cons, List.all_nil, Bool.and_true]
 exact below_le (by simp) _ this
theorem Keep.take' {m : Nat} {T T' : zd} (h : Keep m none T T') : Keep m none T (T'.take T.length) := by
 refine ⟨by have := h.1; simp; omega, fun j hj hx => ?_⟩
 rw [List.getElem?_take, if_pos hj]
 exact h.2 j hj hx
theorem Keep.then {m : Nat} {T T1 T2 : zd} (h : Keep m none T T1) (k : Keep m (some T.length) T1 T2) : Keep m none T T2 := by
 refine ⟨Nat.le_trans h.1 k.1, fun j hj _ => ?_⟩
 have h1 := h.2 j hj (by simp)
 have h2 := k.2 j (by have := h.1; omega) (by simp; omega)
 rcases h1 with h1 | ⟨hm, a, b, h1, h1'⟩ <;> rcases h2 with h2 | ⟨hm', c, d, h2, h2'⟩
 ·exact .inl (h2.trans h1)
 ·exact .inr ⟨hm', c, d, by rw [<- h1]; exact h2, h2'⟩
 ·exact .inr ⟨hm, a, b, h1, by rw [h2]; exact h1'⟩
 ·exact .inr ⟨hm, a, d, h1, h2'⟩
theorem vals_drop (B : List Bnd) (n : Nat) : zA (B.drop n) = (zA B).drop n := by simp [zA, List.map_drop]
theorem vals_len (B : List Bnd) : (zA B).length = B.length := by simp [zA]
theorem wt_mem' {x : Stmt} {l : List Stmt} (h : x ∈ l) (hw : wtSs l < capE) : wtS x < capE := by
 have := wtS_mem h; omega
set_option maxHeartbeats 4000000 in
theorem vblock_of {p : Prog} {w : Nat} (hX : SpecS p w) : BlockSpec p w := by
 refine ⟨fun l S v T m r B loop hS hf ho hw hF hT => ?_⟩
 have hlen := zjb l
 obtain ⟨es, he1, _, he2⟩ := hF.map
 have hg := zpd (v := v) (T := T) hS r
 rw [he1] at hg
 have hcl := clone_spec hg
 rw [zLc hS, zec] at hcl
 have hF0 := FR_clone hF he1
 have hT0 := WT_clone hT he1
 refine zga rfl rfl rfl (by simp [zi]) ?_
 have hsl := zLc (v := v) (T := T) hS
 -- the end: what is told
 have hend : ∀ (S1 : RS) (v1 : Int) (T1 : zd), FitS p S1 -> Keep m none T T1 -> (sto p S1 v1 T1).take (nb p + T.length) = sto p S1 v1 (T1.take T.length) /\ zd.wf (nb p + T.length) (sto p S1 v1 (T1.take T.length)) = true /\ nb p + T.length <= (sto p S1 v1 T1).length := by
  intro S1 v1 T1 h1 h2
  refine ⟨sto_take h1 _, sto_wf h1 (by omega) (h2.wf hT), ?_⟩
  rw [zLc h1]; have := h2.1; omega
 have hstop : ∀ (k : Int) (S1 : RS) (v1 : Int) (T1 : zd), Keep m none T T1 -> isBk p T m r B (.stop k, S1) (.pan (endV k)) (sto p S1 v1 (T1.take T.length)) := by
  intro k S1 v1 T1 h
  exact ⟨v1, _, rfl, rfl, h.take', by have := h.1; simp; omega, fun _ _ e => by cases e⟩
 have hok : ∀ (h : How) (S1 : RS) (v1 : Int) (T1 : zd) (B1 : List Bnd) (a : List (List UInt8 × Nat)), Keep m none T T1 -> (∀ n, h = .ret n -> v1 = n) -> FR p T1 m T.length B1 -> zQa B1 = a ++ zQa B →
   isBk p T m r B (.ok (h, (zA B1).drop ((zA B1).length - (zA B).length)), S1) (.ret (.int .i64 (howN h))) (sto p S1 v1 (T1.take T.length)) := by
  intro h S1 v1 T1 B1 a hk hv hF1 ha
  obtain ⟨q1, q2⟩ := FR_back hF hk hF1 ha (es := es)
  refine ⟨v1, _, rfl, rfl, hk.take', by have := hk.1; simp; omega, ?_⟩
  intro h' V1 e
  cases e
  refine ⟨hv, ⟨_, [], ?_, q1, q2, rfl⟩, ?_⟩
  ·rw [vals_drop, vals_len, vals_len]
  ·have := hk.wf hT
   unfold WT
   rw [List.length_take]
   have := hk.1
   rw [Nat.min_eq_left this]
   assumption
 have hrs : ∀ x ∈ l, ∀ S1 v1 T1 B1 loop, FitS p S1 -> S1.fuel <= w -> okS p (B1.map (·.name)) loop x -> FR p T1 m T.length B1 -> WT p T1 -> PC (zh E 120 [.ptr 1 0 0, zda x, .mp (nb p + T.length)] (sto p S1 v1 T1)) (isS p T1 m T.length B1 ((evF p w).stmt x (zA B1) S1)) := by
  intro x hx S1 v1 T1 B1 loop h1 h2 h3 h4 h5
  exact hX.stmt x S1 v1 T1 m T.length B1 loop h1 h2 h3 (wt_mem' hx hw) h4 h5
 have hr : T.length = T.length := rfl
 clear hX hg
 unfold capE at hw
 simp [*, F95, zi]
 refine zwb K95_0 B95_0 (fun c : BSt => c.rest.length) (fun c => [(14, .int .i64 ((l.length - c.rest.length : Nat) : Int))]) (fun c => []) (fun c => sto p c.S c.v c.T)
  (fun c => (∃ d, l = d ++ c.rest) /\ zGa (evF p w) l (zA B) S = zGa (evF p w) c.rest (zA c.B) c.S /\ FitS p c.S /\ c.S.fuel <= w /\ Keep m none T c.T /\ FR p c.T m T.length c.B /\ WT p c.T /\ (∃ a, zQa c.B = a ++ zQa B) /\ okB p (c.B.map (·.name)) loop c.rest) ⟨l, S, v, T ++ [.mp es], B⟩ ?_ ?_
 ·have hk0 : Keep m none T (T ++ [.mp es]) := ⟨by simp, fun j hj _ => .inl (List.getElem?_append_left hj)⟩
  simp [*]
 ·rintro ⟨rest, S1, v1, T1, B1⟩ s1 ⟨⟨d, d1⟩, d2, d3, d4, d5, d6, d7, ⟨a, d8⟩, d9⟩ g1 g2 g3 g4 g5
  simp at d1 d2 d3 d4 d5 d6 d7 d8 d9 g1 g2 g3 g4 g5
  obtain ⟨e1, e2, e3⟩ := hend S1 v1 T1 d3 d5
  cases rest with
  | nil =>
   have hi : ((l.length - 0 : Nat) : Int) = l.length := by simp
   have hb : zT (evF p w) l (zA B) S = (.ok (.on, (zA B1).drop ((zA B1).length - (zA B).length)), S1) := by
    unfold zT; rw [d2]; rfl
   rw [hb]
   have hfin := hok .on S1 v1 T1 B1 a d5 (fun _ h => by cases h) d6 d8
   simp [howN] at hfin
   clear hend hstop hok hrs d2 d3 d4 d5 d6 d7 d8 d9 hF0 hT0 hF hT hb he1 he2
   simp [*, fin]
  | cons x rest =>
   have hdl : l.length - (rest.length + 1) = d.length := by rw [d1]; simp
   have hdl2 : l.length - rest.length = d.length + 1 := by rw [d1]; simp; omega
   have hx : l[d.length]? = some x := by rw [d1]; simp
   have hlt : (d.length : Int) < l.length := by rw [d1]; simp; omega
   rw [okB] at d9
   have hc := hrs x (by rw [d1]; simp) S1 v1 T1 B1 loop d3 d4 d9.1 d6 d7
   have hm := ((zyc p w).stmt x (zA B1) S1)
   have hwr : zy .i64 ((d.length : Int) + 1) = (d.length : Int) + 1 := zj (by omega) (by omega)
   have d2' : zGa (evF p w) l (zA B) S = (match (evF p w).stmt x (zA B1) S1 with
    | (.ok (.on, V1), S2) => zGa (evF p w) rest V1 S2
    | (.ok (h, V1), S2) => (.ok (h, V1), S2)
    | (.stop k, S2) => (.stop k, S2)) := d2
   generalize (evF p w).stmt x (zA B1) S1 = q at *
   obtain ⟨y, S2⟩ := q
   obtain ⟨v2, T2, hc, hk2, hc2⟩ := isS_get hc
   rw [zb] at hc
   have d6' := d3.mono hm.1
   have d7' : S2.fuel <= w := Nat.le_trans hm.1.fuel d4
   have hkk : Keep m none T T2 := d5.then hk2
   obtain ⟨e4, e5, e6⟩ := hend S2 v2 T2 d6' hkk
   have hstop2 := fun k => hstop k S2 v2 T2 hkk
   have hok2 := fun h B2 a => hok h S2 v2 T2 B2 a hkk
   clear hrs hend hstop hok he1 he2 hF0 hT0 hF hT d5 hk2 d2 d3 d4 d6 d7 e1 e2 e3 hS hf ho hcl hsl
   cases y with
   | stop k =>
    simp only at d2'
    have hb : zT (evF p w) l (zA B) S = (.stop k, S2) := by
     unfold zT; rw [d2']
    rw [hb]
    have := hstop2 k
    simp [outH, ze, zi] at hc
    clear hc2 hok2 hstop2 d1 d8 d9 d2' hb hm hdl2
    simp [*, zb, ze, zi, finPan, endV_below]
   | ok y =>
    obtain ⟨h, V1⟩ := y
    obtain ⟨hv, ⟨B2, a2, b1, b2, b3, _⟩, hT2⟩ := hc2 h V1 rfl
    subst b1
    have hnm := (hm.2 h (zA B2) rfl).2
    rw [names_valsB, names_valsB] at hnm
    have b4 : ∃ a, zQa B2 = a ++ zQa B := ⟨a2 ++ a, by rw [b3, d8]; simp⟩
    have hfin : h ≠ .on -> isBk p T m r B (zT (evF p w) l (zA B) S) (.ret (.int .i64 (howN h))) (sto p S2 v2 (T2.take T.length)) := by
     intro hne
     have hb : zT (evF p w) l (zA B) S = (.ok (h, (zA B2).drop ((zA B2).length - (zA B).length)), S2) := by
      unfold zT; rw [d2']
      cases h <;> first | exact absurd rfl hne | rfl
     rw [hb]
     obtain ⟨a3, b4⟩ := b4
     exact hok2 h B2 a3 hv b2 b4
    have d9' : okB p (B2.map (·.name)) loop rest := by rw [hnm]; exact d9.2
    clear hc2 hok2 hstop2 hv hm
    have hdd : ∃ d', l = d' ++ rest := ⟨d ++ [x], by rw [d1]; simp⟩
    cases h with
    | on =>
     simp [outH, howN, ze, zi] at hc
     simp only at d2'
     clear hfin d1 d8 d9 b3 hnm
     simp [*, zb, ze, zi]
     refine ⟨⟨rest, S2, v2, T2, B2⟩, ?_⟩
     simp [*]
    | brk =>
     replace hfin := hfin (by simp)
     simp [outH, howN, ze, zi] at hc hfin
     clear d1 d8 d9 b3 d2' hdd b4 d9'
     generalize zT (evF p w) l (zA B) S = z at *
     simp [*, zb, ze, zi, fin]
    | cont =>
     replace hfin := hfin (by simp)
     simp [outH, howN, ze, zi] at hc hfin
     clear d1 d8 d9 b3 d2' hdd b4 d9'
     generalize zT (evF p w) l (zA B) S = z at *
     simp [*, zb, ze, zi, fin]
    | ret n =>
     replace hfin := hfin (by simp)
     simp [outH, howN, ze, zi] at hc hfin
     clear d1 d8 d9 b3 d2' hdd b4 d9'
     generalize zT (evF p w) l (zA B) S = z at *
     simp [*, zb, ze, zi, fin]
end PE.U

namespace PE.U
open Go PE
structure LSt where
 k : Nat
 S : RS
 v : Int
 T : zd
 B : List Bnd
structure LoopSpec (p : Prog) (w : Nat) : Prop where
 loop : ∀ s S v T m r B loop, FitS p S -> S.fuel <= w -> s.kind = 5 -> okS p (B.map (·.name)) loop s -> wtS s < capE -> FR p T m r B -> WT p T →
  PC (zh E 142 [.ptr 1 0 0, zda s, .mp (nb p + r)] (sto p S v T)) (isBk p T m r B (zgc (evF p w) (arg0 s.args) s.thn (w + 1) (zA B) S))
theorem arg0_one {l : List Expr} (h : l.length = 1) : l[0]? = some (arg0 l) /\ arg0 l ∈ l := by
 obtain ⟨x, rfl⟩ := List.length_eq_one_iff.1 h
 simp [arg0]
theorem isBk_ret {p : Prog} {T T1 : zd} {m r : Nat} {B B1 : List Bnd} {h : How} {S1 : RS} {v1 : Int} (hk : Keep m none T T1) (hl : T1.length = T.length) (hv : ∀ n, h = .ret n -> v1 = n) (hF : FR p T1 m r B1) (hT : WT p T1) (ha : zQa B1 = zQa B) :
  isBk p T m r B (.ok (h, zA B1), S1) (.ret (.int .i64 (howN h))) (sto p S1 v1 T1) :=
 ⟨v1, T1, rfl, rfl, hk, hl, fun h' V1 e => by cases e; exact ⟨hv, ⟨B1, [], rfl, hF, ha, rfl⟩, hT⟩⟩
theorem isBk_stop {p : Prog} {T T1 : zd} {m r : Nat} {B : List Bnd} {k : Int} {S1 : RS} {v1 : Int} (hk : Keep m none T T1) (hl : T1.length = T.length) :
  isBk p T m r B (.stop k, S1) (.pan (endV k)) (sto p S1 v1 T1) :=
 ⟨v1, T1, rfl, rfl, hk, hl, fun h' V1 e => by cases e⟩
set_option maxHeartbeats 4000000 in
theorem vloop_of {p : Prog} {w : Nat} (hE : SpecE p w) (hB : BlockSpec p w) : LoopSpec p w := by
 refine ⟨fun s S v T m r B loop hS hf hk ho hw hF hT => ?_⟩
 rw [okS_eq] at ho
 obtain ⟨_, o2, o3, _, _, _, o7, _⟩ := ho
 have hl1 : s.args.length = 1 := by rw [hk] at o2; simp [zR] at o2; omega
 obtain ⟨g0, gm⟩ := arg0_one hl1
 have hwe := zdc gm
 rw [zKc] at hw
 have oe := okEs_mem o3 gm
 have hadd : zcc s = [] := if_neg (by omega)
 rw [hadd, List.nil_append] at o7
 clear o2 o3 gm
 generalize arg0 s.args = c0 at *
 have hex : ∀ S1 v1 T1 B1, FitS p S1 -> S1.fuel <= w -> zQa B1 = zQa B -> FR p T1 m r B1 -> WT p T1 -> PC (zh E 143 [.ptr 1 0 0, zw c0, .mp (nb p + r)] (sto p S1 v1 T1)) (isE p T1 ((evF p w).expr c0 (zA B1) S1)) := by
  intro S1 v1 T1 B1 h1 h2 h3 h4 h5
  exact hE.expr c0 S1 v1 T1 m r B1 h1 h2 (by rw [keysB_names h3]; exact oe) (by omega) h4 h5
 have hbl : ∀ S1 v1 T1 B1, FitS p S1 -> S1.fuel <= w -> zQa B1 = zQa B -> FR p T1 m r B1 -> WT p T1 -> PC (zh E 95 [.ptr 1 0 0, zi s.thn, .mp (nb p + r)] (sto p S1 v1 T1)) (isBk p T1 m r B1 (zT (evF p w) s.thn (zA B1) S1)) := by
  intro S1 v1 T1 B1 h1 h2 h3 h4 h5
  exact hB.block s.thn S1 v1 T1 m r B1 _ h1 h2 (by rw [keysB_names h3]; exact o7) (by omega) h4 h5
 clear hE hB o7 oe hwe hw hl1
 refine zga rfl rfl rfl (by simp [zb]) ?_
 simp [F142, zb, ze]
 refine zwb K142_0 B142_0 (fun c : LSt => c.S.fuel) (fun c => []) (fun c => []) (fun c => sto p c.S c.v c.T)
  (fun c => c.S.fuel < c.k /\ zgc (evF p w) c0 s.thn (w + 1) (zA B) S = zgc (evF p w) c0 s.thn c.k (zA c.B) c.S /\ FitS p c.S /\ c.S.fuel <= w /\ Keep m none T c.T /\ c.T.length = T.length /\ FR p c.T m r c.B /\ WT p c.T /\ zQa c.B = zQa B) ⟨w + 1, S, v, T, B⟩ ?_ ?_
 ·have := Keep.refl m none T
  have : S.fuel < w + 1 := by omega
  simp [*]
 ·rintro ⟨k, S1, v1, T1, B1⟩ s1 ⟨d1, d2, d3, d4, d5, d5', d6, d7, d8⟩ q1 q2 q3 q4 q5
  simp at d1 d2 d3 d4 d5 d5' d6 d7 d8 q1 q2 q3 q4 q5
  obtain ⟨k, rfl⟩ : ∃ k', k = k' + 1 := ⟨k - 1, by omega⟩
  have hc := hex S1 v1 T1 B1 d3 d4 d8 d6 d7
  have hm := (zyc p w).expr c0 (zA B1) S1
  have d2' : zgc (evF p w) c0 s.thn (w + 1) (zA B) S = (match (evF p w).expr c0 (zA B1) S1 with
   | (.stop j, S1) => (.stop j, S1)
   | (.ok n, S1) => if n = 0 then (.ok (.on, zA B1), S1) else
    match zT (evF p w) s.thn (zA B1) S1 with
    | (.ok (.brk, V1), S2) => (.ok (.on, V1), S2)
    | (.ok (.ret m, V1), S2) => (.ok (.ret m, V1), S2)
    | (.ok (_, V1), S2) => zgc (evF p w) c0 s.thn k V1 S2
    | (.stop j, S2) => (.stop j, S2)) := d2
  generalize (evF p w).expr c0 (zA B1) S1 = q at *
  obtain ⟨a, S2⟩ := q
  obtain ⟨v2, hc⟩ := zsd hc
  rw [za] at hc
  obtain ⟨m1, m2⟩ := hm
  have e3 := d3.mono m1
  cases a with
  | stop j =>
   simp only at d2'
   have hfin := isBk_stop (p := p) (r := r) (B := B) (k := j) (S1 := S2) (v1 := v2) d5 d5'
   rw [<- d2'] at hfin
   simp [ze] at hc
   clear hex hbl d1 d2 d2' d3 d4 d5 d6 d7 d8 m1 m2 e3
   simp [*, za, ze]
  | ok n =>
   simp only at d2'
   replace m2 := m2 n rfl
   simp only at m2
   simp [ze] at hc
   by_cases hn : n = 0
   ·rw [if_pos hn] at d2'
    have hfin := isBk_ret (S1 := S2) (v1 := v2) (h := .on) d5 d5' (fun n h => by cases h) d6 d7 d8
    rw [<- d2'] at hfin
    simp [howN] at hfin
    replace hn := eqp hn
    clear hex hbl d1 d2 d2' d3 d4 d5 d6 d7 d8 m1 m2 e3
    generalize zgc (evF p w) c0 s.thn (w + 1) (zA B) S = z at *
    simp [*, za, ze]
   ·rw [if_neg hn] at d2'
    have hb := hbl S2 v2 T1 B1 e3 (Nat.le_trans m1.fuel d4) d8 d6 d7
    have hbm := (zeb (zyc p w) s.thn (zA B1) S2).1
    generalize zT (evF p w) s.thn (zA B1) S2 = q at *
    obtain ⟨b, S3⟩ := q
    obtain ⟨v3, T3, hb, hk3, hl3, hb3⟩ := isBk_get hb
    have e5 := d5.trans hk3
    have e5' : T3.length = T.length := hl3.trans d5'
    have e4 := e3.mono hbm
    have f3 : S3.fuel <= w := Nat.le_trans hbm.fuel (Nat.le_trans m1.fuel d4)
    have f4 : S3.fuel < S1.fuel := by have := hbm.fuel; simp only at this; omega
    have f5 : S3.fuel < k := by omega
    replace hn := eqn hn
    clear hex hbl d2 d3 d4 d5 d5' d6 d7 hk3 hl3 m1 hbm e3
    cases b with
    | stop j =>
     simp only at d2'
     have hfin := isBk_stop (p := p) (r := r) (B := B) (k := j) (S1 := S3) (v1 := v3) e5 e5'
     rw [<- d2'] at hfin
     simp [outH] at hb
     clear hb3 d1 d2' e4 e5 e5' f3 f4 f5 d8 m2
     generalize zgc (evF p w) c0 s.thn (w + 1) (zA B) S = z at *
     simp [*, za, ze]
    | ok y =>
     obtain ⟨h, V1⟩ := y
     obtain ⟨hv, ⟨B3, a3, b1, b2, b3, b4⟩, hT3⟩ := hb3 h V1 rfl
     subst b1
     rw [b4, List.nil_append] at b3
     replace b3 := b3.trans d8
     clear hb3 b4 d1 d8 m2
     cases h with
     | on =>
      simp [outH, howN] at hb
      simp only at d2'
      clear hv
      simp [*, za, ze]
      refine ⟨⟨k, S3, v3, T3, B3⟩, ?_⟩
      simp [*]
     | cont =>
      simp [outH, howN] at hb
      simp only at d2'
      clear hv
      simp [*, za, ze]
      refine ⟨⟨k, S3, v3, T3, B3⟩, ?_⟩
      simp [*]
     | brk =>
      simp [outH, howN] at hb
      simp only at d2'
      have hfin := isBk_ret (S1 := S3) (v1 := v3) (h := .on) e5 e5' (fun n h => by cases h) b2 hT3 b3
      rw [<- d2'] at hfin
      simp [howN] at hfin
      clear d2' e4 e5 e5' f3 f4 f5 b2 hT3 b3 hv
      generalize zgc (evF p w) c0 s.thn (w + 1) (zA B) S = z at *
      simp [*, za, ze]
     | ret n' =>
      simp [outH, howN] at hb
      simp only at d2'
      have hfin := isBk_ret (S1 := S3) (v1 := v3) (h := .ret n') e5 e5' hv b2 hT3 b3
      rw [<- d2'] at hfin
      simp [howN] at hfin
      clear d2' e4 e5 e5' f3 f4 f5 b2 hT3 b3 hv
      generalize zgc (evF p w) c0 s.thn (w + 1) (zA B) S = z at *
      simp [*, za, ze]
theorem isS_of_isBk {p : Prog} {T : zd} {m r : Nat} {B : List Bnd} {q : Rt (How × Vs) × RS} {res : CRes} {st : zd} (h : isBk p T m r B q res st) : isS p T m r B q res st := by
 obtain ⟨v, T', e1, e2, h1, h2, h3⟩ := h
 refine ⟨v, T', e1, e2, h1.weaken, fun h V1 e => ?_⟩
 obtain ⟨g1, ⟨B1, a, g2, g3, g4, g5⟩, g6⟩ := h3 h V1 e
 exact ⟨g1, ⟨B1, a, g2, g3, g4, trivial⟩, g6⟩
theorem isS_stop {p : Prog} {T T1 : zd} {m r : Nat} {B : List Bnd} {k : Int} {S1 : RS} {v1 : Int} (hk : Keep m (some r) T T1) :
  isS p T m r B (.stop k, S1) (.pan (endV k)) (sto p S1 v1 T1) :=
 ⟨v1, T1, rfl, rfl, hk, fun h' V1 e => by cases e⟩
theorem isS_ret {p : Prog} {T T1 : zd} {m r : Nat} {B B1 : List Bnd} {h : How} {S1 : RS} {v1 : Int} (hk : Keep m (some r) T T1) (hv : ∀ n, h = .ret n -> v1 = n) (hF : FR p T1 m r B1) (hT : WT p T1) (ha : ∃ a, zQa B1 = a ++ zQa B) :
  isS p T m r B (.ok (h, zA B1), S1) (.ret (.int .i64 (howN h))) (sto p S1 v1 T1) :=
 ⟨v1, T1, rfl, rfl, hk, fun h' V1 e => by cases e; obtain ⟨a, ha⟩ := ha; exact ⟨hv, ⟨B1, a, rfl, hF, ha, trivial⟩, hT⟩⟩
theorem FR_app {p : Prog} {T L : zd} {m r : Nat} {B : List Bnd} (hF : FR p T m r B) : FR p (T ++ L) m r B := by
 obtain ⟨es, h1, hs, h2⟩ := hF.map
 refine ⟨⟨es, by rw [List.getElem?_append_left (List.getElem?_eq_some_iff.1 h1).1]; exact h1, hs, h2⟩, ?_, hF.nd, hF.lo⟩
 intro b hb
 obtain ⟨h3, h4⟩ := hF.val b hb
 exact ⟨by rw [List.getElem?_append_left (List.getElem?_eq_some_iff.1 h3).1]; exact h3, h4⟩
theorem WT_box {p : Prog} {T : zd} (n : Int) (hT : WT p T) : WT p (T ++ [boxO n]) := by
 unfold WT
 rw [wf_app, Bool.and_eq_true]
 exact ⟨wf_le (by simp) hT, by simp [zd.wf, boxO, Obj.below]⟩
theorem Keep_app {m : Nat} {ex : Option Nat} {T L : zd} : Keep m ex T (T ++ L) := ⟨by simp, fun j hj _ => .inl (List.getElem?_append_left hj)⟩
theorem FR_set {p : Prog} {T : zd} {m r : Nat} {B : List Bnd} {nm : List UInt8} {b : Bnd} (n : Int) (hF : FR p T m r B) (hb : zBc nm B = some b) : FR p (T.set b.box (boxO n)) m r (setB nm n B) := by
 obtain ⟨es, h1, hs, h2⟩ := hF.map
 obtain ⟨bm, bn⟩ := lookB_mem hb
 have hbb := (hF.val b bm).1
 have hne : r ≠ b.box := by rintro rfl; rw [h1] at hbb; simp [boxO] at hbb
 refine ⟨⟨es, ?_, hs, fun x => ?_⟩, ?_, ?_, hF.lo⟩
 ·rw [List.getElem?_set_ne (Ne.symm hne)]; exact h1
 ·rw [h2]
  have := lookB_box (keys_set nm n B) x
  congr 1
  have e1 : ∀ C : List Bnd, (zBc x C).map (fun b => PV.ptr (nb p + b.box) 0 0) = ((zBc x C).map (·.box)).map (fun i => PV.ptr (nb p + i) 0 0) := fun C => by rw [Option.map_map]; rfl
  rw [e1, e1, this]
 ·have hnd := hF.nd
  have hval := hF.val
  have hlt : b.box < T.length := (List.getElem?_eq_some_iff.1 hbb).1
  clear hF h1 h2 hs hne hbb bm
  intro c hc
  induction B with
  | nil => cases hc
  | cons d q ih =>
   simp only [zBc] at hb
   simp only [setB] at hc
   simp only [List.map_cons, List.nodup_cons] at hnd
   split at hb
   ·rename_i hd
    cases hb
    rw [if_pos hd] at hc
    rcases List.mem_cons.1 hc with rfl | hc
    ·exact ⟨by rw [List.getElem?_set_self hlt], (hval b (by simp)).2⟩
    ·obtain ⟨v1, v2⟩ := hval c (by simp [hc])
     have : b.box ≠ c.box := fun e => hnd.1 (List.mem_map.2 ⟨c, hc, e.symm⟩)
     exact ⟨by rw [List.getElem?_set_ne this]; exact v1, v2⟩
   ·rename_i hd
    rw [if_neg hd] at hc
    rcases List.mem_cons.1 hc with rfl | hc
    ·obtain ⟨v1, v2⟩ := hval c (by simp)
     have : b.box ≠ c.box := fun e => hnd.1 (List.mem_map.2 ⟨b, (lookB_mem hb).1, e⟩)
     exact ⟨by rw [List.getElem?_set_ne this]; exact v1, v2⟩
    ·exact ih hb hnd.2 (fun z hz => hval z (by simp [hz])) hc
 ·have := hF.nd
  have e : (setB nm n B).map (·.box) = B.map (·.box) := by
   have := congrArg (List.map Prod.snd) (keys_set nm n B)
   simpa [zQa, List.map_map, Function.comp_def] using this
  rw [e]; exact this
theorem wf_set {n j : Nat} {T : zd} {o : Obj} (hT : zd.wf n T = true) (ho : o.below n = true) : zd.wf n (T.set j o) = true := by
 unfold zd.wf at hT ⊢
 rw [List.all_eq_true] at hT ⊢
 intro x hx
 rcases List.mem_or_eq_of_mem_set hx with h | rfl
 ·exact hT x h
 ·exact ho
theorem WT_set {p : Prog} {T : zd} {j : Nat} {n : Int} (hT : WT p T) : WT p (T.set j (boxO n)) := by
 unfold WT
 rw [List.length_set]
 exact wf_set hT (by simp [boxO, Obj.below])
theorem Keep_set {m : Nat} {ex : Option Nat} {T : zd} {j : Nat} {a n : Int} (h : T[j]? = some (boxO a)) (hm : m <= j) : Keep m ex T (T.set j (boxO n)) := by
 refine ⟨by simp, fun i hi _ => ?_⟩
 by_cases e : j = i
 ·subst e
  exact .inr ⟨hm, a, n, h, by rw [List.getElem?_set_self hi]⟩
 ·exact .inl (List.getElem?_set_ne e)
theorem zSc (nm : List UInt8) (u : PV) : ∀ (es : List (PV × PV)), strK es -> ∃ es', zmb true (.str nm) u es = some es' /\ strK es' /\ (∀ n, zAc n es = true -> zu n u = true -> zAc n es' = true) /\ ∀ x, zO true (.str x) es' = if nm = x then some (some u) else zO true (.str x) es
 | [], _ => ⟨_, rfl, fun q h => by simp at h; exact ⟨nm, by rw [h]⟩, fun n _ h => by simp [zAc, h], fun x => by by_cases h : nm = x <;> simp [zO, zsc, h, eq_comm]⟩
 | (k, u0) :: r, hk => by
  obtain ⟨s, hs⟩ := hk (k, u0) (by simp)
  simp only at hs
  subst hs
  by_cases hs : nm = s
  ·subst hs
   refine ⟨(.str nm, u) :: r, by simp [zmb, zsc], ?_, ?_, fun x => ?_⟩
   ·intro q hq
    rcases List.mem_cons.1 hq with rfl | hq
    ·exact ⟨nm, rfl⟩
    ·exact hk q (by simp [hq])
   ·intro n h1 h2
    simp [zAc] at h1 ⊢
    exact ⟨h2, h1.2⟩
   ·by_cases hx : nm = x
    ·subst hx; simp [zO, zsc]
    ·have hx' : ¬ x = nm := fun e => hx e.symm
     rw [if_neg hx]
     simp [zO, zsc, hx']
  ·obtain ⟨es', e1, e2, e3, e4⟩ := zSc nm u r (fun q hq => hk q (by simp [hq]))
   refine ⟨(.str s, u0) :: es', by simp [zmb, zsc, hs, e1], ?_, ?_, fun x => ?_⟩
   ·intro q hq
    rcases List.mem_cons.1 hq with rfl | hq
    ·exact ⟨s, rfl⟩
    ·exact e2 q hq
   ·intro n h1 h2
    simp [zAc] at h1 ⊢
    exact ⟨h1.1, e3 n h1.2 h2⟩
   ·by_cases hx : x = s
    ·subst hx
     rw [if_neg hs]
     simp [zO, zsc]
    ·simp [zO, zsc, hx, e4]
theorem FR_let {p : Prog} {T : zd} {m r : Nat} {B : List Bnd} {nm : List UInt8} {n : Int} (hF : FR p T m r B) (hT : WT p T) (hm : m <= T.length) : ∃ es es', T[r]? = some (.mp es) /\ zmb true (.str nm) (.ptr (nb p + T.length) 0 0) es = some es' ∧
  FR p ((T ++ [boxO n]).set r (.mp es')) m r (⟨nm, T.length, n⟩ :: B) /\ WT p ((T ++ [boxO n]).set r (.mp es')) /\ Keep m (some r) T ((T ++ [boxO n]).set r (.mp es')) := by
 obtain ⟨es, h1, hs, h2⟩ := hF.map
 have hr := (List.getElem?_eq_some_iff.1 h1).1
 obtain ⟨es', e1, e2, e3, e4⟩ := zSc nm (.ptr (nb p + T.length) 0 0) es hs
 refine ⟨es, es', h1, e1, ⟨⟨es', ?_, e2, fun x => ?_⟩, ?_, ?_, hF.lo⟩, ?_, ?_⟩
 ·rw [List.getElem?_set_self (by simp; omega)]
 ·rw [e4]
  by_cases hx : nm = x
  ·simp [hx, zBc]
  ·rw [if_neg hx, h2]; simp [hx, zBc]
 ·intro b hb
  rcases List.mem_cons.1 hb with rfl | hb
  ·refine ⟨?_, hm⟩
   rw [List.getElem?_set_ne (by simp only; omega), List.getElem?_append_right (Nat.le_refl _)]
   simp
  ·obtain ⟨h3, h4⟩ := hF.val b hb
   have hlt := (List.getElem?_eq_some_iff.1 h3).1
   have hne : r ≠ b.box := by rintro rfl; rw [h1] at h3; simp [boxO] at h3
   exact ⟨by rw [List.getElem?_set_ne hne, List.getElem?_append_left hlt]; exact h3, h4⟩
 ·simp only [List.map_cons, List.nodup_cons]
  refine ⟨?_, hF.nd⟩
  intro h
  obtain ⟨b, hb, e⟩ := List.mem_map.1 h
  have := (List.getElem?_eq_some_iff.1 (hF.val b hb).1).1
  omega
 ·unfold WT
  rw [List.length_set]
  refine wf_set (WT_box n hT) ?_
  have : (Obj.mp es).below (nb p + T.length) = true := by
   have hT' := hT
   unfold WT zd.wf at hT'
   rw [List.all_eq_true] at hT'
   exact hT' _ (List.mem_of_getElem? h1)
  exact e3 _ (belowP_le (by simp) es this) (by simp)
 ·refine ⟨by simp, fun j hj hne => .inl ?_⟩
  have hne : r ≠ j := fun e => hne (by rw [e])
  rw [List.getElem?_set_ne hne, List.getElem?_append_left hj]
theorem arg1_two {l : List Expr} (h : l.length = 2) : l[1]? = some (arg1 l) /\ arg1 l ∈ l /\ l[0]? = some (arg0 l) /\ arg0 l ∈ l := by
 match l, h with
 | [x, y], _ => simp [arg0, arg1]
theorem put_row {p : Prog} {S : RS} {v : Int} {T : zd} {i : Nat} {l : List Int} (h : S.arrs[i]? = some l) (k : Nat) (m : Int) : (sto p S v T).set (i + 2) (.arr 1 ((l.map (PV.int .i64)).set k (.int .i64 m))) = sto p { S with arrs := S.arrs.set i (l.set k m) } v T := by
 have : (l.map (PV.int .i64)).set k (.int .i64 m) = (l.set k m).map (PV.int .i64) := by rw [List.map_set]
 rw [this]
 exact sto_setrow h _
theorem set_out {p : Prog} {S : RS} {v : Int} {T : zd} (l : List Int) : (sto p S v T).set 1 (.arr 10 [.agg [zwa p.arrays, funcs p.funcs, ints S.inp, .mp 0, .int .i64 0, .int .i64 0, acc 1 (l.map (PV.int .i64)), .int .i64 S.cost, .int .i64 S.fuel, .int .i64 v]]) = sto p { S with out := l } v T := rfl
set_option maxHeartbeats 8000000 in
theorem vstmt_of {p : Prog} (hP : OkP p) {w : Nat} (hE : SpecE p w) (hB : BlockSpec p w) : SpecS p (w + 1) := by
 refine ⟨fun s S v T m r B loop hS hf ho hw hF hT => ?_⟩
 have hL := vloop_of hE hB
 have hstep := step_spec p S v T (by have := hS.2; omega)
 have hoe := ho
 rw [okS_eq] at ho
 obtain ⟨⟨o0, o0'⟩, o2, o3, o4, o5, o6, o7, o8⟩ := ho
 have hws := hw
 rw [zKc] at hw
 refine zga rfl rfl rfl (by simp [zb]) ?_
 simp only [evF]
 cases hfu : S.fuel with
 | zero =>
  rw [hfu] at hstep
  have hfin := isS_stop (p := p) (B := B) (k := 0) (S1 := S) (v1 := v) (Keep.refl m (some r) T)
  clear o0 o0' o2 o3 o4 o5 o6 o7 o8 hoe
  simp [*, F120, zb, ze, zi]
 | succ k =>
  rw [hfu] at hstep
  simp only at hstep ⊢
  have hS0 : FitS p { S with fuel := k } := hS.mono ⟨by simp only; omega, by simp only; omega, rfl⟩
  have hf0 : ({ S with fuel := k } : RS).fuel <= w := by simp only; omega
  generalize hSS : ({ S with fuel := k } : RS) = S0 at *
  clear hSS hfu hf hS
  have hkr := Keep.refl m (some r) T
  unfold stmtW
  by_cases k5 : s.kind = 5
  ·rw [if_pos k5]
   have hc := hL.loop s S0 v T m r B loop hS0 hf0 k5 hoe hws hF hT
   replace k5 := eqp k5
   generalize zgc (evF p w) (arg0 s.args) s.thn (w + 1) (zA B) S0 = q at *
   obtain ⟨v1, T1, h1, h2, h3, h4⟩ := isBk_get hc
   have hfin : isS p T m r B q (outH q.1) (sto p q.2 v1 T1) := isS_of_isBk ⟨v1, T1, rfl, rfl, h2, h3, h4⟩
   obtain ⟨a, S1⟩ := q
   rw [zb] at h1
   simp [ze, zi] at h1 hfin
   clear o0 o0' o2 o3 o4 o5 o6 o7 o8 hoe hL hE hB hP hF hT h2 h3 h4 hkr hw hws
   cases a with
   | stop j => simp [outH] at h1 hfin; simp [*, F120, zb, ze, zi]
   | ok y => simp [outH] at h1 hfin; simp [*, F120, zb, ze, zi]
  rw [if_neg k5]
  by_cases k6 : s.kind = 6
  ·rw [if_pos k6]
   have hfin := isS_ret (B := B) (h := .brk) (S1 := S0) (v1 := v) hkr (fun n h => by cases h) hF hT ⟨[], rfl⟩
   simp [howN] at hfin
   replace k5 := eqn k5
   replace k6 := eqp k6
   clear o0 o0' o2 o3 o4 o5 o6 o7 o8 hoe hL hE hB hP hF hT hkr hw hws
   simp [*, F120, zb, ze, zi]
  rw [if_neg k6]
  by_cases k7 : s.kind = 7
  ·rw [if_pos k7]
   have hfin := isS_ret (B := B) (h := .cont) (S1 := S0) (v1 := v) hkr (fun n h => by cases h) hF hT ⟨[], rfl⟩
   simp [howN] at hfin
   replace k5 := eqn k5
   replace k6 := eqn k6
   replace k7 := eqp k7
   clear o0 o0' o2 o3 o4 o5 o6 o7 o8 hoe hL hE hB hP hF hT hkr hw hws
   simp [*, F120, zb, ze, zi]
  rw [if_neg k7]
  have hl1 : 1 <= (s.args.length : Int) := by
   rw [o2]; unfold zR
   repeat' (first | rw [if_neg (by omega)] | split)
   all_goals (first | decide | (simp; done) | omega)
  have gm := arg0_mem hl1
  have g0 : s.args[0]? = some (arg0 s.args) := by
   revert hl1
   cases s.args with
   | nil => intro h; simp at h
   | cons x r => intro _; rfl
  have hwe := zdc gm
  have hc := hE.expr (arg0 s.args) S0 v T m r B hS0 hf0 (okEs_mem o3 gm) (by omega) hF hT
  have hm := (zyc p w).expr (arg0 s.args) (zA B) S0
  generalize he0 : arg0 s.args = x0 at *
  generalize (evF p w).expr x0 (zA B) S0 = q at *
  obtain ⟨a, S1⟩ := q
  obtain ⟨v1, hc⟩ := zsd hc
  rw [za] at hc
  obtain ⟨m1, _⟩ := hm
  have hS1 := hS0.mono m1
  have hf1 : S1.fuel <= w := Nat.le_trans m1.fuel hf0
  replace k5 := eqn k5
  replace k6 := eqn k6
  replace k7 := eqn k7
  cases a with
  | stop j =>
   have hfin := isS_stop (p := p) (B := B) (k := j) (S1 := S1) (v1 := v1) hkr
   simp [ze] at hc
   clear o0 o0' o2 o3 o4 o5 o6 o7 o8 hoe hL hE hB hP hF hT hkr hw hws hl1 gm hwe m1 hS1 hf1 he0
   simp [*, F120, zb, za, ze, zi]
  | ok n =>
   simp only
   simp [ze] at hc
   -- the box
   have hlen := zLc (v := v1) (T := T) hS1
   have hget : (sto p S1 v1 (T ++ [.arr 1 [.int .i64 0]]))[nb p + T.length]? = some (.arr 1 [.int .i64 0]) := by
    rw [zpd hS1]; simp
   have hset : (sto p S1 v1 (T ++ [.arr 1 [.int .i64 0]])).set (nb p + T.length) (.arr 1 [.int .i64 n]) = sto p S1 v1 (T ++ [boxO n]) := by
    rw [sto_set hS1, List.set_append_right _ _ (Nat.le_refl _)]; simp [boxO]
   have hread : ∀ S2 v2, FitS p S2 -> (sto p S2 v2 (T ++ [boxO n]))[nb p + T.length]? = some (.arr 1 [.int .i64 n]) := by
    intro S2 v2 h
    rw [zpd h]; simp [boxO]
   have hr1 := hread S1 v1 hS1
   have hFb := FR_app (L := [boxO n]) hF
   have hTb := WT_box n hT
   have hKb : Keep m (some r) T (T ++ [boxO n]) := Keep_app
   unfold zYb
   by_cases k1 : s.kind = 1
   ·rw [if_pos k1]
    obtain ⟨es, es', e1, e2, e3, e4, e5⟩ := FR_let (nm := s.name) (n := n) hF hT (by have := hF.lo; have := hF.lt; omega)
    have hgm : (sto p S1 v1 (T ++ [boxO n]))[nb p + r]? = some (.mp es) := by
     rw [zpd hS1, List.getElem?_append_left hF.lt]; exact e1
    have hsm : (sto p S1 v1 (T ++ [boxO n])).set (nb p + r) (.mp es') = sto p S1 v1 ((T ++ [boxO n]).set r (.mp es')) := sto_set hS1 _ _
    have hfin := isS_ret (B := B) (h := .on) (S1 := S1) (v1 := v1) e5 (fun n h => by cases h) e3 e4 ⟨[(s.name, T.length)], rfl⟩
    simp only [howN, zA, List.map_cons] at hfin
    replace k1 := eqp k1
    clear o0 o0' o2 o3 o4 o5 o6 o7 o8 hoe hL hE hB hP hF hT hkr hw hws hl1 gm hwe m1 hS1 hf1 he0 hread hr1 hFb hTb hKb e1 e3 e4 e5
    generalize ((T ++ [boxO n]).set r (.mp es')) = T9 at *
    generalize T ++ [boxO n] = T8 at *
    simp [*, F120, zb, za, ze, zi, zec, zA]
   rw [if_neg k1]
   by_cases k2 : s.kind = 2
   ·rw [if_pos k2]
    obtain ⟨es, b, e1, e2, e3, e4⟩ := hFb.look (o4 k2)
    have hgm : (sto p S1 v1 (T ++ [boxO n]))[nb p + r]? = some (.mp es) := by rw [zpd hS1]; exact e1
    have hgb : (sto p S1 v1 (T ++ [boxO n]))[nb p + b.box]? = some (.arr 1 [.int .i64 (getV s.name (zA B))]) := by rw [zpd hS1]; exact e3
    have hsm : (sto p S1 v1 (T ++ [boxO n])).set (nb p + b.box) (.arr 1 [.int .i64 n]) = sto p S1 v1 ((T ++ [boxO n]).set b.box (boxO n)) := sto_set hS1 _ _
    have hfin := isS_ret (B := B) (h := .on) (S1 := S1) (v1 := v1) (hKb.trans (Keep_set (n := n) e3 (hFb.val b (lookB_mem e4).1).2)) (fun n h => by cases h) (FR_set n hFb e4) (WT_set hTb) ⟨[], keys_set _ _ _⟩
    rw [vals_set] at hfin
    simp only [howN] at hfin
    replace k1 := eqn k1
    replace k2 := eqp k2
    clear o0 o0' o2 o3 o4 o5 o6 o7 o8 hoe hL hE hB hP hF hT hkr hw hws hl1 gm hwe m1 hS1 hf1 he0 hread hFb hTb hKb e1 e3 e4
    generalize ((T ++ [boxO n]).set b.box (boxO n)) = T9 at *
    generalize T ++ [boxO n] = T8 at *
    simp [*, F120, zb, za, ze, zi, zec]
   rw [if_neg k2]
   by_cases k3 : s.kind = 3
   ·rw [if_pos k3]
    have hl2 : s.args.length = 2 := by rw [k3] at o2; simp [zR] at o2; omega
    obtain ⟨g1, gm1, _, _⟩ := arg1_two hl2
    have hwe1 := zdc gm1
    have hc1 := hE.expr (arg1 s.args) S1 v1 (T ++ [boxO n]) m r B hS1 hf1 (okEs_mem o3 gm1) (by omega) hFb hTb
    have hm1 := (zyc p w).expr (arg1 s.args) (zA B) S1
    generalize arg1 s.args = x1 at *
    generalize (evF p w).expr x1 (zA B) S1 = q at *
    obtain ⟨a, S2⟩ := q
    obtain ⟨v2, hc1⟩ := zsd hc1
    rw [za] at hc1
    have hS2 := hS1.mono hm1.1
    replace k1 := eqn k1
    replace k2 := eqn k2
    replace k3 := eqp k3
    cases a with
    | stop j =>
     have hfin := isS_stop (p := p) (B := B) (k := j) (S1 := S2) (v1 := v2) hKb
     simp [ze] at hc1
     clear o0 o0' o2 o3 o4 o5 o6 o7 o8 hoe hL hE hB hP hF hT hkr hw hws hl1 gm hwe m1 hS1 hf1 he0 hread hFb hTb hKb hl2 gm1 hwe1 hm1 hS2
     generalize T ++ [boxO n] = T8 at *
     simp [*, F120, zb, za, ze, zi, zec]
    | ok y =>
     simp only
     simp [ze] at hc1
     obtain ⟨i, row, a1, a2, a3, a4⟩ := arr_at hS2.cost (o5 (of_eq_true k3))
     have hcell := cell_spec (p := p) (v := v2) (T := T ++ [boxO n]) n a3 a4
     have hrow := sto_row (p := p) (v := v2) (T := T ++ [boxO n]) a3
     have hr2 := hread (zZ S2) v2 hS2.cost
     unfold putAt
     rw [a1]
     simp only [Int.toNat_natCast, a3, Option.bind_some]
     by_cases hx : 0 <= n /\ n < row.length
     ·rw [if_pos hx] at hcell
      rw [if_neg (by omega), if_pos (by omega)]
      have hlt : n.toNat < row.length := by omega
      obtain ⟨z, hz⟩ : ∃ z, row[n.toNat]? = some z := ⟨_, List.getElem?_eq_getElem hlt⟩
      have hput := put_row (p := p) (v := v2) (T := T ++ [boxO n]) a3 n.toNat y
      have hfin := isS_ret (B := B) (h := .on) (S1 := { zZ S2 with arrs := (zZ S2).arrs.set i (row.set n.toNat y) }) (v1 := v2) hKb (fun n h => by cases h) hFb hTb ⟨[], rfl⟩
      simp only [howN] at hfin
      clear o0 o0' o2 o3 o4 o5 o6 o7 o8 hoe hL hE hB hP hF hT hkr hw hws hl1 gm hwe m1 hS1 hf1 he0 hread hFb hTb hKb hl2 gm1 hwe1 hm1 hS2 hx hlt a1 a2 a3 a4
      generalize T ++ [boxO n] = T8 at *
      simp [*, F120, zb, za, ze, zi, zec]
     ·rw [if_neg hx] at hcell
      have hnone : (if n < 0 then none else if n.toNat < row.length then some { zZ S2 with arrs := (zZ S2).arrs.set i (row.set n.toNat y) } else none : Option RS) = none := by
       split
       ·rfl
       ·rw [if_neg (by omega)]
      rw [hnone]
      have hfin := isS_stop (p := p) (B := B) (k := 3) (S1 := zZ S2) (v1 := v2) hKb
      clear o0 o0' o2 o3 o4 o5 o6 o7 o8 hoe hL hE hB hP hF hT hkr hw hws hl1 gm hwe m1 hS1 hf1 he0 hread hFb hTb hKb hl2 gm1 hwe1 hm1 hS2 hx a1 a2 a3 a4 hnone hrow
      generalize T ++ [boxO n] = T8 at *
      simp [*, F120, zb, za, ze, zi, zec]
   rw [if_neg k3]
   by_cases k4 : s.kind = 4
   ·rw [if_pos k4]
    have hadd : zcc s = [] := if_neg k1
    rw [hadd, List.nil_append] at o7 o8
    have hblk : ∀ l, (l = s.els \/ l = s.thn) -> PC (zh E 95 [.ptr 1 0 0, zi l, .mp (nb p + r)] (sto p S1 v1 (T ++ [boxO n]))) (isBk p (T ++ [boxO n]) m r B (zT (evF p w) l (zA B) S1)) := by
     rintro l (rfl | rfl)
     ·exact hB.block _ S1 v1 _ m r B _ hS1 hf1 o8 (by omega) hFb hTb
     ·exact hB.block _ S1 v1 _ m r B _ hS1 hf1 o7 (by omega) hFb hTb
    have hfinB : ∀ q v2 T2, Keep m none (T ++ [boxO n]) T2 -> T2.length = (T ++ [boxO n]).length -> (∀ h V1, q.1 = .ok (h, V1) -> (∀ n, h = .ret n -> v2 = n) /\ BkR p (T ++ [boxO n]) T2 m r B V1 (fun a => a = [])) -> isS p T m r B q (outH q.1) (sto p q.2 v2 T2) := by
     intro q v2 T2 h1 h2 h3
     refine ⟨v2, T2, rfl, rfl, hKb.trans h1.weaken, fun h V1 e => ?_⟩
     obtain ⟨g1, ⟨B1, a, g2, g3, g4, g5⟩, g6⟩ := h3 h V1 e
     exact ⟨g1, ⟨B1, a, g2, g3, g4, trivial⟩, g6⟩
    have hc2 := hblk (if n = 0 then s.els else s.thn) (by split <;> simp)
    replace k1 := eqn k1
    replace k2 := eqn k2
    replace k3 := eqn k3
    replace k4 := eqp k4
    clear o0 o0' o2 o3 o4 o5 o6 o7 o8 hoe hL hE hB hP hF hT hkr hw hws hl1 gm hwe m1 hS1 hf1 he0 hread hFb hTb hblk
    by_cases hn : n = 0
    ·rw [if_pos hn] at hc2 ⊢
     generalize zT (evF p w) s.els (zA B) S1 = q at *
     obtain ⟨v2, T2, h1, h2, h3, h4⟩ := isBk_get hc2
     have hfin := hfinB q v2 T2 h2 h3 h4
     replace hn := eqp hn
     clear hfinB h2 h3 h4 hKb hc2
     obtain ⟨a, S2⟩ := q
     simp only at h1 hfin
     generalize T ++ [boxO n] = T8 at *
     simp [zi] at h1
     cases a <;> simp [outH] at h1 hfin <;> simp [*, F120, zb, za, ze, zi, zec]
    ·rw [if_neg hn] at hc2 ⊢
     generalize zT (evF p w) s.thn (zA B) S1 = q at *
     obtain ⟨v2, T2, h1, h2, h3, h4⟩ := isBk_get hc2
     have hfin := hfinB q v2 T2 h2 h3 h4
     replace hn := eqn hn
     clear hfinB h2 h3 h4 hKb hc2
     obtain ⟨a, S2⟩ := q
     simp only at h1 hfin
     generalize T ++ [boxO n] = T8 at *
     simp [zi] at h1
     cases a <;> simp [outH] at h1 hfin <;> simp [*, F120, zb, za, ze, zi, zec]
   rw [if_neg k4]
   by_cases k8 : s.kind = 8
   ·rw [if_pos k8]
    have hfin := isS_ret (B := B) (h := .ret n) (S1 := S1) (v1 := n) hKb (fun z h => by cases h; rfl) hFb hTb ⟨[], rfl⟩
    simp only [howN] at hfin
    replace k1 := eqn k1
    replace k2 := eqn k2
    replace k3 := eqn k3
    replace k4 := eqn k4
    replace k8 := eqp k8
    clear o0 o0' o2 o3 o4 o5 o6 o7 o8 hoe hL hE hB hP hF hT hkr hw hws hl1 gm hwe m1 hS1 hf1 he0 hread hFb hTb hKb
    generalize T ++ [boxO n] = T8 at *
    simp [*, F120, zb, za, ze, zi, zec]
   rw [if_neg k8]
   by_cases k9 : s.kind = 9
   ·rw [if_pos k9]
    have hfin := isS_ret (B := B) (h := .on) (S1 := { zZ S1 with out := S1.out ++ [n] }) (v1 := v1) hKb (fun z h => by cases h) hFb hTb ⟨[], rfl⟩
    simp only [howN] at hfin
    have hr2 := hread (zZ S1) v1 hS1.cost
    have hso := set_out (p := p) (S := zZ S1) (v := v1) (T := T ++ [boxO n]) (S1.out ++ [n])
    have hroom : (S1.out.length + 1) * 8 <= zL := by have := hS1.2; simp only at this; simp only [zL]; omega
    have hr3 : ∀ X, ((sto p (zZ S1) v1 (T ++ [boxO n])).set 1 X)[nb p + T.length]? = some (.arr 1 [.int .i64 n]) := by
     intro X
     rw [List.getElem?_set_ne (by unfold nb; omega)]; exact hr2
    have hr4 : ∀ X, ((sto p (zZ S1) v1 (T ++ [boxO n])).set 1 X)[1]? = some X := by
     intro X
     rw [List.getElem?_set_self (by rw [zLc hS1.cost]; unfold nb; omega)]
    have hao : acc 1 ((S1.out ++ [n]).map (PV.int .i64)) = .slice .own 1 (S1.out.map (PV.int .i64) ++ [.int .i64 n]) := by
     rw [acc_ne (by simp)]; simp
    have hio : isOwn (acc 1 (S1.out.map (PV.int .i64) ++ [.int .i64 n])) = some (1, S1.out.map (PV.int .i64) ++ [.int .i64 n]) := by
     rw [acc_ne (by simp)]; rfl
    rw [hao] at hso
    have hco : (zZ S1).out = S1.out := rfl
    replace k1 := eqn k1
    replace k2 := eqn k2
    replace k3 := eqn k3
    replace k4 := eqn k4
    replace k8 := eqn k8
    replace k9 := eqp k9
    clear o0 o0' o2 o3 o4 o5 o6 o7 o8 hoe hL hE hB hP hF hT hkr hw hws hl1 gm hwe m1 hS1 hf1 he0 hread hFb hTb hKb hao hr1 hr2
    generalize T ++ [boxO n] = T8 at *
    simp [*, F120, zb, za, ze, zi, zec]
   rw [if_neg k9]
   have hfin := isS_ret (B := B) (h := .on) (S1 := S1) (v1 := v1) hKb (fun z h => by cases h) hFb hTb ⟨[], rfl⟩
   simp only [howN] at hfin
   replace k1 := eqn k1
   replace k2 := eqn k2
   replace k3 := eqn k3
   replace k4 := eqn k4
   replace k8 := eqn k8
   replace k9 := eqn k9
   clear o0 o0' o2 o3 o4 o5 o6 o7 o8 hoe hL hE hB hP hF hT hkr hw hws hl1 gm hwe m1 hS1 hf1 he0 hread hFb hTb hKb
   generalize T ++ [boxO n] = T8 at *
   simp [*, F120, zb, za, ze, zi, zec]
theorem spec0 (p : Prog) : SpecE p 0 /\ SpecS p 0 := by
 constructor
 ·refine ⟨fun e S v T m r B hS hf ho hw hF hT => ?_⟩
  have h0 : S.fuel = 0 := by omega
  have hstep := step_spec p S v T (by omega)
  rw [h0] at hstep
  refine zga rfl rfl rfl (by simp [za]) ?_
  simp only [evF]
  clear ho hF
  simp [*, F143, za, ze]
 ·refine ⟨fun s S v T m r B loop hS hf ho hw hF hT => ?_⟩
  have h0 : S.fuel = 0 := by omega
  have hstep := step_spec p S v T (by omega)
  rw [h0] at hstep
  have hfin := isS_stop (p := p) (B := B) (k := 0) (S1 := S) (v1 := v) (Keep.refl m (some r) T)
  refine zga rfl rfl rfl (by simp [zb]) ?_
  simp only [evF]
  clear ho hF
  simp [*, F120, zb, ze, zi]
theorem specs {p : Prog} (hP : OkP p) : ∀ w, SpecE p w /\ SpecS p w
 | 0 => spec0 p
 | w + 1 => by
  obtain ⟨h1, h2⟩ := specs hP w
  have hB := vblock_of h2
  exact ⟨vexpr_of hP h1 hB, vstmt_of hP h1 hB⟩
end PE.U

namespace PE.U
open Go PE
structure FV where
 d : List Vr
 c : List Vr
end PE.U

namespace PE.U
open Go PE
end PE.U

namespace PE.U
open Go PE
structure Lay (s : List Vr) (d : Int) (q : Nat) where
 inner : List Vr
 outer : List Vr
 eq : s = inner ++ outer
 len : outer.length = q
 ins : ∀ v ∈ inner, v.depth = d
 outs : ∀ v ∈ outer, v.depth < d
end PE.U

namespace PE.U
open Go PE
end PE.U

namespace PE.U
open Go PE
end PE.U

namespace PE.U
open Go PE
end PE.U

namespace PE.U
open Go PE
def rptrs (k : Nat) : List PArr -> List PV
 | [] => []
 | a :: r => .mslice k 0 a.size.toNat 1 :: rptrs (k + 1) r
def stK : Option Int -> Int
 | none => 0
 | some k => k
def spK : Option Int -> Bool
 | none => false
 | some k => decide (k = 0)
def runR (p : Prog) (S : RS) (h : Option Int) : Obj := .arr 10 [.agg [zwa p.arrays, funcs p.funcs, ints S.inp, acc 1 (rptrs 1 p.arrays), .int .i64 (stK h), .int .i64 0, acc 1 (S.out.map (PV.int .i64)), .int .i64 S.cost, .int .i64 S.fuel, .bool (spK h)]]
def stR (p : Prog) (S : RS) (h : Option Int) (T : zd) : zd := runR p S h :: (rowsO S.arrs ++ T)
def goH {α : Type} : Rt α -> Option Int
 | .ok _ => none
 | .stop k => some k
@[simp] theorem goH_ok {α : Type} (a : α) : goH (.ok a) = none := rfl
@[simp] theorem goH_stop {α : Type} (k : Int) : goH (.stop k : Rt α) = some k := rfl
section
variable (p : Prog) (S : RS) (h : Option Int) (T : zd)
@[simp] theorem stR_0 : (stR p S h T)[0]? = some (.arr 10 [.agg [zwa p.arrays, funcs p.funcs, ints S.inp, acc 1 (rptrs 1 p.arrays), .int .i64 (stK h), .int .i64 0, acc 1 (S.out.map (PV.int .i64)), .int .i64 S.cost, .int .i64 S.fuel, .bool (spK h)]]) := rfl
@[simp] theorem stK_none : stK none = 0 := rfl
@[simp] theorem spK_none : spK none = false := rfl
@[simp] theorem stK_some (k : Int) : stK (some k) = k := rfl
@[simp] theorem spK_some (k : Int) : spK (some k) = decide (k = 0) := rfl
@[simp] theorem setR_fuel (k : Nat) : (stR p S none T).set 0 (.arr 10 [.agg [zwa p.arrays, funcs p.funcs, ints S.inp, acc 1 (rptrs 1 p.arrays), .int .i64 0, .int .i64 0, acc 1 (S.out.map (PV.int .i64)), .int .i64 S.cost, .int .i64 k, .bool false]]) = stR p { S with fuel := k } none T := rfl
@[simp] theorem setR_spent : (stR p S none T).set 0 (.arr 10 [.agg [zwa p.arrays, funcs p.funcs, ints S.inp, acc 1 (rptrs 1 p.arrays), .int .i64 0, .int .i64 0, acc 1 (S.out.map (PV.int .i64)), .int .i64 S.cost, .int .i64 S.fuel, .bool true]]) = stR p S (some 0) T := rfl
@[simp] theorem setR_2 : (stR p S none T).set 0 (.arr 10 [.agg [zwa p.arrays, funcs p.funcs, ints S.inp, acc 1 (rptrs 1 p.arrays), .int .i64 2, .int .i64 0, acc 1 (S.out.map (PV.int .i64)), .int .i64 S.cost, .int .i64 S.fuel, .bool false]]) = stR p S (some 2) T := rfl
@[simp] theorem setR_3 : (stR p S none T).set 0 (.arr 10 [.agg [zwa p.arrays, funcs p.funcs, ints S.inp, acc 1 (rptrs 1 p.arrays), .int .i64 3, .int .i64 0, acc 1 (S.out.map (PV.int .i64)), .int .i64 S.cost, .int .i64 S.fuel, .bool false]]) = stR p S (some 3) T := rfl
@[simp] theorem setR_4 : (stR p S none T).set 0 (.arr 10 [.agg [zwa p.arrays, funcs p.funcs, ints S.inp, acc 1 (rptrs 1 p.arrays), .int .i64 4, .int .i64 0, acc 1 (S.out.map (PV.int .i64)), .int .i64 S.cost, .int .i64 S.fuel, .bool false]]) = stR p S (some 4) T := rfl
@[simp] theorem setR_inp (l : List Int) : (stR p S none T).set 0 (.arr 10 [.agg [zwa p.arrays, funcs p.funcs, .slice .plain 1 (l.map (PV.int .i64)), acc 1 (rptrs 1 p.arrays), .int .i64 0, .int .i64 0, acc 1 (S.out.map (PV.int .i64)), .int .i64 S.cost, .int .i64 S.fuel, .bool false]]) = stR p { S with inp := l } none T := rfl
end
def encPl (x : List UInt8 × Int) : PV := .agg [.str x.1, .int .i64 x.2]
def rowV (V : Vs) : List PV := .agg [.str [], .int .i64 0] :: V.reverse.map encPl
def nbR (p : Prog) : Nat := p.arrays.length + 1
structure FRr (p : Prog) (T : zd) (m k : Nat) (V : Vs) (h n : Int) : Prop where
 lo : m <= k
 row : ∃ j junk, m <= j /\ j ≠ k /\ T[k]? = some (.arr 3 [.agg [.mslice (nbR p + j) 0 (V.length + 1) 2, .int .i64 h, .int .i64 n]]) /\ T[j]? = some (.arr 2 (rowV V ++ junk))
def WTr (p : Prog) (T : zd) : Prop := zd.wf (nbR p + T.length) T = true
end PE.U

namespace PE.U
open Go PE
def isER (p : Prog) (T : zd) (q : Rt Int × RS) : CRes -> zd -> Prop := fun res st => ∃ x, res = .ret (.int .i64 x) /\ (∀ n, q.1 = .ok n -> x = n) /\ st = stR p q.2 (goH q.1) T
def capV : Nat := 5000000000000
structure SpecER (p : Prog) (w : Nat) : Prop where
 expr : ∀ e S T m k V h n, FitS p S -> S.fuel <= w -> okE p (zha V) e -> wtE e < capE -> V.length < capV -> FRr p T m k V h n -> WTr p T →
  PC (zh E 125 [.ptr 0 0 0, .ptr (nbR p + k) 0 0, zw e] (stR p S none T)) (isER p T ((evF p w).expr e V S))
def isSR (p : Prog) (T : zd) (m k : Nat) (V : Vs) (q : Rt (How × Vs) × RS) : CRes -> zd -> Prop := fun res st => ∃ T' V1 h n, res = .ret (.tup []) /\ st = stR p q.2 (goH q.1) T' /\ T.length <= T'.length /\ (∀ j, j < m -> T'[j]? = T[j]?) /\ WTr p T' /\ FRr p T' m k V1 h n /\ V.length <= V1.length ∧
 ∀ hh V2, q.1 = .ok (hh, V2) -> V1 = V2 /\ h = howN hh /\ ∀ x, hh = .ret x -> n = x
structure BlockR (p : Prog) (w : Nat) : Prop where
 block : ∀ l S T m k V n loop, FitS p S -> S.fuel <= w -> okB p (zha V) loop l -> wtSs l < capE -> V.length + wtSs l < capV -> FRr p T m k V 0 n -> WTr p T →
  PC (zh E 74 [.ptr 0 0 0, .ptr (nbR p + k) 0 0, zi l] (stR p S none T)) (isSR p T m k V (zT (evF p w) l V S))
structure CSr where
 d : Nat
 T : zd
end PE.U

namespace PE.U
open Go PE
structure ARs where
 rest : List Expr
 acc : List Int
 S : RS
end PE.U

namespace PE.U
open Go PE
structure SpecSR (p : Prog) (w : Nat) : Prop where
 stmt : ∀ s S T m k V n loop, FitS p S -> S.fuel <= w -> okS p (zha V) loop s -> wtS s < capE -> V.length + 1 + wtS s < capV -> FRr p T m k V 0 n -> WTr p T →
  PC (zh E 101 [.ptr 0 0 0, .ptr (nbR p + k) 0 0, zda s] (stR p S none T)) (isSR p T m k V ((evF p w).stmt s V S))
structure BSr where
 rest : List Stmt
 q : Rt (How × Vs) × RS
 T : zd
 V : Vs
 h : Int
 n : Int
structure LSr where
 k : Nat
 S : RS
 T : zd
 V : Vs
 n : Int
structure LoopR (p : Prog) (w : Nat) : Prop where
 loop : ∀ s S T m k V n loop, FitS p S -> S.fuel <= w -> s.kind = 5 -> okS p (zha V) loop s -> wtS s < capE -> V.length + 1 + wtS s < capV -> FRr p T m k V 0 n -> WTr p T →
  PC (zh E 124 [.ptr 0 0 0, .ptr (nbR p + k) 0 0, zda s] (stR p S none T)) (isSR p T m k V (zgc (evF p w) (arg0 s.args) s.thn (w + 1) V S))
end PE.U

namespace PE.U
open Go PE
end PE.U

namespace PE
open Go
def hendQ (n : Nat) (R : CRes -> zd -> Prop) : Ex -> St -> Prop
 | .normal, s => zd.wf n (s.st.take n) = true /\ n <= s.st.length /\ R (.ret (.tup [])) (s.st.take n)
 | .ret, s => zd.wf n (s.st.take n) = true /\ n <= s.st.length /\ R (.ret (.tup [])) (s.st.take n)
 | _, _ => False
def hrestQ (K : PV × zd -> Prop) : Ex -> St -> Prop
 | .normal, s => K (.nilif, s.st)
 | .ret, s => K (.nilif, s.st)
 | .pan (.iface t v), s => K (.iface t v, s.st)
 | _, _ => False
noncomputable def hpreQ (E : Env) (H : HFn) (n : Nat) (R : CRes -> zd -> Prop) : Ex -> St -> Prop
 | .normal, s1 => (zn s1.fr H.caps).all zD = true /\ zca (exec (zh E) H.rest { s1 with fr := upd s1.fr H.d (.fn H.k [] (zn s1.fr H.caps)) }) (hrestQ fun q => zca (exec (zh E) H.code (handSt H (zn s1.fr H.caps) q)) (hendQ n R))
 | _, _ => False
section
variable (n : Nat) (R : CRes -> zd -> Prop) (s : St) (K : PV × zd -> Prop) (E : Env) (H : HFn)
@[simp] theorem hendQ_normal : hendQ n R .normal s = (zd.wf n (s.st.take n) = true /\ n <= s.st.length /\ R (.ret (.tup [])) (s.st.take n)) := Eq.trans rfl rfl
@[simp] theorem hrestQ_normal : hrestQ K .normal s = K (.nilif, s.st) := Eq.trans rfl rfl
@[simp] theorem hrestQ_pan (t : Nat) (v : PV) : hrestQ K (.pan (.iface t v)) s = K (.iface t v, s.st) := Eq.trans rfl rfl
@[simp] theorem hpreQ_normal : hpreQ E H n R .normal s = ((zn s.fr H.caps).all zD = true /\ zca (exec (zh E) H.rest { s with fr := upd s.fr H.d (.fn H.k [] (zn s.fr H.caps)) }) (hrestQ fun q => zca (exec (zh E) H.code (handSt H (zn s.fr H.caps) q)) (hendQ n R))) := Eq.trans rfl rfl
@[simp] theorem handSt_eq (cv : List PV) (q : PV × zd) : handSt H cv q = { fr := upd (upd (frOf cv 0) H.r1 q.1) H.r2 q.1, bx := fun _ => .no, st := q.2 } := Eq.trans rfl rfl
end
theorem hand_wp {E : Env} {f : Nat} {H : HFn} {args : List PV} {st : zd} {R : CRes -> zd -> Prop} (hx : E.ext f = none) (hh : E.hand f = some H) (hl : args.length = H.nargs) (hv : args.all zD = true)
  (h : zca (exec (zh E) H.pre { fr := frOf args 0, bx := fun _ => .no, st := st }) (hpreQ E H st.length R)) : PC (zh E f args st) R := by
 rw [holds_iff] at h
 obtain ⟨e1, s1, h1, h2⟩ := h
 have : e1 = .normal := by cases e1 <;> first | rfl | exact h2.elim
 subst this
 rw [hpreQ_normal] at h2
 obtain ⟨h3, h4⟩ := h2
 rw [holds_iff] at h4
 obtain ⟨e2, s2, h5, h6⟩ := h4
 have hq : ∃ q, thrown (some (e2, s2)) = some q /\ zca (exec (zh E) H.code (handSt H (zn s1.fr H.caps) q)) (hendQ st.length R) := by
  cases e2 with
  | normal => exact ⟨_, rfl, h6⟩
  | ret => exact ⟨_, rfl, h6⟩
  | exit i => exact h6.elim
  | pan v => cases v <;> first | exact ⟨_, rfl, h6⟩ | exact h6.elim
 obtain ⟨q, hq1, hq2⟩ := hq
 rw [holds_iff] at hq2
 obtain ⟨e3, s3, h7, h8⟩ := hq2
 have hr : ∃ st', handEnd st.length (some (e3, s3)) = some (.ret (.tup []), st') /\ R (.ret (.tup [])) st' := by
  cases e3 with
  | normal =>
   obtain ⟨w1, w2, w3⟩ := h8
   exact ⟨_, by simp only [handEnd]; rw [if_pos (by rw [w1]; simp [w2])], w3⟩
  | ret =>
   obtain ⟨w1, w2, w3⟩ := h8
   exact ⟨_, by simp only [handEnd]; rw [if_pos (by rw [w1]; simp [w2])], w3⟩
  | exit i => exact h8.elim
  | pan v => exact h8.elim
 obtain ⟨st', hr1, hr2⟩ := hr
 have : zh E f args st = some (.ret (.tup []), st') := by
  refine pcall_hand hx hh ?_
  unfold handF
  rw [if_pos ⟨hl, hv⟩, h1]
  simp only
  rw [if_pos h3, h5, hq1]
  simp only
  rw [h7, hr1]
 rw [this]
 exact hr2
end PE

namespace PE.U
open Go PE
def zfe (r : Rn) : PV := .agg [.int .i64 r.status, .int .i64 r.code, ints r.out, .int .i64 r.cost, .int .i64 r.fuel]
def endO (p : Prog) (q : Rt Int × RS) (v : Int) : Obj := .arr 10 [.agg [zwa p.arrays, funcs p.funcs, ints q.2.inp, .mp 0, .int .i64 (zzd q).status, .int .i64 (zzd q).code, acc 1 (q.2.out.map (PV.int .i64)), .int .i64 q.2.cost, .int .i64 q.2.fuel, .int .i64 v]]
theorem main_spec {p : Prog} (hP : OkP p) (S : RS) (v : Int) (hS : FitS p S) : PC (zh E 32 [.ptr 1 0 0] (sto p S v [])) (fun res st => res = .ret (.tup []) /\ ∃ v1, FitS p (zFd p S).2 /\ st = (sto p (zFd p S).2 v1 []).set 1 (endO p (zFd p S) v1)) := by
 obtain ⟨f, hf, hfp⟩ := hP.main
 have hpl := zBd p zGd [] (by have := hP.sz.2.1; omega)
 rcases zJd (fun f : Func => decide (f.name = zGd)) p.funcs with ⟨a1, a2⟩ | ⟨n, g, a1, a2, a3, a4, a5⟩
 ·have a2 : zEb p zGd = none := a2
  rw [a2] at hf; cases hf
 have a3 : zEb p zGd = some g := a3
 have a1 : placeM p zGd = n := a1
 rw [a3, Option.some.injEq] at hf
 subst hf
 rw [a1] at hpl
 have hB := vblock_of (specs hP S.fuel).2
 have hc := vcall_of hP hB (List.mem_of_getElem? a2) (v := v) (T := []) (l := []) hS (Nat.le_refl _) (by rw [hfp]; rfl) rfl
 have hm := callW_mono (zyc p S.fuel) g [] S
 have hmw : zFd p S = callW (evF p S.fuel) g [] S := by unfold zFd; rw [a3]
 rw [hmw]
 generalize callW (evF p S.fuel) g [] S = q at *
 obtain ⟨a, S1⟩ := q
 obtain ⟨v1, hc⟩ := zsd hc
 have hS1 := hS.mono hm
 have hlen0 := zLc (v := v) (T := []) hS
 have hlen1 := zLc (v := v1) (T := []) hS1
 have htake : ∀ X, ((sto p S1 v1 []).set 1 X).take (nb p) = (sto p S1 v1 []).set 1 X := by
  intro X
  rw [List.take_of_length_le]
  rw [List.length_set, hlen1]; simp
 have hwf0 : zd.wf (nb p) (sto p S1 v1 []) = true := sto_wf hS1 (Nat.le_refl _) rfl
 have hwf : ∀ c d, zd.wf (nb p) ((sto p S1 v1 []).set 1 (.arr 10 [.agg [zwa p.arrays, funcs p.funcs, ints S1.inp, .mp 0, .int .i64 c, .int .i64 d, acc 1 (S1.out.map (PV.int .i64)), .int .i64 S1.cost, .int .i64 S1.fuel, .int .i64 v1]])) = true := by
  intro c d
  refine wf_set hwf0 ?_
  have h0 : 0 < nb p := by unfold nb; omega
  simp [Obj.below, belowL_acc, h0]
 have hr4 : ∀ X, ((sto p S1 v1 []).set 1 X)[1]? = some X := by
  intro X
  rw [List.getElem?_set_self (by rw [hlen1]; unfold nb; omega)]
 simp [zg, funcs, zGd] at hpl
 simp [zo, ints] at hc hlen0 hlen1
 refine hand_wp rfl rfl rfl rfl ?_
 clear hB hP hm hmw hS hwf0 a1 a3 a4 a5 hfp
 have hfw : FitS p S1 := hS1
 cases a with
 | stop j =>
  simp at hc
  simp [*, H32, funcs, endV, zo]
  exact ⟨hwf _ _, v1, rfl⟩
 | ok n =>
  simp at hc
  simp [*, H32, funcs, endV, zo]
  exact ⟨hwf _ _, v1, rfl⟩
theorem mapSet_arr (nm : List UInt8) (u : PV) : ∀ (d : List PArr) (b : Nat), nm ∉ d.map (·.name) -> zmb true (.str nm) u (zYa b d) = some (zYa b d ++ [(.str nm, u)])
 | [], b, _ => rfl
 | y :: d, b, h => by
  simp only [List.map_cons, List.mem_cons, not_or] at h
  have ih := mapSet_arr nm u d (b + 1) h.2
  simp only [zYa, zmb, zsc, if_true, h.1, decide_false]
  rw [ih]; rfl
theorem arrFrom_snoc (x : PArr) : ∀ (d : List PArr) (b : Nat), zYa b (d ++ [x]) = zYa b d ++ [(.str x.name, .mslice (b + d.length) 0 x.size.toNat 1)]
 | [], b => by simp [zYa]
 | y :: d, b => by
  simp only [List.cons_append, zYa, arrFrom_snoc x d, List.length_cons]
  rw [show b + 1 + d.length = b + (d.length + 1) from by omega]
set_option maxHeartbeats 4000000 in
theorem zMa (p : Prog) (hz : PSz p) (inp : List Int) (fu : Int) (hf : fu <= 100000000000) : zh E 17 [zg p, ints inp, .int .i64 fu] [] = some (.ret (zfe (zbb p inp fu)), []) := by
 have hck := check_spec p hz
 refine zc rfl rfl rfl (by simp [zg, ints]) ?_
 unfold zbb
 by_cases h0 : (checkT p).1 = 0
 ·rw [if_pos h0]
  have hP := checkT_ok hz h0
  have hS0 : FitS p (run0 p inp fu) := by
   refine ⟨?_, ?_⟩
   ·simp [run0, List.map_map, Function.comp_def]
   ·simp [run0]; omega
  have hms := main_spec hP (run0 p inp fu) 0 hS0
  obtain ⟨r, st, hm, rfl, v1, hS1, rfl⟩ := zSd.1 hms
  generalize zFd p (run0 p inp fu) = q at *
  obtain ⟨a, S1⟩ := q
  have hr4 : ∀ X, ((sto p S1 v1 []).set 1 X)[1]? = some X := by
   intro X
   rw [List.getElem?_set_self (by rw [zLc hS1]; unfold nb; omega)]
  have hmx : (if fu < 0 then 0 else fu) = max fu 0 := by split <;> omega
  generalize checkT p = ck at *
  obtain ⟨c0, c1, c2⟩ := ck
  simp only at h0
  subst h0
  simp [zg, zpc, zwa] at hck
  unfold sto at hm
  simp [runO, runCells, run0, rowsO, zwa, ints, endO] at hm
  simp [*, F17, zg, zwa, ints]
  refine zX p.arrays K17_0 B17_0 (fun d => [(31, .int .i64 d.length)]) (fun d => .mp (zYa 2 d) :: .arr 10 [.agg [.slice .plain 2 (p.arrays.map zba), funcs p.funcs, .slice .plain 1 (inp.map (PV.int .i64)), .mp 0, .int .i64 0, .int .i64 0, .slice .fit 1 [], .int .i64 0, .int .i64 (max fu 0), .int .i64 0]] :: d.map (fun x => intO (List.replicate x.size.toNat 0))) (fun d => (d.map (·.name)).Nodup) (by have := hz.1; omega) (by simp [zYa]) ?_ ?_
  ·intros d x r s1 hl' hlt hget hget' hwr hp g1 g2 g3 g4
   simp at g1 g3
   have hx : x.name ∉ d.map (·.name) /\ ((d ++ [x]).map (·.name)).Nodup := by
    have h := hP.names
    rw [hl'.eq] at h
    simp only [List.map_append, List.map_cons] at h ⊢
    rw [List.nodup_append] at h
    obtain ⟨h1, h2, h3⟩ := h
    have hx : x.name ∉ d.map (·.name) := fun hm => h3 _ hm _ (by simp) rfl
    refine ⟨hx, ?_⟩
    rw [List.nodup_append]
    exact ⟨h1, by simp, fun a ha b hb => by simp at hb; rintro rfl; exact hx (hb ▸ ha)⟩
   have hsz := hP.size x hl'.mem
   have hms2 := mapSet_arr x.name (.mslice (2 + d.length) 0 x.size.toNat 1) d 2 hx.1
   rw [<- arrFrom_snoc] at hms2
   rw [show 2 + d.length = d.length + 1 + 1 from by omega] at hms2
   have hx2 := hx.2
   simp only [List.map_append, List.map_cons, List.map_nil] at hx2
   have hdec : decide (d.length < p.arrays.length) = true := decide_eq_true hlt
   have hs1 : (x.size < 0) = False := eqn (by omega)
   have hs2 : (0 <= x.size) = True := eqp (by omega)
   have hs3 : (x.size <= 9223372036854775807) = True := eqp (by omega)
   have hs4 : (8 * x.size <= 281474976710656) = True := eqp (by omega)
   have hrow : Obj.arr 1 (List.replicate x.size.toNat (PV.int .i64 0)) = intO (List.replicate x.size.toNat 0) := by simp [intO]
   clear hx hl' hget' hlt hp hsz hP hS0 hm hms hr4 hck hS1
   simp [*, zba]
  ·intros s1 hp g1 g2 g3 g4
   simp at g1 g3
   have hdec : (p.arrays.map (fun x => intO (List.replicate x.size.toNat 0))) = List.map (intO ∘ fun a => List.replicate a.size.toNat 0) p.arrays := rfl
   rw [hdec] at g4
   clear hdec hP hS0 hp hck hms hr4
   have hre : (zzd (a, S1)).out = S1.out /\ (zzd (a, S1)).cost = S1.cost /\ (zzd (a, S1)).fuel = S1.fuel := by cases a <;> exact ⟨rfl, rfl, rfl⟩
   simp [*, zfe, ints]
 ·rw [if_neg h0]
  generalize checkT p = ck at *
  obtain ⟨c0, c1, c2⟩ := ck
  simp only at h0
  simp [zg, zpc] at hck
  replace h0 := eqn h0
  simp [*, F17, zg, zfe, ints]
end PE.U

namespace PE.U
open Go PE
end PE.U

namespace PE.U
open Go PE
def u8s (l : List UInt8) : PV := .slice .plain 1 (l.map fun b => .int .u8 b.toNat)
section
variable (l : List UInt8)
@[simp high] theorem isVar_u8s : zD (u8s l) = true := Eq.trans rfl rfl
@[simp high] theorem strip_u8s : strip (u8s l) = u8s l := Eq.trans rfl rfl
@[simp high] theorem stripA_u8s : stripA (u8s l) = u8s l := Eq.trans rfl rfl
@[simp high] theorem bl_u8 (n : Nat) : zP n (l.map fun b => PV.int .u8 b.toNat) = true := zLb _ _ _ (fun _ => rfl)
@[simp high] theorem below_u8s (n : Nat) : zu n (u8s l) = true := by simp [u8s]
end
theorem remNat (a b : Nat) : remK (a : Int) (b : Int) = ((a % b : Nat) : Int) := by rw [remK_eq]; rfl
end PE.U

namespace PE.U
open Go PE
def outSame (a b : List Int) : Bool := decide (a = b)
theorem sameOut_spec (a b : List Int) (ha : a.length < 1099511627776) (hb : b.length < 1099511627776) : zh E 30 [ints a, ints b] [] = some (.ret (.bool (outSame a b)), []) := by
 refine zc rfl rfl rfl (by simp [ints]) ?_
 unfold outSame
 by_cases hl : a.length = b.length
 ·have hl' : ((a.length : Int) = b.length) = True := eqp (by omega)
  simp [*, F30, ints]
  refine zX a K30_0 B30_0 (fun d => [(5, .int .i64 d.length)]) (fun _ => []) (fun d => b.take d.length = d) (by omega) (by simp) ?_ ?_
  ·intros d x r s1 hs hlt hget hget' hwr hp g1 g2 g3 g4
   simp at g1 g3
   obtain ⟨y, hy⟩ : ∃ y, b[d.length]? = some y := ⟨_, List.getElem?_eq_getElem (by omega)⟩
   have hdec : decide (d.length < a.length) = true := decide_eq_true (by omega)
   have htk : b.take (d.length + 1) = d ++ [y] := by rw [List.take_add_one, hy, hp]; rfl
   by_cases hxy : x = y
   ·subst hxy
    clear hs hlt hget' hl hl' hp
    simp [*]
   ·have hne : ¬ a = b := by
     rintro rfl
     rw [hget] at hy
     exact hxy (Option.some.inj hy)
    have h1 : (x = y) = False := eqn hxy
    clear hs hlt hget' hl hl' hp htk
    simp [*]
  ·intros s1 hp g1 g2 g3 g4
   simp at g1 g3
   have : a = b := by rw [<- hp, hl, List.take_length]
   subst this
   clear hp
   simp [*]
 ·have hne : ¬ a = b := by rintro rfl; exact hl rfl
  have hl' : ((a.length : Int) = b.length) = False := eqn (by omega)
  clear hl
  simp [*, F30, ints]
def sameRn (a b : Rn) : Bool := decide (a.status = b.status) && (decide (a.code = b.code) && (outSame a.out b.out && (decide (a.cost = b.cost) && decide (a.fuel = b.fuel))))
theorem sameRn_self (a : Rn) : sameRn a a = true := by simp [sameRn, outSame]
set_option maxHeartbeats 1000000 in
theorem sameR_spec (a b : Rn) (ha : a.out.length < 1099511627776) (hb : b.out.length < 1099511627776) : zh E 16 [zfe a, zfe b] [] = some (.ret (.bool (sameRn a b)), []) := by
 have ho := sameOut_spec a.out b.out ha hb
 refine zc rfl rfl rfl (by simp [zfe]) ?_
 unfold sameRn
 generalize outSame a.out b.out = so at *
 clear ha hb
 (simp [*, F16, zfe]) <;> (repeat' (first | ((first | refine sP _ ?_ ?_ | refine gP _ ?_ ?_ | refine sN _ ?_ ?_ | refine gN _ ?_ ?_) <;> intro hc <;> (first | replace hc := eqn hc | replace hc := eqp hc) <;> simp [*, F16, zfe]) | ((first | refine sM _ ?_ ?_ | refine gM _ ?_ ?_ | refine sB _ ?_ ?_ | refine gB _ ?_ ?_) <;> intro hc <;> simp [*, F16, zfe])))
theorem evalM_out (p : Prog) (inp : List Int) (fu : Int) (h : fu <= 100000000000) : (zbb p inp fu).out.length < 1099511627776 := by
 unfold zbb
 split
 ·have hm : (zFd p (run0 p inp fu)).2.out.length <= fu.toNat := by
   unfold zFd
   split
   ·rename_i f hf
    have := (callW_mono (zyc p (run0 p inp fu).fuel) f [] (run0 p inp fu)).out
    simp only [run0, List.length_nil] at this ⊢
    omega
   ·simp [run0]
  have : (zzd (zFd p (run0 p inp fu))).out = (zFd p (run0 p inp fu)).2.out := by
   generalize zFd p (run0 p inp fu) = q
   obtain ⟨a, S⟩ := q
   cases a <;> rfl
  rw [this]; omega
 ·simp
theorem ins_spec (l : List Int) (hl : l.length <= 9223372036854775807) : zh E 18 [ints l] [] = some (.ret (ints (l.take 10)), []) := by
 refine zc rfl rfl rfl (by simp) ?_
 by_cases h : 10 < l.length
 ·have h1 : ((10 : Int) < l.length) = True := eqp (by omega)
  have h2 : (10 <= l.length) = True := eqp (by omega)
  clear hl h
  simp [*, F18, ints]
 ·have h1 : ((10 : Int) < l.length) = False := eqn (by omega)
  have h2 : l.take 10 = l := List.take_of_length_le (by omega)
  rw [h2]
  clear hl h h2
  simp [*, F18, ints]
def aw71 : List UInt8 := [105, 110, 116, 32, 109, 97, 105, 110, 40, 41, 32, 123, 32, 112, 114, 105, 110, 116, 40, 54, 32, 42, 32, 55, 41, 59, 32, 114, 101, 116, 117, 114, 110, 32, 49, 32, 47, 32, 48, 59, 32, 125]
def aw72 : List UInt8 := [105, 110, 116, 32, 102, 40, 105, 110, 116, 32, 110, 41, 32, 123, 32, 105, 102, 32, 40, 110, 32, 60, 32, 50, 41, 32, 123, 32, 114, 101, 116, 117, 114, 110, 32, 49, 59, 32, 125, 32, 114, 101, 116, 117, 114, 110, 32, 110, 32, 42, 32, 102, 40, 110, 32, 45, 32, 49, 41, 59, 32, 125, 32, 105, 110, 116, 32, 109, 97, 105, 110, 40, 41, 32, 123, 32, 114, 101, 116, 117, 114, 110, 32, 102, 40, 114, 101, 97, 100, 40, 41, 41, 59, 32, 125]
theorem aw71_ok : (zbb (zva aw71).1 [] 100).status = 2 /\ (zbb (zva aw71).1 [] 100).out = [42] /\ (zbb (zva aw71).1 [] 100).cost = 3 := by decide +kernel
theorem aw72_ok : (zbb (zva aw72).1 [5] 200).status = 1 /\ (zbb (zva aw72).1 [5] 200).code = 120 /\ (zbb (zva aw72).1 [5] 20).status = 0 /\ (zbb (zva aw72).1 [5] 20).fuel = 0 := by decide +kernel
set_option maxHeartbeats 1000000 in
theorem awake07_spec : zh E 15 [] [] = some (.ret (.bool true), []) := by
 refine zc rfl rfl rfl (by simp) ?_
 have p1 := parse_spec aw71
 have p2 := parse_spec aw72
 have r1 := zMa _ (zCd aw71) [] 100 (by omega)
 have r2 := zMa _ (zCd aw72) [5] 200 (by omega)
 have r3 := zMa _ (zCd aw72) [5] 20 (by omega)
 obtain ⟨a1, a2, a3⟩ := aw71_ok
 obtain ⟨b1, b2, b3, b4⟩ := aw72_ok
 generalize zbb (zva aw71).1 [] 100 = m1 at *
 generalize zbb (zva aw72).1 [5] 200 = m2 at *
 generalize zbb (zva aw72).1 [5] 20 = m3 at *
 generalize zva aw71 = q1 at *
 generalize zva aw72 = q2 at *
 obtain ⟨⟨ar1, fs1⟩, e1, n1⟩ := q1
 obtain ⟨⟨ar2, fs2⟩, e2, n2⟩ := q2
 obtain ⟨s1, c1, o1, k1, f1⟩ := m1
 obtain ⟨s2, c2, o2, k2, f2⟩ := m2
 obtain ⟨s3, c3, o3, k3, f3⟩ := m3
 simp only at a1 a2 a3 b1 b2 b3 b4
 subst a1 a2 a3 b1 b2 b3 b4
 simp [zid, zg, aw71, aw72, zfe, ints] at p1 p2 r1 r2 r3
 simp [*, F15, ints]
end PE.U

namespace PE.U
open Go PE
def twoPre : List UInt8 := [105, 110, 116, 32, 109, 97, 105, 110, 40, 41, 32, 123, 32, 105, 110, 116, 32, 120, 32, 61, 32, 114, 101, 97, 100, 40, 41, 59, 32, 105, 110, 116, 32, 121, 32, 61, 32, 114, 101, 97, 100, 40, 41, 59, 32, 114, 101, 116, 117, 114, 110, 32, 120, 32]
def twoSuf : List UInt8 := [32, 121, 59, 32, 125]
def twoT (k : Int) : List UInt8 := twoPre ++ (zNc k ++ twoSuf)
def readE : Expr := ⟨8, 0, 0, [], []⟩
def varE (b : UInt8) : Expr := ⟨3, 0, 0, [b], []⟩
def twoP (k : Int) : Prog := ⟨[], [⟨zGd, 1, [], [⟨1, 1, [120], [readE], [], []⟩, ⟨1, 1, [121], [readE], [], []⟩, ⟨8, 0, [], [⟨5, k, 0, [], [varE 120, varE 121]⟩], [], []⟩]⟩]⟩
theorem rsign_len (k : Int) : (zNc k).length <= 3 := by
 unfold zNc
 split
 ·simp
 ·rcases h : signsR[(k - 1).toNat]? with _ | t
  ·simp
  ·have := List.mem_of_getElem? h
   have h2 : ∀ t ∈ signsR, t.length <= 3 := by decide
   simpa using h2 t this
theorem two_parse (k : Int) (h : 1 <= k /\ k <= 11) : zva (twoT k) = (twoP k, 0, 0) := by
 have : k = 1 \/ k = 2 \/ k = 3 \/ k = 4 \/ k = 5 \/ k = 6 \/ k = 7 \/ k = 8 \/ k = 9 \/ k = 10 \/ k = 11 := by omega
 rcases this with rfl | rfl | rfl | rfl | rfl | rfl | rfl | rfl | rfl | rfl | rfl <;> (show zva (twoT _) = (twoP _, 0, 0); kernel_rfl)
theorem two_does (k a b : Int) (h : 1 <= k /\ k <= 11) : ∃ c f, zbb (twoP k) [a, b] 50 = if (twoC k a b).2 = true then ⟨1, (twoC k a b).1, [], 3, f⟩ else ⟨2, 0, [], c, f⟩ := by
 have : k = 1 \/ k = 2 \/ k = 3 \/ k = 4 \/ k = 5 \/ k = 6 \/ k = 7 \/ k = 8 \/ k = 9 \/ k = 10 \/ k = 11 := by omega
 rcases this with rfl | rfl | rfl | rfl | rfl | rfl | rfl | rfl | rfl | rfl | rfl
 case inr.inr.inr.inl =>
  match b with
  | .ofNat 0 => exact ⟨3, 42, by kernel_rfl⟩
  | .ofNat (n + 1) => exact ⟨3, 42, by kernel_rfl⟩
  | .negSucc n => exact ⟨3, 42, by kernel_rfl⟩
 case inr.inr.inr.inr.inl =>
  match b with
  | .ofNat 0 => exact ⟨3, 42, by kernel_rfl⟩
  | .ofNat (n + 1) => exact ⟨3, 42, by kernel_rfl⟩
  | .negSucc n => exact ⟨3, 42, by kernel_rfl⟩
 all_goals exact ⟨3, 42, by kernel_rfl⟩
set_option maxHeartbeats 1000000 in
theorem evalTwo_spec (a b op : Int) (ho : 0 <= op /\ op <= 255) : zh E 5 [.int .i64 a, .int .i64 b, .int .u8 op] [] = some (.ret (.bool true), []) := by
 refine zc rfl rfl rfl (by simp) ?_
 have ha := awake07_spec
 have hw : zy .i64 op = op := zj (by omega) (by omega)
 have hr : remK op 11 = op % 11 := by rw [remK_eq]; exact Int.tmod_eq_emod_of_nonneg (by omega)
 obtain ⟨k, hw2, hk1⟩ : ∃ k, zy .i64 (1 + op % 11) = k /\ 1 <= k /\ k <= 11 := ⟨_, zj (by omega) (by omega), by omega⟩
 have hs := zAd k
 have hp := parse_spec (twoT k)
 have hz := zCd (twoT k)
 have ht := rtwo_spec k a b []
 rw [two_parse k hk1] at hp hz
 have hv := zMa (twoP k) hz [a, b] 50 (by omega)
 obtain ⟨c, f, hd⟩ := two_does k a b hk1
 rw [hd] at hv
 rw [two_eqC] at ht
 generalize twoC k a b = q at *
 generalize twoP k = p at *
 obtain ⟨ar, fs⟩ := p
 obtain ⟨n, ok⟩ := q
 have hl : (54 + (zNc k).length <= 9223372036854775807) = True := eqp (by have := rsign_len k; omega)
 have hl2 : ((zNc k).length <= 9223372036854775748) = True := eqp (by have := rsign_len k; omega)
 clear hd hz hk1 ho
 cases ok
 all_goals
  simp [zid, zg, twoT, twoPre, twoSuf, zfe, ints] at hp hv ht
  simp [*, F5, ints]
end PE.U

namespace PE.U
open Go PE
def mob (l : List UInt8) (i : Nat) : zd := [.arr 2 [.agg [u8s l, .int .i64 i]]]
def pickM (l : List UInt8) (i n : Nat) : Nat := if l.length < i + 1 \/ 120 < i + 1 then 0 else (l[i]?.getD 0).toNat % n
theorem pick_spec (l : List UInt8) (i n : Nat) (hn : 0 < n /\ n <= 1000) (hi : i <= 1000000000000) (hl : l.length <= 9223372036854775807) :
  zh E 75 [.ptr 0 0 0, .int .i64 n] (mob l i) = some (.ret (.int .i64 (pickM l i n)), mob l (i + 1)) := by
 refine zc rfl rfl rfl (by simp) ?_
 have hw : zy .i64 ((i : Int) + 1) = (i : Int) + 1 := zj (by omega) (by omega)
 by_cases h1 : l.length < i + 1
 ·have k1 : ((l.length : Int) < (i : Int) + 1) = True := eqp (by omega)
  have h2 : pickM l i n = 0 := by simp [pickM, h1]
  clear h1
  simp [*, F75, mob, u8s]
 ·have k1 : ((l.length : Int) < (i : Int) + 1) = False := eqn (by omega)
  by_cases h3 : 120 < i + 1
  ·have k3 : ((120 : Int) < (i : Int) + 1) = True := eqp (by omega)
   have h2 : pickM l i n = 0 := by simp only [pickM, h3, or_true, if_true]
   clear h1 h3
   simp [*, F75, mob, u8s]
  ·have k3 : ((120 : Int) < (i : Int) + 1) = False := eqn (by omega)
   obtain ⟨b, hb⟩ : ∃ b, l[i]? = some b := ⟨_, List.getElem?_eq_getElem (by omega)⟩
   have h2 : pickM l i n = b.toNat % n := by simp only [pickM, h1, h3, or_self, if_false, hb, Option.getD_some]
   have hr : remK (b.toNat : Int) (n : Int) = ((b.toNat % n : Nat) : Int) := remNat _ _
   have hw2 : zy .i64 (i : Int) = (i : Int) := zj (by omega) (by omega)
   have hn0 : (n = 0) = False := eqn (by omega)
   clear h1 h3 hl
   simp [*, F75, mob, u8s]
theorem zdb (l : List UInt8) (i n : Nat) (hn : 0 < n /\ n <= 1000) (hi : i <= 1000000000000) (hl : l.length <= 9223372036854775807) :
  ∃ k : Nat, k < n /\ zh E 75 [.ptr 0 0 0, .int .i64 n] (mob l i) = some (.ret (.int .i64 k), mob l (i + 1)) := by
 refine ⟨_, ?_, pick_spec l i n hn hi hl⟩
 unfold pickM
 split
 ·omega
 ·exact Nat.mod_lt _ hn.1
end PE.U

namespace PE.U
open Go PE
theorem aI {cf : zz} {s0 s : St} {r : List GOp} {Q : Ex -> St -> Prop} {a : _} {b : _} {o : _} {x : _} {c : Prop} [Decidable c] (hc : c) (h : after cf s0 r Q (doOp a b o s (some x))) : after cf s0 r Q (doOp a b o s (if c then some x else none)) := by rw [if_pos hc]; exact h
def BN : Nat -> Nat
 | 0 => 100
 | d + 1 => 2 * BN d + 100
def isStr (l : List UInt8) (i b : Nat) (r : CRes) (st : zd) : Prop := ∃ s i', r = .ret (.str s) /\ st = mob l i' /\ s.length <= b /\ i' <= i + b
@[simp] theorem isStr_str (l : List UInt8) (i b : Nat) (s : List UInt8) (st : zd) : isStr l i b (.ret (.str s)) st = ∃ i', st = mob l i' /\ s.length <= b /\ i' <= i + b := by
 unfold isStr
 apply propext
 constructor
 ·rintro ⟨s', i', h, h2⟩
  cases h
  exact ⟨i', h2⟩
 ·rintro ⟨i', h2⟩
  exact ⟨s, i', rfl, h2⟩
@[simp] theorem mob_inj (l : List UInt8) (i j : Nat) : (mob l i = mob l j) = (i = j) := by
 apply propext
 constructor
 ·intro h; simp [mob] at h; omega
 ·rintro rfl; rfl
structure NT (l : List UInt8) (d : Nat) : Prop where
 num : ∀ i v b, i + BN d <= 900000000000 -> v.length <= 4 -> b.length <= 4 -> PC (zh E 38 [.ptr 0 0 0, .str v, .str b, .int .i64 d] (mob l i)) (isStr l i (BN d))
 truth : ∀ i v b, i + BN d <= 900000000000 -> v.length <= 4 -> b.length <= 4 -> PC (zh E 39 [.ptr 0 0 0, .str v, .str b, .int .i64 d] (mob l i)) (isStr l i (BN d))
theorem NT.num' {l : List UInt8} {d : Nat} (S : NT l d) (i : Nat) (v b : List UInt8) (hi : i + BN d <= 900000000000) (hv : v.length <= 4) (hb : b.length <= 4) :
  ∃ s i', zh E 38 [.ptr 0 0 0, .str v, .str b, .int .i64 d] (mob l i) = some (.ret (.str s), mob l i') /\ s.length <= BN d /\ i' <= i + BN d := by
 obtain ⟨r, st, h, s, i', rfl, rfl, h1, h2⟩ := zSd.1 (S.num i v b hi hv hb)
 exact ⟨s, i', h, h1, h2⟩
theorem NT.truth' {l : List UInt8} {d : Nat} (S : NT l d) (i : Nat) (v b : List UInt8) (hi : i + BN d <= 900000000000) (hv : v.length <= 4) (hb : b.length <= 4) :
  ∃ s i', zh E 39 [.ptr 0 0 0, .str v, .str b, .int .i64 d] (mob l i) = some (.ret (.str s), mob l i') /\ s.length <= BN d /\ i' <= i + BN d := by
 obtain ⟨r, st, h, s, i', rfl, rfl, h1, h2⟩ := zSd.1 (S.truth i v b hi hv hb)
 exact ⟨s, i', h, h1, h2⟩
theorem one_of (ls : List (List UInt8)) (m : Nat) (h : ls.all (fun t => t.length <= m) = true) (j : Nat) (hj : j < ls.length) : ∃ t, t.length <= m /\ (ls.map PV.str)[j]'(by simpa using hj) = PV.str t := by
 refine ⟨ls[j], ?_, by simp⟩
 have := List.all_eq_true.1 h ls[j] (List.getElem_mem hj)
 simpa using this
def numsL : List (List UInt8) := [[48], [49], [50], [55], [50, 53, 53], [54, 52]]
def onesL : List (List UInt8) := [[45], [126], [105, 56], [117, 49, 54], [105, 51, 50]]
def twosL : List (List UInt8) := [[43], [45], [42], [47], [37], [38], [124], [94], [60, 60], [62, 62], [62, 62, 62]]
def trusL : List (List UInt8) := [[116, 114, 117, 101], [102, 97, 108, 115, 101]]
def cmpsL : List (List UInt8) := [[60], [60, 61], [62], [62, 61], [61, 61], [33, 61]]
set_option maxHeartbeats 4000000 in
theorem num0 (l : List UInt8) (hl : l.length <= 9223372036854775807) : ∀ i v b, i + BN 0 <= 900000000000 -> v.length <= 4 -> b.length <= 4 -> PC (zh E 38 [.ptr 0 0 0, .str v, .str b, .int .i64 0] (mob l i)) (isStr l i (BN 0)) := by
 intro i v b hi hv hb
 refine zga rfl rfl rfl (by simp) ?_
 have hB : BN 0 = 100 := rfl
 rw [hB] at hi
 obtain ⟨k, k1, hk⟩ := zdb l i 14 (by omega) (by omega) hl
 have hr : remK (k : Int) 6 = ((k % 6 : Nat) : Int) := remNat k 6
 simp at hk
 have hm : k % 6 < 6 := Nat.mod_lt _ (by omega)
 generalize k % 6 = z at *
 clear k1
 obtain ⟨j, j1, hj⟩ := zdb l (i + 1) 6 (by omega) (by omega) hl
 obtain ⟨t, t1, ht⟩ := one_of numsL 3 (by decide) j j1
 simp [numsL] at hj ht
 have m1 : v.length + 7 <= 9223372036854775807 := by omega
 have m2 : 2 + v.length <= 9223372036854775807 := by omega
 have : z = 0 \/ z = 1 \/ z = 2 \/ z = 3 \/ z = 4 \/ z = 5 := by omega
 clear hl hm
 rcases this with rfl | rfl | rfl | rfl | rfl | rfl <;> (simp [*, F38]) <;> (repeat' (refine aI (by omega) ?_ <;> simp [*, F38])) <;> (try omega)
set_option maxHeartbeats 4000000 in
theorem numS (l : List UInt8) (hl : l.length <= 9223372036854775807) (d : Nat) (hd : BN d <= 1000000) (hd2 : d <= 100) (S : NT l d) : ∀ i v b, i + BN (d + 1) <= 900000000000 -> v.length <= 4 -> b.length <= 4 -> PC (zh E 38 [.ptr 0 0 0, .str v, .str b, .int .i64 (d + 1 : Nat)] (mob l i)) (isStr l i (BN (d + 1))) := by
 intro i v b hi hv hb
 refine zga rfl rfl rfl (by simp) ?_
 have hB : BN (d + 1) = 2 * BN d + 100 := rfl
 rw [hB] at hi
 obtain ⟨k, k1, hk⟩ := zdb l i 14 (by omega) (by omega) hl
 simp at hk
 have q1 : ((d : Int) + 1 < 1) = False := eqn (by omega)
 have q2 : ((d : Int) < 0) = False := eqn (by omega)
 have q3 : zy .i64 (d : Int) = d := zj (by omega) (by omega)
 have hkk : k < 2 \/ k = 2 \/ k = 3 \/ k = 4 \/ k = 5 \/ k = 6 \/ k = 7 \/ (8 <= k /\ k < 11) \/ k = 11 \/ k = 12 \/ k = 13 := by omega
 have m1 : v.length + 7 <= 9223372036854775807 := by omega
 have m2 : 2 + v.length <= 9223372036854775807 := by omega
 clear k1
 rcases hkk with hkk | hkk
 ·obtain ⟨j, j1, hj⟩ := zdb l (i + 1) 6 (by omega) (by omega) hl
  obtain ⟨t, t1, ht⟩ := one_of numsL 3 (by decide) j j1
  simp [numsL] at hj ht
  have n1 : ((k : Int) < 2) = True := eqp (by omega)
  clear hl hkk
  (simp [*, F38]) <;> (repeat' (refine aI (by omega) ?_ <;> simp [*, F38])) <;> (try omega)
 have n1 : ((k : Int) < 2) = False := eqn (by omega)
 by_cases hk5 : k < 5
 ·have n2 : ((k : Int) < 5) = True := eqp (by omega)
  clear hl hkk hk5
  (simp [*, F38]) <;> (repeat' (refine aI (by omega) ?_ <;> simp [*, F38])) <;> (try omega)
 have n2 : ((k : Int) < 5) = False := eqn (by omega)
 by_cases hk8 : 8 <= k /\ k < 11
 ·obtain ⟨s1, i1, h1, b1, c1⟩ := S.num' (i + 1) v b (by omega) hv hb
  obtain ⟨j, j1, hj⟩ := zdb l i1 11 (by omega) (by omega) hl
  obtain ⟨t, t1, ht⟩ := one_of twosL 3 (by decide) j j1
  obtain ⟨s2, i2, h2, b2, c2⟩ := S.num' (i1 + 1) v b (by omega) hv hb
  simp [twosL] at hj ht
  have n3 : ((k : Int) < 11) = True := eqp (by omega)
  have n4 : ((k : Int) = 5) = False := eqn (by omega)
  have n5 : ((k : Int) = 6) = False := eqn (by omega)
  have n6 : ((k : Int) = 7) = False := eqn (by omega)
  clear hl hkk hk5 hk8
  (simp [*, F38]) <;> (repeat' (refine aI (by omega) ?_ <;> simp [*, F38])) <;> (try omega)
 have hkk : k = 5 \/ k = 6 \/ k = 7 \/ k = 11 \/ k = 12 \/ k = 13 := by omega
 rcases hkk with rfl | rfl | rfl | rfl | rfl | rfl
 ·clear hl hk5 hk8 n1 n2
  simp at hk
  (simp [*, F38]) <;> (repeat' (refine aI (by omega) ?_ <;> simp [*, F38])) <;> (try omega)
 ·obtain ⟨s1, i1, h1, b1, c1⟩ := S.num' (i + 1) v b (by omega) hv hb
  clear hl hk5 hk8 n1 n2
  simp at hk
  (simp [*, F38]) <;> (repeat' (refine aI (by omega) ?_ <;> simp [*, F38])) <;> (try omega)
 ·obtain ⟨j, j1, hj⟩ := zdb l (i + 1) 5 (by omega) (by omega) hl
  obtain ⟨t, t1, ht⟩ := one_of onesL 3 (by decide) j j1
  obtain ⟨s1, i1, h1, b1, c1⟩ := S.num' (i + 1 + 1) v b (by omega) hv hb
  simp [onesL] at hj ht
  clear hl hk5 hk8 n1 n2
  simp at hk
  (simp [*, F38]) <;> (repeat' (refine aI (by omega) ?_ <;> simp [*, F38])) <;> (try omega)
 ·clear hl hk5 hk8 n1 n2
  simp at hk
  simp [*, F38]
 ·clear hl hk5 hk8 n1 n2
  simp at hk
  (simp [*, F38]) <;> (repeat' (refine aI (by omega) ?_ <;> simp [*, F38])) <;> (try omega)
 ·obtain ⟨s1, i1, h1, b1, c1⟩ := S.num' (i + 1) v b (by omega) hv hb
  obtain ⟨s2, i2, h2, b2, c2⟩ := S.truth' i1 v b (by omega) hv hb
  clear hl hk5 hk8 n1 n2
  simp at hk
  (simp [*, F38]) <;> (repeat' (refine aI (by omega) ?_ <;> simp [*, F38])) <;> (try omega)
end PE.U

namespace PE.U
open Go PE
set_option maxHeartbeats 4000000 in
theorem truth0 (l : List UInt8) (hl : l.length <= 9223372036854775807) : ∀ i v b, i + BN 0 <= 900000000000 -> v.length <= 4 -> b.length <= 4 -> PC (zh E 39 [.ptr 0 0 0, .str v, .str b, .int .i64 0] (mob l i)) (isStr l i (BN 0)) := by
 intro i v b hi hv hb
 refine zga rfl rfl rfl (by simp) ?_
 have hB : BN 0 = 100 := rfl
 rw [hB] at hi
 obtain ⟨k, k1, hk⟩ := zdb l i 10 (by omega) (by omega) hl
 have hr : remK (k : Int) 3 = ((k % 3 : Nat) : Int) := remNat k 3
 simp at hk
 have hm : k % 3 < 3 := Nat.mod_lt _ (by omega)
 generalize k % 3 = z at *
 clear k1
 obtain ⟨j, j1, hj⟩ := zdb l (i + 1) 2 (by omega) (by omega) hl
 obtain ⟨t, t1, ht⟩ := one_of trusL 5 (by decide) j j1
 simp [trusL] at hj ht
 have : z = 0 \/ z = 1 \/ z = 2 := by omega
 clear hl hm
 rcases this with rfl | rfl | rfl <;> (simp [*, F39]) <;> (repeat' (refine aI (by omega) ?_ <;> simp [*, F39])) <;> (try omega)
set_option maxHeartbeats 4000000 in
theorem truthS (l : List UInt8) (hl : l.length <= 9223372036854775807) (d : Nat) (hd : BN d <= 1000000) (hd2 : d <= 100) (S : NT l d) : ∀ i v b, i + BN (d + 1) <= 900000000000 -> v.length <= 4 -> b.length <= 4 -> PC (zh E 39 [.ptr 0 0 0, .str v, .str b, .int .i64 (d + 1 : Nat)] (mob l i)) (isStr l i (BN (d + 1))) := by
 intro i v b hi hv hb
 refine zga rfl rfl rfl (by simp) ?_
 have hB : BN (d + 1) = 2 * BN d + 100 := rfl
 rw [hB] at hi
 obtain ⟨k, k1, hk⟩ := zdb l i 10 (by omega) (by omega) hl
 simp at hk
 have q1 : ((d : Int) + 1 < 1) = False := eqn (by omega)
 have q2 : ((d : Int) < 0) = False := eqn (by omega)
 have q3 : zy .i64 (d : Int) = d := zj (by omega) (by omega)
 by_cases hk3 : k < 3
 ·have : k = 0 \/ k = 1 \/ k = 2 := by omega
  obtain ⟨j, j1, hj⟩ := zdb l (i + 1) 2 (by omega) (by omega) hl
  obtain ⟨t, t1, ht⟩ := one_of trusL 5 (by decide) j j1
  simp [trusL] at hj ht
  clear hl k1 hk3
  rcases this with rfl | rfl | rfl <;> simp at hk <;> (simp [*, F39]) <;> (repeat' (refine aI (by omega) ?_ <;> simp [*, F39])) <;> (try omega)
 have n0 : ((k : Int) < 3) = False := eqn (by omega)
 by_cases hk7 : 4 <= k /\ k < 7
 ·obtain ⟨s1, i1, h1, b1, c1⟩ := S.num' (i + 1) v b (by omega) hv hb
  obtain ⟨j, j1, hj⟩ := zdb l i1 6 (by omega) (by omega) hl
  obtain ⟨t, t1, ht⟩ := one_of cmpsL 3 (by decide) j j1
  obtain ⟨s2, i2, h2, b2, c2⟩ := S.num' (i1 + 1) v b (by omega) hv hb
  simp [cmpsL] at hj ht
  have n3 : ((k : Int) < 7) = True := eqp (by omega)
  have n4 : ((k : Int) = 0) = False := eqn (by omega)
  have n5 : ((k : Int) = 3) = False := eqn (by omega)
  have n6 : (k = 0) = False := eqn (by omega)
  clear hl k1 hk3 hk7
  (simp [*, F39]) <;> (repeat' (refine aI (by omega) ?_ <;> simp [*, F39])) <;> (try omega)
 have hkk : k = 3 \/ k = 7 \/ k = 8 \/ k = 9 := by omega
 rcases hkk with rfl | rfl | rfl | rfl
 ·clear hl k1 hk3 hk7 n0
  simp at hk
  (simp [*, F39]) <;> (repeat' (refine aI (by omega) ?_ <;> simp [*, F39])) <;> (try omega)
 ·obtain ⟨s1, i1, h1, b1, c1⟩ := S.truth' (i + 1) v b (by omega) hv hb
  obtain ⟨s2, i2, h2, b2, c2⟩ := S.truth' i1 v b (by omega) hv hb
  clear hl k1 hk3 hk7 n0
  simp at hk
  (simp [*, F39]) <;> (repeat' (refine aI (by omega) ?_ <;> simp [*, F39])) <;> (try omega)
 ·obtain ⟨s1, i1, h1, b1, c1⟩ := S.truth' (i + 1) v b (by omega) hv hb
  obtain ⟨s2, i2, h2, b2, c2⟩ := S.truth' i1 v b (by omega) hv hb
  clear hl k1 hk3 hk7 n0
  simp at hk
  (simp [*, F39]) <;> (repeat' (refine aI (by omega) ?_ <;> simp [*, F39])) <;> (try omega)
 ·obtain ⟨s1, i1, h1, b1, c1⟩ := S.num' (i + 1) v b (by omega) hv hb
  clear hl k1 hk3 hk7 n0
  simp at hk
  (simp [*, F39]) <;> (repeat' (refine aI (by omega) ?_ <;> simp [*, F39])) <;> (try omega)
theorem nt (l : List UInt8) (hl : l.length <= 9223372036854775807) : ∀ d, d <= 3 -> NT l d := by
 intro d
 induction d with
 | zero => intro _; exact ⟨num0 l hl, truth0 l hl⟩
 | succ d ih =>
  intro h
  have hb : BN d <= 1000000 := by
   have : d = 0 \/ d = 1 \/ d = 2 := by omega
   rcases this with rfl | rfl | rfl <;> decide
  exact ⟨numS l hl d hb (by omega) (ih (by omega)), truthS l hl d hb (by omega) (ih (by omega))⟩
end PE.U

namespace PE.U
open Go PE
def SB : Nat -> Nat
 | 0 => 2000
 | d + 1 => 8 * SB d + 3000
structure ST (l : List UInt8) (d : Nat) : Prop where
 stmt : ∀ i v b loop, i + SB d <= 800000000000 -> v.length <= 4 -> b.length <= 4 -> PC (zh E 76 [.ptr 0 0 0, .str v, .str b, .int .i64 d, .bool loop] (mob l i)) (isStr l i (SB d))
theorem ST.to {l : List UInt8} {d : Nat} (S : ST l d) (i : Nat) (v b : List UInt8) (loop : Bool) (hi : i + SB d <= 800000000000) (hv : v.length <= 4) (hb : b.length <= 4) :
  ∃ s i', zh E 76 [.ptr 0 0 0, .str v, .str b, .int .i64 d, .bool loop] (mob l i) = some (.ret (.str s), mob l i') /\ s.length <= SB d /\ i' <= i + SB d := by
 obtain ⟨r, st, h, s, i', rfl, rfl, h1, h2⟩ := zSd.1 (S.stmt i v b loop hi hv hb)
 exact ⟨s, i', h, h1, h2⟩
structure BkS where
 m : Nat
 s : List UInt8
 j : Nat
set_option maxHeartbeats 4000000 in
theorem mblock_of (l : List UInt8) (hl : l.length <= 9223372036854775807) (d : Nat) (hd : SB d <= 10000000) (hd2 : d <= 100) (S : ST l d) (i : Nat) (v b : List UInt8) (loop : Bool) (hi : i + (4 * SB d + 10) <= 800000000000) (hv : v.length <= 4) (hb : b.length <= 4) :
  PC (zh E 37 [.ptr 0 0 0, .str v, .str b, .int .i64 d, .bool loop] (mob l i)) (isStr l i (4 * SB d + 10)) := by
 refine zga rfl rfl rfl (by simp) ?_
 obtain ⟨k, k1, hk⟩ := zdb l i 5 (by omega) (by omega) hl
 simp at hk
 simp [hk, F37]
 have hkm : k * SB d <= 4 * SB d := Nat.mul_le_mul_right _ (by omega)
 refine zwb K37_0 B37_0 (fun c : BkS => c.m) (fun c => [(11, .str c.s), (12, .int .i64 c.m)]) (fun _ => []) (fun c => mob l c.j) (fun c => c.m <= 4 /\ c.s.length + c.m * SB d <= 4 * SB d /\ c.j + c.m * SB d <= i + 1 + 4 * SB d) ⟨k, [], i + 1⟩ ⟨by simp, by simp, by simp, by simp only [List.length_nil]; omega⟩ ?_
 rintro ⟨m, s, j⟩ s1 ⟨hm, hs, hj⟩ h1 h2 h3 h4 h5
 simp only at hm hs hj
 simp at h1 h3 h5
 clear hk h2 h4 hkm
 cases m with
 | zero =>
  simp at h3 hs hj
  simp [*]
  omega
 | succ m =>
  rw [Nat.succ_mul] at hs hj
  generalize hX : m * SB d = X at *
  obtain ⟨t, j', ht, t1, t2⟩ := S.to j v b loop (by omega) hv hb
  have q1 : ((m : Int) + 1 > 0) = True := eqp (by omega)
  have q2 : ((0 : Int) < (m : Int) + 1) = True := eqp (by omega)
  have q3 : zy .i64 (m : Int) = m := zj (by omega) (by omega)
  have q4 : s.length + t.length <= 9223372036854775807 := by omega
  simp at h3
  clear hl S
  simp [*]
  refine ⟨⟨m, s ++ t, j'⟩, by simp, ?_⟩
  simp only [List.length_append]
  simp [*]
  omega
end PE.U

namespace PE.U
open Go PE
def BkOk (l : List UInt8) (d : Nat) : Prop := ∀ i v b loop, i + (4 * SB d + 10) <= 800000000000 -> v.length <= 4 -> b.length <= 4 →
  ∃ s i', zh E 37 [.ptr 0 0 0, .str v, .str b, .int .i64 d, .bool loop] (mob l i) = some (.ret (.str s), mob l i') /\ s.length <= 4 * SB d + 10 /\ i' <= i + (4 * SB d + 10)
theorem SB_le : ∀ d, 2000 <= SB d
 | 0 => by decide
 | d + 1 => by have := SB_le d; simp only [SB]; omega
set_option maxHeartbeats 8000000 in
theorem stmt_plain (l : List UInt8) (hl : l.length <= 9223372036854775807) (d : Nat) (hd2 : d <= 100) (i : Nat) (v b : List UInt8) (loop : Bool) (hi : i + SB d <= 800000000000) (hv : v.length <= 4) (hb : b.length <= 4) (k : Nat) (k1 : k < 13)
  (hk : zh E 75 [.ptr 0 0 0, .int .i64 13] (mob l i) = some (.ret (.int .i64 k), mob l (i + 1))) (hc : d = 0 \/ k < 6 \/ (k = 6 /\ loop = true) \/ k = 12) :
  PC (zh E 76 [.ptr 0 0 0, .str v, .str b, .int .i64 d, .bool loop] (mob l i)) (isStr l i (SB d)) := by
 refine zga rfl rfl rfl (by simp) ?_
 have hB := SB_le d
 have hB1 : BN 1 = 300 := rfl
 have hB2 : BN 2 = 700 := rfl
 have S1 := nt l hl 1 (by omega)
 have S2 := nt l hl 2 (by omega)
 have hkk : k = 0 \/ k = 1 \/ k = 2 \/ k = 3 \/ k = 4 \/ k = 5 \/ k = 6 \/ k = 7 \/ k = 8 \/ k = 9 \/ k = 10 \/ k = 11 \/ k = 12 := by omega
 obtain ⟨s1, i1, h1, b1, c1⟩ := S2.num' (i + 1) v b (by omega) hv hb
 obtain ⟨s2, i2, h2, b2, c2⟩ := S2.truth' (i + 1) v b (by omega) hv hb
 obtain ⟨s3, i3, h3, b3, c3⟩ := S1.num' (i + 1) v b (by omega) hv hb
 obtain ⟨s4, i4, h4, b4, c4⟩ := S2.num' i3 v b (by omega) hv hb
 obtain ⟨j, j1, hj⟩ := zdb l (i + 1) 4 (by omega) (by omega) hl
 rw [hB1] at b3 c3
 rw [hB2] at b1 c1 b2 c2 b4 c4
 simp at h1 h2 h3 h4 hj
 clear S1 S2 hl hB1 hB2
 have hz : d = 0 \/ 0 < d := by omega
 rcases hkk with rfl | rfl | rfl | rfl | rfl | rfl | rfl | rfl | rfl | rfl | rfl | rfl | rfl
 case inr.inr.inr.inr.inr.inr.inl =>
  simp at hk
  cases loop
  ·have : d = 0 := by simpa using hc
   subst this
   clear hc hz k1
   (simp [*, F76]) <;> (repeat' (refine aI (by omega) ?_ <;> simp [*, F76])) <;> (try omega)
  ·have : j = 0 \/ j = 1 \/ j = 2 \/ j = 3 := by omega
   clear j1 hc hz k1
   rcases this with rfl | rfl | rfl | rfl <;> simp at hj <;> (simp [*, F76]) <;> (repeat' (refine aI (by omega) ?_ <;> simp [*, F76])) <;> (try omega)
 case inr.inr.inr.inr.inr.inr.inr.inr.inr.inr.inr.inr =>
  have : j = 0 \/ j = 1 \/ j = 2 \/ j = 3 := by omega
  clear hc hz k1 j1
  simp at hk
  by_cases hvz : v = [122]
  ·subst hvz
   (simp [*, F76]) <;> (repeat' (refine aI (by omega) ?_ <;> simp [*, F76])) <;> (try omega)
  ·rcases this with rfl | rfl | rfl | rfl <;> simp at hj <;> (simp [*, F76]) <;> (repeat' (refine aI (by omega) ?_ <;> simp [*, F76])) <;> (try omega)
 case inl | inr.inl | inr.inr.inl | inr.inr.inr.inl | inr.inr.inr.inr.inl | inr.inr.inr.inr.inr.inl =>
  clear hc hz k1 j1 hj
  simp at hk
  (simp [*, F76]) <;> (repeat' (refine aI (by omega) ?_ <;> simp [*, F76])) <;> (try omega)
 all_goals
  have : d = 0 := by omega
  subst this
  clear hc hz k1 j1 hj
  simp at hk
  (simp [*, F76]) <;> (repeat' (refine aI (by omega) ?_ <;> simp [*, F76])) <;> (try omega)
set_option maxHeartbeats 8000000 in
theorem stmt_deep (l : List UInt8) (hl : l.length <= 9223372036854775807) (d : Nat) (hd : SB d <= 10000000) (hd2 : d <= 100) (hbk : BkOk l d) (i : Nat) (v b : List UInt8) (loop : Bool) (hi : i + SB (d + 1) <= 800000000000) (hv : v.length <= 4) (hb : b.length <= 4) (k : Nat) (k1 : k < 13)
  (hk : zh E 75 [.ptr 0 0 0, .int .i64 13] (mob l i) = some (.ret (.int .i64 k), mob l (i + 1))) (hc : (k = 6 /\ loop = false) \/ k = 7 \/ k = 8 \/ k = 9 \/ k = 10 \/ k = 11) :
  PC (zh E 76 [.ptr 0 0 0, .str v, .str b, .int .i64 (d + 1 : Nat), .bool loop] (mob l i)) (isStr l i (SB (d + 1))) := by
 refine zga rfl rfl rfl (by simp) ?_
 have hB : SB (d + 1) = 8 * SB d + 3000 := rfl
 rw [hB] at hi
 have hB1 : BN 1 = 300 := rfl
 have hB2 : BN 2 = 700 := rfl
 have S1 := nt l hl 1 (by omega)
 have S2 := nt l hl 2 (by omega)
 have q1 : ((d : Int) + 1 > 0) = True := eqp (by omega)
 have q2 : ((0 : Int) < (d : Int) + 1) = True := eqp (by omega)
 have q3 : zy .i64 (d : Int) = d := zj (by omega) (by omega)
 by_cases k7 : k = 7
 ·subst k7
  obtain ⟨s1, i1, h1, b1, c1⟩ := S1.num' (i + 1) v b (by omega) hv hb
  obtain ⟨s2, i2, h2, b2, c2⟩ := S1.truth' i1 [122] b (by omega) (by simp) hb
  obtain ⟨s3, i3, h3, b3, c3⟩ := hbk i2 [122] [119] loop (by omega) (by simp) (by simp)
  rw [hB1] at b1 c1 b2 c2
  simp at h1 h2 hk
  clear S1 S2 hl hB1 hB2 hbk hc k1
  (simp [*, F76]) <;> (repeat' (refine aI (by omega) ?_ <;> simp [*, F76])) <;> (try omega)
 by_cases k9 : k <= 9
 ·obtain ⟨s1, i1, h1, b1, c1⟩ := S2.truth' (i + 1) v b (by omega) hv hb
  obtain ⟨s2, i2, h2, b2, c2⟩ := hbk i1 v b loop (by omega) hv hb
  obtain ⟨j, j1, hj⟩ := zdb l i2 2 (by omega) (by omega) hl
  obtain ⟨s3, i3, h3, b3, c3⟩ := hbk (i2 + 1) v b loop (by omega) hv hb
  have hj2 : j = 0 \/ j = 1 := by omega
  have : k = 6 /\ loop = false \/ k = 8 \/ k = 9 := by
   rcases hc with h | h | h | h | h | h
   ·exact .inl h
   all_goals omega
  rw [hB2] at b1 c1
  simp at h1 hj
  clear S1 S2 hl hB1 hB2 hbk hc k1 k7 k9 j1
  rcases this with ⟨rfl, rfl⟩ | rfl | rfl <;> simp at hk <;> rcases hj2 with rfl | rfl <;> simp at hj <;> (simp [*, F76]) <;> (repeat' (refine aI (by omega) ?_ <;> simp [*, F76])) <;> (try omega)
 obtain ⟨s1, i1, h1, b1, c1⟩ := S1.truth' (i + 1) v b (by omega) hv hb
 obtain ⟨s2, i2, h2, b2, c2⟩ := hbk i1 v b true (by omega) hv hb
 obtain ⟨j, j1, hj⟩ := zdb l i2 3 (by omega) (by omega) hl
 obtain ⟨t, t1, ht⟩ := one_of [[52], [57], [51, 48]] 3 (by decide) j j1
 have : k = 10 \/ k = 11 := by omega
 rw [hB1] at b1 c1
 simp at h1 hj ht
 clear S1 S2 hl hB1 hB2 hbk hc k1 k7 k9
 rcases this with rfl | rfl <;> simp at hk <;> (simp [*, F76]) <;> (repeat' (refine aI (by omega) ?_ <;> simp [*, F76])) <;> (try omega)
theorem st (l : List UInt8) (hl : l.length <= 9223372036854775807) : ∀ d, d <= 3 -> ST l d /\ BkOk l d := by
 intro d
 induction d with
 | zero =>
  intro _
  have S : ST l 0 := ⟨fun i v b loop hi hv hb => by
   obtain ⟨k, k1, hk⟩ := zdb l i 13 (by omega) (by omega) hl
   exact stmt_plain l hl 0 (by omega) i v b loop hi hv hb k k1 hk (.inl rfl)⟩
  refine ⟨S, fun i v b loop hi hv hb => ?_⟩
  obtain ⟨r, st, h, s, i', rfl, rfl, h1, h2⟩ := zSd.1 (mblock_of l hl 0 (by decide) (by omega) S i v b loop hi hv hb)
  exact ⟨s, i', h, h1, h2⟩
 | succ d ih =>
  intro hd
  obtain ⟨_, B⟩ := ih (by omega)
  have hb : SB d <= 10000000 /\ SB (d + 1) <= 10000000 := by
   have : d = 0 \/ d = 1 \/ d = 2 := by omega
   rcases this with rfl | rfl | rfl <;> decide
  have S : ST l (d + 1) := ⟨fun i v b loop hi hv hb' => by
   obtain ⟨k, k1, hk⟩ := zdb l i 13 (by omega) (by omega) hl
   by_cases hc : d + 1 = 0 \/ k < 6 \/ (k = 6 /\ loop = true) \/ k = 12
   ·exact stmt_plain l hl (d + 1) (by omega) i v b loop hi hv hb' k k1 hk hc
   ·exact stmt_deep l hl d hb.1 (by omega) B i v b loop hi hv hb' k k1 hk (by cases loop <;> simp at hc ⊢ <;> omega)⟩
  refine ⟨S, fun i v b loop hi hv hb' => ?_⟩
  obtain ⟨r, st, h, s, i', rfl, rfl, h1, h2⟩ := zSd.1 (mblock_of l hl (d + 1) hb.2 (by omega) S i v b loop hi hv hb')
  exact ⟨s, i', h, h1, h2⟩
end PE.U

namespace PE.U
open Go PE
theorem bad_parse : (zva [120]).1 = ⟨[], []⟩ := by kernel_rfl
set_option maxHeartbeats 8000000 in
set_option maxRecDepth 20000 in
theorem good_of (l : List UInt8) (hl : l.length <= 9223372036854775807) :
  PC (zh E 20 [u8s l] []) (fun r st => st = [] /\ ∃ s, r = .ret (zg (zva s).1)) := by
 refine zga rfl rfl rfl (by simp [u8s]) ?_
 have hB1 : SB 1 = 19000 := rfl
 have hB2 : SB 2 = 155000 := rfl
 have hB3 : SB 3 = 1243000 := rfl
 have hN : BN 2 = 700 := rfl
 have S2 := nt l hl 2 (by omega)
 obtain ⟨s1, i1, h1, b1, c1⟩ := (st l hl 2 (by omega)).2 0 [120] [98] false (by omega) (by simp) (by simp)
 obtain ⟨s2, i2, h2, b2, c2⟩ := S2.num' i1 [120] [98] (by omega) (by simp) (by simp)
 obtain ⟨s3, i3, h3, b3, c3⟩ := (st l hl 1 (by omega)).2 i2 [120] [98] false (by omega) (by simp) (by simp)
 obtain ⟨s4, i4, h4, b4, c4⟩ := S2.truth' i3 [120] [98] (by omega) (by simp) (by simp)
 obtain ⟨s5, i5, h5, b5, c5⟩ := (st l hl 3 (by omega)).2 i4 [120] [98] false (by omega) (by simp) (by simp)
 obtain ⟨s6, i6, h6, b6, c6⟩ := S2.num' i5 [120] [98] (by omega) (by simp) (by simp)
 rw [hB2] at b1 c1
 rw [hN] at b2 c2 b4 c4 b6 c6
 rw [hB1] at b3 c3
 rw [hB3] at b5 c5
 have hp : ∀ s, zh E 13 [.str s] [] = some (.ret (.tup [.agg [zwa (zva s).1.arrays, funcs (zva s).1.funcs], .int .i64 (zva s).2.1, .int .i64 (zva s).2.2]), []) := fun s => by rw [parse_spec]; rfl
 simp only [zwa, funcs] at hp
 simp [mob, u8s] at h1 h2 h3 h4 h5 h6
 have hz : (0 : Nat) <= 0 := Nat.le_refl 0
 clear S2 hB1 hB2 hB3 hN hl
 simp [*, F20, u8s]
 repeat' (refine aI (by omega) ?_; simp [*, F20, u8s])
 (first | refine sP _ ?_ ?_ | refine sN _ ?_ ?_ | refine sM _ ?_ ?_ | refine sB _ ?_ ?_) <;> intro hc <;> simp [hc, F20]
 ·exact ⟨[120], by rw [bad_parse]; rfl⟩
 ·exact ⟨_, rfl⟩
end PE.U

namespace PE.U
open Go PE
end PE.U

namespace PE.U
open Go PE
def andR {α β : Type} (q : Rt α × RS) (f : α -> RS -> Rt β × RS) : Rt β × RS := match q with
 | (.ok a, S) => f a S
 | (.stop k, S) => (.stop k, S)
section
variable {p : Prog} {ev : Ev}
theorem argsW_cons (V : Vs) (x : Expr) (r : List Expr) (acc : List Int) (S : RS) : zad ev V (x :: r) acc S = andR (ev.expr x V S) fun n S1 => zad ev V r (acc ++ [n]) S1 := by
 rw [zad]; unfold andR
 generalize ev.expr x V S = q; obtain ⟨a, S1⟩ := q; cases a <;> rfl
def contW (ev : Ev) (r : List Stmt) : How × Vs -> RS -> Rt (How × Vs) × RS
 | (.on, V1), S1 => zGa ev r V1 S1
 | (h, V1), S1 => (.ok (h, V1), S1)
theorem stmtsW_cons (V : Vs) (x : Stmt) (r : List Stmt) (S : RS) : zGa ev (x :: r) V S = andR (ev.stmt x V S) (contW ev r) := by
 rw [zGa]; unfold andR
 generalize ev.stmt x V S = q; obtain ⟨a, S1⟩ := q
 cases a with
 | stop k => rfl
 | ok y => obtain ⟨h, V1⟩ := y; cases h <;> rfl
theorem blockW_eq (l : List Stmt) (V : Vs) (S : RS) : zT ev l V S = andR (zGa ev l V S) fun y S1 => (.ok (y.1, y.2.drop (y.2.length - V.length)), S1) := by
 unfold zT andR
 generalize zGa ev l V S = q; obtain ⟨a, S1⟩ := q
 cases a <;> rfl
def retN : How -> Int
 | .ret n => n
 | _ => 0
theorem callW_eq (f : Func) (l : List Int) (S : RS) : callW ev f l S = andR (zT ev f.body (bindV f.params l) S) fun y S1 => (.ok (retN y.1), S1) := by
 unfold callW andR
 generalize zT ev f.body (bindV f.params l) S = q; obtain ⟨a, S1⟩ := q
 cases a with
 | stop k => rfl
 | ok y => obtain ⟨h, V1⟩ := y; cases h <;> rfl
theorem shortW_eq (e : Expr) (V : Vs) (S : RS) : shortW ev e V S = andR (ev.expr (arg0 e.args) V S) fun a S1 => if decide (a = 0) = decide (e.op = 18) then (.ok a, S1) else ev.expr (arg1 e.args) V S1 := by
 unfold shortW andR
 generalize ev.expr (arg0 e.args) V S = q; obtain ⟨a, S1⟩ := q
 cases a <;> rfl
theorem exprW_eq (e : Expr) (V : Vs) (S : RS) : exprW p ev e V S = if e.kind = 1 \/ e.kind = 2 then (.ok e.n, S) else if e.kind = 3 then (.ok (getV e.name V), S) else if e.kind = 5 /\ (e.op = 18 \/ e.op = 19) then shortW ev e V S
  else andR (zad ev V e.args [] S) fun l S1 => madeW p ev e l (zZ S1) := by
 unfold exprW andR
 generalize zad ev V e.args [] S = q; obtain ⟨a, S1⟩ := q
 cases a <;> rfl
def loopN (ev : Ev) (c : Expr) (b : List Stmt) (k : Nat) : How × Vs -> RS -> Rt (How × Vs) × RS
 | (.brk, V1), S2 => (.ok (.on, V1), S2)
 | (.ret m, V1), S2 => (.ok (.ret m, V1), S2)
 | (_, V1), S2 => zgc ev c b k V1 S2
theorem loopW_succ (c : Expr) (b : List Stmt) (k : Nat) (V : Vs) (S : RS) : zgc ev c b (k + 1) V S = andR (ev.expr c V S) fun n S1 => if n = 0 then (.ok (.on, V), S1) else andR (zT ev b V S1) (loopN ev c b k) := by
 rw [zgc]; unfold andR
 generalize ev.expr c V S = q; obtain ⟨a, S1⟩ := q
 cases a with
 | stop k => rfl
 | ok n =>
  simp only
  split
  ·rfl
  generalize zT ev b V S1 = q; obtain ⟨a, S2⟩ := q
  cases a with
  | stop k => rfl
  | ok y => obtain ⟨h, V1⟩ := y; cases h <;> rfl
def putW (p : Prog) (s : Stmt) (V : Vs) (n m : Int) (S : RS) : Rt (How × Vs) × RS := match putAt p S s.name n m with
 | some S3 => (.ok (.on, V), S3)
 | none => (.stop 3, S)
theorem plainW_eq (s : Stmt) (V : Vs) (n : Int) (S1 : RS) : zYb p ev s V n S1 =
 if s.kind = 1 then (.ok (.on, (s.name, n) :: V), S1)
 else if s.kind = 2 then (.ok (.on, setV s.name n V), S1)
 else if s.kind = 3 then andR (ev.expr (arg1 s.args) V S1) fun m S2 => putW p s V n m (zZ S2)
 else if s.kind = 4 then zT ev (if n = 0 then s.els else s.thn) V S1
 else if s.kind = 8 then (.ok (.ret n, V), S1)
 else if s.kind = 9 then (.ok (.on, V), { zZ S1 with out := S1.out ++ [n] })
 else (.ok (.on, V), S1) := by
 unfold zYb andR putW
 generalize ev.expr (arg1 s.args) V S1 = q; obtain ⟨a, S2⟩ := q
 cases a with
 | stop k => rfl
 | ok m =>
  simp only
  all_goals (cases putAt p (zZ S2) s.name n m <;> rfl)
theorem stmtW_eq (w : Nat) (s : Stmt) (V : Vs) (S : RS) : stmtW p ev w s V S =
 if s.kind = 5 then zgc ev (arg0 s.args) s.thn (w + 1) V S
 else if s.kind = 6 then (.ok (.brk, V), S)
 else if s.kind = 7 then (.ok (.cont, V), S)
 else andR (ev.expr (arg0 s.args) V S) fun n S1 => zYb p ev s V n S1 := by
 unfold stmtW andR
 generalize ev.expr (arg0 s.args) V S = q; obtain ⟨a, S2⟩ := q
 cases a <;> rfl
end
def Bd (c : Int) (S : RS) : Prop := 0 <= S.cost /\ S.cost + S.fuel + c <= 1000000000000
def Gr (c : Int) (S S1 : RS) : Prop := S.out <+: S1.out /\ S.cost <= S1.cost /\ S1.cost + S1.fuel <= S.cost + S.fuel + c
theorem Gr.refl (S : RS) : Gr 0 S S := ⟨List.prefix_refl _, Int.le_refl _, by omega⟩
theorem Gr.trans {c d : Int} {a b e : RS} (h : Gr c a b) (k : Gr d b e) : Gr (c + d) a e := ⟨h.1.trans k.1, Int.le_trans h.2.1 k.2.1, by have := h.2.2; have := k.2.2; omega⟩
theorem Gr.up {c d : Int} {a b : RS} (h : Gr c a b) (hc : c <= d) : Gr d a b := ⟨h.1, h.2.1, by have := h.2.2; omega⟩
theorem Bd.gr {c d : Int} {a b : RS} (h : Bd (c + d) a) (k : Gr c a b) : Bd d b := ⟨Int.le_trans h.1 k.2.1, by have := h.2; have := k.2.2; omega⟩
theorem gr_cost {S : RS} (h : Bd 0 S) : Gr 1 S (zZ S) := by
 have hc : (zZ S).cost = S.cost + 1 := by
  have := h.1; have := h.2
  show IntKind.wrap .i64 (S.cost + 1) = S.cost + 1
  rw [<- zea]; exact zj (by omega) (by omega)
 exact ⟨List.prefix_refl _, by rw [hc]; omega, by rw [hc]; show S.cost + 1 + (S.fuel : Int) <= _; omega⟩
theorem gr_and {α β : Type} {q : Rt α × RS} {f : α -> RS -> Rt β × RS} {c d : Int} {S : RS} (h : Gr c S q.2) (hb : Bd (c + d) S) (hd : 0 <= d) (k : ∀ a S1, q = (.ok a, S1) -> Bd d S1 -> Gr d S1 (f a S1).2) : Gr (c + d) S (andR q f).2 := by
 obtain ⟨a, S1⟩ := q
 cases a with
 | ok a => exact h.trans (k a S1 rfl (hb.gr h))
 | stop j => exact Gr.up h (by omega)
structure GrOk (ev : Ev) : Prop where
 expr : ∀ e V S, Bd 0 S -> Gr 0 S (ev.expr e V S).2
 stmt : ∀ s V S, Bd 0 S -> Gr 0 S (ev.stmt s V S).2
section
variable {p : Prog} {ev : Ev} (E : GrOk ev)
include E
theorem argsW_gr (V : Vs) : ∀ (l : List Expr) (acc : List Int) (S : RS), Bd 0 S -> Gr 0 S (zad ev V l acc S).2
 | [], acc, S, _ => Gr.refl _
 | x :: r, acc, S, hb => by
  rw [argsW_cons]
  exact gr_and (c := 0) (d := 0) (E.expr x V S hb) hb (by omega) fun a S1 _ h1 => argsW_gr V r _ S1 h1
theorem stmtsW_gr : ∀ (l : List Stmt) (V : Vs) (S : RS), Bd 0 S -> Gr 0 S (zGa ev l V S).2
 | [], V, S, _ => Gr.refl _
 | x :: r, V, S, hb => by
  rw [stmtsW_cons]
  refine gr_and (c := 0) (d := 0) (E.stmt x V S hb) hb (by omega) fun a S1 _ h1 => ?_
  obtain ⟨h, V1⟩ := a
  cases h
  ·exact stmtsW_gr r V1 S1 h1
  all_goals exact Gr.refl _
theorem zQd (l : List Stmt) (V : Vs) (S : RS) (hb : Bd 0 S) : Gr 0 S (zT ev l V S).2 := by
 rw [blockW_eq]
 exact gr_and (c := 0) (d := 0) (stmtsW_gr E l V S hb) hb (by omega) fun a S1 _ h1 => Gr.refl _
theorem callW_gr (f : Func) (l : List Int) (S : RS) (hb : Bd 0 S) : Gr 0 S (callW ev f l S).2 := by
 rw [callW_eq]
 exact gr_and (c := 0) (d := 0) (zQd E _ _ S hb) hb (by omega) fun a S1 _ h1 => Gr.refl _
theorem madeW_gr (e : Expr) (l : List Int) (S : RS) (hb : Bd 0 S) : Gr 0 S (madeW p ev e l S).2 := by
 unfold madeW
 split
 ·exact Gr.refl _
 split
 ·split <;> exact Gr.refl _
 split
 ·split
  ·exact Gr.refl _
  ·exact ⟨List.prefix_refl _, Int.le_refl _, by simp only; omega⟩
 split
 ·split
  ·exact callW_gr E _ _ _ hb
  ·exact Gr.refl _
 split <;> exact Gr.refl _
theorem shortW_gr (e : Expr) (V : Vs) (S : RS) (hb : Bd 0 S) : Gr 0 S (shortW ev e V S).2 := by
 rw [shortW_eq]
 refine gr_and (c := 0) (d := 0) (E.expr _ V S hb) hb (by omega) fun a S1 _ h1 => ?_
 split
 ·exact Gr.refl _
 ·exact E.expr _ V S1 h1
theorem exprW_gr (e : Expr) (V : Vs) (S : RS) (hb : Bd 1 S) : Gr 1 S (exprW p ev e V S).2 := by
 have h0 : Bd 0 S := ⟨hb.1, by have := hb.2; omega⟩
 rw [exprW_eq]
 split
 ·exact (Gr.refl _).up (by omega)
 split
 ·exact (Gr.refl _).up (by omega)
 split
 ·exact (shortW_gr E e V S h0).up (by omega)
 exact gr_and (c := 0) (d := 1) (argsW_gr E V e.args [] S h0) hb (by omega) fun l S1 _ h1 => by
  have g := gr_cost (S := S1) ⟨h1.1, by have := h1.2; omega⟩
  exact g.trans (madeW_gr E e l _ (Bd.gr (c := 1) (d := 0) h1 g))
theorem zZd (c : Expr) (b : List Stmt) : ∀ (k : Nat) (V : Vs) (S : RS), Bd 0 S -> Gr 0 S (zgc ev c b k V S).2
 | 0, V, S, _ => Gr.refl _
 | k + 1, V, S, hb => by
  rw [loopW_succ]
  refine gr_and (c := 0) (d := 0) (E.expr c V S hb) hb (by omega) fun n S1 _ h1 => ?_
  split
  ·exact Gr.refl _
  refine gr_and (c := 0) (d := 0) (zQd E b V S1 h1) h1 (by omega) fun y S2 _ h2 => ?_
  obtain ⟨h, V1⟩ := y
  cases h
  ·exact zZd c b k V1 S2 h2
  ·exact Gr.refl _
  ·exact zZd c b k V1 S2 h2
  ·exact Gr.refl _
theorem putW_gr (s : Stmt) (V : Vs) (n m : Int) (S : RS) : Gr 0 S (putW p s V n m S).2 := by
 unfold putW
 cases h : putAt p S s.name n m with
 | none => exact Gr.refl _
 | some S3 =>
  unfold putAt at h
  split at h
  ·cases h
  rw [Option.bind_eq_some_iff] at h
  obtain ⟨l, hl, h⟩ := h
  split at h
  ·cases h; exact ⟨List.prefix_refl _, Int.le_refl _, by simp only; omega⟩
  ·cases h
theorem plainW_gr (s : Stmt) (V : Vs) (n : Int) (S : RS) (hb : Bd 1 S) : Gr 1 S (zYb p ev s V n S).2 := by
 have h0 : Bd 0 S := ⟨hb.1, by have := hb.2; omega⟩
 rw [plainW_eq]
 split
 ·exact (Gr.refl _).up (by omega)
 split
 ·exact (Gr.refl _).up (by omega)
 split
 ·exact gr_and (c := 0) (d := 1) (E.expr _ V S h0) hb (by omega) fun m S1 _ h1 => by
   have g := gr_cost (S := S1) ⟨h1.1, by have := h1.2; omega⟩
   exact g.trans (putW_gr E s V n m _)
 split
 ·exact (zQd E _ V S h0).up (by omega)
 split
 ·exact (Gr.refl _).up (by omega)
 split
 ·have g := gr_cost h0
  exact ⟨List.prefix_append _ _, g.2.1, g.2.2⟩
 ·exact (Gr.refl _).up (by omega)
theorem stmtW_gr (w : Nat) (s : Stmt) (V : Vs) (S : RS) (hb : Bd 1 S) : Gr 1 S (stmtW p ev w s V S).2 := by
 have h0 : Bd 0 S := ⟨hb.1, by have := hb.2; omega⟩
 rw [stmtW_eq]
 split
 ·exact (zZd E _ _ _ V S h0).up (by omega)
 split
 ·exact (Gr.refl _).up (by omega)
 split
 ·exact (Gr.refl _).up (by omega)
 exact gr_and (c := 0) (d := 1) (E.expr _ V S h0) hb (by omega) fun n S1 _ h1 => plainW_gr E s V n S1 h1
end
theorem evF_gr (p : Prog) : ∀ w, GrOk (evF p w)
 | 0 => ⟨fun e V S _ => Gr.refl _, fun s V S _ => Gr.refl _⟩
 | w + 1 => by
  have E := evF_gr p w
  refine ⟨fun e V S hb => ?_, fun s V S hb => ?_⟩
  ·simp only [evF]
   cases h : S.fuel with
   | zero => exact Gr.refl _
   | succ k =>
    have g := exprW_gr (p := p) E e V { S with fuel := k } ⟨hb.1, by have := hb.2; simp only [h] at this ⊢; omega⟩
    exact ⟨g.1, g.2.1, by have := g.2.2; simp only [h] at this ⊢; omega⟩
  ·simp only [evF]
   cases h : S.fuel with
   | zero => exact Gr.refl _
   | succ k =>
    have g := stmtW_gr (p := p) E w s V { S with fuel := k } ⟨hb.1, by have := hb.2; simp only [h] at this ⊢; omega⟩
    exact ⟨g.1, g.2.1, by have := g.2.2; simp only [h] at this ⊢; omega⟩
end PE.U

namespace PE.U
open Go PE
def upR (x : List Int) (m : Nat) (S : RS) : RS := { S with inp := S.inp ++ x, fuel := S.fuel + m }
def Early (x : List Int) (m : Nat) (k : Int) : Prop := (k = 0 /\ 0 < m) \/ (k = 4 /\ x ≠ [])
def Sim {α : Type} (x : List Int) (m : Nat) (q q' : Rt α × RS) : Prop :=
 (q.1 = .stop 0 -> q.2.fuel = 0) /\ (q' = (q.1, upR x m q.2) \/ ∃ k, q.1 = .stop k /\ Early x m k /\ q.2.out <+: q'.2.out /\ q.2.cost <= q'.2.cost)
theorem Sim.ok {α : Type} {x : List Int} {m : Nat} {a : α} {S : RS} : Sim x m (.ok a, S) (.ok a, upR x m S) := ⟨fun h => (by cases h), .inl rfl⟩
theorem Sim.stop {α : Type} {x : List Int} {m : Nat} {k : Int} {S : RS} (hk : k ≠ 0) : Sim (α := α) x m (.stop k, S) (.stop k, upR x m S) := ⟨fun h => by cases h; exact absurd rfl hk, .inl rfl⟩
section
variable {x : List Int} {m w w' : Nat}
def In (x : List Int) (m w w' : Nat) (c : Int) (S : RS) : Prop := S.fuel <= w /\ S.fuel + m <= w' /\ Bd c (upR x m S)
theorem In.le {c d : Int} {S : RS} (h : In x m w w' c S) (hd : d <= c) : In x m w w' d S := ⟨h.1, h.2.1, h.2.2.1, by have := h.2.2.2; omega⟩
theorem zqd {α β : Type} {q q' : Rt α × RS} {f f' : α -> RS -> Rt β × RS} {c d : Int} {S : RS} (h : Sim x m q q') (hm : Mono S q.2) (hg : Gr c (upR x m S) q'.2) (hi : In x m w w' (c + d) S)
  (hk : ∀ a S1, q = (.ok a, S1) -> In x m w w' d S1 -> Sim x m (f a S1) (f' a (upR x m S1))) (hgf : ∀ a S1, Bd d S1 -> Gr d S1 (f' a S1).2) : Sim x m (andR q f) (andR q' f') := by
 obtain ⟨h0, h | ⟨k, e, ek, h1, h2⟩⟩ := h
 ·subst h
  obtain ⟨a, S1⟩ := q
  cases a with
  | ok a =>
   refine hk a S1 rfl ⟨Nat.le_trans hm.fuel hi.1, ?_, hi.2.2.gr hg⟩
   have := hm.fuel; have := hi.2.1; simp only at *; omega
  | stop k => exact ⟨fun e => h0 (by cases e; rfl), .inl rfl⟩
 ·obtain ⟨a, S1⟩ := q
  simp only at e
  subst e
  refine ⟨fun e => h0 (by cases e; rfl), .inr ⟨k, rfl, ek, ?_⟩⟩
  obtain ⟨b, S2⟩ := q'
  cases b with
  | stop j => exact ⟨h1, h2⟩
  | ok b =>
   have g := hgf b S2 (hi.2.2.gr hg)
   exact ⟨h1.trans g.1, Int.le_trans h2 g.2.1⟩
end
structure SimOk (x : List Int) (m w w' : Nat) (ev ev' : Ev) : Prop where
 expr : ∀ e V S, In x m w w' 0 S -> Sim x m (ev.expr e V S) (ev'.expr e V (upR x m S))
 stmt : ∀ s V S, In x m w w' 0 S -> Sim x m (ev.stmt s V S) (ev'.stmt s V (upR x m S))
section
variable {p : Prog} {x : List Int} {m w w' : Nat} {ev ev' : Ev} (E : SimOk x m w w' ev ev') (A : EvOk ev) (B : GrOk ev')
include E A B
theorem argsW_sim (V : Vs) : ∀ (l : List Expr) (acc : List Int) (S : RS), In x m w w' 0 S -> Sim x m (zad ev V l acc S) (zad ev' V l acc (upR x m S))
 | [], acc, S, _ => Sim.ok
 | y :: r, acc, S, hi => by
  rw [argsW_cons, argsW_cons]
  exact zqd (c := 0) (d := 0) (E.expr y V S hi) (A.expr y V S).1 (B.expr y V _ hi.2.2) hi (fun a S1 _ h1 => argsW_sim V r _ S1 h1) (fun a S1 hb => argsW_gr B V r _ S1 hb)
theorem stmtsW_sim : ∀ (l : List Stmt) (V : Vs) (S : RS), In x m w w' 0 S -> Sim x m (zGa ev l V S) (zGa ev' l V (upR x m S))
 | [], V, S, _ => Sim.ok
 | y :: r, V, S, hi => by
  rw [stmtsW_cons, stmtsW_cons]
  refine zqd (c := 0) (d := 0) (E.stmt y V S hi) (A.stmt y V S).1 (B.stmt y V _ hi.2.2) hi (fun a S1 _ h1 => ?_) (fun a S1 hb => ?_)
  ·obtain ⟨h, V1⟩ := a
   cases h
   ·exact stmtsW_sim r V1 S1 h1
   all_goals exact Sim.ok
  ·obtain ⟨h, V1⟩ := a
   cases h
   ·exact stmtsW_gr B r V1 S1 hb
   all_goals exact Gr.refl _
theorem blockW_sim (l : List Stmt) (V : Vs) (S : RS) (hi : In x m w w' 0 S) : Sim x m (zT ev l V S) (zT ev' l V (upR x m S)) := by
 rw [blockW_eq, blockW_eq]
 exact zqd (c := 0) (d := 0) (stmtsW_sim E A B l V S hi) (stmtsW_mono A l V S).1 (stmtsW_gr B l V _ hi.2.2) hi (fun a S1 _ h1 => Sim.ok) (fun a S1 hb => Gr.refl _)
theorem callW_sim (f : Func) (l : List Int) (S : RS) (hi : In x m w w' 0 S) : Sim x m (callW ev f l S) (callW ev' f l (upR x m S)) := by
 rw [callW_eq, callW_eq]
 exact zqd (c := 0) (d := 0) (blockW_sim E A B _ _ S hi) (zeb A _ _ S).1 (zQd B _ _ _ hi.2.2) hi (fun a S1 _ h1 => Sim.ok) (fun a S1 hb => Gr.refl _)
theorem madeW_sim (e : Expr) (l : List Int) (S : RS) (hi : In x m w w' 0 S) : Sim x m (madeW p ev e l S) (madeW p ev' e l (upR x m S)) := by
 have hc : cellAt p (upR x m S) e.name (at0 l) = cellAt p S e.name (at0 l) := rfl
 unfold madeW
 rw [hc]
 split
 ·exact Sim.ok
 split
 ·cases cellAt p S e.name (at0 l) with
  | none => exact Sim.stop (by decide)
  | some n => exact Sim.ok
 split
 ·have hu : (upR x m S).inp = S.inp ++ x := rfl
  rw [hu]
  cases hn : S.inp with
  | nil =>
   cases hx : x with
   | nil => subst hx; exact Sim.stop (by decide)
   | cons y r =>
    refine ⟨fun h => by simp at h, .inr ⟨4, rfl, .inr ⟨rfl, by simp⟩, List.prefix_refl _, Int.le_refl _⟩⟩
  | cons n r => exact Sim.ok
 split
 ·cases zEb p e.name with
  | none => exact Sim.ok
  | some f => exact callW_sim E A B f l S hi
 split
 ·exact Sim.ok
 ·exact Sim.stop (by decide)
theorem shortW_sim (e : Expr) (V : Vs) (S : RS) (hi : In x m w w' 0 S) : Sim x m (shortW ev e V S) (shortW ev' e V (upR x m S)) := by
 rw [shortW_eq, shortW_eq]
 refine zqd (c := 0) (d := 0) (E.expr _ V S hi) (A.expr _ V S).1 (B.expr _ V _ hi.2.2) hi (fun a S1 _ h1 => ?_) (fun a S1 hb => ?_)
 ·split
  ·exact Sim.ok
  ·exact E.expr _ V S1 h1
 ·split
  ·exact Gr.refl _
  ·exact B.expr _ V S1 hb
theorem in_cost {S : RS} (h : In x m w w' 1 S) : In x m w w' 0 (zZ S) /\ Gr 1 (upR x m S) (zZ (upR x m S)) := by
 have g := gr_cost (S := upR x m S) ⟨h.2.2.1, by have := h.2.2.2; omega⟩
 exact ⟨⟨h.1, h.2.1, Bd.gr (c := 1) (d := 0) h.2.2 g⟩, g⟩
theorem exprW_sim (e : Expr) (V : Vs) (S : RS) (hi : In x m w w' 1 S) : Sim x m (exprW p ev e V S) (exprW p ev' e V (upR x m S)) := by
 have h0 := hi.le (d := 0) (by omega)
 rw [exprW_eq, exprW_eq]
 split
 ·exact Sim.ok
 split
 ·exact Sim.ok
 split
 ·exact shortW_sim E A B e V S h0
 refine zqd (c := 0) (d := 1) (argsW_sim E A B V e.args [] S h0) (argsW_mono A V e.args [] S).1 (argsW_gr B V e.args [] _ h0.2.2) hi (fun l S1 _ h1 => ?_) (fun l S1 hb => ?_)
 ·exact madeW_sim E A B e l _ (in_cost E A B h1).1
 ·have g := gr_cost (S := S1) ⟨hb.1, by have := hb.2; omega⟩
  exact g.trans (madeW_gr B e l _ (Bd.gr (c := 1) (d := 0) hb g))
theorem loopW_sim (c : Expr) (b : List Stmt) : ∀ (k k' : Nat) (V : Vs) (S : RS), In x m w w' 0 S -> S.fuel < k -> S.fuel + m < k' -> Sim x m (zgc ev c b k V S) (zgc ev' c b k' V (upR x m S))
 | 0, _, V, S, _, h, _ => by omega
 | k + 1, 0, V, S, _, _, h => by omega
 | k + 1, k' + 1, V, S, hi, hk, hk' => by
  rw [loopW_succ, loopW_succ]
  refine zqd (c := 0) (d := 0) (E.expr c V S hi) (A.expr c V S).1 (B.expr c V _ hi.2.2) hi (fun n S1 e1 h1 => ?_) (fun n S1 hb => ?_)
  ·have hlt : S1.fuel < S.fuel := by have := (A.expr c V S).2 n (by rw [e1]); rw [e1] at this; exact this
   split
   ·exact Sim.ok
   refine zqd (c := 0) (d := 0) (blockW_sim E A B b V S1 h1) (zeb A b V S1).1 (zQd B b V _ h1.2.2) h1 (fun y S2 e2 h2 => ?_) (fun y S2 hb => ?_)
   ·have hle : S2.fuel <= S1.fuel := by have := (zeb A b V S1).1.fuel; rw [e2] at this; exact this
    obtain ⟨h, V1⟩ := y
    cases h
    ·exact loopW_sim c b k k' V1 S2 h2 (by omega) (by omega)
    ·exact Sim.ok
    ·exact loopW_sim c b k k' V1 S2 h2 (by omega) (by omega)
    ·exact Sim.ok
   ·obtain ⟨h, V1⟩ := y
    cases h
    ·exact zZd B c b k' V1 S2 hb
    ·exact Gr.refl _
    ·exact zZd B c b k' V1 S2 hb
    ·exact Gr.refl _
  ·split
   ·exact Gr.refl _
   refine gr_and (c := 0) (d := 0) (zQd B b V S1 hb) hb (by omega) fun y S2 _ h2 => ?_
   obtain ⟨h, V1⟩ := y
   cases h
   ·exact zZd B c b k' V1 S2 h2
   ·exact Gr.refl _
   ·exact zZd B c b k' V1 S2 h2
   ·exact Gr.refl _
theorem putW_sim (s : Stmt) (V : Vs) (n j : Int) (S : RS) : Sim x m (putW p s V n j S) (putW p s V n j (upR x m S)) := by
 have h : putAt p (upR x m S) s.name n j = (putAt p S s.name n j).map (upR x m) := by
  have ha : (upR x m S).arrs = S.arrs := rfl
  unfold putAt
  rw [ha]
  split
  ·rfl
  cases S.arrs[(zRd p s.name).toNat]? with
  | none => rfl
  | some l =>
   simp only [Option.bind_some]
   split <;> rfl
 unfold putW
 rw [h]
 cases putAt p S s.name n j with
 | none => exact Sim.stop (by decide)
 | some S3 => exact Sim.ok
theorem plainW_sim (s : Stmt) (V : Vs) (n : Int) (S : RS) (hi : In x m w w' 1 S) : Sim x m (zYb p ev s V n S) (zYb p ev' s V n (upR x m S)) := by
 have h0 := hi.le (d := 0) (by omega)
 rw [plainW_eq, plainW_eq]
 split
 ·exact Sim.ok
 split
 ·exact Sim.ok
 split
 ·refine zqd (c := 0) (d := 1) (E.expr _ V S h0) (A.expr _ V S).1 (B.expr _ V _ h0.2.2) hi (fun j S1 _ h1 => ?_) (fun j S1 hb => ?_)
  ·exact putW_sim E A B s V n j (zZ S1)
  ·have g := gr_cost (S := S1) ⟨hb.1, by have := hb.2; omega⟩
   exact g.trans (putW_gr B s V n j _)
 split
 ·exact blockW_sim E A B _ V S h0
 split
 ·exact Sim.ok
 split
 ·exact Sim.ok
 ·exact Sim.ok
theorem stmtW_sim (hw : True) (s : Stmt) (V : Vs) (S : RS) (hi : In x m w w' 1 S) : Sim x m (stmtW p ev w s V S) (stmtW p ev' w' s V (upR x m S)) := by
 have h0 := hi.le (d := 0) (by omega)
 rw [stmtW_eq, stmtW_eq]
 split
 ·exact loopW_sim E A B _ _ (w + 1) (w' + 1) V S h0 (by have := hi.1; omega) (by have := hi.2.1; omega)
 split
 ·exact Sim.ok
 split
 ·exact Sim.ok
 exact zqd (c := 0) (d := 1) (E.expr _ V S h0) (A.expr _ V S).1 (B.expr _ V _ h0.2.2) hi (fun n S1 _ h1 => plainW_sim E A B s V n S1 h1) (fun n S1 hb => plainW_gr B s V n S1 hb)
end
theorem evF_none (p : Prog) (w : Nat) (S : RS) (h : S.fuel = 0) : (∀ e V, (evF p w).expr e V S = (.stop 0, S)) /\ ∀ s V, (evF p w).stmt s V S = (.stop 0, S) := by
 cases w with
 | zero => exact ⟨fun _ _ => rfl, fun _ _ => rfl⟩
 | succ w => exact ⟨fun _ _ => by simp only [evF, h], fun _ _ => by simp only [evF, h]⟩
theorem evF_sim (p : Prog) (x : List Int) (m : Nat) : ∀ w w', SimOk x m w w' (evF p w) (evF p w') := by
 intro w
 induction w with
 | zero =>
  intro w'
  have key : ∀ S, S.fuel = 0 -> In x m 0 w' 0 S -> (∀ e V, Sim x m ((evF p 0).expr e V S) ((evF p w').expr e V (upR x m S))) /\ ∀ s V, Sim x m ((evF p 0).stmt s V S) ((evF p w').stmt s V (upR x m S)) := by
   intro S hz hi
   by_cases hm : m = 0
   ·subst hm
    have n := evF_none p w' (upR x 0 S) hz
    exact ⟨fun e V => by rw [n.1]; exact ⟨fun _ => hz, .inl rfl⟩, fun s V => by rw [n.2]; exact ⟨fun _ => hz, .inl rfl⟩⟩
   ·refine ⟨fun e V => ⟨fun _ => hz, .inr ⟨0, rfl, .inl ⟨rfl, by omega⟩, ?_⟩⟩, fun s V => ⟨fun _ => hz, .inr ⟨0, rfl, .inl ⟨rfl, by omega⟩, ?_⟩⟩⟩
    ·have g := (evF_gr p w').expr e V _ hi.2.2
     exact ⟨g.1, g.2.1⟩
    ·have g := (evF_gr p w').stmt s V _ hi.2.2
     exact ⟨g.1, g.2.1⟩
  exact ⟨fun e V S hi => (key S (by have := hi.1; omega) hi).1 e V, fun s V S hi => (key S (by have := hi.1; omega) hi).2 s V⟩
 | succ w ih =>
  intro w'
  have zero : ∀ S, S.fuel = 0 -> In x m (w + 1) w' 0 S -> (∀ e V, Sim x m ((evF p (w + 1)).expr e V S) ((evF p w').expr e V (upR x m S))) /\ ∀ s V, Sim x m ((evF p (w + 1)).stmt s V S) ((evF p w').stmt s V (upR x m S)) := by
   intro S hz hi
   have a := evF_none p (w + 1) S hz
   by_cases hm : m = 0
   ·subst hm
    have n := evF_none p w' (upR x 0 S) hz
    exact ⟨fun e V => by rw [n.1, a.1]; exact ⟨fun _ => hz, .inl rfl⟩, fun s V => by rw [n.2, a.2]; exact ⟨fun _ => hz, .inl rfl⟩⟩
   ·exact ⟨fun e V => by rw [a.1]; exact ⟨fun _ => hz, .inr ⟨0, rfl, .inl ⟨rfl, by omega⟩, ((evF_gr p w').expr e V _ hi.2.2).1, ((evF_gr p w').expr e V _ hi.2.2).2.1⟩⟩, fun s V => by rw [a.2]; exact ⟨fun _ => hz, .inr ⟨0, rfl, .inl ⟨rfl, by omega⟩, ((evF_gr p w').stmt s V _ hi.2.2).1, ((evF_gr p w').stmt s V _ hi.2.2).2.1⟩⟩⟩
  have more : ∀ S k, S.fuel = k + 1 -> In x m (w + 1) w' 0 S -> ∃ n, w' = n + 1 /\ (upR x m S).fuel = (k + m) + 1 /\ In x m w n 1 { S with fuel := k } /\ { upR x m S with fuel := k + m } = upR x m { S with fuel := k } := by
   intro S k hk hi
   obtain ⟨h1, h2, h3, h4⟩ := hi
   rw [hk] at h1 h2
   cases w' with
   | zero => omega
   | succ n =>
    refine ⟨n, rfl, by show S.fuel + m = _; omega, ⟨by simp only; omega, by simp only; omega, h3, ?_⟩, rfl⟩
    have : (upR x m S).fuel = k + 1 + m := by show S.fuel + m = _; rw [hk]
    rw [this] at h4
    have : (upR x m { S with fuel := k }).fuel = k + m := rfl
    rw [this]
    have : (upR x m { S with fuel := k }).cost = (upR x m S).cost := rfl
    rw [this]
    omega
  constructor
  ·intro e V S hi
   cases hk : S.fuel with
   | zero => exact (zero S hk hi).1 e V
   | succ k =>
    obtain ⟨n, rfl, hu, hj, he⟩ := more S k hk hi
    simp only [evF, hk, hu]
    rw [he]
    exact exprW_sim (ih n) (zyc p w) (evF_gr p n) e V _ hj
  ·intro s V S hi
   cases hk : S.fuel with
   | zero => exact (zero S hk hi).2 s V
   | succ k =>
    obtain ⟨n, rfl, hu, hj, he⟩ := more S k hk hi
    simp only [evF, hk, hu]
    rw [he]
    exact stmtW_sim (ih n) (zyc p w) (evF_gr p n) trivial s V _ hj
theorem evalM_sim (p : Prog) (inp x : List Int) (fu : Int) (m : Nat) (h0 : 0 <= fu) (hf : fu + m <= 100000000000) :
  ((zbb p inp fu).status = 0 -> (zbb p inp fu).fuel = 0) ∧
  (zbb p (inp ++ x) (fu + m) = { zbb p inp fu with fuel := (zbb p inp fu).fuel + m } ∨
   (zbb p (inp ++ x) (fu + m) = zbb p inp fu /\ (zbb p inp fu).status = 0) ∨
   (Early x m (zbb p inp fu).status /\ (zbb p inp fu).out <+: (zbb p (inp ++ x) (fu + m)).out /\ (zbb p inp fu).cost <= (zbb p (inp ++ x) (fu + m)).cost)) := by
 unfold zbb
 by_cases hc : (checkT p).1 = 0
 ·rw [if_pos hc, if_pos hc]
  have hr : run0 p (inp ++ x) (fu + m) = upR x m (run0 p inp fu) := by
   unfold run0 upR
   simp only [RS.mk.injEq, true_and]
   omega
  rw [hr]
  have hS : Sim x m (zFd p (run0 p inp fu)) (zFd p (upR x m (run0 p inp fu))) := by
   unfold zFd
   cases zEb p zGd with
   | none => exact Sim.ok
   | some f =>
    refine callW_sim (evF_sim p x m _ _) (zyc p _) (evF_gr p _) f [] (run0 p inp fu) ⟨Nat.le_refl _, Nat.le_refl _, ?_, ?_⟩
    ·exact Int.le_refl 0
    ·show (0 : Int) + ((fu.toNat + m : Nat) : Int) + 0 <= 1000000000000
     omega
  generalize zFd p (run0 p inp fu) = q at *
  generalize zFd p (upR x m (run0 p inp fu)) = q' at *
  obtain ⟨a, S1⟩ := q
  obtain ⟨z, h | ⟨k, e, ek, h1, h2⟩⟩ := hS
  ·subst h
   cases a with
   | ok n => exact ⟨fun h => by simp [zzd] at h, .inl (by simp [zzd, upR])⟩
   | stop k =>
    refine ⟨fun h => ?_, .inl (by simp [zzd, upR])⟩
    simp only [zzd] at h ⊢
    subst h
    have := z rfl
    simp only at this
    omega
  ·simp only at e
   subst e
   refine ⟨fun h => ?_, .inr (.inr ⟨ek, ?_, ?_⟩)⟩
   ·simp only [zzd] at h ⊢
    subst h
    have := z rfl
    simp only at this
    omega
   ·obtain ⟨b, S2⟩ := q'
    cases b <;> exact h1
   ·obtain ⟨b, S2⟩ := q'
    cases b <;> exact h2
 ·rw [if_neg hc, if_neg hc]
  exact ⟨fun _ => rfl, .inr (.inl ⟨rfl, rfl⟩)⟩
end PE.U

namespace PE.U
open Go PE
theorem evalM_fuel (p : Prog) (inp : List Int) (fu : Int) (h : 0 <= fu) : 0 <= (zbb p inp fu).fuel /\ (zbb p inp fu).fuel <= fu := by
 unfold zbb
 split
 ·have hm : (zFd p (run0 p inp fu)).2.fuel <= fu.toNat := by
   unfold zFd
   split
   ·rename_i f hf
    exact (callW_mono (zyc p (run0 p inp fu).fuel) f [] (run0 p inp fu)).fuel
   ·exact Nat.le_refl _
  generalize zFd p (run0 p inp fu) = q at *
  obtain ⟨a, S⟩ := q
  cases a <;> (simp only [zzd] at hm ⊢; omega)
 ·exact ⟨Int.le_refl _, h⟩
set_option maxHeartbeats 1000000 in
theorem follows_spec (a b : Rn) (ha : a.status = 0) (ho : a.out <+: b.out) (hl : a.out.length < 1099511627776) : zh E 23 [zfe a, zfe b] [] = some (.ret (.bool true), []) := by
 refine zc rfl rfl rfl (by simp [zfe]) ?_
 have hlen : (a.out.length <= b.out.length) = True := eqp ho.length_le
 have hlen2 : ((a.out.length : Int) <= b.out.length) = True := eqp (by have := ho.length_le; omega)
 have htk : b.out.take a.out.length = a.out := (List.prefix_iff_eq_take.1 ho).symm
 have hs := sameOut_spec a.out a.out hl hl
 have ht : outSame a.out a.out = true := by simp [outSame]
 rw [ht] at hs
 obtain ⟨st, co, ou, cs, fl⟩ := a
 obtain ⟨st2, co2, ou2, cs2, fl2⟩ := b
 simp only at *
 subst ha
 have htk2 : (ou2.map (PV.int .i64)).take ou.length = ou.map (PV.int .i64) := by rw [<- List.map_take, htk]
 clear ho hl ht htk
 simp [ints] at hs
 simp [*, F23, zfe, ints]
set_option maxHeartbeats 1000000 in
theorem evalMore_spec (l : List UInt8) (inp : List Int) (fu mo : Int) (hl : l.length <= 9223372036854775807) (hi : inp.length <= 9223372036854775807) (hf : 0 <= fu /\ fu <= 255) (hm : 0 <= mo /\ mo <= 255) : zh E 6 [u8s l, ints inp, .int .u8 fu, .int .u8 mo] [] = some (.ret (.bool true), []) := by
 refine zc rfl rfl rfl (by simp) ?_
 have ha := awake07_spec
 have hin := ins_spec inp hi
 have hw : zy .i64 fu = fu := zj (by omega) (by omega)
 have hwm : zy .i64 mo = mo := zj (by omega) (by omega)
 have hw2 : zy .i64 (2 * fu) = 2 * fu := zj (by omega) (by omega)
 have hw3 : zy .i64 (2 * fu + mo) = 2 * fu + mo := zj (by omega) (by omega)
 obtain ⟨r, st, hg, rfl, s, rfl⟩ := zSd.1 (good_of l hl)
 have hz := zCd s
 generalize (zva s).1 = p at *
 generalize inp.take 10 = i10 at *
 have h1 := zMa p hz i10 (2 * fu) (by omega)
 have h2 := zMa p hz i10 (2 * fu + mo) (by omega)
 have hsim := evalM_sim p i10 [] (2 * fu) mo.toNat (by omega) (by omega)
 have hmo : (mo.toNat : Int) = mo := by omega
 rw [hmo, List.append_nil] at hsim
 have hfl := evalM_fuel p i10 (2 * fu) (by omega)
 have ho := evalM_out p i10 (2 * fu) (by omega)
 have ho2 := evalM_out p i10 (2 * fu + mo) (by omega)
 obtain ⟨hs0, hs⟩ := hsim
 generalize zbb p i10 (2 * fu) = a at *
 generalize zbb p i10 (2 * fu + mo) = b at *
 have hw4 : zy .i64 (a.fuel + mo) = a.fuel + mo := zj (by omega) (by omega)
 obtain ⟨ar, fs⟩ := p
 by_cases h0 : a.status = 0
 ·have hpre : a.out <+: b.out /\ a.cost <= b.cost := by
   rcases hs with h | h | h
   ·subst h; exact ⟨List.prefix_refl _, Int.le_refl _⟩
   ·rw [h.1]; exact ⟨List.prefix_refl _, Int.le_refl _⟩
   ·exact h.2
  have hfo := follows_spec a b h0 hpre.1 ho
  have hcs := eqp hpre.2
  replace hs0 := hs0 h0
  clear hs hpre hl hi hf hm ho ho2 hfl hz hw4 hmo
  obtain ⟨st, co, ou, cs, fl⟩ := a
  obtain ⟨st2, co2, ou2, cs2, fl2⟩ := b
  simp only at *
  subst h0 hs0
  simp [zfe, zg, ints] at h1 h2 hfo hg hin
  simp [*, F6, ints]
 ·have hb : b = { a with fuel := a.fuel + mo } := by
   rcases hs with h | h | h
   ·exact h
   ·exact absurd h.2 h0
   ·rcases h.1 with h | h
    ·exact absurd h.1 h0
    ·exact absurd rfl h.2
  subst hb
  have hsame := sameR_spec { a with fuel := a.fuel + mo } { a with fuel := a.fuel + mo } ho ho
  rw [sameRn_self] at hsame
  replace h0 := eqn h0
  clear hs hs0 hl hi hf hm ho ho2 hfl hz hmo
  obtain ⟨st, co, ou, cs, fl⟩ := a
  simp only at *
  simp [zfe, zg, ints] at h1 h2 hsame hg hin
  simp [*, F6, ints]
end PE.U

namespace PE.U
open Go PE
set_option maxHeartbeats 1000000 in
theorem evalReads_spec (l : List UInt8) (inp mor : List Int) (fu : Int) (hl : l.length <= 9223372036854775807) (hi : inp.length <= 9223372036854775807) (hm : mor.length <= 9223372036854775807) (hf : 0 <= fu /\ fu <= 255) : zh E 7 [u8s l, ints inp, ints mor, .int .u8 fu] [] = some (.ret (.bool true), []) := by
 refine zc rfl rfl rfl (by simp) ?_
 have ha := awake07_spec
 have hin := ins_spec inp hi
 have him := ins_spec mor hm
 have hw : zy .i64 fu = fu := zj (by omega) (by omega)
 have hw2 : zy .i64 (2 * fu) = 2 * fu := zj (by omega) (by omega)
 obtain ⟨r, st, hg, rfl, s, rfl⟩ := zSd.1 (good_of l hl)
 have hz := zCd s
 generalize (zva s).1 = p at *
 have hl1 : (inp.take 10).length <= 10 := by simp only [List.length_take]; omega
 have hl2 : (mor.take 10).length <= 10 := by simp only [List.length_take]; omega
 generalize inp.take 10 = i10 at *
 generalize mor.take 10 = m10 at *
 have h1 := zMa p hz i10 (2 * fu) (by omega)
 have h2 := zMa p hz (i10 ++ m10) (2 * fu) (by omega)
 obtain ⟨hs0, hs⟩ := evalM_sim p i10 m10 (2 * fu) 0 (by omega) (by omega)
 have e1 : (2 * fu + ((0 : Nat) : Int)) = 2 * fu := by omega
 rw [e1] at hs
 have ho := evalM_out p i10 (2 * fu) (by omega)
 generalize zbb p i10 (2 * fu) = a at *
 generalize zbb p (i10 ++ m10) (2 * fu) = b at *
 obtain ⟨ar, fs⟩ := p
 have r1 : i10.length * 8 <= zL := by simp only [zL]; omega
 have r2 : (i10.length + m10.length) * 8 <= zL := by simp only [zL]; omega
 by_cases h4 : a.status = 4
 ·clear hs hs0 hl hi hm hf ho hz e1 hl1 hl2
  obtain ⟨st, co, ou, cs, fl⟩ := a
  simp only at h4
  subst h4
  simp [zfe, zg, ints] at h1 h2 hg hin him
  simp [*, F7, ints]
 ·have hb : b = a := by
   rcases hs with h | h | h
   ·rw [h]; simp
   ·exact h.1
   ·rcases h.1 with h | h
    ·omega
    ·exact absurd h.1 h4
  subst hb
  have hsame := sameR_spec b b ho ho
  rw [sameRn_self] at hsame
  replace h4 := eqn h4
  clear hs hs0 hl hi hm hf ho hz e1 hl1 hl2
  obtain ⟨st, co, ou, cs, fl⟩ := b
  simp only at *
  simp [zfe, zg, ints] at h1 h2 hg hin him hsame
  simp [*, F7, ints]
end PE.U

namespace PE
open Go Go.RowKit
def Kept (w w' : World) : Prop := Grown w w' /\ ∀ k, k < w.heap.size -> w'.heap[k]? = w.heap[k]?
theorem kept_of_ext {w w' : World} {G' : Gh} {st' : zd} (h : Ext (gh0 w) [] w G' st' w') : Kept w w' :=
 ⟨grown_of_ext h, fun k hk => (h.prot k (by simp [gh0, hk])).2.2⟩
theorem Kept.same {W w' : World} (h : Kept W w') {p : MemPlace} (hp : p.block < W.heap.size) : W.sameAt w' p := by
 cases p with
 | cell b o => exact World.cell?_of_block (w := W) (h.2 b hp)
 | map b => exact h.2 b hp
theorem Kept.trod {H : Type} {enc : TypeId × Value -> H} {P : Program} {t : TypeId} (hl : laidOutB P = true) (hr : P.readableRec t = true) (hrow : t < P.types.size) {W W' : World} {v : Value} {d : DataW H} {ps : List MemPlace}
  (h : DataW.Trod enc P W 0 (fun _ => true) true t v d ps) (hb : Kept W W') (hlt : ∀ x ∈ ps, x.block < W.heap.size) :
  DataW.Trod enc P W' 0 (fun b => decide (b < W.heap.size)) true t v d ps :=
 WideElems.Trod_stays hl hr hrow h (fun x hx => hb.same (hlt x hx)) (fun x hx => by simpa using hlt x hx)
theorem walk_kept {P : Program} {E : Env} (hE : EnvOk P E) {f : Nat} {args : List PV} {margs : Array Value} {w : World} {st' : zd}
  (h : zh E f args [] = some (.ret (.bool true), st')) (hsz : margs.size = args.length)
  (hv : ∀ (j : Nat) c x, args[j]? = some c -> margs[j]? = some x -> VR ((gh0 w).im w) (fun _ => none) c x) :
  Calls P f margs w fun e w' => e = .returned (.bool true) /\ Kept w w' := by
 obtain ⟨n, hn⟩ := zPc.1 h
 have hloc : zk (gh0 w).lc [] = fun _ => none := by funext l; simp [zk]
 refine ((callF_good hE n _ _ _ _ _ hn (gh0 w) w margs rfl (gh0_sim w) hsz (by rw [hloc]; exact hv)).2).mono ?_
 intro e w' he
 cases e with
 | returned mv =>
  obtain ⟨G', q1, q2, q3⟩ := he
  exact ⟨by rw [VR.bool_inv q3], kept_of_ext q2⟩
 | panicked ch => exact he.elim
 | outgrown => exact he.elim
def IsRow (k : IntKind) (w : World) (a : Option Addr) (len cap : Nat) (zs : List Int) : Prop :=
 (a = none /\ len = 0 /\ cap = 0 /\ zs = []) ∨
 ∃ x, a = some x /\ len <= cap /\ cap <= maxLen /\ zs.length = cap /\ (∀ i, i < zs.length -> w.cell? (x.add i) = some (.int k (zs.getD i 0))) /\ ∀ n ∈ zs, (Lit.int k n).wf = true
theorem row_vr {k : IntKind} {w : World} {a : Option Addr} {len cap : Nat} {zs : List Int} (h : IsRow k w a len cap zs) : VR ((gh0 w).im w) (fun _ => none) (.slice .plain 1 ((zs.take len).map (PV.int k))) (.slice a len cap) := by
 rcases h with ⟨rfl, rfl, rfl, rfl⟩ | ⟨x, rfl, hl, hm, hz, hcell, hwz⟩
 ·exact .slice0 _ _ _ _ (by simp) (by simp)
 ·by_cases h0 : len = 0
  ·subst h0
   exact .slice0 _ _ _ _ (by simp) (by simp)
  ·obtain ⟨b, off, spot⟩ := x
   have hc := hcell 0 (by omega)
   have hspot : spot = none := by simpa [Addr.add] using World.cell?_spot hc
   subst hspot
   have hlen : ((zs.take len).map (PV.int k)).length = len := by simp; omega
   have hget : ∀ (i : Nat) e, ((zs.take len).map (PV.int k))[i]? = some e -> i < len /\ e = .int k (zs.getD i 0) := by
    intro i e he
    rw [List.getElem?_map, Option.map_eq_some_iff] at he
    obtain ⟨n, hn, rfl⟩ := he
    rw [List.getElem?_take] at hn
    split at hn
    ·rename_i hi
     refine ⟨hi, ?_⟩
     rw [List.getD_eq_getElem?_getD, hn]; rfl
    ·cases hn
   have := VR.slice (I := (gh0 w).im w) (L := fun _ => none) (k := .plain) (sz := 1) (l := (zs.take len).map (PV.int k)) (b := b) (o := off) (cap := cap)
    (by simp) (by simp) (by rw [hlen]; exact hl) (fun i _ => .int k (zs.getD i 0)) ?_ ?_ ?_
   ·rw [hlen] at this; exact this
   ·intro i e he
    obtain ⟨_, rfl⟩ := hget i e he
    exact ⟨rfl, rfl⟩
   ·intro i e j c he hc
    obtain ⟨hi, rfl⟩ := hget i e he
    cases j with
    | zero =>
     refine ⟨gh0_im ?_, rfl⟩
     have := hcell i (by omega)
     have e : (⟨b, off, none⟩ : Addr).add i = ⟨b, off + i * 1 + 0, none⟩ := by
      unfold Addr.add
      by_cases hi0 : i = 0 <;> simp [hi0]
     rw [<- e]; exact this
    | succ j => simp [cellsOf] at hc
   ·intro i e j c he hc
    obtain ⟨hi, rfl⟩ := hget i e he
    cases j with
    | zero => simp [cellsOf] at hc; subst hc; exact .int _ _
    | succ j => simp [cellsOf] at hc
theorem row_len {k : IntKind} {w : World} {a : Option Addr} {len cap : Nat} {zs : List Int} (h : IsRow k w a len cap zs) : (zs.take len).length <= maxLen := by
 rcases h with ⟨rfl, rfl, rfl, rfl⟩ | ⟨x, rfl, hl, hm, hz, hcell, hwz⟩
 ·simp
 ·rw [List.length_take]; omega
def bytesOf (zs : List Int) : List UInt8 := zs.map fun n => UInt8.ofNat n.toNat
theorem row_u8 {w : World} {a : Option Addr} {len cap : Nat} {zs : List Int} (h : IsRow .u8 w a len cap zs) : VR ((gh0 w).im w) (fun _ => none) (.slice .plain 1 ((bytesOf (zs.take len)).map fun b => .int .u8 b.toNat)) (.slice a len cap) := by
 have hv := row_vr h
 have : (bytesOf (zs.take len)).map (fun b => PV.int .u8 b.toNat) = (zs.take len).map (PV.int .u8) := by
  unfold bytesOf
  rw [List.map_map]
  apply List.map_congr_left
  intro n hn
  have hwf : (Lit.int .u8 n).wf = true := by
   rcases h with ⟨rfl, rfl, rfl, rfl⟩ | ⟨x, rfl, hl, hm, hz, hcell, hwz⟩
   ·simp at hn
   ·exact hwz n (List.mem_of_mem_take hn)
  have hb : 0 <= n /\ n <= 255 := by
   simp only [Lit.wf, Bool.and_eq_true, decide_eq_true_eq] at hwf
   exact hwf
  simp only [Function.comp_apply, PV.int.injEq, true_and]
  have : (UInt8.ofNat n.toNat).toNat = n.toNat := by
   rw [UInt8.toNat_ofNat']; omega
  omega
 rw [this]; exact hv
theorem bytes_len {w : World} {a : Option Addr} {len cap : Nat} {zs : List Int} (h : IsRow .u8 w a len cap zs) : (bytesOf (zs.take len)).length <= maxLen := by
 unfold bytesOf; rw [List.length_map]; exact row_len h
theorem str_vr (I : Im) (L : Loc) {b : ByteArray} : VR I L (.str b.data.toList) (.string b) := VR.str b.data.toList
theorem str_len {b : ByteArray} (h : b.size <= maxLen) : b.data.toList.length <= maxLen := by
 rw [Array.length_toList]; exact h
theorem maxLen_eq : maxLen = 9223372036854775807 := by decide
end PE
