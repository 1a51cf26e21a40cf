/-
  Texts joined by program: A4P25, A4P26, A4P27, A4P28, A4G8, A4G9, A4L4, A4L5, A4T1, A4T2, A4T3, A4T4, A4P29, PfHand, A4G10, A4D2, A4S1, A4G11, A4G12, A4Z4, PfEnd, PfRead.
-/
import Derived.Test.YthkagfbknifmmaaGreatDoorB04
import Derived.WalkKit
import Derived.ProofKit
import Derived.OpenShut
import Derived.ShutString
import Derived.ChangeOld
import Derived.Below
set_option linter.unusedVariables false
set_option linter.unusedSectionVars false
set_option linter.unusedSimpArgs false
namespace PE.U
open Go PE
def Short (T : List Tok) (M : Nat) : Prop := 8 <= M /\ ∀ t ∈ T, t.text.length + 8 <= M
theorem short_text {T : List Tok} {M : Nat} {k : Int} {p : PS} (I : Inv1 T p) (h : Short T M) : (zy T k p).1.length + 8 <= M := by
 unfold zy
 split
 ·simpa using h.1
 ·split
  ·refine h.2 _ ?_
   rw [<- zjd I.lt]; exact List.getElem_mem I.lt
  ·simpa using h.1
def wa (M : Nat) (p : PS) : Nat := M * p.at'
theorem zzb (M : Nat) (p : PS) : wa M (adv p) = wa M p + M := Nat.mul_succ _ _
theorem zxb {M : Nat} {p q : PS} (h : Fw p q) : wa M p <= wa M q := Nat.mul_le_mul_left _ h.1
structure Light (T : List Tok) (M n : Nat) : Prop where
 primary : ∀ d p v p', Inv1 T p -> zxa T n d p = some (v, p') -> Inv1 T p' /\ Fw p p' /\ wtE v + 2 * wa M p <= 2 * wa M p' + M
 unary : ∀ d p v p', Inv1 T p -> zJb T n d p = some (v, p') -> Inv1 T p' /\ Fw p p' /\ wtE v + 2 * wa M p <= 2 * wa M p' + M
 expr : ∀ L d p v p', Inv1 T p -> zsa T n L d p = some (v, p') -> Inv1 T p' /\ Fw p p' /\ wtE v + 2 * wa M p <= 2 * wa M p' + M
 loop : ∀ L d a p v p', Inv1 T p -> zU T n L d a p = some (v, p') -> ∀ k : Nat, wtE a + k <= 2 * wa M p + M -> Inv1 T p' /\ Fw p p' /\ wtE v + k <= 2 * wa M p' + M
 args : ∀ d p v p', Inv1 T p -> zhd T n d p = some (v, p') -> Inv1 T p' /\ Fw p p' /\ wtEs v + 2 * wa M p <= 2 * wa M p' + 2 * M
 al : ∀ d l (f : Bool) p v p', Inv1 T p -> zP T n d l f p = some (v, p') -> ∀ k : Nat, wtEs l + k <= 2 * wa M p + (if f then 0 else 2 * M) -> Inv1 T p' /\ Fw p p' /\ wtEs v + k <= 2 * wa M p' + 2 * M
theorem light_of {T : List Tok} {M n : Nat} (hS : Short T M) (E : Light T M n) : Light T M (n + 1) := by
 have h8 := hS.1
 refine ⟨?_, ?_, ?_, ?_, ?_, ?_⟩
 ·intro d p v p' I h
  simp only [zxa] at h
  split at h
  ·cases h; exact ⟨I, Fw.refl _, by simp [wtE, wtEs]; omega⟩
  split at h
  ·rename_i hc
   split at h
   ·cases h
   ·rename_i q hq
    cases h
    obtain ⟨I', F, W⟩ := E.expr _ _ _ _ _ (I.adv _ hc) hq
    have := zzb M p
    have := zxb (M := M) (zq T [41] q.2)
    exact ⟨I'.must _, ((zN p).trans F).trans (zq _ _ _), by omega⟩
  split at h
  ·rename_i hc; cases h
   have := zzb M p
   exact ⟨I.adv _ hc, zN p, by simp [wtE, wtEs]; omega⟩
  split at h
  ·rename_i hc; cases h
   have := zzb M p
   exact ⟨I.adv _ hc, zN p, by simp [wtE, wtEs]; omega⟩
  split at h
  ·rename_i hc; cases h
   have F := ((zN p).trans (zq T [40] _)).trans (zq T [41] _)
   have := zxb (M := M) F
   exact ⟨((I.adv _ hc).must _).must _, F, by simp [wtE, wtEs]; omega⟩
  split at h
  ·rename_i hc; cases h
   have := zzb M p
   exact ⟨I.next (by rw [hc]; decide) _ _, zN p, by simp [wtE, wtEs]; omega⟩
  have I1 := I.text 1 (by decide)
  have F1 := zQb T 1 p
  have w1 := zxb (M := M) F1
  have hs := short_text (k := 1) I hS
  split at h
  ·rename_i hc
   split at h
   ·cases h
   ·rename_i q hq
    cases h
    obtain ⟨I', F, W⟩ := E.args _ _ _ _ (I1.adv _ hc) hq
    have := zzb M (zy T 1 p).2
    exact ⟨I', (F1.trans (zN _)).trans F, by simp only [wtE]; omega⟩
  split at h
  ·rename_i hc
   split at h
   ·cases h
   ·rename_i q hq
    cases h
    obtain ⟨I', F, W⟩ := E.expr _ _ _ _ _ (I1.adv _ hc) hq
    have := zzb M (zy T 1 p).2
    have := zxb (M := M) (zq T [93] q.2)
    exact ⟨I'.must _, ((F1.trans (zN _)).trans F).trans (zq _ _ _), by simp only [wtE, wtEs]; omega⟩
  ·cases h
   exact ⟨I1, F1, by simp only [wtE, wtEs]; omega⟩
 ·intro d p v p' I h
  simp only [zJb] at h
  have I1 := I.deepF d
  have F1 := fw_deepF d p
  have w1 := zxb (M := M) F1
  cases hu : unF T (deepF d p) with
  | none =>
   rw [hu] at h
   obtain ⟨I', F, W⟩ := E.primary _ _ _ _ I1 h
   exact ⟨I', F1.trans F, by omega⟩
  | some i =>
   rw [hu] at h
   simp only at h
   have hi : isF T (zOb ((i + 20 : Nat) : Int)) (deepF d p) = true := (unF_get hu).2.1
   have := zzb M (deepF d p)
   split at h
   ·split at h
    ·cases h
    ·rename_i q hq
     cases h
     have F2 := zq T [40] (adv (deepF d p))
     have := zxb (M := M) F2
     obtain ⟨I', F, W⟩ := E.expr _ _ _ _ _ ((I1.adv _ hi).must _) hq
     have := zxb (M := M) (zq T [41] q.2)
     exact ⟨I'.must _, (((F1.trans (zN _)).trans F2).trans F).trans (zq _ _ _), by simp only [wtE, wtEs, List.length_nil]; omega⟩
   ·split at h
    ·cases h
    ·rename_i q hq
     cases h
     obtain ⟨I', F, W⟩ := E.unary _ _ _ _ (I1.adv _ hi) hq
     exact ⟨I', (F1.trans (zN _)).trans F, by simp only [wtE, wtEs, List.length_nil]; omega⟩
 ·intro L d p v p' I h
  simp only [zsa] at h
  split at h
  ·exact E.unary _ _ _ _ I h
  ·split at h
   ·cases h
   ·rename_i q hq
    obtain ⟨I', F, W⟩ := E.expr _ _ _ _ _ I hq
    obtain ⟨I2, F2, W2⟩ := E.loop _ _ _ _ _ _ I' h (2 * wa M p) W
    exact ⟨I2, F.trans F2, W2⟩
 ·intro L d a p v p' I h k hk
  simp only [zU] at h
  split at h
  ·cases h; exact ⟨I, Fw.refl _, hk⟩
  ·rename_i hne
   obtain ⟨s, hs⟩ := opF_pos hne
   have := zzb M p
   split at h
   ·cases h
   ·rename_i q hq
    obtain ⟨I', F, W⟩ := E.expr _ _ _ _ _ (I.adv _ hs) hq
    obtain ⟨I2, F2, W2⟩ := E.loop _ _ _ _ _ _ I' h k (by simp only [wtE, wtEs, List.length_nil]; omega)
    exact ⟨I2, ((zN p).trans F).trans F2, W2⟩
 ·intro d p v p' I h
  simp only [zhd] at h
  split at h
  ·rename_i hc; cases h
   have := zzb M p
   exact ⟨I.adv _ hc, zN p, by simp only [wtEs]; omega⟩
  ·split at h
   ·cases h
   ·rename_i q hq
    cases h
    obtain ⟨I', F, W⟩ := E.al _ _ _ _ _ _ I hq (2 * wa M p) (by simp [wtEs])
    have := zxb (M := M) (zq T [41] q.2)
    exact ⟨I'.must _, F.trans (zq _ _ _), by omega⟩
 ·intro d l f p v p' I h k hk
  simp only [zP] at h
  have fin : ∀ q : PS, Inv1 T q -> Fw p q -> wtEs l + k + (if f then 0 else M + 1) <= 2 * wa M q + (if f then 0 else M + 1) -> (f = false -> wtEs l + k <= 2 * wa M q) -> (if zk q then some (l, q) else match zsa T n 1 d q with | none => none | some x => zP T n d (l ++ [x.1]) false x.2) = some (v, p') -> Inv1 T p' /\ Fw p p' /\ wtEs v + k <= 2 * wa M p' + 2 * M := by
   intro q Iq Fq hq hq2 h
   have hq3 : wtEs l + k <= 2 * wa M q := by cases f <;> simp at hq <;> omega
   split at h
   ·cases h; exact ⟨Iq, Fq, by omega⟩
   ·split at h
    ·cases h
    ·rename_i x hx
     obtain ⟨I', F, W⟩ := E.expr _ _ _ _ _ Iq hx
     obtain ⟨I2, F2, W2⟩ := E.al _ _ _ _ _ _ I' h k (by rw [wtEs_append]; simp [wtEs]; omega)
     exact ⟨I2, (Fq.trans F).trans F2, W2⟩
  cases f
  ·cases c2 : isF T [44] p
   ·rw [c2] at h
    simp at h hk
    obtain ⟨rfl, rfl⟩ := h
    exact ⟨I, Fw.refl _, by omega⟩
   ·have := zzb M p
    rw [c2] at h
    simp at hk
    exact fin (adv p) (I.adv _ c2) (zN p) (by simp; omega) (fun _ => by omega) h
  ·simp at hk
   exact fin p I (Fw.refl _) (by simp; omega) (fun h => by cases h) h
theorem light {T : List Tok} {M : Nat} (hS : Short T M) : ∀ n, Light T M n
 | 0 => ⟨fun _ _ _ _ _ h => by simp [zxa] at h, fun _ _ _ _ _ h => by simp [zJb] at h, fun _ _ _ _ _ _ h => by simp [zsa] at h, fun _ _ _ _ _ _ _ h => by simp [zU] at h, fun _ _ _ _ _ h => by simp [zhd] at h, fun _ _ _ _ _ _ _ h => by simp [zP] at h⟩
 | n + 1 => light_of hS (light hS n)
end PE.U

namespace PE.U
open Go PE
section
variable {T : List Tok} {M : Nat}
theorem light1 (hS : Short T M) {n : Nat} {p p' : PS} {v : Expr} (I : Inv1 T p) (h : zsa T n 1 1 p = some (v, p')) : Inv1 T p' /\ Fw p p' /\ wtE v + 2 * wa M p <= 2 * wa M p' + M := (light hS n).expr _ _ _ _ _ I h
theorem lightI (hS : Short T M) {n : Nat} {p p' : PS} {v : Expr} (I : Inv1 T p) (h : zHb T n p = some (v, p')) : Inv1 T p' /\ Fw p p' /\ wtE v + 2 * wa M p <= 2 * wa M p' + M := by
 unfold zHb at h
 split at h
 ·cases h
 ·rename_i q hq
  cases h
  obtain ⟨I', F, W⟩ := light1 hS (I.must _) hq
  have := zxb (M := M) (zq T [40] p)
  have := zxb (M := M) (zq T [41] q.2)
  exact ⟨I'.must _, ((zq _ _ _).trans F).trans (zq _ _ _), by omega⟩
theorem lightN (hS : Short T M) {n : Nat} {p p' : PS} {v : Stmt} (I : Inv1 T p) (h : zbd T n p = some (v, p')) : Inv1 T p' /\ Fw p p' /\ wtS v + 2 * wa M p <= 2 * wa M p' + 3 * M := by
 unfold zbd at h
 have h8 := hS.1
 have I1 := I.text 1 (by decide)
 have F1 := zQb T 1 p
 have w1 := zxb (M := M) F1
 have hs := short_text (k := 1) I hS
 split at h
 ·rename_i hc
  split at h
  ·cases h
  ·rename_i q hq
   cases h
   obtain ⟨I', F, W⟩ := (light hS n).args _ _ _ _ (I1.adv _ hc) hq
   have := zzb M (zy T 1 p).2
   exact ⟨I', (F1.trans (zN _)).trans F, by simp only [wtS, wtE, wtEs, wtSs, List.length_nil]; omega⟩
 split at h
 ·rename_i hc
  split at h
  ·cases h
  ·rename_i q hq
   obtain ⟨I', F, W⟩ := light1 hS (I1.adv _ hc) hq
   have := zzb M (zy T 1 p).2
   have F2 := (zq T [93] q.2).trans (zq T [61] _)
   have := zxb (M := M) F2
   split at h
   ·cases h
   ·rename_i r hr
    cases h
    obtain ⟨I2, F3, W2⟩ := light1 hS ((I'.must [93]).must [61]) hr
    exact ⟨I2, (((F1.trans (zN _)).trans F).trans F2).trans F3, by simp only [wtS, wtE, wtEs, wtSs, List.length_nil]; omega⟩
 ·split at h
  ·cases h
  ·rename_i q hq
   cases h
   obtain ⟨I', F, W⟩ := light1 hS (I1.must _) hq
   have := zxb (M := M) (zq T [61] (zy T 1 p).2)
   exact ⟨I', (F1.trans (zq _ _ _)).trans F, by simp only [wtS, wtE, wtEs, wtSs, List.length_nil]; omega⟩
end
end PE.U

namespace PE.U
open Go PE
def ovM (M : Nat) (p : PS) : Nat := if zk p then 8 * M else 0
theorem ovM_le (M : Nat) (p : PS) : ovM M p <= 8 * M := by unfold ovM; split <;> omega
theorem ovM_fw {M : Nat} {p q : PS} (h : Fw p q) : ovM M p <= ovM M q := by
 unfold ovM
 cases ho : zk p
 ·simp
 ·rw [h.2 ho]; exact Nat.le_refl _
theorem go_wa {M : Nat} {p q : PS} (h : Go1 p q) : wa M p + M <= wa M q \/ ovM M q = 8 * M := by
 rcases h with h | h
 ·left
  unfold wa
  have := Nat.mul_le_mul_left M h
  rw [Nat.mul_succ] at this
  exact this
 ·right
  unfold ovM; rw [if_pos h]
theorem named_go {T : List Tok} {M n : Nat} {p p' : PS} {v : Stmt} (hS : Short T M) (I : Inv1 T p) (h : zbd T n p = some (v, p')) : Go1 p p' := by
 unfold zbd at h
 have I1 := I.text 1 (by decide)
 have F1 := zQb T 1 p
 have G1 := text_go (T := T) (k := 1) (p := p)
 split at h
 ·rename_i hc
  split at h
  ·cases h
  ·rename_i q hq
   cases h
   obtain ⟨I', F, W⟩ := (light hS n).args _ _ _ _ (I1.adv _ hc) hq
   exact G1.fw ((zN _).trans F)
 split at h
 ·rename_i hc
  split at h
  ·cases h
  ·rename_i q hq
   obtain ⟨I', F, W⟩ := light1 hS (I1.adv _ hc) hq
   have F2 := (zq T [93] q.2).trans (zq T [61] _)
   split at h
   ·cases h
   ·rename_i r hr
    cases h
    obtain ⟨I2, F3, W2⟩ := light1 hS ((I'.must [93]).must [61]) hr
    exact G1.fw ((((zN _).trans F).trans F2).trans F3)
 ·split at h
  ·cases h
  ·rename_i q hq
   cases h
   obtain ⟨I', F, W⟩ := light1 hS (I1.must _) hq
   exact G1.fw ((zq _ _ _).trans F)
structure LightS (T : List Tok) (M n : Nat) : Prop where
 stmt : ∀ d p v p', Inv1 T p -> stmtF T n d p = some (v, p') -> Inv1 T p' /\ Fw p p' /\ wtS v + 1 + 8 * wa M p <= 8 * wa M p' + ovM M p'
 block : ∀ d l p v p', Inv1 T p -> zca T n d l p = some (v, p') -> ∀ k : Nat, wtSs l + k <= 8 * wa M p + ovM M p -> Inv1 T p' /\ Fw p p' /\ wtSs v + k <= 8 * wa M p' + ovM M p'
theorem lightS_of {T : List Tok} {M n : Nat} (hS : Short T M) (E : LightS T M n) : LightS T M (n + 1) := by
 have h8 := hS.1
 refine ⟨?_, ?_⟩
 ·intro d p v p' I0 h
  simp only [stmtF] at h
  have I := I0.deepS d
  have F0 := fw_deepS d p
  have w0 : wa M (deepS d p) = wa M p := by unfold wa deepS; split <;> rfl
  generalize deepS d p = q at *
  -- something is taken, and what is made weighs little
  have fin : ∀ r : PS, Fw q r -> Go1 q r -> ∀ W : Nat, W + 2 * wa M q <= 2 * wa M r + 4 * M -> Fw p r /\ W + 1 + 8 * wa M p <= 8 * wa M r + ovM M r := by
   intro r F G W hW
   refine ⟨F0.trans F, ?_⟩
   have := zxb (M := M) F
   rcases go_wa (M := M) G with g | g <;> omega
  split at h
  ·have G1 := typed_go (T := T) (p := q)
   have Ft := (fw_typed T q).trans (zQb T 1 _)
   have F1 := Ft.trans (zq T [61] _)
   have hs := short_text (k := 1) I.typed hS
   split at h
   ·cases h
   ·rename_i x hx
    cases h
    obtain ⟨I', F, W⟩ := light1 hS ((I.typed.text 1 (by decide)).must [61]) hx
    have F2 := zq T [59] x.2
    have := zxb (M := M) F1
    have := zxb (M := M) F2
    have := fin _ ((F1.trans F).trans F2) (G1.fw ((((zQb T 1 _).trans (zq T [61] _)).trans F).trans F2)) (wtS ⟨1, (zM T q).1, (zy T 1 (zM T q).2).1, [x.1], [], []⟩) (by simp only [wtS, wtEs, wtSs]; omega)
    exact ⟨I'.must _, this.1, this.2⟩
  split at h
  ·rename_i hc
   have wadv := zzb M q
   split at h
   ·cases h
   ·rename_i x hx
    obtain ⟨I', F, W⟩ := lightI hS (I.adv _ hc) hx
    have F2 := zq T [123] x.2
    have w2 := zxb (M := M) F2
    have w1 := zxb (M := M) F
    split at h
    ·cases h
    ·rename_i y hy
     obtain ⟨I2, F3, W3⟩ := E.block _ _ _ _ _ (I'.must [123]) hy (8 * wa M (zA T [123] x.2) + ovM M (zA T [123] x.2)) (by simp [wtSs])
     split at h
     ·rename_i hc2
      split at h
      ·cases h
      ·rename_i z hz
       cases h
       have F4 := (zN y.2).trans (zq T [123] _)
       have w4 := zxb (M := M) F4
       have o4 := ovM_fw (M := M) F4
       obtain ⟨I3, F5, W5⟩ := E.block _ _ _ _ _ ((I2.adv _ hc2).must [123]) hz (8 * wa M (zA T [123] (adv y.2)) + ovM M (zA T [123] (adv y.2))) (by simp [wtSs])
       have w5 := zxb (M := M) F5
       have w3 := zxb (M := M) F3
       exact ⟨I3, F0.trans ((((((zN q).trans F).trans F2).trans F3).trans F4).trans F5), by simp only [wtS, wtEs, List.length_nil]; omega⟩
     ·cases h
      have w3 := zxb (M := M) F3
      exact ⟨I2, F0.trans ((((zN q).trans F).trans F2).trans F3), by simp only [wtS, wtEs, wtSs, List.length_nil]; omega⟩
  split at h
  ·rename_i hc
   have wadv := zzb M q
   split at h
   ·cases h
   ·rename_i x hx
    obtain ⟨I', F, W⟩ := lightI hS (I.adv _ hc) hx
    have F2 := zq T [123] x.2
    have w2 := zxb (M := M) F2
    have w1 := zxb (M := M) F
    split at h
    ·cases h
    ·rename_i y hy
     obtain ⟨I2, F3, W3⟩ := E.block _ _ _ _ _ (I'.must [123]) hy (8 * wa M (zA T [123] x.2) + ovM M (zA T [123] x.2)) (by simp [wtSs])
     cases h
     have w3 := zxb (M := M) F3
     exact ⟨I2, F0.trans ((((zN q).trans F).trans F2).trans F3), by simp only [wtS, wtEs, wtSs, List.length_nil]; omega⟩
  split at h
  ·rename_i hc
   cases h
   have wadv := zzb M q
   have F2 := zq T [59] (adv q)
   have := zxb (M := M) F2
   have := fin _ ((zN q).trans F2) ((adv_go q).fw F2) (wtS ⟨6, 0, [], [], [], []⟩) (by simp only [wtS, wtEs, wtSs, List.length_nil]; omega)
   exact ⟨(I.adv _ hc).must _, this.1, this.2⟩
  split at h
  ·rename_i hc
   cases h
   have wadv := zzb M q
   have F2 := zq T [59] (adv q)
   have := zxb (M := M) F2
   have := fin _ ((zN q).trans F2) ((adv_go q).fw F2) (wtS ⟨7, 0, [], [], [], []⟩) (by simp only [wtS, wtEs, wtSs, List.length_nil]; omega)
   exact ⟨(I.adv _ hc).must _, this.1, this.2⟩
  split at h
  ·rename_i hc
   have wadv := zzb M q
   split at h
   ·cases h
   ·rename_i x hx
    cases h
    obtain ⟨I', F, W⟩ := light1 hS (I.adv _ hc) hx
    have F2 := zq T [59] x.2
    have := zxb (M := M) F2
    have := fin _ (((zN q).trans F).trans F2) ((adv_go q).fw (F.trans F2)) (wtS ⟨8, 0, [], [x.1], [], []⟩) (by simp only [wtS, wtEs, wtSs, List.length_nil]; omega)
    exact ⟨I'.must _, this.1, this.2⟩
  split at h
  ·rename_i hc
   have wadv := zzb M q
   split at h
   ·cases h
   ·rename_i x hx
    cases h
    obtain ⟨I', F, W⟩ := lightI hS (I.adv _ hc) hx
    have F2 := zq T [59] x.2
    have := zxb (M := M) F2
    have := fin _ (((zN q).trans F).trans F2) ((adv_go q).fw (F.trans F2)) (wtS ⟨9, 0, [], [x.1], [], []⟩) (by simp only [wtS, wtEs, wtSs, List.length_nil]; omega)
    exact ⟨I'.must _, this.1, this.2⟩
  ·split at h
   ·cases h
   ·rename_i x hx
    cases h
    obtain ⟨I', F, W⟩ := lightN hS I hx
    have G := named_go hS I hx
    have F2 := zq T [59] x.2
    have := zxb (M := M) F2
    have := fin _ (F.trans F2) (G.fw F2) (wtS x.1) (by omega)
    exact ⟨I'.must _, this.1, this.2⟩
 ·intro d l p v p' I h k hk
  simp only [zca] at h
  split at h
  ·cases h; exact ⟨I, Fw.refl _, hk⟩
  rename_i hno
  have ho0 : ovM M p = 0 := by unfold ovM; rw [if_neg hno]
  split at h
  ·rename_i hc
   cases h
   have := zzb M p
   exact ⟨I.adv _ hc, zN p, by omega⟩
  ·split at h
   ·cases h
   ·rename_i x hx
    obtain ⟨I', F, W⟩ := E.stmt _ _ _ _ I hx
    obtain ⟨I2, F2, W2⟩ := E.block _ _ _ _ _ I' h k (by rw [wtSs_append]; simp only [wtSs]; omega)
    exact ⟨I2, F.trans F2, W2⟩
theorem lightS {T : List Tok} {M : Nat} (hS : Short T M) : ∀ n, LightS T M n
 | 0 => ⟨fun _ _ _ _ _ h => by simp [stmtF] at h, fun _ _ _ _ _ _ h => by simp [zca] at h⟩
 | n + 1 => lightS_of hS (lightS hS n)
end PE.U

namespace PE.U
open Go PE
theorem tokGo_short (N : Nat) : ∀ n (q : List UInt8) line acc, q.length <= N -> (∀ t ∈ acc, t.text.length <= N) -> ∀ t ∈ (zma n q line acc).1, t.text.length <= N := by
 intro n
 induction n with
 | zero => intro q line acc hs ha; exact ha
 | succ n ih =>
  intro q line acc hs ha
  cases q with
  | nil =>
   simp only [zma]
   intro t ht
   rcases List.mem_append.1 ht with h | h
   ·exact ha t h
   ·rw [List.mem_singleton.1 h]; simp
  | cons b r =>
   simp only [List.length_cons] at hs
   simp only [zma]
   split
   ·exact ih _ _ _ (by omega) ha
   split
   ·exact ih _ _ _ (by omega) ha
   split
   ·refine ih _ _ _ ?_ ha
    rw [zIa, List.length_drop]; simp only [List.length_cons]; omega
   split
   ·split
    ·intro t ht; cases ht
    ·have hw2 := (List.takeWhile_prefix (l := b :: r) (p := zw)).length_le
     simp only [List.length_cons] at hw2
     refine ih _ _ _ (by rw [List.length_drop]; simp only [List.length_cons]; omega) ?_
     intro t ht
     rcases List.mem_append.1 ht with h | h
     ·exact ha t h
     ·rw [List.mem_singleton.1 h]; simp only; omega
   split
   ·intro t ht; cases ht
   ·have hp2 := sign_len (b :: r)
    simp only [List.length_cons] at hp2
    refine ih _ _ _ (by rw [List.length_drop]; simp only [List.length_cons]; omega) ?_
    intro t ht
    rcases List.mem_append.1 ht with h | h
    ·exact ha t h
    ·rw [List.mem_singleton.1 h]; simp only; omega
theorem tokens_short (s : List UInt8) : Short (zu s).1 100008 := by
 refine ⟨by decide, ?_⟩
 unfold zu
 split
 ·intro t ht; cases ht
 ·rename_i h
  intro t ht
  have := tokGo_short 100000 _ _ _ _ (by omega) (by simp) t ht
  omega
theorem tokens_count (s : List UInt8) (h : (zu s).2.1 = 0) : (zu s).1.length <= 100001 := by
 unfold zu at h ⊢
 split at h
 ·exact absurd h (by decide)
 rename_i hs
 rw [if_neg hs]
 obtain ⟨x1, x2, x3, x4⟩ := tokGo_ok (s.length + 1) s 1 [] (by omega) (by omega) (by simp) h
 simp at x2; omega
section
variable {T : List Tok} {M : Nat} (hS : Short T M)
theorem block_wt {n : Nat} {d : Int} {p p' : PS} {v : List Stmt} (hS : Short T M) (I : Inv1 T p) (h : zca T n d [] p = some (v, p')) : wtSs v <= 8 * (M * T.length) + 8 * M := by
 obtain ⟨I', F, W⟩ := (lightS hS n).block _ _ _ _ _ I h (8 * wa M p + ovM M p) (by simp [wtSs])
 have := ovM_le M p'
 have h2 : wa M p' <= M * T.length := Nat.mul_le_mul_left _ (Nat.le_of_lt I'.lt)
 omega
theorem params_len : ∀ n l (f : Bool) p v p', zaa T n l f p = some (v, p') -> v.length <= l.length + n := by
 intro n
 induction n with
 | zero => intro l f p v p' h; simp [zaa] at h
 | succ n ih =>
  intro l f p v p' h
  simp only [zaa] at h
  by_cases hc : (f || isF T [44] p) = true
  ·rw [if_pos hc] at h
   generalize (if f = true then p else adv p) = q at h
   split at h
   ·cases h; omega
   ·have := ih _ _ _ _ _ h
    simp only [List.length_append, List.length_cons, List.length_nil] at this
    omega
  ·rw [if_neg hc] at h; cases h; omega
theorem function_wt {n : Nat} {t : Int} {s : List UInt8} {p p' : PS} {v : Func} (hS : Short T M) (I : Inv1 T p) (h : zZa T n t s p = some (v, p')) : wtSs v.body <= 8 * (M * T.length) + 8 * M /\ v.params.length <= n := by
 unfold zZa at h
 have I1 := I.must [40]
 split at h
 ·rename_i hc
  split at h
  ·cases h
  ·rename_i q hq
   cases h
   exact ⟨block_wt hS ((I1.adv _ hc).must _) hq, by simp⟩
 ·split at h
  ·cases h
  ·rename_i r hr
   have Ir := paramsF_inv _ _ _ _ _ _ hr I1
   have hl := params_len _ _ _ _ _ _ hr
   split at h
   ·cases h
   ·rename_i q hq
    cases h
    exact ⟨block_wt hS ((Ir.must _).must _) hq, by simpa using hl⟩
theorem prog_wt (hS : Short T M) : ∀ n ars fs p v p', n <= 999999980 -> Inv1 T p -> zgc T n ars fs p = some (v, p') -> ∀ B : Nat, n <= B →
  (∀ f ∈ fs, wtSs f.body <= 8 * (M * T.length) + 8 * M /\ f.params.length <= B) →
  v.arrays.length <= ars.length + n /\ v.funcs.length <= fs.length + n /\ ∀ f ∈ v.funcs, wtSs f.body <= 8 * (M * T.length) + 8 * M /\ f.params.length <= B := by
 intro n
 induction n with
 | zero => intro ars fs p v p' _ I h; simp [zgc] at h
 | succ n ih =>
  intro ars fs p v p' hn I h B hB hf
  simp only [zgc] at h
  have I2 := I.typed.text 1 (by decide)
  split at h
  ·cases h; exact ⟨Nat.le_add_right _ _, Nat.le_add_right _ _, hf⟩
  split at h
  ·cases h; exact ⟨Nat.le_add_right _ _, Nat.le_add_right _ _, hf⟩
  split at h
  ·rename_i hc
   have I3 := (((I2.adv _ hc.2.2).text 0 (by decide)).must [93]).must [59]
   obtain ⟨a1, a2, a3⟩ := ih _ _ _ _ _ (by omega) I3 h B (by omega) hf
   simp only [List.length_append, List.length_cons, List.length_nil] at a1
   exact ⟨by omega, by omega, a3⟩
  ·split at h
   ·cases h
   ·rename_i q hq
    have I3 := (zic hq I2 (by omega)).2
    have hw := function_wt hS I2 hq
    obtain ⟨a1, a2, a3⟩ := ih _ _ _ _ _ (by omega) I3 h B (by omega) (by
     intro f hff
     rcases List.mem_append.1 hff with h' | h'
     ·exact hf f h'
     ·rw [List.mem_singleton.1 h']; exact ⟨hw.1, by omega⟩)
    simp only [List.length_append, List.length_cons, List.length_nil] at a2
    exact ⟨by omega, by omega, a3⟩
end
theorem parse_sz (s : List UInt8) (h0 : (zu s).2.1 = 0) {v : Prog} {p' : PS} (h : zgc (zu s).1 (fuel (zu s).1) [] [] ⟨0, false, false⟩ = some (v, p')) : PSz v := by
 have I := tokens_inv s h0
 have hc := tokens_count s h0
 have hS := tokens_short s
 have hf : fuel (zu s).1 <= 6400164 := by unfold fuel; omega
 obtain ⟨a1, a2, a3⟩ := prog_wt hS _ _ _ _ _ _ (by omega) I h (fuel (zu s).1) (Nat.le_refl _) (by simp)
 simp only [List.length_nil] at a1 a2
 have hm : 100008 * (zu s).1.length <= 100008 * 100001 := Nat.mul_le_mul_left _ hc
 refine ⟨by omega, by omega, fun f hff => ?_⟩
 obtain ⟨b1, b2⟩ := a3 f hff
 exact ⟨by omega, by omega⟩
theorem parse_run (s : List UInt8) (h0 : (zu s).2.1 = 0) : ∃ v p', zgc (zu s).1 (fuel (zu s).1) [] [] ⟨0, false, false⟩ = some (v, p') /\ Inv1 (zu s).1 p' /\ PSz v := by
 have I := tokens_inv s h0
 obtain ⟨v, p', e, I'⟩ := prog_enough (fuel (zu s).1) [] [] _ I (Or.inl (by unfold fuel left; omega))
 exact ⟨v, p', e, I', parse_sz s h0 e⟩
end PE.U

namespace PE.U
open Go PE
theorem deepS_no {d : Int} {p : PS} (h : ¬ 100 < d) : deepS d p = p := by unfold deepS; rw [if_neg h]
theorem zRb {T : List Tok} {n : Nat} {d : Int} {l : List Stmt} {p p' : PS} {v : List Stmt} (h : zca T n d l p = some (v, p')) (ho : zk p = true) : v = l /\ p' = p := by
 cases n with
 | zero => simp [zca] at h
 | succ n =>
  simp only [zca] at h
  rw [if_pos ho] at h
  exact ⟨(Prod.mk.inj (Option.some.inj h)).1.symm, (Prod.mk.inj (Option.some.inj h)).2.symm⟩
theorem block_inv {T : List Tok} : ∀ (n : Nat) {d : Int} {l : List Stmt} {p p' : PS} {v : List Stmt}, zca T n d l p = some (v, p') -> Inv1 T p -> 0 <= d -> d + n <= 999999990 -> Inv1 T p'
 | 0, d, l, p, p', v, h, _, _, _ => by simp [zca] at h
 | n + 1, d, l, p, p', v, h, I, hd, hn => by
  simp only [zca] at h
  split at h
  ·cases h; exact I
  split at h
  ·rename_i c; cases h; exact I.adv _ c
  split at h
  ·cases h
  ·rename_i q hq
   obtain ⟨s, p1⟩ := q
   exact block_inv n h ((sspec T n).stmt d p s p1 hq I hd (by omega)).2 hd (by omega)
def ifF (T : List Tok) (n : Nat) (d : Int) (p : PS) : Option (Stmt × PS) :=
 match zHb T n (adv p) with
 | none => none
 | some q => match zca T n (d + 1) [] (zA T [123] q.2) with
  | none => none
  | some r =>
   if isF T [101, 108, 115, 101] r.2 then
    match zca T n (d + 1) [] (zA T [123] (adv r.2)) with
    | none => none
    | some t => some (⟨4, 0, [], [q.1], r.1, t.1⟩, t.2)
   else some (⟨4, 0, [], [q.1], r.1, []⟩, r.2)
def whileF (T : List Tok) (n : Nat) (d : Int) (p : PS) : Option (Stmt × PS) :=
 match zHb T n (adv p) with
 | none => none
 | some q => match zca T n (d + 1) [] (zA T [123] q.2) with
  | none => none
  | some r => some (⟨5, 0, [], [q.1], r.1, []⟩, r.2)
theorem stmtF_split {T : List Tok} {n : Nat} {d : Int} {p : PS} (hd : deepS d p = p) : stmtF T (n + 1) d p =
  if isF T [105, 102] p then ifF T n d p else if isF T [119, 104, 105, 108, 101] p then whileF T n d p else (simpleF T n p).map fun q => (q.1, zA T [59] q.2) := by
 simp only [stmtF, hd]
 unfold ifF whileF simpleF
 cases c1 : isF T [105, 102] p
 ·cases c2 : isF T [119, 104, 105, 108, 101] p
  ·simp only [Bool.false_eq_true, if_false]
   split
   ·split <;> (rename_i h; simp [h])
   split
   ·rfl
   split
   ·rfl
   split
   ·split <;> (rename_i h; simp [h])
   split
   ·split <;> (rename_i h; simp [h])
   ·split <;> (rename_i h; simp [h])
  ·rw [isF_ne c2 (by decide), isF_ne c2 (by decide)]
   simp only [Bool.or_self, Bool.false_eq_true, if_false, if_true]
   rfl
 ·rw [isF_ne c1 (by decide), isF_ne c1 (by decide)]
  simp only [Bool.or_self, Bool.false_eq_true, if_false, if_true]
  rfl
theorem stmt_over {T : List Tok} {n : Nat} {d : Int} {p p' : PS} {v : Stmt} (h : stmtF T n d p = some (v, p')) (ho : zk (deepS d p) = true) : p' = deepS d p := by
 cases n with
 | zero => simp [stmtF] at h
 | succ n =>
  simp only [stmtF, zOa ho, Bool.or_false, Bool.false_eq_true, if_false] at h
  split at h
  ·cases h
  ·rename_i q hq
   obtain ⟨s, p1⟩ := q
   have e := named_over hq ho
   subst e
   cases h
   exact zO ho
theorem simple_inv {T : List Tok} {n : Nat} {p p' : PS} {v : Stmt} (h : simpleF T n p = some (v, p')) (I : Inv1 T p) (hn : n <= 999999980) : Inv1 T p' := by
 unfold simpleF at h
 split at h
 ·split at h
  ·cases h
  ·rename_i q hq
   obtain ⟨e, p1⟩ := q
   cases h
   exact (zta hq (((I.typed).text 1 (by decide)).must _) (by omega)).2
 split at h
 ·rename_i c; cases h; exact I.adv _ c
 split at h
 ·rename_i c; cases h; exact I.adv _ c
 split at h
 ·rename_i c
  split at h
  ·cases h
  ·rename_i q hq
   obtain ⟨e, p1⟩ := q
   cases h
   exact (zta hq (I.adv _ c) (by omega)).2
 split at h
 ·rename_i c
  split at h
  ·cases h
  ·rename_i q hq
   obtain ⟨e, p1⟩ := q
   cases h
   exact (zPa hq (I.adv _ c) (by omega)).2
 ·exact (named_spec h I (by omega)).2
structure TSpec (o : Os) (T : List Tok) (n : Nat) : Prop where
 stmt : ∀ d p v p', stmtF T n d p = some (v, p') -> Inv1 T p -> zk p = false -> 0 <= d -> d + n <= 999999980 -> zj E 93 [.ptr 3 0 0, .int .i64 d] (qst o T p) = some (outQ o T (zla v) p')
 block : ∀ d p v p', zca T n d [] (zA T [123] p) = some (v, p') -> Inv1 T p -> zk p = false -> 0 <= d -> d + n <= 999999980 -> zj E 61 [.ptr 3 0 0, .int .i64 d] (qst o T p) = some (outQ o T (zn v) p')
section
variable {o : Os} {T : List Tok}
set_option maxHeartbeats 4000000 in
theorem block_q {n : Nat} (S : ∀ k, k < n -> TSpec o T k) : ∀ d p v p', zca T n d [] (zA T [123] p) = some (v, p') -> Inv1 T p -> zk p = false -> 0 <= d -> d + n <= 999999980 -> zj E 61 [.ptr 3 0 0, .int .i64 d] (qst o T p) = some (outQ o T (zn v) p') := by
 intro d p v p' h I ho hd hn
 refine zb rfl rfl rfl (by simp) ?_
 have w1 := zyb (o := o) I ho [123]
 have I1 := I.must [123]
 generalize zA T [123] p = p1 at *
 simp only [zn]
 cases hq1 : zk p1
 case true =>
  obtain ⟨rfl, rfl⟩ := zRb h hq1
  rw [zf hq1] at w1 ⊢
  clear h hq1 ho S
  simp [*, F61]
 rw [zo hq1] at w1
 simp [*, F61]
 refine zva K61_0 B61_0 (fun c : BS => c.m) (fun c => [(4, acc 6 (c.l.map zla))]) (fun c => []) (fun c => qst o T c.p) (fun c => c.m <= n /\ c.l.length + c.m <= n /\ zk c.p = false /\ Inv1 T c.p /\ zca T c.m d c.l c.p = some (v, p')) ⟨n, [], p1⟩ ⟨by simp, by simp, by simp, Nat.le_refl _, by simp, hq1, I1, h⟩ ?_
 rintro ⟨m, l, q⟩ s1 ⟨hm, hlm, hoq, Iq, hr⟩ g1 g2 g3 g4 g5
 simp only at hm hlm hoq Iq hr
 simp at g1 g3 g5
 clear g2 g4 w1 h hq1 I1 ho I
 have hroom : (l.length + 1) * 104 <= zG := by simp only [zG]; omega
 cases m with
 | zero => simp [zca] at hr
 | succ m =>
  simp only [zca] at hr
  rw [if_neg (by rw [hoq]; decide)] at hr
  have t1 := zFa (o := o) Iq hoq [125]
  cases c1 : isF T [125] q
  ·rw [c1] at hr t1
   simp only [Bool.false_eq_true, if_false] at hr t1
   split at hr
   ·cases hr
   rename_i x hx
   obtain ⟨s, p2⟩ := x
   simp only at hr
   have x1 := (S m (by omega)).stmt d q s p2 hx Iq hoq hd (by omega)
   have I2 := ((sspec T m).stmt d q s p2 hx Iq hd (by omega)).2
   rw [zc] at x1
   simp only [zd, zn] at x1
   clear c1 hx S
   cases hq2 : zk p2
   ·rw [zo hq2] at x1
    replace hr := Nonempty.intro (PLift.up hr)
    replace hq2 := Nonempty.intro (PLift.up hq2)
    clear hoq
    simp [*]
    obtain ⟨⟨hr⟩⟩ := hr
    obtain ⟨⟨hq2⟩⟩ := hq2
    exact ⟨⟨m, l ++ [s], p2⟩, Nat.lt_succ_self m, by simp [zc, zd, zn, acc_ne], rfl, by simp only; omega, by simp; omega, hq2, I2, hr⟩
   ·obtain ⟨e1, e2⟩ := zRb hr hq2
    subst e1
    subst e2
    rw [zf hq2] at x1 ⊢
    clear hr hq2 hoq
    simp [*]
  ·rw [c1] at hr t1
   simp only [if_true] at hr t1
   have hv := (Prod.mk.inj (Option.some.inj hr)).1
   have hp' := (Prod.mk.inj (Option.some.inj hr)).2
   subst hv
   subst hp'
   rw [zo (by rw [zS]; exact hoq)]
   clear c1 hoq hr S
   simp [*]
theorem open_no_q {d : Int} {p : PS} (I : Inv1 T p) (ho : zk p = false) (c1 : isF T [105, 102] p = false) (c2 : isF T [119, 104, 105, 108, 101] p = false) :
  zj E 112 [.ptr 3 0 0, .int .i64 d] (qst o T p) = some (.ret (.tup [.agg [.int .i64 0, .int .i64 0, .str [], .slice .plain 5 [], .slice .plain 6 [], .slice .plain 6 []], .bool false]), qst o T p) := by
 refine zb rfl rfl rfl (by simp) ?_
 have t1 := zFa (o := o) I ho [105, 102]
 have t2 := zFa (o := o) I ho [119, 104, 105, 108, 101]
 rw [c1] at t1
 rw [c2] at t2
 clear c1 c2 ho
 simp [*, F112]
set_option maxHeartbeats 4000000 in
theorem open_while_q (hN : NumT T) {n : Nat} (S : TSpec o T n) {d : Int} {p p' : PS} {v : Stmt} (c1 : isF T [105, 102] p = false) (c2 : isF T [119, 104, 105, 108, 101] p = true) (h : whileF T n d p = some (v, p')) (I : Inv1 T p) (ho : zk p = false) (hd : 0 <= d) (hn : d + (n + 1 : Nat) <= 999999980) :
  zj E 112 [.ptr 3 0 0, .int .i64 d] (qst o T p) = some (outQ o T (.tup [zla v, .bool true]) p') := by
 refine zb rfl rfl rfl (by simp) ?_
 have hw : zY .i64 (d + 1) = d + 1 := zm (by omega) (by omega)
 have t1 := zFa (o := o) I ho [105, 102]
 have t2 := zFa (o := o) I ho [119, 104, 105, 108, 101]
 have Ia := I.adv _ c2
 rw [c1] at t1
 rw [c2] at t2
 unfold whileF at h
 split at h
 ·cases h
 rename_i q hq
 obtain ⟨e, p1⟩ := q
 simp only at h
 split at h
 ·cases h
 rename_i r hr
 obtain ⟨b, p2⟩ := r
 have hv := (Prod.mk.inj (Option.some.inj h)).1
 have hp' := (Prod.mk.inj (Option.some.inj h)).2
 simp only at hp'
 subst hv
 subst hp'
 have x1 := inside_q (o := o) hN hq Ia (by rw [zS]; exact ho) (by omega)
 have I1 := (zPa hq Ia (by omega)).2
 rw [zc]
 simp only [zd, zn, List.map_cons, List.map_nil] at x1 ⊢
 rw [za] at x1 ⊢
 simp only [zd] at x1 ⊢
 clear hq h c1 c2
 cases hq1 : zk p1
 case true =>
  rw [zO hq1] at hr
  obtain ⟨rfl, rfl⟩ := zRb hr hq1
  rw [zf hq1] at x1 ⊢
  clear hr hq1 ho
  simp [*, F112]
 rw [zo hq1] at x1
 have x2 := S.block (d + 1) p1 b p2 hr I1 hq1 (by omega) (by omega)
 simp only [zn] at x2
 clear hr
 cases hq2 : zk p2
 ·rw [zo hq2] at x2 ⊢
  clear hq2 hq1 ho
  simp [*, F112]
 ·rw [zf hq2] at x2 ⊢
  clear hq2 hq1 ho
  simp [*, F112]
set_option maxHeartbeats 4000000 in
theorem open_if_q (hN : NumT T) {n : Nat} (S : TSpec o T n) {d : Int} {p p' : PS} {v : Stmt} (c1 : isF T [105, 102] p = true) (h : ifF T n d p = some (v, p')) (I : Inv1 T p) (ho : zk p = false) (hd : 0 <= d) (hn : d + (n + 1 : Nat) <= 999999980) :
  zj E 112 [.ptr 3 0 0, .int .i64 d] (qst o T p) = some (outQ o T (.tup [zla v, .bool true]) p') := by
 refine zb rfl rfl rfl (by simp) ?_
 have hw : zY .i64 (d + 1) = d + 1 := zm (by omega) (by omega)
 have t1 := zFa (o := o) I ho [105, 102]
 have Ia := I.adv _ c1
 rw [c1] at t1
 unfold ifF at h
 split at h
 ·cases h
 rename_i q hq
 obtain ⟨e, p1⟩ := q
 simp only at h
 split at h
 ·cases h
 rename_i r hr
 obtain ⟨b, p2⟩ := r
 simp only at h
 have x1 := inside_q (o := o) hN hq Ia (by rw [zS]; exact ho) (by omega)
 have I1 := (zPa hq Ia (by omega)).2
 rw [zc]
 simp only [zd, zn, List.map_cons, List.map_nil] at x1 ⊢
 rw [za] at x1
 simp only [zd] at x1 ⊢
 clear hq c1
 cases hq1 : zk p1
 case true =>
  rw [zO hq1] at hr
  obtain ⟨rfl, rfl⟩ := zRb hr hq1
  rw [zOa hq1] at h
  simp only [Bool.false_eq_true, if_false] at h
  have hv := (Prod.mk.inj (Option.some.inj h)).1
  have hp' := (Prod.mk.inj (Option.some.inj h)).2
  subst hv
  subst hp'
  rw [zf hq1] at x1 ⊢
  clear hr hq1 ho h
  simp [*, F112, za, zd]
 rw [zo hq1] at x1
 have x2 := S.block (d + 1) p1 b p2 hr I1 hq1 (by omega) (by omega)
 have I2 := block_inv n hr (I1.must _) (by omega) (by omega)
 simp only [zn] at x2
 clear hr
 cases hq2 : zk p2
 case true =>
  rw [zOa hq2] at h
  simp only [Bool.false_eq_true, if_false] at h
  have hv := (Prod.mk.inj (Option.some.inj h)).1
  have hp' := (Prod.mk.inj (Option.some.inj h)).2
  subst hv
  subst hp'
  rw [zf hq2] at x2 ⊢
  clear hq2 hq1 ho h
  simp [*, F112, za, zd]
 rw [zo hq2] at x2
 have t3 := zFa (o := o) I2 hq2 [101, 108, 115, 101]
 cases c3 : isF T [101, 108, 115, 101] p2
 ·rw [c3] at h t3
  simp only [Bool.false_eq_true, if_false] at h t3
  have hv := (Prod.mk.inj (Option.some.inj h)).1
  have hp' := (Prod.mk.inj (Option.some.inj h)).2
  subst hv
  subst hp'
  rw [zo hq2]
  clear c3 hq2 hq1 ho h
  simp [*, F112, za, zd]
 ·rw [c3] at h t3
  simp only [if_true] at h t3
  have Ib := I2.adv _ c3
  split at h
  ·cases h
  rename_i t ht
  obtain ⟨b2, p3⟩ := t
  have hv := (Prod.mk.inj (Option.some.inj h)).1
  have hp' := (Prod.mk.inj (Option.some.inj h)).2
  simp only at hp'
  subst hv
  subst hp'
  have x3 := S.block (d + 1) (adv p2) b2 p3 ht Ib (by rw [zS]; exact hq2) (by omega) (by omega)
  simp only [zn] at x3
  clear ht c3 h
  cases hq3 : zk p3
  ·rw [zo hq3] at x3 ⊢
   clear hq3 hq2 hq1 ho
   simp [*, F112, za, zd]
  ·rw [zf hq3] at x3 ⊢
   clear hq3 hq2 hq1 ho
   simp [*, F112, za, zd]
set_option maxHeartbeats 4000000 in
theorem stmt_q (hN : NumT T) {n : Nat} (S : TSpec o T n) : ∀ d p v p', stmtF T (n + 1) d p = some (v, p') -> Inv1 T p -> zk p = false -> 0 <= d -> d + (n + 1 : Nat) <= 999999980 -> zj E 93 [.ptr 3 0 0, .int .i64 d] (qst o T p) = some (outQ o T (zla v) p') := by
 intro d p v p' h I ho hd hn
 refine zb rfl rfl rfl (by simp) ?_
 have d1 := deep_q (o := o) I d ho
 by_cases h100 : 100 < d
 ·have e1 : deepF d p = { p with deep := true } := by unfold deepF; rw [if_pos h100, (zrc ho).1]; rfl
  have e2 : deepS d p = { p with deep := true } := by unfold deepS; rw [if_pos h100]
  have hov : zk (deepS d p) = true := by rw [e2]; simp [zk]
  have hp : p' = deepS d p := stmt_over h hov
  subst hp
  rw [e1, <- e2, zf hov] at d1
  rw [zf hov]
  clear e1 e2 hov h
  generalize deepS d p = p2 at *
  simp [*, F93]
 have e1 : deepF d p = p := by unfold deepF; rw [if_neg h100]
 rw [e1, zo ho] at d1
 rw [stmtF_split (deepS_no h100)] at h
 clear e1
 rw [zc]
 cases c1 : isF T [105, 102] p
 case true =>
  rw [c1] at h
  simp only [if_true] at h
  have x1 := open_if_q (o := o) hN S c1 h I ho hd hn
  rw [zc] at x1
  simp only [zd, zn] at x1 ⊢
  clear h c1
  cases hq : zk p'
  ·rw [zo hq] at x1 ⊢
   clear hq ho
   simp [*, F93]
  ·rw [zf hq] at x1 ⊢
   clear hq ho
   simp [*, F93]
 rw [c1] at h
 simp only [Bool.false_eq_true, if_false] at h
 cases c2 : isF T [119, 104, 105, 108, 101] p
 case true =>
  rw [c2] at h
  simp only [if_true] at h
  have x1 := open_while_q (o := o) hN S c1 c2 h I ho hd hn
  rw [zc] at x1
  simp only [zd, zn] at x1 ⊢
  clear h c1 c2
  cases hq : zk p'
  ·rw [zo hq] at x1 ⊢
   clear hq ho
   simp [*, F93]
  ·rw [zf hq] at x1 ⊢
   clear hq ho
   simp [*, F93]
 rw [c2] at h
 simp only [Bool.false_eq_true, if_false, Option.map_eq_some_iff] at h
 obtain ⟨⟨s, p1⟩, hs, he⟩ := h
 have hv := (Prod.mk.inj he).1
 have hp' := (Prod.mk.inj he).2
 simp only at hv hp'
 subst hv
 subst hp'
 have x0 := open_no_q (o := o) (d := d) I ho c1 c2
 have x1 := simple_q (o := o) hN hs I ho (by omega)
 have I1 : Inv1 T p1 := simple_inv hs I (by omega)
 rw [zc] at x1
 simp only [zd, zn] at x1 ⊢
 clear hs c1 c2 he
 cases hq : zk p1
 ·rw [zo hq] at x1
  have w1 := zyb (o := o) I1 hq [59]
  cases hm : zk (zA T [59] p1)
  ·rw [zo hm] at w1 ⊢
   clear hm hq ho
   simp [*, F93]
  ·rw [zf hm] at w1 ⊢
   clear hm hq ho
   simp [*, F93]
 ·rw [zf hq] at x1
  rw [zO hq, zf hq]
  clear hq ho
  simp [*, F93]
theorem tspec_all (o : Os) (hN : NumT T) : ∀ n k, k <= n -> TSpec o T k
 | 0, k, h => by
  have : k = 0 := by omega
  subst this
  exact ⟨fun _ _ _ _ h => by simp [stmtF] at h, fun _ _ _ _ h => by simp [zca] at h⟩
 | n + 1, k, h => by
  have ih := tspec_all o hN n
  rcases Nat.lt_or_ge k (n + 1) with h1 | h1
  ·exact ih k (by omega)
  ·have : k = n + 1 := by omega
   subst this
   exact ⟨stmt_q hN (ih n (Nat.le_refl n)), block_q (fun k hk => ih k (by omega))⟩
theorem tspec (o : Os) (hN : NumT T) (n : Nat) : TSpec o T n := tspec_all o hN n n (Nat.le_refl n)
end
end PE.U

namespace PE.U
open Go PE
section
variable {o : Os} {T : List Tok}
def parF (T : List Tok) (p : PS) : Par × PS := (⟨(zy T 1 (zM T p).2).1, (zM T p).1⟩, (zy T 1 (zM T p).2).2)
theorem parF_inv {p : PS} (I : Inv1 T p) : Inv1 T (parF T p).2 := I.typed.text 1 (by decide)
theorem par_q {p : PS} (I : Inv1 T p) (ho : zk p = false) : zj E 60 [.iptr [.ptr 3 0 0] 0] (qst o T p) = some (outQ o T (encPar (parF T p).1) (parF T p).2) := by
 refine zb rfl rfl rfl (by simp) ?_
 have ty := typed_q (o := o) I ho
 have I1 := I.typed
 unfold parF encPar
 generalize zM T p = tt at *
 obtain ⟨t, p1⟩ := tt
 simp only at ty I1 ⊢
 cases hq1 : zk p1
 case true =>
  rw [text_over hq1]
  simp only
  rw [zf hq1] at ty ⊢
  clear hq1 ho
  simp [*, F60]
 rw [zo hq1] at ty
 have tx := text_q (o := o) I1 hq1 1
 generalize zy T 1 p1 = tt at *
 obtain ⟨s, p2⟩ := tt
 simp only at tx ⊢
 cases hq2 : zk p2
 ·rw [zo hq2] at tx ⊢
  clear hq2 hq1 ho
  simp [*, F60]
 ·rw [zf hq2] at tx ⊢
  clear hq2 hq1 ho
  simp [*, F60]
def parsF (T : List Tok) (n : Nat) (p : PS) : Option (List Par × PS) :=
 if isF T [41] p then some ([], adv p) else match zaa T n [] true p with
  | none => none
  | some r => some (r.1, zA T [41] r.2)
theorem parsF_inv {n : Nat} {p p' : PS} {v : List Par} (h : parsF T n p = some (v, p')) (I : Inv1 T p) : Inv1 T p' := by
 unfold parsF at h
 split at h
 ·rename_i c; cases h; exact I.adv _ c
 split at h
 ·cases h
 ·rename_i r hr
  obtain ⟨l, p1⟩ := r
  cases h
  exact (paramsF_inv _ _ _ _ _ _ hr I).must _
theorem parsF_over {n : Nat} {p p' : PS} {v : List Par} (h : parsF T n p = some (v, p')) (ho : zk p = true) : p' = p := by
 unfold parsF at h
 rw [if_neg (by rw [zOa ho]; decide)] at h
 cases n with
 | zero => simp [zaa] at h
 | succ n =>
  simp only [zaa, Bool.true_or, if_true] at h
  rw [if_pos ho] at h
  cases h
  exact zO ho
structure PPS where
 m : Nat
 l : List Par
 p : PS
set_option maxHeartbeats 2000000 in
theorem plist_q {n : Nat} {p p' : PS} {v : List Par} (h : parsF T n p = some (v, p')) (I : Inv1 T p) (ho : zk p = false) (hn : n <= 999999980) :
  zj E 59 [.ptr 3 0 0, .fn 60 [] [.iptr [.ptr 3 0 0] 0]] (qst o T p) = some (outQ o T (parsV v) p') := by
 refine zb rfl rfl rfl (by simp) ?_
 unfold parsF at h
 have t1 := zFa (o := o) I ho [41]
 cases c1 : isF T [41] p
 case true =>
  rw [if_pos c1] at h
  rw [c1] at t1
  cases h
  rw [zo (by rw [zS]; exact ho)]
  clear c1
  simp [*, F59, parsV]
 rw [if_neg (by rw [c1]; decide)] at h
 rw [c1] at t1
 split at h
 ·cases h
 rename_i q hq
 obtain ⟨l', p1⟩ := q
 have hv := (Prod.mk.inj (Option.some.inj h)).1
 have hp' := (Prod.mk.inj (Option.some.inj h)).2
 simp only at hv hp'
 subst hv
 subst hp'
 simp [*, F59, parsV]
 have hstart : ∃ m, n = m + 1 /\ zaa T m ([] ++ [(parF T p).1]) false (parF T p).2 = some (l', p1) := by
  cases n with
  | zero => simp [zaa] at hq
  | succ m =>
   simp only [zaa, Bool.true_or, if_true] at hq
   rw [if_neg (by rw [ho]; decide)] at hq
   exact ⟨m, rfl, hq⟩
 obtain ⟨m0, hm0, hs0⟩ := hstart
 refine zva K59_0 B59_0 (fun c : PPS => c.m) (fun c => [(4, acc 2 (c.l.map encPar))]) (fun c => []) (fun c => qst o T c.p) (fun c => c.m < n /\ c.l.length + c.m < n /\ zk c.p = false /\ Inv1 T c.p /\ zaa T c.m (c.l ++ [(parF T c.p).1]) false (parF T c.p).2 = some (l', p1)) ⟨m0, [], p⟩ ⟨by simp, by simp, by simp, by simp only; omega, by simp only [List.length_nil]; omega, ho, I, hs0⟩ ?_
 rintro ⟨m, l, p⟩ s1 ⟨hm, hlm, ho, I, hr⟩ g1 g2 g3 g4 g5
 simp only at hm hlm ho I hr
 simp at g1 g3 g5
 clear g2 g4 t1 hs0 hm0 c1 hq h
 have hroom : (l.length + 1) * 24 <= zG := by simp only [zG]; omega
 have x1 := par_q (o := o) I ho
 have I2 := parF_inv I
 generalize parF T p = tt at *
 obtain ⟨e, p2⟩ := tt
 simp only at hr x1 I2
 obtain ⟨enm, ety⟩ := e
 simp only [encPar] at x1
 cases m with
 | zero => simp [zaa] at hr
 | succ m =>
  simp only [zaa, Bool.false_or] at hr
  cases hq2 : zk p2
  ·rw [zo hq2] at x1
   have t2 := zFa (o := o) I2 hq2 [44]
   cases c2 : isF T [44] p2
   ·rw [c2] at hr t2
    simp only [Bool.false_eq_true, if_false] at hr t2
    have hl1 := (Prod.mk.inj (Option.some.inj hr)).1
    have hp1 := (Prod.mk.inj (Option.some.inj hr)).2
    subst hl1
    subst hp1
    have w1 := zyb (o := o) I2 hq2 [41]
    cases hm2 : zk (zA T [41] p2)
    ·rw [zo hm2] at w1 ⊢
     clear hm2 hq2 c2 ho hr
     simp [*, encPar]
    ·rw [zf hm2] at w1 ⊢
     clear hm2 hq2 c2 ho hr
     simp [*, encPar]
   ·rw [c2] at hr t2
    have Ia := I2.adv _ c2
    simp only [if_true, Bool.false_eq_true, if_false] at hr t2
    rw [if_neg (by rw [zS, hq2]; decide)] at hr
    have hoa : zk (adv p2) = false := by rw [zS]; exact hq2
    replace hr := Nonempty.intro (PLift.up hr)
    clear hq2 c2 ho
    simp [*, encPar]
    obtain ⟨⟨hr⟩⟩ := hr
    exact ⟨⟨m, l ++ [⟨enm, ety⟩], adv p2⟩, by simp, by simp [encPar, acc_ne], rfl, by simp only; omega, by simp; omega, hoa, Ia, hr⟩
  ·rw [zf hq2] at x1
   rw [zOa hq2] at hr
   simp only [Bool.false_eq_true, if_false] at hr
   have hl1 := (Prod.mk.inj (Option.some.inj hr)).1
   have hp1 := (Prod.mk.inj (Option.some.inj hr)).2
   subst hl1
   subst hp1
   rw [zO hq2, zf hq2]
   clear hq2 ho hr
   simp [*, encPar]
theorem functionF_eq (T : List Tok) (n : Nat) (t : Int) (s : List UInt8) (p : PS) : zZa T n t s p = match parsF T n (zA T [40] p) with
  | none => none
  | some r => match zca T n 1 [] (zA T [123] r.2) with
   | none => none
   | some q => some (⟨s, t, r.1, q.1⟩, q.2) := by
 unfold zZa parsF
 split
 ·rfl
 ·cases h : zaa T n [] true (zA T [40] p) with
  | none => rfl
  | some r => rfl
theorem function_over {n : Nat} {t : Int} {s : List UInt8} {p p' : PS} {v : Func} (h : zZa T n t s p = some (v, p')) (ho : zk p = true) : p' = p := by
 rw [functionF_eq, zO ho] at h
 split at h
 ·cases h
 rename_i r hr
 obtain ⟨l, p1⟩ := r
 have e := parsF_over hr ho
 subst e
 simp only at h
 rw [zO ho] at h
 split at h
 ·cases h
 rename_i q hq
 obtain ⟨b, p2⟩ := q
 cases h
 exact (zRb hq ho).2
set_option maxHeartbeats 2000000 in
theorem function_q (hN : NumT T) {n : Nat} {t : Int} {s : List UInt8} {p p' : PS} {v : Func} (h : zZa T n t s p = some (v, p')) (I : Inv1 T p) (ho : zk p = false) (hn : n <= 999999970) :
  zj E 34 [.ptr 3 0 0, .int .i64 t, .str s] (qst o T p) = some (outQ o T (zD v) p') := by
 refine zb rfl rfl rfl (by simp) ?_
 rw [functionF_eq] at h
 have w1 := zyb (o := o) I ho [40]
 have I1 := I.must [40]
 generalize zA T [40] p = p1 at *
 split at h
 ·cases h
 rename_i r hr
 obtain ⟨l, p2⟩ := r
 simp only at h
 split at h
 ·cases h
 rename_i q hq
 obtain ⟨b, p3⟩ := q
 have hv := (Prod.mk.inj (Option.some.inj h)).1
 have hp' := (Prod.mk.inj (Option.some.inj h)).2
 simp only at hp'
 subst hv
 subst hp'
 clear h
 cases hq1 : zk p1
 case true =>
  have e := parsF_over hr hq1
  subst e
  rw [zO hq1] at hq
  obtain ⟨e1, e2⟩ := zRb hq hq1
  subst e2
  rw [zf hq1] at w1 ⊢
  clear hr hq hq1 ho
  simp [*, F34]
 rw [zo hq1] at w1
 have x1 := plist_q (o := o) hr I1 hq1 (by omega)
 have I2 := parsF_inv hr I1
 simp only [parsV] at x1
 cases hq2 : zk p2
 case true =>
  rw [zO hq2] at hq
  obtain ⟨e1, e2⟩ := zRb hq hq2
  subst e2
  rw [zf hq2] at x1 ⊢
  clear hr hq hq1 ho hq2
  simp [*, F34]
 rw [zo hq2] at x1
 have x2 := (tspec o hN n).block 1 p2 b p3 hq I2 hq2 (by omega) (by omega)
 simp only [zn] at x2
 clear hr hq
 cases hq3 : zk p3
 ·rw [zo hq3] at x2 ⊢
  clear hq1 ho hq2 hq3
  simp [*, F34, zD, parsV, zn]
 ·rw [zf hq3] at x2 ⊢
  clear hq1 ho hq2 hq3
  simp [*, F34, zD, parsV, zn]
theorem prog_over {n : Nat} {ars : List PArr} {fs : List Func} {p p' : PS} {v : Prog} (h : zgc T n ars fs p = some (v, p')) (ho : zk p = true) : p' = p := by
 cases n with
 | zero => simp [zgc] at h
 | succ n =>
  simp only [zgc] at h
  rw [if_pos ho] at h
  exact (Prod.mk.inj (Option.some.inj h)).2.symm
set_option maxHeartbeats 8000000 in
theorem prog_q (hN : NumT T) {n : Nat} {p p' : PS} {v : Prog} (h : zgc T n [] [] p = some (v, p')) (I : Inv1 T p) (ho : zk p = false) (hn : n <= 999999970) : zj E 19 [.ptr 3 0 0] (qst o T p) = some (outQ o T (zZ v) p') := by
 refine zb rfl rfl rfl (by simp) ?_
 simp [F19, zZ, zhc, funcs]
 refine zva K19_0 B19_0 (fun c : GS => c.m) (fun c => []) (fun c => [(2, .cells [acc 2 (c.ars.map zha), acc 4 (c.fs.map zD)])]) (fun c => qst o T c.p) (fun c => c.m <= n /\ c.ars.length + c.m <= n /\ c.fs.length + c.m <= n /\ zgc T c.m c.ars c.fs c.p = some (v, p') /\ Inv1 T c.p /\ zk c.p = false) ⟨n, [], [], p⟩ ⟨by simp, by simp, by simp, Nat.le_refl _, by simp, by simp, h, I, ho⟩ ?_
 clear h I ho
 rintro ⟨m, ars, fs, p⟩ s1 ⟨hm, hla, hlf, hr, I, ho⟩ g1 g2 g3 g4 g5
 simp only at hm hla hlf hr I ho
 simp at g1 g4 g5
 clear g2 g3
 cases m with
 | zero => simp [zgc] at hr
 | succ m =>
  simp only [zgc] at hr
  have hrm1 : (ars.length + 1) * 24 <= zG := by simp only [zG]; omega
  have hrm2 : (fs.length + 1) * 72 <= zG := by simp only [zG]; omega
  have h0 := lft_0 I.lt
  rw [if_neg (by rw [ho]; decide)] at hr
  by_cases hk : (tk T p.at').kind = 3
  ·rw [if_pos hk] at hr
   have hv := (Prod.mk.inj (Option.some.inj hr)).1
   have hp' := (Prod.mk.inj (Option.some.inj hr)).2
   subst hv
   subst hp'
   rw [zo ho]
   unfold qst at *
   clear hr ho
   generalize lft T p = l at *
   generalize tk T p.at' = t at *
   obtain ⟨k', x, ln⟩ := t
   simp only at hk
   subst hk
   simp only [zl] at h0
   simp [*, zhc, funcs]
  rw [if_neg hk] at hr
  replace hk := eqn hk
  have ty := typed_q (o := o) I ho
  have I1 := I.typed
  generalize zM T p = tt at *
  obtain ⟨t, p1⟩ := tt
  simp only at ty I1 hr
  -- the state as it stands
  have hq0 : ∃ l x ln k', qst o T p = [o.a, o.b, o.c, .arr 1 [.agg [.slice .plain 3 l]]] /\ l[0]? = some (.agg [.int .i64 k', .str x, .int .i64 ln]) /\ (k' = 3) = False := by
   refine ⟨lft T p, (tk T p.at').text, (tk T p.at').line, (tk T p.at').kind, rfl, h0, hk⟩
  obtain ⟨l0, x0, ln0, k0, hq0, hl0, hk0⟩ := hq0
  rw [hq0] at ty g5
  clear h0 hk hq0
  cases hq1 : zk p1
  case true =>
   rw [text_over hq1] at hr
   simp only [zOa hq1, Bool.false_eq_true, and_false, if_false] at hr
   split at hr
   ·cases hr
   rename_i q hq
   obtain ⟨fn, p3⟩ := q
   have e := function_over hq hq1
   subst e
   have e2 := prog_over hr hq1
   subst e2
   rw [zf hq1] at ty ⊢
   clear hr hq hq1 ho
   simp [*]
  rw [zo hq1] at ty
  have tx := text_q (o := o) I1 hq1 1
  have I2 := I1.text 1 (by decide)
  generalize zy T 1 p1 = tt at *
  obtain ⟨s, p2⟩ := tt
  simp only at tx I2 hr
  cases hq2 : zk p2
  case true =>
   simp only [zOa hq2, Bool.false_eq_true, and_false, if_false] at hr
   split at hr
   ·cases hr
   rename_i q hq
   obtain ⟨fn, p3⟩ := q
   have e := function_over hq hq2
   subst e
   have e2 := prog_over hr hq2
   subst e2
   rw [zf hq2] at tx ⊢
   clear hr hq hq1 hq2 ho
   simp [*]
  rw [zo hq2] at tx
  have t2 := zFa (o := o) I2 hq2 [91]
  by_cases hc : t = 1 /\ fs = [] /\ isF T [91] p2 = true
  ·rw [if_pos hc] at hr
   obtain ⟨rfl, rfl, hc⟩ := hc
   have IA := I2.adv _ hc
   rw [hc] at t2
   simp only [if_true] at t2
   have x1 := number_q (o := o) IA hN (by rw [zS]; exact hq2)
   have I3 := IA.text 0 (by decide)
   generalize zy T 0 (adv p2) = tt at *
   obtain ⟨x, p3⟩ := tt
   simp only at x1 I3 hr
   clear hc
   cases hq3 : zk p3
   case true =>
    rw [zO hq3, zO hq3] at hr
    have e2 := prog_over hr hq3
    subst e2
    rw [zf hq3] at x1 ⊢
    clear hr hq1 hq2 hq3 ho
    simp [*]
   rw [zo hq3] at x1
   have w1 := want2_q (o := o) I3 hq3 [93] [59]
   have I4 := (I3.must [93]).must [59]
   generalize zA T [59] (zA T [93] p3) = p4 at *
   cases hq4 : zk p4
   case true =>
    have e2 := prog_over hr hq4
    subst e2
    rw [zf hq4] at w1 ⊢
    clear hr hq1 hq2 hq3 hq4 ho
    simp [*]
   rw [zo hq4] at w1
   replace hr := Nonempty.intro (PLift.up hr)
   replace hq4 := Nonempty.intro (PLift.up hq4)
   clear hq1 hq2 hq3 ho
   simp [*]
   obtain ⟨⟨hr⟩⟩ := hr
   obtain ⟨⟨hq4⟩⟩ := hq4
   exact ⟨⟨m, ars ++ [⟨s, zuc x⟩], [], p4⟩, Nat.lt_succ_self m, by simp [zha, zmc], rfl, by simp only; omega, by simp only [List.length_append, List.length_cons, List.length_nil]; omega, by simp only [List.length_nil]; omega, hr, I4, hq4⟩
  ·rw [if_neg hc] at hr
   split at hr
   ·cases hr
   rename_i q hq
   obtain ⟨fn, p3⟩ := q
   simp only at hr
   have x1 := function_q (o := o) hN hq I2 hq2 (by omega)
   have I3 := (zic hq I2 (by omega)).2
   clear hq
   simp only [zD, parsV, zn] at x1
   -- whether it may be an array
   have hcase : (t = 1) = False \/ (t = 1 /\ ¬ fs = []) \/ (t = 1 /\ fs = [] /\ isF T [91] p2 = false) := by
    by_cases h1 : t = 1
    ·by_cases h2 : fs = []
     ·refine .inr (.inr ⟨h1, h2, ?_⟩)
      cases h3 : isF T [91] p2
      ·rfl
      ·exact absurd ⟨h1, h2, h3⟩ hc
     ·exact .inr (.inl ⟨h1, h2⟩)
    ·exact .inl (eqn h1)
   clear hc
   cases hq3 : zk p3
   case true =>
    have e2 := prog_over hr hq3
    subst e2
    rw [zf hq3] at x1 ⊢
    clear hr hq1 hq2 hq3 ho
    rcases hcase with h1 | ⟨rfl, h2⟩ | ⟨rfl, rfl, h3⟩
    ·clear t2
     simp [*]
    ·have hl2 : (fs = []) = False := eqn h2
     clear t2 h2
     simp [*]
    ·rw [h3] at t2
     clear h3
     simp [*]
   rw [zo hq3] at x1
   replace hr := Nonempty.intro (PLift.up hr)
   replace hq3 := Nonempty.intro (PLift.up hq3)
   clear hq1 hq2 ho
   rcases hcase with h1 | ⟨rfl, h2⟩ | ⟨rfl, rfl, h3⟩
   ·clear t2
    simp [*]
    obtain ⟨⟨hr⟩⟩ := hr
    obtain ⟨⟨hq3⟩⟩ := hq3
    exact ⟨⟨m, ars, fs ++ [fn], p3⟩, Nat.lt_succ_self m, ⟨rfl, by simp [zD, zmc, parsV, zn]⟩, rfl, by simp only; omega, by simp only; omega, by simp only [List.length_append, List.length_cons, List.length_nil]; omega, hr, I3, hq3⟩
   ·have hl2 : (fs = []) = False := eqn h2
    clear t2 h2
    simp [*]
    obtain ⟨⟨hr⟩⟩ := hr
    obtain ⟨⟨hq3⟩⟩ := hq3
    exact ⟨⟨m, ars, fs ++ [fn], p3⟩, Nat.lt_succ_self m, ⟨rfl, by simp [zD, zmc, parsV, zn]⟩, rfl, by simp only; omega, by simp only; omega, by simp only [List.length_append, List.length_cons, List.length_nil]; omega, hr, I3, hq3⟩
   ·rw [h3] at t2
    have hr0 : 72 <= zG := by simp only [zG]; omega
    have hr1 : 1 * 72 <= zG := by simp only [zG]; omega
    clear h3
    simp [*]
    obtain ⟨⟨hr⟩⟩ := hr
    obtain ⟨⟨hq3⟩⟩ := hq3
    exact ⟨⟨m, ars, [fn], p3⟩, Nat.lt_succ_self m, ⟨rfl, by simp [zD, parsV, zn]⟩, rfl, by simp only; omega, by simp only; omega, (by have := hlf; simp only [List.length_nil, List.length_cons] at this ⊢; omega), by simpa using hr, I3, hq3⟩
end
end PE.U

namespace PE.U
open Go PE
theorem index_nl : ∀ s : List UInt8, Lib.index s [10] = if (10 : UInt8) ∈ s then ((s.takeWhile (· != 10)).length : Int) else -1
 | [] => by simp [Lib.index]
 | b :: r => by
  rw [Lib.index, index_nl r, List.takeWhile_cons]
  by_cases h : b = 10
  ·subst h; simp
  ·have h1 : ¬ (10 : UInt8) = b := fun e => h e.symm
   by_cases hm : (10 : UInt8) ∈ r
   ·simp [h, h1, hm, List.isPrefixOf]
    try omega
   ·simp [h, h1, hm, List.isPrefixOf]
theorem cut_nl (s : List UInt8) : (Lib.cut s [10]).1 = s.takeWhile (· != 10) := by
 unfold Lib.cut
 rw [index_nl]
 by_cases hm : (10 : UInt8) ∈ s
 ·rw [if_pos hm, if_pos (by omega)]
  simp only [Int.toNat_natCast]
  exact (zUc _ s).symm
 ·rw [if_neg hm, if_neg (by decide)]
  simp only
  symm
  rw [zTb, List.all_eq_true]
  intro x hx
  simp only [bne_iff_ne]
  rintro rfl; exact hm hx
theorem blank_ix (b : UInt8) : (0 <= Lib.indexByte [32, 9, 13] b) <-> blank b = true := by
 rw [index_mem]
 simp [blank, or_assoc]
theorem com_prefix (b : UInt8) (r : List UInt8) : [47, 47].isPrefixOf (b :: r) = (decide (b = 47) && decide (r.head? = some 47)) := by
 cases r with
 | nil => simp [List.isPrefixOf]
 | cons c q =>
  have e : ∀ x : UInt8, (47 == x) = decide (x = 47) := fun x => by
   rw [Bool.eq_iff_iff]; simp [eq_comm (a := (47 : UInt8))]
  simp [List.isPrefixOf, e]
set_option maxHeartbeats 1000000 in
theorem skip_spec (s : List UInt8) (line : Int) (hl : s.length <= 100000) (h0 : 0 <= line) (h1 : line + s.length <= 1000000) :
  zj E 27 [.ptr 0 0 0] (sob s line) = some (.ret (.tup []), sob (skipM s line).1 (skipM s line).2) := by
 refine zb rfl rfl rfl (by simp) ?_
 simp [F27]
 refine zva K27_0 B27_0 (fun c : List UInt8 × Int => c.1.length) (fun _ => []) (fun _ => []) (fun c => sob c.1 c.2) (fun c => skipM c.1 c.2 = skipM s line /\ c.1.length <= 100000 /\ 0 <= c.2 /\ c.2 + c.1.length <= 1000000) (s, line) ⟨by simp, by simp, rfl, rfl, hl, h0, h1⟩ ?_
 rintro ⟨q, n⟩ s1 ⟨hq, hql, hn0, hn1⟩ g1 g2 g3 g4 g5
 simp only at hq hql hn0 hn1 g5
 simp at g1
 clear g2 g3 g4
 unfold sob at g5 ⊢
 cases q with
 | nil =>
  rw [skipM_stop (s := []) rfl n] at hq
  rw [<- hq]
  (simp [*]) <;> (repeat' (first | ((first | refine sP _ ?_ ?_ | refine gP _ ?_ ?_ | refine sN _ ?_ ?_ | refine gN _ ?_ ?_) <;> intro hc <;> (first | replace hc := eqn hc | replace hc := eqp hc) <;> simp [*]) | ((first | refine sM _ ?_ ?_ | refine gM _ ?_ ?_ | refine sB _ ?_ ?_ | refine gB _ ?_ ?_) <;> intro hc <;> simp [*])))
 | cons b r =>
  have a1 := hasPrefix_x (b :: r) [47, 47] []
  have a2 := cut_x (b :: r) [10] [] (by omega)
  have a3 := indexByte_x [32, 9, 13] b.toNat []
  rw [com_prefix] at a1
  rw [cut_nl] at a2
  rw [u8_nat] at a3
  have hb := blank_ix b
  obtain ⟨i, hi⟩ : ∃ i, Lib.indexByte [32, 9, 13] b = i := ⟨_, rfl⟩
  rw [hi] at a3 hb
  have w1 : zY .i64 (n + 1) = n + 1 := zm (by omega) (by omega)
  have e10 : ((b.toNat : Int) = 10) = (b = 10) := by
   have := u8_ne b 10
   rw [decide_eq_decide] at this
   exact propext this
  have e47 : ((b.toNat : Int) = 47) = (b = 47) := by
   have := u8_ne b 47
   rw [decide_eq_decide] at this
   exact propext this
  by_cases hs : skips (b :: r) = true
  ·rw [skipM_step hs n] at hq
   have hlen := skip1_len hs n
   rw [skip1_cons] at hq hlen
   rw [zVc] at hs
   by_cases hc : b = 47 /\ r.head? = some 47
   ·rw [decide_eq_true hc.1, decide_eq_true hc.2] at a1
    have hne : ¬ b = 10 := by rw [hc.1]; decide
    have hnb : ¬ blank b = true := by rw [hc.1]; decide
    rw [if_neg hne, if_neg hnb, zIa] at hq hlen
    have hle : ((b :: r).takeWhile (· != 10)).length <= (b :: r).length := (List.takeWhile_prefix _).length_le
    generalize (b :: r).takeWhile (· != 10) = tw at *
    clear hi e10 e47 hc hne hnb hs hb w1
    try simp at a1
    generalize hqr : b :: r = qr at *
    have hne2 : ¬ qr = [] := by rw [<- hqr]; simp
    clear hqr
    (simp [*]) <;> (repeat' (first | ((first | refine sP _ ?_ ?_ | refine gP _ ?_ ?_ | refine sN _ ?_ ?_ | refine gN _ ?_ ?_) <;> intro hc <;> (first | replace hc := eqn hc | replace hc := eqp hc) <;> simp [*]) | ((first | refine sM _ ?_ ?_ | refine gM _ ?_ ?_ | refine sB _ ?_ ?_ | refine gB _ ?_ ?_) <;> intro hc <;> simp [*])))
    simp only [List.length_drop] at hlen
    exact ⟨qr.drop tw.length, by rw [List.length_drop]; omega, n, ⟨rfl, rfl⟩, hq, by rw [List.length_drop]; omega, hn0, by rw [List.length_drop]; omega⟩
   ·have a1' : (decide (b = 47) && decide (r.head? = some 47)) = false := by
     rw [Bool.eq_false_iff]; intro h; simp at h; exact hc h
    rw [a1'] at a1
    try simp at a1
    simp only [List.length_cons] at hql hn1
    by_cases hn : b = 10
    ·rw [if_pos hn] at hq hlen
     clear hc hb hi e47 a2 a3 hs hlen
     subst hn
     (simp [*]) <;> (repeat' (first | ((first | refine sP _ ?_ ?_ | refine gP _ ?_ ?_ | refine sN _ ?_ ?_ | refine gN _ ?_ ?_) <;> intro hc <;> (first | replace hc := eqn hc | replace hc := eqp hc) <;> simp [*]) | ((first | refine sM _ ?_ ?_ | refine gM _ ?_ ?_ | refine sB _ ?_ ?_ | refine gB _ ?_ ?_) <;> intro hc <;> simp [*])))
     exact ⟨r, by omega, n + 1, ⟨rfl, rfl⟩, hq, by omega, by omega, by omega⟩
    ·rw [if_neg hn] at hq hlen
     have hbl : blank b = true := by
      rcases hs with h | h | h
      ·exact absurd h hn
      ·exact h
      ·exact absurd h hc
     rw [if_pos hbl] at hq hlen
     have hi0 : 0 <= i := hb.2 hbl
     clear hc hb hi e47 a2 hs hlen hbl
     try simp at a3
     (simp [*]) <;> (repeat' (first | ((first | refine sP _ ?_ ?_ | refine gP _ ?_ ?_ | refine sN _ ?_ ?_ | refine gN _ ?_ ?_) <;> intro hc <;> (first | replace hc := eqn hc | replace hc := eqp hc) <;> simp [*]) | ((first | refine sM _ ?_ ?_ | refine gM _ ?_ ?_ | refine sB _ ?_ ?_ | refine gB _ ?_ ?_) <;> intro hc <;> simp [*])))
     exact ⟨r, by omega, n, ⟨rfl, rfl⟩, hq, by omega, by omega, by omega⟩
  ·have hs' : skips (b :: r) = false := by simpa using hs
   rw [skipM_stop hs' n] at hq
   rw [zVc] at hs
   simp only [not_or] at hs
   obtain ⟨k1, k2, k3⟩ := hs
   have a1' : (decide (b = 47) && decide (r.head? = some 47)) = false := by
    rw [Bool.eq_false_iff]; intro h; simp at h; exact k3 h
   rw [a1'] at a1
   have hi0 : ¬ 0 <= i := fun h => k2 (hb.1 h)
   have hi1 : i < 0 := by omega
   rw [<- hq]
   clear k3 hb hi e47 a2 a1' hq k2
   try simp at a1 a3
   (simp [*]) <;> (repeat' (first | ((first | refine sP _ ?_ ?_ | refine gP _ ?_ ?_ | refine sN _ ?_ ?_ | refine gN _ ?_ ?_) <;> intro hc <;> (first | replace hc := eqn hc | replace hc := eqp hc) <;> simp [*]) | ((first | refine sM _ ?_ ?_ | refine gM _ ?_ ?_ | refine sB _ ?_ ?_ | refine gB _ ?_ ?_) <;> intro hc <;> simp [*])))
theorem runM_nil : runM [] = [] := rfl
set_option maxHeartbeats 1000000 in
theorem next_spec (s : List UInt8) (line : Int) (hl : s.length <= 100000) (hs : skips s = false) :
  zj E 28 [.ptr 0 0 0] (sob s line) = some (.ret (.tup [zl (zpd s line).1, .bool (zpd s line).2]), sob (s.drop (zpd s line).1.text.length) line) := by
 refine zb rfl rfl rfl (by simp) ?_
 have hrun := run_spec s []
 unfold sob
 cases s with
 | nil =>
  rw [runM_nil] at hrun
  have e : zpd [] line = (⟨3, [], line⟩, true) := rfl
  rw [e]
  (simp [*, F28, zl]) <;> (repeat' (first | ((first | refine sP _ ?_ ?_ | refine gP _ ?_ ?_ | refine sN _ ?_ ?_ | refine gN _ ?_ ?_) <;> intro hc <;> (first | replace hc := eqn hc | replace hc := eqp hc) <;> simp [*, F28, zl]) | ((first | refine sM _ ?_ ?_ | refine gM _ ?_ ?_ | refine sB _ ?_ ?_ | refine gB _ ?_ ?_) <;> intro hc <;> simp [*, F28, zl])))
 | cons b r =>
  have hsg := psign_spec (b :: r) (by simp) (by omega)
  have hlet := zsb b.toNat []
  have hw := word_spec (runM (b :: r)) []
  have hnm := zcd (runM (b :: r)) []
  have hne : ¬ b :: r = [] := by simp
  have h0 : (b :: r)[0]? = some b := rfl
  rw [nextM_cons]
  by_cases he : runM (b :: r) = []
  ·rw [if_pos he]
   rw [he] at hrun
   have hle := sign_len (b :: r)
   clear hlet hw hnm he h0
   generalize zlb (b :: r) = g at *
   generalize b :: r = q at *
   have hle' : (g.length : Int) <= q.length := by omega
   by_cases hg : g = []
   ·subst hg
    (simp [*, F28, zl]) <;> (repeat' (first | ((first | refine sP _ ?_ ?_ | refine gP _ ?_ ?_ | refine sN _ ?_ ?_ | refine gN _ ?_ ?_) <;> intro hc <;> (first | replace hc := eqn hc | replace hc := eqp hc) <;> simp [*, F28, zl]) | ((first | refine sM _ ?_ ?_ | refine gM _ ?_ ?_ | refine sB _ ?_ ?_ | refine gB _ ?_ ?_) <;> intro hc <;> simp [*, F28, zl])))
   ·(simp [*, F28, zl]) <;> (repeat' (first | ((first | refine sP _ ?_ ?_ | refine gP _ ?_ ?_ | refine sN _ ?_ ?_ | refine gN _ ?_ ?_) <;> intro hc <;> (first | replace hc := eqn hc | replace hc := eqp hc) <;> simp [*, F28, zl]) | ((first | refine sM _ ?_ ?_ | refine gM _ ?_ ?_ | refine sB _ ?_ ?_ | refine gB _ ?_ ?_) <;> intro hc <;> simp [*, F28, zl])))
  ·rw [if_neg he]
   have hle : (runM (b :: r)).length <= (b :: r).length := (List.takeWhile_prefix _).length_le
   have hnum : ¬ zpa b.toNat = true -> zj E 55 [.str (runM (b :: r))] [] = some (.ret (.bool (zXa (runM (b :: r)))), []) := by
    intro hb
    unfold runM at he hle ⊢
    rw [List.takeWhile_cons] at he hle ⊢
    by_cases hn : zw b = true
    ·rw [if_pos hn] at hle ⊢
     have hd : zab b.toNat = true := by
      simp only [zw, Bool.or_eq_true] at hn
      rcases hn with h | h
      ·exact absurd h hb
      ·exact h
     have hd2 : 48 <= b.toNat /\ b.toNat <= 57 := by
      simp [zab] at hd; omega
     exact pnumber_spec b _ (by omega) (by omega)
    ·rw [if_neg hn] at he; exact absurd rfl he
   clear hsg
   generalize runM (b :: r) = w at *
   generalize b :: r = q at *
   have hle' : (w.length : Int) <= q.length := by omega
   unfold tokBad zMb
   cases hwd : wordM w
   ·rw [hwd] at hw
    cases hlb : zpa b.toNat
    ·have hnum := hnum (by rw [hlb]; decide)
     rw [hlb] at hlet
     (simp [*, F28, zl]) <;> (repeat' (first | ((first | refine sP _ ?_ ?_ | refine gP _ ?_ ?_ | refine sN _ ?_ ?_ | refine gN _ ?_ ?_) <;> intro hc <;> (first | replace hc := eqn hc | replace hc := eqp hc) <;> simp [*, F28, zl]) | ((first | refine sM _ ?_ ?_ | refine gM _ ?_ ?_ | refine sB _ ?_ ?_ | refine gB _ ?_ ?_) <;> intro hc <;> simp [*, F28, zl])))
    ·clear hnum
     rw [hlb] at hlet
     (simp [*, F28, zl]) <;> (repeat' (first | ((first | refine sP _ ?_ ?_ | refine gP _ ?_ ?_ | refine sN _ ?_ ?_ | refine gN _ ?_ ?_) <;> intro hc <;> (first | replace hc := eqn hc | replace hc := eqp hc) <;> simp [*, F28, zl]) | ((first | refine sM _ ?_ ?_ | refine gM _ ?_ ?_ | refine sB _ ?_ ?_ | refine gB _ ?_ ?_) <;> intro hc <;> simp [*, F28, zl])))
   ·rw [hwd] at hw
    clear hnum
    (simp [*, F28, zl]) <;> (repeat' (first | ((first | refine sP _ ?_ ?_ | refine gP _ ?_ ?_ | refine sN _ ?_ ?_ | refine gN _ ?_ ?_) <;> intro hc <;> (first | replace hc := eqn hc | replace hc := eqp hc) <;> simp [*, F28, zl]) | ((first | refine sM _ ?_ ?_ | refine gM _ ?_ ?_ | refine sB _ ?_ ?_ | refine gB _ ?_ ?_) <;> intro hc <;> simp [*, F28, zl])))
end PE.U

namespace PE.U
open Go PE
theorem skipM_facts : ∀ k (q : List UInt8) (n : Int), q.length <= k -> skips (skipM q n).1 = false /\ (∀ ac, tokL q n ac = tokL (skipM q n).1 (skipM q n).2 ac) /\ (skipM q n).1.length <= q.length /\ n <= (skipM q n).2 /\ (skipM q n).2 + (skipM q n).1.length <= n + q.length := by
 intro k
 induction k with
 | zero =>
  intro q n h
  have : q = [] := List.eq_nil_of_length_eq_zero (by omega)
  subst this
  rw [skipM_stop (s := []) rfl n]
  exact ⟨rfl, fun _ => rfl, Nat.le_refl _, Int.le_refl _, Int.le_refl _⟩
 | succ k ih =>
  intro q n h
  cases hs : skips q
  ·rw [skipM_stop hs n]
   exact ⟨hs, fun _ => rfl, Nat.le_refl _, Int.le_refl _, Int.le_refl _⟩
  ·have hl := skip1_len hs n
   have hn : n <= (skip1 q n).2 /\ (skip1 q n).2 <= n + 1 := by
    cases q with
    | nil => cases hs
    | cons b r =>
     rw [skip1_cons]
     split
     ·simp only; omega
     ·split <;> simp only <;> omega
   rw [skipM_step hs n]
   obtain ⟨i1, i2, i3, i4, i5⟩ := ih (skip1 q n).1 (skip1 q n).2 (by omega)
   exact ⟨i1, fun ac => (skip1_tok hs n ac).trans (i2 ac), by omega, by omega, by omega⟩
theorem nextM_line (s : List UInt8) (n : Int) : (zpd s n).1.line = n := by
 unfold zpd
 split
 ·rfl
 ·split <;> rfl
theorem nextM_pos {s : List UInt8} {n : Int} (h : (zpd s n).2 = true) (h3 : ¬ (zpd s n).1.kind = 3) : (s.drop (zpd s n).1.text.length).length < s.length := by
 unfold zpd at h h3 ⊢
 by_cases hs : s = []
 ·rw [if_pos hs] at h3; exact absurd rfl h3
 ·rw [if_neg hs] at h ⊢
  have hp : 0 < s.length := List.length_pos_iff.2 hs
  rw [List.length_drop]
  by_cases hr : runM s = []
  ·rw [if_pos hr] at h ⊢
   simp only [decide_eq_true_eq] at h
   have := List.length_pos_iff.2 h
   simp only; omega
  ·rw [if_neg hr]
   have := List.length_pos_iff.2 hr
   simp only; omega
set_option maxHeartbeats 2000000 in
theorem ptokens_spec (s : List UInt8) : zj E 17 [.str s] [] = some (.ret (.tup (zSc (zu s))), []) := by
 refine zb rfl rfl rfl (by simp) ?_
 by_cases hlong : 100000 < s.length
 ·have e : zu s = ([], 2, 0) := by unfold zu; rw [if_pos hlong]
  have hlong' : (100000 : Int) < s.length := by omega
  simp [F17, hlong', e, zSc, toks]
 have e0 : zu s = zma (s.length + 1) s 1 [] := by unfold zu; rw [if_neg hlong]
 have hlong' : ¬ (100000 : Int) < s.length := by omega
 simp [F17, hlong', zSc, toks]
 refine zva K17_0 B17_0 (fun c : List UInt8 × Int × List Tok => c.1.length) (fun c => [(2, acc 3 (c.2.2.map zl))]) (fun _ => []) (fun c => sob c.1 c.2.1) (fun c => zu s = tokL c.1 c.2.1 c.2.2 /\ 0 <= c.2.1 /\ c.2.1 + c.1.length <= 200000 /\ c.2.2.length + c.1.length <= 100000) (s, 1, []) ⟨by simp, by simp, rfl, e0, Int.le_of_lt Int.one_pos, by simp only; omega, by simp; omega⟩ ?_
 rintro ⟨q, n, ac⟩ s1 ⟨hq, hn0, hn1, hac⟩ g1 g2 g3 g4 g5
 simp only at hq hn0 hn1 hac g5
 simp at g1 g3
 clear g2 g4 e0 hlong hlong'
 obtain ⟨f1, f2, f3, f4, f5⟩ := skipM_facts _ q n (Nat.le_refl _)
 have a1 := skip_spec q n (by omega) hn0 (by omega)
 rw [f2 ac] at hq
 obtain ⟨⟨q', n'⟩, hqn⟩ : ∃ c, skipM q n = c := ⟨_, rfl⟩
 rw [hqn] at f1 f3 f4 f5 a1 hq
 clear hqn f2
 simp only at f1 f3 f4 f5 a1 hq
 have a2 := next_spec q' n' (by omega) f1
 rw [next_tok f1 n' ac] at hq
 have hline := nextM_line q' n'
 have hpos := @nextM_pos q' n'
 obtain ⟨⟨t, ok⟩, htk⟩ : ∃ c, zpd q' n' = c := ⟨_, rfl⟩
 rw [htk] at a2 hq hline hpos
 clear htk f1
 obtain ⟨k, w, l⟩ := t
 simp only at a2 hq hline hpos
 subst hline
 unfold sob at a1 a2 g5
 cases ok
 ·rw [if_pos rfl] at hq
  rw [hq]
  clear hpos hq
  (simp [*, zl]) <;> (repeat' (first | ((first | refine sP _ ?_ ?_ | refine gP _ ?_ ?_ | refine sN _ ?_ ?_ | refine gN _ ?_ ?_) <;> intro hc <;> (first | replace hc := eqn hc | replace hc := eqp hc) <;> simp [*, zl]) | ((first | refine sM _ ?_ ?_ | refine gM _ ?_ ?_ | refine sB _ ?_ ?_ | refine gB _ ?_ ?_) <;> intro hc <;> simp [*, zl])))
 ·rw [if_neg (by decide)] at hq
  have q4 : (ac.length + 1) * 32 <= zG := by simp only [zG]; omega
  by_cases hk : k = 3
  ·rw [if_pos hk] at hq
   rw [hq]
   clear hpos hq
   subst hk
   (simp [*, zl]) <;> (repeat' (first | ((first | refine sP _ ?_ ?_ | refine gP _ ?_ ?_ | refine sN _ ?_ ?_ | refine gN _ ?_ ?_) <;> intro hc <;> (first | replace hc := eqn hc | replace hc := eqp hc) <;> simp [*, zl]) | ((first | refine sM _ ?_ ?_ | refine gM _ ?_ ?_ | refine sB _ ?_ ?_ | refine gB _ ?_ ?_) <;> intro hc <;> simp [*, zl])))
  ·rw [if_neg hk] at hq
   have hpos := hpos rfl hk
   (simp [*, zl]) <;> (repeat' (first | ((first | refine sP _ ?_ ?_ | refine gP _ ?_ ?_ | refine sN _ ?_ ?_ | refine gN _ ?_ ?_) <;> intro hc <;> (first | replace hc := eqn hc | replace hc := eqp hc) <;> simp [*, zl]) | ((first | refine sM _ ?_ ?_ | refine gM _ ?_ ?_ | refine sB _ ?_ ?_ | refine gB _ ?_ ?_) <;> intro hc <;> simp [*, zl])))
   exact ⟨q'.drop w.length, by omega, l, ac ++ [⟨k, w, l⟩], by simp [zl], rfl, rfl, by omega, by omega, by rw [List.length_append, List.length_singleton]; omega⟩
end PE.U

namespace PE.U
open Go PE
def idx {α : Type} (p : α -> Bool) (l : List α) : Int := match l.findIdx? p with
 | some i => (i : Int)
 | none => -1
theorem idx_hit {α : Type} {p : α -> Bool} {l d : List α} {x : α} {r : List α} (h : Split l d x r) (hd : ∀ y ∈ d, p y = false) (hx : p x = true) : idx p l = d.length := by
 have : l.findIdx? p = some d.length := by
  rw [h.eq, List.findIdx?_append]
  have : d.findIdx? p = none := by rw [List.findIdx?_eq_none_iff]; exact hd
  rw [this]
  simp [List.findIdx?_cons, hx]
 simp [idx, this]
theorem idx_none {α : Type} {p : α -> Bool} {l : List α} (hd : ∀ y ∈ l, p y = false) : idx p l = -1 := by
 have : l.findIdx? p = none := by rw [List.findIdx?_eq_none_iff]; exact hd
 simp [idx, this]
theorem idx_ge {α : Type} (p : α -> Bool) (l : List α) : decide (0 <= idx p l) = l.any p := by
 unfold idx
 cases h : l.findIdx? p with
 | none =>
  rw [List.findIdx?_eq_none_iff] at h
  simp; exact h
 | some i =>
  have : (l.findIdx? p).isSome = true := by rw [h]; rfl
  rw [List.findIdx?_isSome] at this
  simp [this]
theorem indexFuncFunc (l : List (Func)) (p : Func -> Bool) (k : Nat) (first caps : List PV) (σ : ze) (hl : l.length < 1099511627776) (hf : ∀ x ∈ l, zj E k (first ++ [zD x] ++ caps) σ = some (.ret (.bool (p x)), σ)) :
  zj E 63 [.slice .plain 4 (l.map (zD)), .fn k first caps] σ = some (.ret (.int .i64 (idx p l)), σ) := by
 refine zb rfl rfl rfl (by simp) ?_
 simp [F63]
 refine zfa l K63_0 B63_0 (fun d => [(8, .int .i64 d.length)]) (fun _ => σ) (fun d => ∀ y ∈ d, p y = false) (by omega) (by simp) ?_ ?_
 ·intros d x r s hl' hlt hget hget' hw hp h1 h2 h3 h4
  have hfx := hf x hl'.mem
  simp [zD] at h1 h3 hfx
  clear h2 hf
  cases hx : p x
  ·(simp [*, zD]) <;> (repeat' ((first | refine sP _ ?_ ?_ | refine gP _ ?_ ?_ | refine sN _ ?_ ?_ | refine gN _ ?_ ?_ | refine sM _ ?_ ?_ | refine gM _ ?_ ?_ | refine sB _ ?_ ?_ | refine gB _ ?_ ?_) <;> intro hc <;> simp [*, zD]))
   all_goals grind
  ·have := idx_hit hl' hp hx
   (simp [*, zD]) <;> (repeat' ((first | refine sP _ ?_ ?_ | refine gP _ ?_ ?_ | refine sN _ ?_ ?_ | refine gN _ ?_ ?_ | refine sM _ ?_ ?_ | refine gM _ ?_ ?_ | refine sB _ ?_ ?_ | refine gB _ ?_ ?_) <;> intro hc <;> simp [*, zD]))
 ·intros s hp h1 h2 h3 h4
  have := idx_none hp
  simp at h1 h3
  (simp [*, zD]) <;> (repeat' ((first | refine sP _ ?_ ?_ | refine gP _ ?_ ?_ | refine sN _ ?_ ?_ | refine gN _ ?_ ?_ | refine sM _ ?_ ?_ | refine gM _ ?_ ?_ | refine sB _ ?_ ?_ | refine gB _ ?_ ?_) <;> intro hc <;> simp [*, zD]))
theorem containsFuncFunc (l : List (Func)) (p : Func -> Bool) (k : Nat) (first caps : List PV) (σ : ze) (hl : l.length < 1099511627776) (hc : (first.map stripA) = first /\ (caps.map stripA) = caps) (hf : ∀ x ∈ l, zj E k (first ++ [zD x] ++ caps) σ = some (.ret (.bool (p x)), σ)) :
  zj E 38 [.slice .plain 4 (l.map (zD)), .fn k first caps] σ = some (.ret (.bool (l.any p)), σ) := by
 refine zb rfl rfl rfl (by simp) ?_
 have h := indexFuncFunc l p k first caps σ hl hf
 have h2 := idx_ge p l
 clear hf
 (simp [*, F38]) <;> (repeat' ((first | refine sP _ ?_ ?_ | refine gP _ ?_ ?_ | refine sN _ ?_ ?_ | refine gN _ ?_ ?_ | refine sM _ ?_ ?_ | refine gM _ ?_ ?_ | refine sB _ ?_ ?_ | refine gB _ ?_ ?_) <;> intro hc <;> simp [*, F38]))
theorem indexFuncPArr (l : List (PArr)) (p : PArr -> Bool) (k : Nat) (first caps : List PV) (σ : ze) (hl : l.length < 1099511627776) (hf : ∀ x ∈ l, zj E k (first ++ [zha x] ++ caps) σ = some (.ret (.bool (p x)), σ)) :
  zj E 62 [.slice .plain 2 (l.map (zha)), .fn k first caps] σ = some (.ret (.int .i64 (idx p l)), σ) := by
 refine zb rfl rfl rfl (by simp) ?_
 simp [F62]
 refine zfa l K62_0 B62_0 (fun d => [(8, .int .i64 d.length)]) (fun _ => σ) (fun d => ∀ y ∈ d, p y = false) (by omega) (by simp) ?_ ?_
 ·intros d x r s hl' hlt hget hget' hw hp h1 h2 h3 h4
  have hfx := hf x hl'.mem
  simp [zha] at h1 h3 hfx
  clear h2 hf
  cases hx : p x
  ·(simp [*, zha]) <;> (repeat' ((first | refine sP _ ?_ ?_ | refine gP _ ?_ ?_ | refine sN _ ?_ ?_ | refine gN _ ?_ ?_ | refine sM _ ?_ ?_ | refine gM _ ?_ ?_ | refine sB _ ?_ ?_ | refine gB _ ?_ ?_) <;> intro hc <;> simp [*, zha]))
   all_goals grind
  ·have := idx_hit hl' hp hx
   (simp [*, zha]) <;> (repeat' ((first | refine sP _ ?_ ?_ | refine gP _ ?_ ?_ | refine sN _ ?_ ?_ | refine gN _ ?_ ?_ | refine sM _ ?_ ?_ | refine gM _ ?_ ?_ | refine sB _ ?_ ?_ | refine gB _ ?_ ?_) <;> intro hc <;> simp [*, zha]))
 ·intros s hp h1 h2 h3 h4
  have := idx_none hp
  simp at h1 h3
  (simp [*, zha]) <;> (repeat' ((first | refine sP _ ?_ ?_ | refine gP _ ?_ ?_ | refine sN _ ?_ ?_ | refine gN _ ?_ ?_ | refine sM _ ?_ ?_ | refine gM _ ?_ ?_ | refine sB _ ?_ ?_ | refine gB _ ?_ ?_) <;> intro hc <;> simp [*, zha]))
theorem containsFuncPArr (l : List (PArr)) (p : PArr -> Bool) (k : Nat) (first caps : List PV) (σ : ze) (hl : l.length < 1099511627776) (hc : (first.map stripA) = first /\ (caps.map stripA) = caps) (hf : ∀ x ∈ l, zj E k (first ++ [zha x] ++ caps) σ = some (.ret (.bool (p x)), σ)) :
  zj E 37 [.slice .plain 2 (l.map (zha)), .fn k first caps] σ = some (.ret (.bool (l.any p)), σ) := by
 refine zb rfl rfl rfl (by simp) ?_
 have h := indexFuncPArr l p k first caps σ hl hf
 have h2 := idx_ge p l
 clear hf
 (simp [*, F37]) <;> (repeat' ((first | refine sP _ ?_ ?_ | refine gP _ ?_ ?_ | refine sN _ ?_ ?_ | refine gN _ ?_ ?_ | refine sM _ ?_ ?_ | refine gM _ ?_ ?_ | refine sB _ ?_ ?_ | refine gB _ ?_ ?_) <;> intro hc <;> simp [*, F37]))
theorem indexFuncExpr (l : List (Expr)) (p : Expr -> Bool) (k : Nat) (first caps : List PV) (σ : ze) (hl : l.length < 1099511627776) (hf : ∀ x ∈ l, zj E k (first ++ [zH x] ++ caps) σ = some (.ret (.bool (p x)), σ)) :
  zj E 131 [.slice .plain 5 (l.map (zH)), .fn k first caps] σ = some (.ret (.int .i64 (idx p l)), σ) := by
 refine zb rfl rfl rfl (by simp) ?_
 simp [F131]
 refine zfa l K131_0 B131_0 (fun d => [(8, .int .i64 d.length)]) (fun _ => σ) (fun d => ∀ y ∈ d, p y = false) (by omega) (by simp) ?_ ?_
 ·intros d x r s hl' hlt hget hget' hw hp h1 h2 h3 h4
  have hfx := hf x hl'.mem
  simp [za] at h1 h3 hfx
  clear h2 hf
  cases hx : p x
  ·(simp [*, za]) <;> (repeat' ((first | refine sP _ ?_ ?_ | refine gP _ ?_ ?_ | refine sN _ ?_ ?_ | refine gN _ ?_ ?_ | refine sM _ ?_ ?_ | refine gM _ ?_ ?_ | refine sB _ ?_ ?_ | refine gB _ ?_ ?_) <;> intro hc <;> simp [*, za]))
   all_goals grind
  ·have := idx_hit hl' hp hx
   (simp [*, za]) <;> (repeat' ((first | refine sP _ ?_ ?_ | refine gP _ ?_ ?_ | refine sN _ ?_ ?_ | refine gN _ ?_ ?_ | refine sM _ ?_ ?_ | refine gM _ ?_ ?_ | refine sB _ ?_ ?_ | refine gB _ ?_ ?_) <;> intro hc <;> simp [*, za]))
 ·intros s hp h1 h2 h3 h4
  have := idx_none hp
  simp at h1 h3
  (simp [*, za]) <;> (repeat' ((first | refine sP _ ?_ ?_ | refine gP _ ?_ ?_ | refine sN _ ?_ ?_ | refine gN _ ?_ ?_ | refine sM _ ?_ ?_ | refine gM _ ?_ ?_ | refine sB _ ?_ ?_ | refine gB _ ?_ ?_) <;> intro hc <;> simp [*, za]))
theorem containsFuncExpr (l : List (Expr)) (p : Expr -> Bool) (k : Nat) (first caps : List PV) (σ : ze) (hl : l.length < 1099511627776) (hc : (first.map stripA) = first /\ (caps.map stripA) = caps) (hf : ∀ x ∈ l, zj E k (first ++ [zH x] ++ caps) σ = some (.ret (.bool (p x)), σ)) :
  zj E 116 [.slice .plain 5 (l.map (zH)), .fn k first caps] σ = some (.ret (.bool (l.any p)), σ) := by
 refine zb rfl rfl rfl (by simp) ?_
 have h := indexFuncExpr l p k first caps σ hl hf
 have h2 := idx_ge p l
 clear hf
 (simp [*, F116]) <;> (repeat' ((first | refine sP _ ?_ ?_ | refine gP _ ?_ ?_ | refine sN _ ?_ ?_ | refine gN _ ?_ ?_ | refine sM _ ?_ ?_ | refine gM _ ?_ ?_ | refine sB _ ?_ ?_ | refine gB _ ?_ ?_) <;> intro hc <;> simp [*, F116]))
theorem indexFuncStmt (l : List (Stmt)) (p : Stmt -> Bool) (k : Nat) (first caps : List PV) (σ : ze) (hl : l.length < 1099511627776) (hf : ∀ x ∈ l, zj E k (first ++ [zla x] ++ caps) σ = some (.ret (.bool (p x)), σ)) :
  zj E 114 [.slice .plain 6 (l.map (zla)), .fn k first caps] σ = some (.ret (.int .i64 (idx p l)), σ) := by
 refine zb rfl rfl rfl (by simp) ?_
 simp [F114]
 refine zfa l K114_0 B114_0 (fun d => [(8, .int .i64 d.length)]) (fun _ => σ) (fun d => ∀ y ∈ d, p y = false) (by omega) (by simp) ?_ ?_
 ·intros d x r s hl' hlt hget hget' hw hp h1 h2 h3 h4
  have hfx := hf x hl'.mem
  simp [zc] at h1 h3 hfx
  clear h2 hf
  cases hx : p x
  ·(simp [*, zc]) <;> (repeat' ((first | refine sP _ ?_ ?_ | refine gP _ ?_ ?_ | refine sN _ ?_ ?_ | refine gN _ ?_ ?_ | refine sM _ ?_ ?_ | refine gM _ ?_ ?_ | refine sB _ ?_ ?_ | refine gB _ ?_ ?_) <;> intro hc <;> simp [*, zc]))
   all_goals grind
  ·have := idx_hit hl' hp hx
   (simp [*, zc]) <;> (repeat' ((first | refine sP _ ?_ ?_ | refine gP _ ?_ ?_ | refine sN _ ?_ ?_ | refine gN _ ?_ ?_ | refine sM _ ?_ ?_ | refine gM _ ?_ ?_ | refine sB _ ?_ ?_ | refine gB _ ?_ ?_) <;> intro hc <;> simp [*, zc]))
 ·intros s hp h1 h2 h3 h4
  have := idx_none hp
  simp at h1 h3
  (simp [*, zc]) <;> (repeat' ((first | refine sP _ ?_ ?_ | refine gP _ ?_ ?_ | refine sN _ ?_ ?_ | refine gN _ ?_ ?_ | refine sM _ ?_ ?_ | refine gM _ ?_ ?_ | refine sB _ ?_ ?_ | refine gB _ ?_ ?_) <;> intro hc <;> simp [*, zc]))
theorem containsFuncStmt (l : List (Stmt)) (p : Stmt -> Bool) (k : Nat) (first caps : List PV) (σ : ze) (hl : l.length < 1099511627776) (hc : (first.map stripA) = first /\ (caps.map stripA) = caps) (hf : ∀ x ∈ l, zj E k (first ++ [zla x] ++ caps) σ = some (.ret (.bool (p x)), σ)) :
  zj E 95 [.slice .plain 6 (l.map (zla)), .fn k first caps] σ = some (.ret (.bool (l.any p)), σ) := by
 refine zb rfl rfl rfl (by simp) ?_
 have h := indexFuncStmt l p k first caps σ hl hf
 have h2 := idx_ge p l
 clear hf
 (simp [*, F95]) <;> (repeat' ((first | refine sP _ ?_ ?_ | refine gP _ ?_ ?_ | refine sN _ ?_ ?_ | refine gN _ ?_ ?_ | refine sM _ ?_ ?_ | refine gM _ ?_ ?_ | refine sB _ ?_ ?_ | refine gB _ ?_ ?_) <;> intro hc <;> simp [*, F95]))
theorem indexFuncPar (l : List (Par)) (p : Par -> Bool) (k : Nat) (first caps : List PV) (σ : ze) (hl : l.length < 1099511627776) (hf : ∀ x ∈ l, zj E k (first ++ [encPar x] ++ caps) σ = some (.ret (.bool (p x)), σ)) :
  zj E 94 [.slice .plain 2 (l.map (encPar)), .fn k first caps] σ = some (.ret (.int .i64 (idx p l)), σ) := by
 refine zb rfl rfl rfl (by simp) ?_
 simp [F94]
 refine zfa l K94_0 B94_0 (fun d => [(8, .int .i64 d.length)]) (fun _ => σ) (fun d => ∀ y ∈ d, p y = false) (by omega) (by simp) ?_ ?_
 ·intros d x r s hl' hlt hget hget' hw hp h1 h2 h3 h4
  have hfx := hf x hl'.mem
  simp [encPar] at h1 h3 hfx
  clear h2 hf
  cases hx : p x
  ·(simp [*, encPar]) <;> (repeat' ((first | refine sP _ ?_ ?_ | refine gP _ ?_ ?_ | refine sN _ ?_ ?_ | refine gN _ ?_ ?_ | refine sM _ ?_ ?_ | refine gM _ ?_ ?_ | refine sB _ ?_ ?_ | refine gB _ ?_ ?_) <;> intro hc <;> simp [*, encPar]))
   all_goals grind
  ·have := idx_hit hl' hp hx
   (simp [*, encPar]) <;> (repeat' ((first | refine sP _ ?_ ?_ | refine gP _ ?_ ?_ | refine sN _ ?_ ?_ | refine gN _ ?_ ?_ | refine sM _ ?_ ?_ | refine gM _ ?_ ?_ | refine sB _ ?_ ?_ | refine gB _ ?_ ?_) <;> intro hc <;> simp [*, encPar]))
 ·intros s hp h1 h2 h3 h4
  have := idx_none hp
  simp at h1 h3
  (simp [*, encPar]) <;> (repeat' ((first | refine sP _ ?_ ?_ | refine gP _ ?_ ?_ | refine sN _ ?_ ?_ | refine gN _ ?_ ?_ | refine sM _ ?_ ?_ | refine gM _ ?_ ?_ | refine sB _ ?_ ?_ | refine gB _ ?_ ?_) <;> intro hc <;> simp [*, encPar]))
theorem containsFuncPar (l : List (Par)) (p : Par -> Bool) (k : Nat) (first caps : List PV) (σ : ze) (hl : l.length < 1099511627776) (hc : (first.map stripA) = first /\ (caps.map stripA) = caps) (hf : ∀ x ∈ l, zj E k (first ++ [encPar x] ++ caps) σ = some (.ret (.bool (p x)), σ)) :
  zj E 66 [.slice .plain 2 (l.map (encPar)), .fn k first caps] σ = some (.ret (.bool (l.any p)), σ) := by
 refine zb rfl rfl rfl (by simp) ?_
 have h := indexFuncPar l p k first caps σ hl hf
 have h2 := idx_ge p l
 clear hf
 (simp [*, F66]) <;> (repeat' ((first | refine sP _ ?_ ?_ | refine gP _ ?_ ?_ | refine sN _ ?_ ?_ | refine gN _ ?_ ?_ | refine sM _ ?_ ?_ | refine gM _ ?_ ?_ | refine sB _ ?_ ?_ | refine gB _ ?_ ?_) <;> intro hc <;> simp [*, F66]))
end PE.U

namespace PE.U
open Go PE
theorem tblank_spec (k o n : Int) (s : List UInt8) (a : List Expr) : zj E 147 [.agg [.int .i64 k, .int .i64 o, .int .i64 n, .str s, zd a]] [] = some (.ret (.bool (decide (o = 0) && (decide (n = 0) && (decide (s = []) && decide (a = []))))), []) := by
 refine zb rfl rfl rfl (by simp) ?_
 have hl : ((a.length : Int) = 0) = (a = []) := by simp
 (simp [*, F147, zd]) <;> (repeat' ((first | refine sP _ ?_ ?_ | refine gP _ ?_ ?_ | refine sN _ ?_ ?_ | refine gN _ ?_ ?_ | refine sM _ ?_ ?_ | refine gM _ ?_ ?_ | refine sB _ ?_ ?_ | refine gB _ ?_ ?_) <;> intro hc <;> simp [*, F147, zd]))
def ownT (k o n : Int) (s : List UInt8) (a : Nat) : Int × Bool :=
 if k = 1 then (0, decide (0 <= n) && (decide (o = 0) && decide (s = [])))
 else if k = 2 then (0, (decide (n = 0) || decide (n = 1)) && (decide (o = 0) && decide (s = [])))
 else if k = 4 then (1, oneR o && (decide (n = 0) && decide (s = [])))
 else if k = 5 then (2, decide (0 < zKb o) && (decide (n = 0) && decide (s = [])))
 else if k = 8 then (0, decide (o = 0) && (decide (n = 0) && decide (s = [])))
 else if k = 3 then (0, zGb s && (decide (o = 0) && decide (n = 0)))
 else if k = 6 then (1, zGb s && (decide (o = 0) && decide (n = 0)))
 else if k = 7 then (a, (zGb s && (decide (o = 0) && decide (n = 0))) && decide (a <= 8))
 else (0, false)
set_option maxHeartbeats 4000000 in
theorem town_spec (e : Expr) : zj E 132 [zH e] [] = some (.ret (.tup [.int .i64 (ownT e.kind e.op e.n e.name e.args.length).1, .bool (ownT e.kind e.op e.n e.name e.args.length).2]), []) := by
 obtain ⟨k, o, n, s, a⟩ := e
 have hn := zcd s []
 have hlv := level_spec o []
 rw [lvl_eq] at hlv
 have hb : ∀ k o n s, zj E 147 [.agg [.int .i64 k, .int .i64 o, .int .i64 n, .str s, .slice .plain 5 []]] [] = some (.ret (.bool (decide (o = 0) && (decide (n = 0) && decide (s = [])))), []) := by
  intro k o n s
  have := tblank_spec k o n s []
  simpa [zd] using this
 refine zb rfl rfl rfl (by simp [za]) ?_
 simp only
 unfold ownT
 by_cases k1 : k = 1
 ·replace k1 := eqp k1
  (simp [*, F132, za, zd]) <;> (repeat' (first | ((first | refine sP _ ?_ ?_ | refine gP _ ?_ ?_ | refine sN _ ?_ ?_ | refine gN _ ?_ ?_) <;> intro hc <;> (first | replace hc := eqn hc | replace hc := eqp hc) <;> simp [*, F132, za, zd]) | ((first | refine sM _ ?_ ?_ | refine gM _ ?_ ?_ | refine sB _ ?_ ?_ | refine gB _ ?_ ?_) <;> intro hc <;> simp [*, F132, za, zd])))
 replace k1 := eqn k1
 by_cases k2 : k = 2
 ·replace k2 := eqp k2
  (simp [*, F132, za, zd]) <;> (repeat' (first | ((first | refine sP _ ?_ ?_ | refine gP _ ?_ ?_ | refine sN _ ?_ ?_ | refine gN _ ?_ ?_) <;> intro hc <;> (first | replace hc := eqn hc | replace hc := eqp hc) <;> simp [*, F132, za, zd]) | ((first | refine sM _ ?_ ?_ | refine gM _ ?_ ?_ | refine sB _ ?_ ?_ | refine gB _ ?_ ?_) <;> intro hc <;> simp [*, F132, za, zd])))
 replace k2 := eqn k2
 by_cases k4 : k = 4
 ·replace k4 := eqp k4
  (simp [*, F132, za, zd, oneR]) <;> (repeat' (first | ((first | refine sP _ ?_ ?_ | refine gP _ ?_ ?_ | refine sN _ ?_ ?_ | refine gN _ ?_ ?_) <;> intro hc <;> (first | replace hc := eqn hc | replace hc := eqp hc) <;> simp [*, F132, za, zd, oneR]) | ((first | refine sM _ ?_ ?_ | refine gM _ ?_ ?_ | refine sB _ ?_ ?_ | refine gB _ ?_ ?_) <;> intro hc <;> simp [*, F132, za, zd, oneR])))
 replace k4 := eqn k4
 by_cases k5 : k = 5
 ·replace k5 := eqp k5
  (simp [*, F132, za, zd]) <;> (repeat' (first | ((first | refine sP _ ?_ ?_ | refine gP _ ?_ ?_ | refine sN _ ?_ ?_ | refine gN _ ?_ ?_) <;> intro hc <;> (first | replace hc := eqn hc | replace hc := eqp hc) <;> simp [*, F132, za, zd]) | ((first | refine sM _ ?_ ?_ | refine gM _ ?_ ?_ | refine sB _ ?_ ?_ | refine gB _ ?_ ?_) <;> intro hc <;> simp [*, F132, za, zd])))
 replace k5 := eqn k5
 by_cases k8 : k = 8
 ·replace k8 := eqp k8
  (simp [*, F132, za, zd]) <;> (repeat' (first | ((first | refine sP _ ?_ ?_ | refine gP _ ?_ ?_ | refine sN _ ?_ ?_ | refine gN _ ?_ ?_) <;> intro hc <;> (first | replace hc := eqn hc | replace hc := eqp hc) <;> simp [*, F132, za, zd]) | ((first | refine sM _ ?_ ?_ | refine gM _ ?_ ?_ | refine sB _ ?_ ?_ | refine gB _ ?_ ?_) <;> intro hc <;> simp [*, F132, za, zd])))
 replace k8 := eqn k8
 by_cases k3 : k = 3
 ·replace k3 := eqp k3
  (simp [*, F132, za, zd]) <;> (repeat' (first | ((first | refine sP _ ?_ ?_ | refine gP _ ?_ ?_ | refine sN _ ?_ ?_ | refine gN _ ?_ ?_) <;> intro hc <;> (first | replace hc := eqn hc | replace hc := eqp hc) <;> simp [*, F132, za, zd]) | ((first | refine sM _ ?_ ?_ | refine gM _ ?_ ?_ | refine sB _ ?_ ?_ | refine gB _ ?_ ?_) <;> intro hc <;> simp [*, F132, za, zd])))
 replace k3 := eqn k3
 by_cases k6 : k = 6
 ·replace k6 := eqp k6
  (simp [*, F132, za, zd]) <;> (repeat' (first | ((first | refine sP _ ?_ ?_ | refine gP _ ?_ ?_ | refine sN _ ?_ ?_ | refine gN _ ?_ ?_) <;> intro hc <;> (first | replace hc := eqn hc | replace hc := eqp hc) <;> simp [*, F132, za, zd]) | ((first | refine sM _ ?_ ?_ | refine gM _ ?_ ?_ | refine sB _ ?_ ?_ | refine gB _ ?_ ?_) <;> intro hc <;> simp [*, F132, za, zd])))
 replace k6 := eqn k6
 by_cases k7 : k = 7
 ·replace k7 := eqp k7
  (simp [*, F132, za, zd]) <;> (repeat' (first | ((first | refine sP _ ?_ ?_ | refine gP _ ?_ ?_ | refine sN _ ?_ ?_ | refine gN _ ?_ ?_) <;> intro hc <;> (first | replace hc := eqn hc | replace hc := eqp hc) <;> simp [*, F132, za, zd]) | ((first | refine sM _ ?_ ?_ | refine gM _ ?_ ?_ | refine sB _ ?_ ?_ | refine gB _ ?_ ?_) <;> intro hc <;> simp [*, F132, za, zd])))
  all_goals (try omega)
 replace k7 := eqn k7
 (simp [*, F132, za, zd]) <;> (repeat' (first | ((first | refine sP _ ?_ ?_ | refine gP _ ?_ ?_ | refine sN _ ?_ ?_ | refine gN _ ?_ ?_) <;> intro hc <;> (first | replace hc := eqn hc | replace hc := eqp hc) <;> simp [*, F132, za, zd]) | ((first | refine sM _ ?_ ?_ | refine gM _ ?_ ?_ | refine sB _ ?_ ?_ | refine gB _ ?_ ?_) <;> intro hc <;> simp [*, F132, za, zd])))
theorem own_kind (k o n : Int) (s : List UInt8) (a : Nat) : ((ownT k o n s a).2 && decide ((a : Int) = (ownT k o n s a).1)) = kindR k o n s a := by
 rw [Bool.eq_iff_iff]
 unfold ownT kindR
 by_cases k1 : k = 1
 ·subst k1; simp; grind
 by_cases k2 : k = 2
 ·subst k2; simp; grind
 by_cases k4 : k = 4
 ·subst k4; simp; grind
 by_cases k5 : k = 5
 ·subst k5; simp; grind
 by_cases k8 : k = 8
 ·subst k8; simp; grind
 by_cases k3 : k = 3
 ·subst k3; simp; grind
 by_cases k6 : k = 6
 ·subst k6; simp; grind
 by_cases k7 : k = 7
 ·subst k7; simp; grind
 simp [*]
theorem exprsR_all (l : List Expr) (m : Int) : zac l m = l.all fun x => decide (2 <= m) && zEc x (m - 1) := by
 induction l with
 | nil => rfl
 | cons x r ih => simp [zac, ih]
set_option maxHeartbeats 4000000 in
theorem texpr_spec' : ∀ w (e : Expr) (m : Int), wtE e <= w -> w < 1099511000000 -> m <= 1000000 -> zj E 118 [zH e, .int .i64 m] [] = some (.ret (.bool (decide (0 < m) && zEc e m)), [])
 | 0, e, m, h, _, _ => by rw [wtE_eq] at h; omega
 | w + 1, e, m, h, hw, hm => by
  refine zb rfl rfl rfl (by simp [za]) ?_
  have hlen := len_wtEs e.args
  rw [wtE_eq] at h
  have ho := town_spec e
  have hk := own_kind e.kind e.op e.n e.name e.args.length
  have hR := exprR_eq e m
  rw [<- hk] at hR
  generalize ownT e.kind e.op e.n e.name e.args.length = q at *
  obtain ⟨n, ok⟩ := q
  simp only at ho hk hR
  clear hk
  by_cases h0 : 0 < m
  ·have hcl : ∀ x ∈ e.args, zj E 133 ([] ++ [zH x] ++ [.iptr [.int .i64 m] 0]) [] = some (.ret (.bool (!(decide (0 < m - 1) && zEc x (m - 1)))), []) := by
    intro x hx
    have hwx := wtE_mem hx
    have ih := texpr_spec' w x (m - 1) (by omega) (by omega) (by omega)
    have hwm : zY .i64 (m - 1) = m - 1 := zm (by omega) (by omega)
    refine zb rfl rfl rfl (by simp [za]) ?_
    rw [za] at ih
    clear hR ho h hlen hwx hx
    simp [zd] at ih
    (simp [*, F133, za, zd]) <;> (repeat' ((first | refine sP _ ?_ ?_ | refine gP _ ?_ ?_ | refine sN _ ?_ ?_ | refine gN _ ?_ ?_ | refine sM _ ?_ ?_ | refine gM _ ?_ ?_ | refine sB _ ?_ ?_ | refine gB _ ?_ ?_) <;> intro hc <;> simp [*, F133, za, zd]))
   have hc := containsFuncExpr e.args (fun x => !(decide (0 < m - 1) && zEc x (m - 1))) 133 [] [.iptr [.int .i64 m] 0] [] (by omega) (by simp) hcl
   have hany : (!(e.args.any fun x => !(decide (0 < m - 1) && zEc x (m - 1)))) = zac e.args m := by
    have h2 : decide (0 < m - 1) = decide (2 <= m) := by rw [decide_eq_decide]; omega
    rw [exprsR_all, List.not_any_eq_all_not, h2]
    simp
   generalize (e.args.any fun x => !(decide (0 < m - 1) && zEc x (m - 1))) = b at *
   rw [<- hany] at hR
   clear hcl h hlen hany
   rw [za] at ho
   simp [zd] at ho hc
   generalize hal : e.args.length = al at *
   (simp [*, F118, za, zd]) <;> (repeat' (first | ((first | refine sP _ ?_ ?_ | refine gP _ ?_ ?_ | refine sN _ ?_ ?_ | refine gN _ ?_ ?_) <;> intro hc <;> (first | replace hc := eqn hc | replace hc := eqp hc) <;> simp [*, F118, za, zd]) | ((first | refine sM _ ?_ ?_ | refine gM _ ?_ ?_ | refine sB _ ?_ ?_ | refine gB _ ?_ ?_) <;> intro hc <;> simp [*, F118, za, zd])))
  ·clear hlen h
   rw [za] at ho
   simp [zd] at ho
   (simp [*, F118, za, zd]) <;> (repeat' (first | ((first | refine sP _ ?_ ?_ | refine gP _ ?_ ?_ | refine sN _ ?_ ?_ | refine gN _ ?_ ?_) <;> intro hc <;> (first | replace hc := eqn hc | replace hc := eqp hc) <;> simp [*, F118, za, zd]) | ((first | refine sM _ ?_ ?_ | refine gM _ ?_ ?_ | refine sB _ ?_ ?_ | refine gB _ ?_ ?_) <;> intro hc <;> simp [*, F118, za, zd])))
theorem texpr_spec (e : Expr) (m : Int) (h : wtE e < 1099510000000) (hm : m <= 1000000) : zj E 118 [zH e, .int .i64 m] [] = some (.ret (.bool (decide (0 < m) && zEc e m)), []) := texpr_spec' (wtE e) e m (Nat.le_refl _) (by omega) hm
end PE.U

namespace PE.U
open Go PE
def zmb (t n : Bool) (a : Int) (th o : Bool) : PV := .agg [.bool t, .bool n, .int .i64 a, .bool th, .bool o]
def shapesL : List (PV × PV) := [(.int .i64 1, zmb true true 1 false false), (.int .i64 2, zmb false true 1 false false), (.int .i64 3, zmb false true 2 false false), (.int .i64 4, zmb false false 1 true true), (.int .i64 5, zmb false false 1 true false),
 (.int .i64 6, zmb false false 0 false false), (.int .i64 7, zmb false false 0 false false), (.int .i64 8, zmb false false 1 false false), (.int .i64 9, zmb false false 1 false false), (.int .i64 10, zmb false false 1 false false)]
set_option maxHeartbeats 1000000 in
theorem shapes_spec (σ : ze) : zj E 115 [] σ = some (.ret (.mp σ.length), σ ++ [.mp shapesL]) := by
 refine zb rfl rfl rfl (by simp) ?_
 simp [F115, shapesL, zmb]
theorem shapes_find (k : Int) : zYa false (.int .i64 k) shapesL = some (if 1 <= k /\ k <= 10 then some (zmb (zra k).1 (zra k).2.1 (zra k).2.2.1 (zra k).2.2.2.1 (zra k).2.2.2.2) else none) := by
 by_cases h : 1 <= k /\ k <= 10
 ·have : k = 1 \/ k = 2 \/ k = 3 \/ k = 4 \/ k = 5 \/ k = 6 \/ k = 7 \/ k = 8 \/ k = 9 \/ k = 10 := by omega
  rcases this with h | h | h | h | h | h | h | h | h | h <;> subst h <;> simp [shapesL, zra, zmb]
 ·have h1 : ¬ k = 1 := by omega
  have h2 : ¬ k = 2 := by omega
  have h3 : ¬ k = 3 := by omega
  have h4 : ¬ k = 4 := by omega
  have h5 : ¬ k = 5 := by omega
  have h6 : ¬ k = 6 := by omega
  have h7 : ¬ k = 7 := by omega
  have h8 : ¬ k = 8 := by omega
  have h9 : ¬ k = 9 := by omega
  have h10 : ¬ k = 10 := by omega
  rw [if_neg h]
  simp [shapesL, *]
theorem tisType_spec (t : Int) (σ : ze) : zj E 65 [.int .i64 t] σ = some (.ret (.bool (decide (t = 1) || decide (t = 2))), σ) := by
 refine zb rfl rfl rfl (by simp) ?_
 (simp [*, F65]) <;> (repeat' ((first | refine sP _ ?_ ?_ | refine gP _ ?_ ?_ | refine sN _ ?_ ?_ | refine gN _ ?_ ?_ | refine sM _ ?_ ?_ | refine gM _ ?_ ?_ | refine sB _ ?_ ?_ | refine gB _ ?_ ?_) <;> intro hc <;> simp [*, F65]))
theorem argsR_all (l : List Expr) (st : ze) (h : wtEs l < 1099509000000) : zj E 116 [zd l, .fn 117 [] []] st = some (.ret (.bool (!argsR l)), st) := by
 have hlen := len_wtEs l
 have hcl : ∀ x ∈ l, zj E 117 ([] ++ [zH x] ++ []) st = some (.ret (.bool (!zEc x 100)), st) := by
  intro x hx
  have hwx := wtE_mem hx
  have ih := texpr_spec x 100 (by omega) (by omega)
  rw [za] at ih
  refine zb rfl rfl rfl (by simp [za]) ?_
  simp [zd] at ih
  (simp [*, F117, za, zd]) <;> (repeat' ((first | refine sP _ ?_ ?_ | refine gP _ ?_ ?_ | refine sN _ ?_ ?_ | refine gN _ ?_ ?_ | refine sM _ ?_ ?_ | refine gM _ ?_ ?_ | refine sB _ ?_ ?_ | refine gB _ ?_ ?_) <;> intro hc <;> simp [*, F117, za, zd]))
 have hc := containsFuncExpr l (fun x => !zEc x 100) 117 [] [] st (by omega) (by simp) hcl
 have : (l.any fun x => !zEc x 100) = !argsR l := by
  unfold argsR; rw [List.not_all_eq_any_not]
 rw [this] at hc
 exact hc
set_option maxHeartbeats 16000000 in
theorem tstmt_of (s : Stmt) (m : Int) (hm : m <= 1000000) (hw : wtS s < 1099509000000)
  (h1 : ∀ m', m' <= 1000000 -> zj E 67 [zn s.thn, .int .i64 m'] [] = some (.ret (.bool (zea s.thn m')), []))
  (h2 : ∀ m', m' <= 1000000 -> zj E 67 [zn s.els, .int .i64 m'] [] = some (.ret (.bool (zea s.els m')), [])) :
  zj E 97 [zla s, .int .i64 m] [] = some (.ret (.bool (zRc s m)), []) := by
 refine zb rfl rfl rfl (by simp [zc]) ?_
 have hs := shapes_spec []
 have hf := shapes_find s.kind
 have ht := tisType_spec s.type
 have hn := zcd s.name
 have ha := argsR_all s.args [.mp shapesL] (by rw [wtS_eq] at hw; omega)
 rw [wtS_eq] at hw
 have hla := len_wtEs s.args
 have hlt := len_wtSs s.thn
 have hle := len_wtSs s.els
 rw [stmtR_eq]
 unfold headR
 have hk : (1 <= s.kind /\ s.kind <= 10) \/ (zra s.kind).2.2.1 = -1 := by
  by_cases h : 1 <= s.kind /\ s.kind <= 10
  ·exact Or.inl h
  ·right
   unfold zra
   repeat' (first | rw [if_neg (by omega)] | rfl)
 by_cases hin : 1 <= s.kind /\ s.kind <= 10
 case neg =>
  rw [if_neg hin] at hf
  have hneg : (zra s.kind).2.2.1 = -1 := by rcases hk with h | h; exact absurd h hin; exact h
  have hne : ¬ (s.args.length : Int) = -1 := by omega
  have hR : (decide (¬ (s.args.length : Int) = (zra s.kind).2.2.1)) = true := by rw [hneg]; simp [hne]
  rw [hR]
  clear hk h1 h2 hR hneg hne hla hlt hle hw ht hn ha hin
  simp [*, F97, zc, zd, zn]
 rw [if_pos hin] at hf
 have hd : (s.kind = 10) -> ∃ e r, s.args = e :: r \/ ¬ (s.args.length : Int) = (zra s.kind).2.2.1 := by
  intro hk
  rcases he : s.args with _ | ⟨e, r⟩
  ·refine ⟨⟨0, 0, 0, [], []⟩, [], Or.inr ?_⟩
   rw [hk]; simp [zra]
  ·exact ⟨e, r, Or.inl rfl⟩
 clear hk hin
 generalize zra s.kind = q at *
 obtain ⟨t, nm, n, th, ot⟩ := q
 simp only at hf ⊢
 have h1' := h1 (m - 1) (by omega)
 have h2' := h2 (m - 1) (by omega)
 clear h1 h2
 by_cases hm1 : m < 1
 ·replace hm1 := eqp hm1
  clear h1' h2' ht hn ha hd hla hlt hle hw
  simp [*, F97, zc, zd, zn, zmb]
 have hwm : zY .i64 (m - 1) = m - 1 := zm (by omega) (by omega)
 replace hm1 := eqn hm1
 by_cases hlen : (s.args.length : Int) = n
 case neg =>
  replace hlen := eqn hlen
  clear h1' h2' ht hn ha hd hla hlt hle hw
  simp [*, F97, zc, zd, zn, zmb]
 replace hd : (s.kind = 10) -> ∃ e r, s.args = e :: r := by
  intro hk
  obtain ⟨e, r, h | h⟩ := hd hk
  ·exact ⟨e, r, h⟩
  ·exact absurd hlen h
 replace hlen := eqp hlen
 have g1 : (0 < s.thn.length) = ¬ (s.thn = []) := by
  rcases s.thn with _ | ⟨x, r⟩ <;> simp
 have g2 : (0 < s.els.length) = ¬ (s.els = []) := by
  rcases s.els with _ | ⟨x, r⟩ <;> simp
 have i1 : s.thn.isEmpty = decide (s.thn = []) := by
  rcases s.thn with _ | ⟨x, r⟩ <;> rfl
 have i2 : s.els.isEmpty = decide (s.els = []) := by
  rcases s.els with _ | ⟨x, r⟩ <;> rfl
 clear hla hlt hle hw
 have ht0 : (s.type = 0) = True -> (decide (s.type = 1) || decide (s.type = 2)) = false := by intro h; rw [of_eq_true h]; decide
 generalize (decide (s.type = 1) || decide (s.type = 2)) = tt at *
 have hn0 : (s.name = []) = True -> zGb s.name = false := by intro h; rw [of_eq_true h]; decide
 by_cases hk : s.kind = 10
 ·obtain ⟨e, r, hel⟩ := hd hk
  have hD : doR s.kind s.args = decide (e.kind = 7) := by rw [hel]; unfold doR; simp [hk]
  have hget : s.args[0]? = some e := by rw [hel]; rfl
  clear hd hel
  replace hk := eqp hk
  rw [hD]
  clear hD
  simp [zd, zn] at ha h1' h2'
  (simp [*, F97, zc, zd, zn, zmb, za]) <;> (repeat' (first | ((first | refine sP _ ?_ ?_ | refine gP _ ?_ ?_ | refine sN _ ?_ ?_ | refine gN _ ?_ ?_) <;> intro hc <;> (first | replace hc := eqn hc | replace hc := eqp hc) <;> simp [*, F97, zc, zd, zn, zmb, za]) | ((first | refine sM _ ?_ ?_ | refine gM _ ?_ ?_ | refine sB _ ?_ ?_ | refine gB _ ?_ ?_) <;> intro hc <;> simp [*, F97, zc, zd, zn, zmb, za])))
  all_goals (intros; first | exact hn0 (by assumption) | exact ht0 (by assumption) | exact ⟨ht0 (by assumption), hn0 (by assumption)⟩)
 ·clear hd
  replace hk := eqn hk
  have hD : doR s.kind s.args = true := by unfold doR; simp [hk]
  simp [zd, zn] at ha h1' h2'
  (simp [*, F97, zc, zd, zn, zmb]) <;> (repeat' (first | ((first | refine sP _ ?_ ?_ | refine gP _ ?_ ?_ | refine sN _ ?_ ?_ | refine gN _ ?_ ?_) <;> intro hc <;> (first | replace hc := eqn hc | replace hc := eqp hc) <;> simp [*, F97, zc, zd, zn, zmb]) | ((first | refine sM _ ?_ ?_ | refine gM _ ?_ ?_ | refine sB _ ?_ ?_ | refine gB _ ?_ ?_) <;> intro hc <;> simp [*, F97, zc, zd, zn, zmb])))
  all_goals (intros; first | exact hn0 (by assumption) | exact ht0 (by assumption) | exact ⟨ht0 (by assumption), hn0 (by assumption)⟩)
end PE.U

namespace PE.U
open Go PE
theorem tstmts_spec' : ∀ w (l : List Stmt) (m : Int), wtSs l <= w -> w < 1099508500000 -> m <= 1000000 -> zj E 67 [zn l, .int .i64 m] [] = some (.ret (.bool (zea l m)), [])
 | 0, l, m, h, hw, hm => by
  have hl : l = [] := by
   have := len_wtSs l
   exact List.eq_nil_of_length_eq_zero (by omega)
  subst hl
  refine zb rfl rfl rfl (by simp [zn]) ?_
  have hc := containsFuncStmt [] (fun _ => true) 96 [] [.iptr [.int .i64 m] 0] [] (by simp) (by simp) (by simp)
  simp at hc
  simp [*, F67, zn, zea]
 | w + 1, l, m, h, hw, hm => by
  have hlen := len_wtSs l
  refine zb rfl rfl rfl (by simp [zn]) ?_
  have hcl : ∀ x ∈ l, zj E 96 ([] ++ [zla x] ++ [.iptr [.int .i64 m] 0]) [] = some (.ret (.bool (!zRc x m)), []) := by
   intro x hx
   have hwx := wtS_mem hx
   have hwe := wtS_eq x
   have ih := tstmt_of x m hm (by omega) (fun m' hm' => tstmts_spec' w x.thn m' (by omega) (by omega) hm') (fun m' hm' => tstmts_spec' w x.els m' (by omega) (by omega) hm')
   rw [zc] at ih
   clear hwe hwx hx h hlen
   refine zb rfl rfl rfl (by simp [zc]) ?_
   simp [zd, zn] at ih
   (simp [*, F96, zc, zd, zn]) <;> (repeat' ((first | refine sP _ ?_ ?_ | refine gP _ ?_ ?_ | refine sN _ ?_ ?_ | refine gN _ ?_ ?_ | refine sM _ ?_ ?_ | refine gM _ ?_ ?_ | refine sB _ ?_ ?_ | refine gB _ ?_ ?_) <;> intro hc <;> simp [*, F96, zc, zd, zn]))
  have hc := containsFuncStmt l (fun x => !zRc x m) 96 [] [.iptr [.int .i64 m] 0] [] (by omega) (by simp) hcl
  have hR : (l.any fun x => !zRc x m) = !zea l m := by
   clear hcl hc h hlen
   induction l with
   | nil => rfl
   | cons x r ih => simp [zea, ih]
  rw [hR] at hc
  clear hcl hR
  simp [*, F67, zn]
theorem tstmts_spec (l : List Stmt) (m : Int) (h : wtSs l < 1099508000000) (hm : m <= 1000000) : zj E 67 [zn l, .int .i64 m] [] = some (.ret (.bool (zea l m)), []) := tstmts_spec' (wtSs l) l m (Nat.le_refl _) (by omega) hm
theorem tparam_spec (p : Par) (σ : ze) : zj E 64 [encPar p] σ = some (.ret (.bool (!parR p)), σ) := by
 refine zb rfl rfl rfl (by simp [encPar]) ?_
 have hn := zcd p.name
 have ht := tisType_spec p.type
 unfold parR
 generalize (decide (p.type = 1) || decide (p.type = 2)) = tt at *
 (simp [*, F64, encPar]) <;> (repeat' ((first | refine sP _ ?_ ?_ | refine gP _ ?_ ?_ | refine sN _ ?_ ?_ | refine gN _ ?_ ?_ | refine sM _ ?_ ?_ | refine gM _ ?_ ?_ | refine sB _ ?_ ?_ | refine gB _ ?_ ?_) <;> intro hc <;> simp [*, F64, encPar]))
theorem tarr_spec (a : PArr) (σ : ze) : zj E 35 [zha a] σ = some (.ret (.bool (!arrR a)), σ) := by
 refine zb rfl rfl rfl (by simp [zha]) ?_
 have hn := zcd a.name
 unfold arrR
 (simp [*, F35, zha]) <;> (repeat' ((first | refine sP _ ?_ ?_ | refine gP _ ?_ ?_ | refine sN _ ?_ ?_ | refine gN _ ?_ ?_ | refine sM _ ?_ ?_ | refine gM _ ?_ ?_ | refine sB _ ?_ ?_ | refine gB _ ?_ ?_) <;> intro hc <;> simp [*, F35, zha]))
 all_goals (try grind)
theorem tfunc_spec (f : Func) (h : wtSs f.body < 1099508000000 /\ f.params.length < 1099509000000) : zj E 40 [zD f] [] = some (.ret (.bool (funcR f)), []) := by
 refine zb rfl rfl rfl (by simp [zD]) ?_
 have hn := zcd f.name
 have ht := tisType_spec f.type
 have hc := containsFuncPar f.params (fun p => !parR p) 64 [] [] [] (by omega) (by simp) (fun x _ => by simpa using tparam_spec x [])
 have hs := tstmts_spec f.body 100 h.1 (by omega)
 have hp : (f.params.any fun p => !parR p) = !f.params.all parR := by rw [List.not_all_eq_any_not]
 rw [hp] at hc
 unfold funcR
 have h8 : decide (f.params.length <= 8) = decide ((f.params.length : Int) <= 8) := by rw [decide_eq_decide]; omega
 rw [h8]
 generalize (decide (f.type = 1) || decide (f.type = 2)) = tt at *
 generalize f.params.all parR = pp at *
 clear h hp h8
 simp [zn] at hs hc
 (simp [*, F40, zD, parsV, zn]) <;> (repeat' (first | ((first | refine sP _ ?_ ?_ | refine gP _ ?_ ?_ | refine sN _ ?_ ?_ | refine gN _ ?_ ?_) <;> intro hc <;> (first | replace hc := eqn hc | replace hc := eqp hc) <;> simp [*, F40, zD, parsV, zn]) | ((first | refine sM _ ?_ ?_ | refine gM _ ?_ ?_ | refine sB _ ?_ ?_ | refine gB _ ?_ ?_) <;> intro hc <;> simp [*, F40, zD, parsV, zn])))
theorem tright_spec (p : Prog) (hz : PSz p) : zj E 20 [zZ p] [] = some (.ret (.bool (zyc p)), []) := by
 obtain ⟨z1, z2, z3⟩ := hz
 refine zb rfl rfl rfl (by simp [zZ]) ?_
 have ha := containsFuncPArr p.arrays (fun a => !arrR a) 35 [] [] [] (by omega) (by simp) (fun x _ => by simpa using tarr_spec x [])
 have hcl : ∀ x ∈ p.funcs, zj E 39 ([] ++ [zD x] ++ []) [] = some (.ret (.bool (!funcR x)), []) := by
  intro x hx
  have := tfunc_spec x (z3 x hx)
  refine zb rfl rfl rfl (by simp [zD]) ?_
  simp [zD, parsV, zn] at this
  clear ha
  (simp [*, F39, zD, parsV, zn]) <;> (repeat' ((first | refine sP _ ?_ ?_ | refine gP _ ?_ ?_ | refine sN _ ?_ ?_ | refine gN _ ?_ ?_ | refine sM _ ?_ ?_ | refine gM _ ?_ ?_ | refine sB _ ?_ ?_ | refine gB _ ?_ ?_) <;> intro hc <;> simp [*, F39, zD, parsV, zn]))
 have hf := containsFuncFunc p.funcs (fun x => !funcR x) 39 [] [] [] (by omega) (by simp) hcl
 have e1 : (p.arrays.any fun p => !arrR p) = !p.arrays.all arrR := by rw [List.not_all_eq_any_not]
 have e2 : (p.funcs.any fun p => !funcR p) = !p.funcs.all funcR := by rw [List.not_all_eq_any_not]
 rw [e1] at ha
 rw [e2] at hf
 unfold zyc
 generalize p.arrays.all arrR = x at *
 generalize p.funcs.all funcR = y at *
 clear e1 e2 hcl z1 z2 z3
 (simp [*, F20, zZ, zhc, funcs]) <;> (repeat' ((first | refine sP _ ?_ ?_ | refine gP _ ?_ ?_ | refine sN _ ?_ ?_ | refine gN _ ?_ ?_ | refine sM _ ?_ ?_ | refine gM _ ?_ ?_ | refine sB _ ?_ ?_ | refine gB _ ?_ ?_) <;> intro hc <;> simp [*, F20, zZ, zhc, funcs]))
end PE.U

namespace PE.U
open Go PE
def zRa (r : Prog × Int × Int) : PV := .tup [zZ r.1, .int .i64 r.2.1, .int .i64 r.2.2]
set_option maxHeartbeats 4000000 in
theorem parse_spec (s : List UInt8) : zj E 26 [.str s] [] = some (.ret (zRa (zob s)), []) := by
 refine zb rfl rfl rfl (by simp) ?_
 have ht := tokens_spec s
 by_cases h0 : (zu s).2.1 = 0
 ·obtain ⟨v, p', e, I', hz⟩ := parse_run s h0
  have I := tokens_inv s h0
  have hf : fuel (zu s).1 <= 6400164 := by have := tokens_count s h0; unfold fuel; omega
  have hp := (prog_spec e I (by omega)).1
  have hr := right_spec v hz
  have hm : zob s = if p'.deep then (⟨[], []⟩, 2, (tk (zu s).1 p'.at').line) else if p'.bad then (⟨[], []⟩, 20, (tk (zu s).1 p'.at').line) else if zyc v then (v, 0, 0) else (⟨[], []⟩, 2, 0) := by
   unfold zob; rw [if_pos h0, e]
  have hg := tk_get I'.lt
  rw [hm]
  clear hm e hz I hf
  generalize zu s = tt at *
  obtain ⟨T, e0, ln⟩ := tt
  simp only at h0 hp hg ht I'
  subst h0
  have hlt := I'.lt
  clear I'
  obtain ⟨pa, pb, pd⟩ := p'
  obtain ⟨ars, fs⟩ := v
  simp [zSc, toks, pob, zZ, zhc, funcs] at ht hp hr hg hlt
  cases pd
  ·cases pb
   ·cases hR : zyc ⟨ars, fs⟩
    ·rw [hR] at hr
     simp [*, F26, zRa, zZ, zhc, funcs]
    ·rw [hR] at hr
     simp [*, F26, zRa, zZ, zhc, funcs]
   ·clear hr
    simp [*, F26, zRa, zZ, zhc, funcs, zl]
    exact congrArg Tok.line (zjd hlt)
  ·clear hr
   simp [*, F26, zRa, zZ, zhc, funcs, zl]
   exact congrArg Tok.line (zjd hlt)
 ·have hm : zob s = (⟨[], []⟩, (zu s).2.1, (zu s).2.2) := by unfold zob; rw [if_neg h0]
  rw [hm]
  clear hm
  generalize zu s = tt at *
  obtain ⟨T, e0, ln⟩ := tt
  simp only at h0 ht
  simp [zSc, toks] at ht
  replace h0 := eqn h0
  simp [*, F26, zRa, zZ, zhc, funcs]
end PE.U

namespace PE
open Go
def hendQ (H : HFn) (n : Nat) (fr : Fr) (R : CRes -> ze -> Prop) : Ex -> St -> Prop
 | .normal, s => PC (zjb H n fr s.st) R
 | .ret, s => PC (zjb H n fr s.st) R
 | _, _ => False
def hrestQ (K : PV × ze -> Prop) : Ex -> St -> Prop
 | .normal, s => K (.nilif, s.st)
 | .ret, s => K (.nilif, s.st)
 | .pan (.iface t v), s => K (.iface t v, s.st)
 | _, _ => False
noncomputable def hpreQ (E : Env) (H : HFn) (n : Nat) (R : CRes -> ze -> Prop) : Ex -> St -> Prop
 | .normal, s1 => (zp s1.fr H.caps).all zI = true /\ zba (exec (zj E) H.rest { s1 with fr := upd s1.fr H.d (.fn H.k [] (zp s1.fr H.caps)) }) (hrestQ fun q => zba (exec (zj E) H.code (handSt H (zp s1.fr H.caps) q)) (hendQ H n s1.fr R))
 | .ret, s1 => PC (zjb H n s1.fr s1.st) R
 | _, _ => False
section
variable (n : Nat) (R : CRes -> ze -> Prop) (s : St) (K : PV × ze -> Prop) (E : Env) (H : HFn) (fr : Fr)
@[simp] theorem hendQ_normal : hendQ H n fr R .normal s = PC (zjb H n fr s.st) R := Eq.trans rfl rfl
@[simp] theorem hrestQ_ret : hrestQ K .ret s = K (.nilif, s.st) := Eq.trans rfl rfl
@[simp] theorem hrestQ_pan (t : Nat) (v : PV) : hrestQ K (.pan (.iface t v)) s = K (.iface t v, s.st) := Eq.trans rfl rfl
@[simp] theorem hpreQ_normal : hpreQ E H n R .normal s = ((zp s.fr H.caps).all zI = true /\ zba (exec (zj E) H.rest { s with fr := upd s.fr H.d (.fn H.k [] (zp s.fr H.caps)) }) (hrestQ fun q => zba (exec (zj E) H.code (handSt H (zp s.fr H.caps) q)) (hendQ H n s.fr R))) := Eq.trans rfl rfl
@[simp] theorem hpreQ_ret : hpreQ E H n R .ret s = PC (zjb H n s.fr s.st) R := Eq.trans rfl rfl
@[simp] theorem handSt_eq (cv : List PV) (q : PV × ze) : handSt H cv q = { fr := upd (upd (frOf cv 0) H.r1 q.1) H.r2 q.1, bx := fun _ => .no, st := q.2 } := Eq.trans rfl rfl
end
theorem hand_wp {E : Env} {f : Nat} {H : HFn} {args : List PV} {st : ze} {R : CRes -> ze -> Prop} (hx : E.ext f = none) (hh : E.hand f = some H) (hl : args.length = H.nargs) (hv : args.all zI = true)
  (h : zba (exec (zj E) H.pre { fr := frOf args 0, bx := fun _ => .no, st := st }) (hpreQ E H st.length R)) : PC (zj E f args st) R := by
 rw [holds_iff] at h
 obtain ⟨e1, s1, h1, h2⟩ := h
 cases e1 <;> try exact h2.elim
 case ret =>
  rw [hpreQ_ret, PC_iff] at h2
  obtain ⟨r, st', q1, q2⟩ := h2
  have : zj E f args st = some (r, st') := by
   refine pcall_hand hx hh ?_
   unfold handF
   rw [if_pos ⟨hl, hv⟩, h1]
   exact q1
  rw [this]
  exact q2
 rw [hpreQ_normal] at h2
 obtain ⟨h3, h4⟩ := h2
 rw [holds_iff] at h4
 obtain ⟨e2, s2, h5, h6⟩ := h4
 have hq : ∃ q, thrown (some (e2, s2)) = some q /\ zba (exec (zj E) H.code (handSt H (zp s1.fr H.caps) q)) (hendQ H st.length s1.fr R) := by
  cases e2 with
  | normal => exact ⟨_, rfl, h6⟩
  | ret => exact ⟨_, rfl, h6⟩
  | exit i => exact h6.elim
  | pan v => cases v <;> first | exact ⟨_, rfl, h6⟩ | exact h6.elim
 obtain ⟨q, hq1, hq2⟩ := hq
 rw [holds_iff] at hq2
 obtain ⟨e3, s3, h7, h8⟩ := hq2
 have hr : PC (handEnd H st.length s1.fr (some (e3, s3))) R := by
  cases e3 with
  | normal => exact h8
  | ret => exact h8
  | exit i => exact h8.elim
  | pan v => exact h8.elim
 rw [PC_iff] at hr
 obtain ⟨r, st', hr1, hr2⟩ := hr
 have : zj E f args st = some (r, st') := by
  refine pcall_hand hx hh ?_
  unfold handF
  rw [if_pos ⟨hl, hv⟩, h1]
  simp only
  rw [if_pos h3, h5, hq1]
  simp only
  rw [h7, hr1]
 rw [this]
 exact hr2
end PE

namespace PE.U
open Go PE
@[simp] theorem rebuild_intG (k : IntKind) (n : Int) (v : PV) : zka (.int k n) [v] = v := Eq.trans rfl rfl
@[simp] theorem isAggV_aggG (cs : List PV) : isAggV (.agg cs) = true := Eq.trans rfl rfl
theorem tokGo_num : ∀ n (q : List UInt8) line acc, NumT acc -> NumT (zma n q line acc).1 := by
 intro n
 induction n with
 | zero => intro q line acc h; exact h
 | succ n ih =>
  intro q line acc ha
  cases q with
  | nil =>
   intro t ht hk
   simp only [zma] at ht
   rcases List.mem_append.1 ht with h | h
   ·exact ha t h hk
   ·rw [List.mem_singleton.1 h] at hk; exact absurd hk (by simp)
  | cons b r =>
   simp only [zma]
   split
   ·exact ih _ _ _ ha
   split
   ·exact ih _ _ _ ha
   split
   ·exact ih _ _ _ ha
   split
   ·split
    ·intro t ht; simp at ht
    ·rename_i c2
     refine ih _ _ _ ?_
     intro t ht hk
     rcases List.mem_append.1 ht with h | h
     ·exact ha t h hk
     ·rw [List.mem_singleton.1 h] at hk ⊢
      simp only at hk ⊢
      simp only [tokBad, hk, Bool.or_eq_true, Bool.and_eq_true, decide_eq_true_eq, Bool.not_eq_true', not_or, not_and, Bool.not_eq_false] at c2
      exact c2.2 trivial
   split
   ·intro t ht; simp at ht
   ·refine ih _ _ _ ?_
    intro t ht hk
    rcases List.mem_append.1 ht with h | h
    ·exact ha t h hk
    ·rw [List.mem_singleton.1 h] at hk; exact absurd hk (by simp)
theorem tokens_num (s : List UInt8) : NumT (zu s).1 := by
 unfold zu
 split
 ·intro t ht; simp at ht
 ·exact tokGo_num _ _ _ _ (fun t ht => by simp at ht)
set_option maxHeartbeats 8000000 in
theorem pparse_spec (s : List UInt8) : zj E 11 [.str s] [] = some (.ret (zRa (zob s)), []) := by
 have ht := ptokens_spec s
 suffices h : PC (zj E 11 [.str s] []) (isR (.ret (zRa (zob s)), [])) by
  rw [PC_iff] at h
  obtain ⟨r, st, e, h1, h2⟩ := h
  rw [e, h1, h2]
 refine hand_wp rfl rfl rfl rfl ?_
 by_cases h0 : (zu s).2.1 = 0
 ·obtain ⟨v, p', e, I', hz⟩ := parse_run s h0
  have I := tokens_inv s h0
  have hN := tokens_num s
  have hf : fuel (zu s).1 <= 6400164 := by have := tokens_count s h0; unfold fuel; omega
  have hr := tright_spec v hz
  have hm : zob s = if p'.deep then (⟨[], []⟩, 2, (tk (zu s).1 p'.at').line) else if p'.bad then (⟨[], []⟩, 20, (tk (zu s).1 p'.at').line) else if zyc v then (v, 0, 0) else (⟨[], []⟩, 2, 0) := by
   unfold zob; rw [if_pos h0, e]
  have hp := prog_q (o := ⟨.arr 2 [.agg [.slice .fit 2 [], .slice .fit 4 []]], .arr 1 [.int .i64 0], .arr 1 [.int .i64 (zu s).2.2]⟩) hN e I rfl (by omega)
  rw [hm]
  clear hm e hz I hf hN
  generalize zu s = tt at *
  obtain ⟨T, e0, ln⟩ := tt
  simp only at h0 hp ht I' ⊢
  subst h0
  clear I'
  have hl0 : lft T ⟨0, false, false⟩ = T.map zl := rfl
  obtain ⟨pa, pb, pd⟩ := p'
  obtain ⟨ars, fs⟩ := v
  unfold outQ qst wrongV wrongE at hp
  rw [hl0] at hp
  generalize lft T ⟨pa, pb, pd⟩ = l2 at *
  generalize (tk T pa).line = ln2 at *
  simp [zSc, toks, zZ, zhc, funcs, zk] at ht hp hr
  cases pd
  ·cases pb
   ·simp at hp
    cases hR : zyc ⟨ars, fs⟩
    ·rw [hR] at hr
     clear hl0 hR
     simp [*, H11, zRa, zZ, zhc, funcs, zjb, pinFr, ze.wf]
    ·rw [hR] at hr
     clear hl0 hR
     simp [*, H11, zRa, zZ, zhc, funcs, zjb, pinFr, ze.wf]
   ·simp at hp
    clear hr hl0
    simp [*, H11, zRa, zZ, zhc, funcs, zjb, pinFr, ze.wf]
  ·simp at hp
   clear hr hl0
   simp [*, H11, zRa, zZ, zhc, funcs, zjb, pinFr, ze.wf]
 ·have hm : zob s = (⟨[], []⟩, (zu s).2.1, (zu s).2.2) := by unfold zob; rw [if_neg h0]
  rw [hm]
  clear hm
  generalize zu s = tt at *
  obtain ⟨T, e0, ln⟩ := tt
  simp only at h0 ht
  simp [zSc, toks] at ht
  replace h0 := eqn h0
  simp [*, H11, zRa, zZ, zhc, funcs, zjb, pinFr, ze.wf]
end PE.U

namespace PE.U
open Go PE
def u8s (l : List UInt8) : PV := .slice .plain 1 (l.map fun b => .int .u8 b.toNat)
section
variable (l : List UInt8)
@[simp high] theorem isVar_u8s : zI (u8s l) = true := Eq.trans rfl rfl
@[simp high] theorem bl_u8 (n : Nat) : zW n (l.map fun b => PV.int .u8 b.toNat) = true := zSb _ _ _ (fun _ => rfl)
end
theorem remNat (a b : Nat) : remK (a : Int) (b : Int) = ((a % b : Nat) : Int) := by rw [remK_eq]; rfl
def pc (P : List (List UInt8)) (b : UInt8) : List UInt8 := P[b.toNat % P.length]?.getD []
def pq (P : List (List UInt8)) (l : List UInt8) (i : Nat) : List UInt8 := (l.take i).flatMap (pc P)
theorem pc_get {P : List (List UInt8)} (hP : 0 < P.length) (b : UInt8) : P[b.toNat % P.length]? = some (pc P b) := by
 unfold pc
 have h := Nat.mod_lt b.toNat hP
 rw [List.getElem?_eq_getElem h]; rfl
theorem pc_len {P : List (List UInt8)} (hm : ∀ x ∈ P, x.length <= 40) (b : UInt8) : (pc P b).length <= 40 := by
 unfold pc
 cases h : P[b.toNat % P.length]? with
 | none => simp
 | some x => exact hm x (List.mem_of_getElem? h)
theorem pq_all {P : List (List UInt8)} (hm : ∀ x ∈ P, x.length <= 40) (l : List UInt8) : (l.flatMap (pc P)).length <= 40 * l.length := by
 induction l with
 | nil => simp
 | cons b r ih =>
  have := pc_len hm b
  rw [List.flatMap_cons, List.length_append, List.length_cons]; omega
theorem pq_len {P : List (List UInt8)} (hm : ∀ x ∈ P, x.length <= 40) (l : List UInt8) (i : Nat) : (pq P l i).length <= 40 * i := by
 have h1 := pq_all hm (l.take i)
 have h2 : (l.take i).length <= i := by rw [List.length_take]; omega
 unfold pq; omega
theorem pq_succ (P : List (List UInt8)) (l : List UInt8) (i : Nat) (h : i < l.length) : pq P l (i + 1) = pq P l i ++ pc P l[i] := by
 unfold pq
 rw [List.take_add_one, List.getElem?_eq_getElem h, Option.toList_some, List.flatMap_append, List.flatMap_singleton]
theorem pq_end (P : List (List UInt8)) (l : List UInt8) (i : Nat) (h : l.length <= i) (h2 : i <= 14) : pq P l 14 = pq P l i := by
 unfold pq
 rw [List.take_of_length_le h, List.take_of_length_le (by omega)]
end PE.U

namespace PE.U
open Go PE
set_option maxHeartbeats 2000000 in
theorem sameEs_self : ∀ (w : Nat) (l : List Expr), wtEs l <= w -> w < 1099511000000 -> zj E 41 [zd l, zd l] [] = some (.ret (.bool true), []) := by
 intro w
 induction w using Nat.strongRecOn with
 | _ w IH =>
 intro l h hw
 refine zb rfl rfl rfl (by simp [zd]) ?_
 have hlen := len_wtEs l
 simp [F41, zd]
 refine zfa l K41_0 B41_0 (fun d => [(5, .int .i64 d.length)]) (fun _ => []) (fun d => True) (by omega) (by simp) ?_ ?_
 ·intros d x r s1 hl' hlt hget hget' hw1 hp h1 h2 h3 h4
  simp at h1 h2 h3
  have hwx := wtE_mem hl'.mem
  have hwe := wtE_eq x
  have ih := IH (wtEs x.args) (by omega) x.args (Nat.le_refl _) (by omega)
  have hdec : decide (d.length < l.length) = true := decide_eq_true hlt
  clear IH hl' hwx hwe h h2
  simp [zd] at ih
  simp [*, za, zd]
 ·intros s1 hp h1 h2 h3 h4
  simp at h1 h2 h3
  simp [*]
set_option maxHeartbeats 2000000 in
theorem sameSs_self : ∀ (w : Nat) (l : List Stmt), wtSs l <= w -> w < 1099511000000 -> zj E 21 [zn l, zn l] [] = some (.ret (.bool true), []) := by
 intro w
 induction w using Nat.strongRecOn with
 | _ w IH =>
 intro l h hw
 refine zb rfl rfl rfl (by simp [zn]) ?_
 have hlen := len_wtSs l
 simp [F21, zn]
 refine zfa l K21_0 B21_0 (fun d => [(5, .int .i64 d.length)]) (fun _ => []) (fun d => True) (by omega) (by simp) ?_ ?_
 ·intros d x r s1 hl' hlt hget hget' hw1 hp h1 h2 h3 h4
  simp at h1 h2 h3
  have hwx := wtS_mem hl'.mem
  have hwe := wtS_eq x
  have ih1 := IH (wtSs x.thn) (by omega) x.thn (Nat.le_refl _) (by omega)
  have ih2 := IH (wtSs x.els) (by omega) x.els (Nat.le_refl _) (by omega)
  have ie := sameEs_self (wtEs x.args) x.args (Nat.le_refl _) (by omega)
  have hdec : decide (d.length < l.length) = true := decide_eq_true hlt
  clear IH hl' hwx hwe h h2
  simp [zd, zn] at ih1 ih2 ie
  simp [*, zc, zd, zn]
 ·intros s1 hp h1 h2 h3 h4
  simp at h1 h2 h3
  simp [*]
set_option maxHeartbeats 4000000 in
theorem same03_self (p : Prog) (hz : PSz p) : zj E 12 [zZ p, zZ p] [] = some (.ret (.bool true), []) := by
 refine zb rfl rfl rfl (by simp [zZ]) ?_
 obtain ⟨ars, fs⟩ := p
 obtain ⟨z1, z2, z3⟩ := hz
 simp only at z1 z2 z3
 simp [F12, zZ, zhc, funcs]
 refine zfa ars K12_0 B12_0 (fun d => [(5, .int .i64 d.length)]) (fun _ => []) (fun d => True) (by omega) (by simp) ?_ ?_
 ·intros d x r s1 hl' hlt hget hget' hw1 hp h1 h2 h3 h4
  simp at h1 h2 h3
  have hdec : decide (d.length < ars.length) = true := decide_eq_true hlt
  clear hl' z3
  obtain ⟨nm, sz⟩ := x
  simp [*, zha]
 ·intros s1 hp h1 h2 h3 h4
  simp at h1 h2 h3
  simp [*]
  refine zfa fs K12_2 B12_2 (fun d => [(6, .int .i64 d.length)]) (fun _ => []) (fun d => True) (by omega) (by simp) ?_ ?_
  ·intros d x r s2 hl' hlt hget hget' hw1 kp k1 k2 k3 k4
   simp at k1 k2 k3
   have hzx := z3 x hl'.mem
   have hdec : decide (d.length < fs.length) = true := decide_eq_true hlt
   obtain ⟨fnm, fty, ps, body⟩ := x
   simp only at hzx
   have ib := sameSs_self (wtSs body) body (Nat.le_refl _) (by omega)
   simp [zn] at ib
   clear hl' z3
   simp [*, zD, parsV, zn]
   refine zfa ps K12_1 B12_1 (fun e => [(9, .int .i64 e.length)]) (fun _ => []) (fun e => True) (by omega) (by simp) ?_ ?_
   ·intros e y r' s3 jl jlt jget jget' jw1 jp j1 j2 j3 j4
    simp at j1 j2 j3
    have jdec : decide (e.length < ps.length) = true := decide_eq_true jlt
    obtain ⟨ynm, yty⟩ := y
    clear jl hzx
    simp [*, encPar]
   ·intros s3 jp j1 j2 j3 j4
    simp at j1 j2 j3
    simp [*]
  ·intros s2 kp k1 k2 k3 k4
   simp at k1 k2 k3
   simp [*]
end PE.U

namespace PE.U
open Go PE
theorem parse_psz (s : List UInt8) : PSz (zob s).1 := by
 have h0 : PSz ⟨[], []⟩ := ⟨by simp, by simp, by simp⟩
 unfold zob
 split
 ·rename_i h
  obtain ⟨v, p', e, I', hz⟩ := parse_run s h
  rw [e]
  simp only
  split
  ·exact h0
  split
  ·exact h0
  split
  ·exact hz
  ·exact h0
 ·exact h0
theorem znd (P : List (List UInt8)) (hP : 0 < P.length) (hPl : P.length < 1000) (hm : ∀ x ∈ P, x.length <= 40) (l : List UInt8) (hl : l.length <= 9223372036854775807) :
  zj E 9 [u8s l, .slice .plain 1 (P.map PV.str)] [] = some (.ret (.str (pq P l 14)), []) := by
 refine zb rfl rfl rfl (by simp) ?_
 simp [*, F9, u8s]
 refine zva K9_0 B9_0 (fun i : Nat => 14 - i) (fun i => [(5, .str (pq P l i)), (6, .int .i64 i)]) (fun _ => []) (fun _ => []) (fun i => i <= 14 /\ i <= l.length) 0 (by simp [pq]) ?_
 rintro i s1 ⟨hi, hil⟩ h1 h2 h3 h4 h5
 simp at h1 h3 h5
 clear h2 h4
 have hlen := pq_len hm l i
 by_cases hc : i < l.length /\ i < 14
 ·obtain ⟨c1, c2⟩ := hc
  have g1 := pc_get hP l[i]
  have g2 := pc_len hm l[i]
  have g3 := Nat.mod_lt l[i].toNat hP
  have hrem : remK (l[i].toNat : Int) (P.length : Int) = ((l[i].toNat % P.length : Nat) : Int) := remNat _ _
  have htk := pq_succ P l i c1
  have hget : l[i]? = some l[i] := List.getElem?_eq_getElem c1
  generalize hb : l[i] = b at *
  generalize hk : b.toNat % P.length = k at *
  generalize pc P b = t at *
  have hne : ¬ (P.length = 0) := by omega
  have hne' : ¬ ((P.length : Int) = 0) := by omega
  have k1 : ((i : Int) < l.length) = True := eqp (by omega)
  have k2 : ((i : Int) < 14) = True := eqp (by omega)
  have k3 : ((k : Int) < P.length) = True := eqp (by omega)
  have hw : zY .i64 ((i : Int) + 1) = (i : Int) + 1 := zm (by omega) (by omega)
  have hnil : ¬ P = [] := by intro h; rw [h] at hP; exact absurd hP (by decide)
  have m1 : (pq P l i).length + t.length <= 9223372036854775807 := by omega
  generalize pq P l i = q at *
  have g4 : P[k]'g3 = t := by rw [List.getElem?_eq_getElem g3] at g1; exact Option.some.inj g1
  clear hk c1 hb
  simp [*]
  exact ⟨i + 1, by omega, ⟨by rw [htk], by omega⟩, by omega, by have := of_eq_true k1; omega⟩
 ·have e : pq P l 14 = pq P l i := by
   by_cases h14 : i = 14
   ·rw [h14]
   ·exact pq_end P l i (by omega) hi
  rw [e]
  clear e
  generalize pq P l i = q at *
  by_cases k1 : (i : Int) < l.length
  ·have k2 : ¬ (i : Int) < 14 := by omega
   (simp [*]) <;> (repeat' (first | ((first | refine sP _ ?_ ?_ | refine gP _ ?_ ?_ | refine sN _ ?_ ?_ | refine gN _ ?_ ?_) <;> intro hc <;> (first | replace hc := eqn hc | replace hc := eqp hc) <;> simp [*]) | ((first | refine sM _ ?_ ?_ | refine gM _ ?_ ?_ | refine sB _ ?_ ?_ | refine gB _ ?_ ?_) <;> intro hc <;> simp [*])))
  ·(simp [*]) <;> (repeat' (first | ((first | refine sP _ ?_ ?_ | refine gP _ ?_ ?_ | refine sN _ ?_ ?_ | refine gN _ ?_ ?_) <;> intro hc <;> (first | replace hc := eqn hc | replace hc := eqp hc) <;> simp [*]) | ((first | refine sM _ ?_ ?_ | refine gM _ ?_ ?_ | refine sB _ ?_ ?_ | refine gB _ ?_ ?_) <;> intro hc <;> simp [*])))
theorem aI {cf : zC} {s0 s : St} {r : List GOp} {Q : Ex -> St -> Prop} {a : _} {b : _} {o : _} {x : _} {c : Prop} [Decidable c] (hc : c) (h : after cf s0 r Q (doOp a b o s (some x))) : after cf s0 r Q (doOp a b o s (if c then some x else none)) := by rw [if_pos hc]; exact h
def aw41 : List UInt8 := [105, 110, 116, 32, 109, 97, 105, 110, 40, 41, 32, 123, 32, 114, 101, 116, 117, 114, 110, 32, 49, 32, 43, 32, 50, 32, 42, 32, 51, 59, 32, 125]
def aw42 : List UInt8 := [105, 110, 116, 32, 109, 97, 105, 110, 40, 41, 32, 123, 10]
set_option maxRecDepth 100000 in
theorem aw41_ok : (zob aw41).2.1 = 0 /\ (zob aw41).1.funcs.length = 1 /\ ((zob aw41).1.funcs.map fun f => f.body.length) = [1] := by decide +kernel
set_option maxRecDepth 100000 in
theorem aw42_ok : (zob aw42).2.1 = 20 /\ (zob aw42).2.2 = 2 := by decide +kernel
set_option maxHeartbeats 1000000 in
theorem zOc : zj E 8 [] [] = some (.ret (.bool true), []) := by
 refine zb rfl rfl rfl (by simp) ?_
 have p1 := pparse_spec aw41
 have p2 := pparse_spec aw42
 obtain ⟨a1, a2, a3⟩ := aw41_ok
 obtain ⟨b1, b2⟩ := aw42_ok
 generalize zob aw41 = q1 at *
 generalize zob aw42 = q2 at *
 obtain ⟨⟨ar1, fs1⟩, e1, n1⟩ := q1
 obtain ⟨⟨ar2, fs2⟩, e2, n2⟩ := q2
 simp only at a1 a2 a3 b1 b2
 subst a1
 subst b1
 subst b2
 obtain ⟨f1, rfl⟩ : ∃ f, fs1 = [f] := List.length_eq_one_iff.1 a2
 obtain ⟨fnm, fty, ps, body⟩ := f1
 simp only [List.map_cons, List.map_nil, List.cons.injEq, and_true] at a3
 obtain ⟨s1, rfl⟩ : ∃ s, body = [s] := List.length_eq_one_iff.1 a3
 simp [zRa, zZ, aw41, aw42, zhc, funcs, zD, parsV, zn] at p1 p2
 clear a2 a3
 simp [*, F8, zhc, funcs, zD, parsV, zn]
set_option maxHeartbeats 1000000 in
theorem zwc (s : List UInt8) : zj E 14 [.str s] [] = some (.ret (.bool true), []) := by
 refine zb rfl rfl rfl (by simp) ?_
 have p1 := pparse_spec s
 have p2 := parse_spec s
 have p3 := same03_self _ (parse_psz s)
 generalize zob s = q1 at *
 obtain ⟨⟨ar1, fs1⟩, e1, n1⟩ := q1
 simp [zRa, zZ, zhc, funcs] at p1 p2 p3
 simp [*, F14, zhc, funcs]
def signs04 : List (List UInt8) := [[105, 110, 116, 32], [98, 111, 111, 108, 32], [109, 97, 105, 110, 40, 41, 32, 123, 32], [125], [120], [32, 61, 32], [49], [59, 32], [105, 102, 32, 40], [41, 32, 123], [101, 108, 115, 101, 32, 123], [119, 104, 105, 108, 101, 32, 40], [114, 101, 116, 117, 114, 110, 32], [112, 114, 105, 110, 116, 40], [41], [97, 91], [93], [102, 40], [44, 32], [43], [42], [45], [33], [105, 56, 40], [38, 38], [124, 124], [60], [61, 61], [116, 114, 117, 101], [114, 101, 97, 100, 40, 41], [98, 114, 101, 97, 107, 59, 32], [99, 111, 110, 116, 105, 110, 117, 101, 59, 32], [10], [40], [50], [123, 32]]
def lines04 : List (List UInt8) := [[105, 110, 116, 32, 97, 91, 52, 93, 59, 10], [105, 110, 116, 32, 109, 97, 105, 110, 40, 41, 32, 123, 10], [98, 111, 111, 108, 32, 102, 40, 105, 110, 116, 32, 120, 44, 32, 98, 111, 111, 108, 32, 121, 41, 32, 123, 10], [125, 10], [120, 32, 61, 32, 49, 32, 43, 32, 50, 32, 42, 32, 51, 32, 45, 32, 52, 59, 10], [105, 110, 116, 32, 120, 32, 61, 32, 114, 101, 97, 100, 40, 41, 59, 10], [97, 91, 120, 93, 32, 61, 32, 45, 97, 91, 48, 93, 59, 10], [105, 102, 32, 40, 120, 32, 60, 32, 50, 32, 124, 124, 32, 33, 121, 32, 38, 38, 32, 116, 114, 117, 101, 41, 32, 123, 10], [125, 32, 101, 108, 115, 101, 32, 123, 10], [119, 104, 105, 108, 101, 32, 40, 120, 32, 33, 61, 32, 48, 41, 32, 123, 10], [114, 101, 116, 117, 114, 110, 32, 102, 40, 49, 44, 32, 120, 32, 61, 61, 32, 50, 41, 59, 10], [112, 114, 105, 110, 116, 40, 40, 49, 32, 45, 32, 40, 50, 32, 45, 32, 51, 41, 41, 32, 60, 60, 32, 52, 32, 62, 62, 62, 32, 49, 41, 59, 10], [102, 40, 117, 56, 40, 120, 41, 44, 32, 102, 97, 108, 115, 101, 41, 59, 10], [98, 114, 101, 97, 107, 59, 10], [99, 111, 110, 116, 105, 110, 117, 101, 59, 10], [47, 47, 32, 97, 10], [98, 111, 111, 108, 32, 98, 32, 61, 32, 126, 40, 120, 41, 32, 61, 61, 32, 45, 32, 45, 49, 59, 10], [120, 32, 61, 32, 97, 91, 49, 93, 32, 38, 32, 50, 32, 124, 32, 51, 32, 94, 32, 52, 59, 10]]
def exprs04 : List (List UInt8) := [[49], [120], [43], [45], [42], [60, 60], [62, 62, 62], [60], [61, 61], [38, 38], [124, 124], [38], [33], [126], [40], [41], [105, 56, 40], [97, 91], [93], [102, 40], [44], [116, 114, 117, 101], [114, 101, 97, 100, 40, 41], [37], [94]]
theorem signs04_spec : zj E 15 [] [] = some (.ret (.slice .plain 1 (signs04.map PV.str)), []) := by
 refine zb rfl rfl rfl (by simp) ?_
 simp [F15, signs04]
theorem lines04_spec : zj E 10 [] [] = some (.ret (.slice .plain 1 (lines04.map PV.str)), []) := by
 refine zb rfl rfl rfl (by simp) ?_
 simp [F10, lines04]
set_option maxHeartbeats 1000000 in
theorem parseSmall_spec (l : List UInt8) (hl : l.length <= 9223372036854775807) : zj E 5 [u8s l] [] = some (.ret (.bool true), []) := by
 refine zb rfl rfl rfl (by simp) ?_
 have a0 := zOc
 have p0 := znd signs04 (by decide) (by decide) (by decide) l hl
 have p1 := signs04_spec
 generalize pq signs04 l 14 = s at *
 have p2 := zwc s
 simp only [u8s] at p0 ⊢
 clear hl
 simp [*, F5]
theorem pq04_len (P : List (List UInt8)) (hm : ∀ x ∈ P, x.length <= 40) (l : List UInt8) : (pq P l 14).length <= 560 := pq_len hm l 14
set_option maxHeartbeats 1000000 in
theorem parseLines_spec (l m : List UInt8) (hl : l.length <= 9223372036854775807) (hm : m.length <= 9223372036854775807) : zj E 6 [u8s l, u8s m] [] = some (.ret (.bool true), []) := by
 refine zb rfl rfl rfl (by simp) ?_
 have a0 := zOc
 have p0 := znd lines04 (by decide) (by decide) (by decide) l hl
 have q0 := znd lines04 (by decide) (by decide) (by decide) m hm
 have hlen := pq04_len lines04 (by decide) m
 have p1 := lines04_spec
 generalize pq lines04 l 14 = s at *
 generalize pq lines04 m 14 = t at *
 have p2 := zwc s
 have p3 := zwc ([105, 110, 116, 32, 97, 91, 50, 93, 59, 10, 105, 110, 116, 32, 109, 97, 105, 110, 40, 41, 32, 123, 10] ++ t ++ [125, 10])
 have m1 : t.length + 1 + 1 + 1 + 1 + 1 + 1 + 1 + 1 + 1 + 1 + 1 + 1 + 1 + 1 + 1 + 1 + 1 + 1 + 1 + 1 + 1 + 1 + 1 <= 9223372036854775807 := by omega
 have m2 : 23 + t.length <= 9223372036854775807 := by omega
 have m3 : 23 + t.length + 2 <= 9223372036854775807 := by omega
 have m4 : t.length + 2 + 23 <= 9223372036854775807 := by omega
 have m5 : t.length + 23 <= 9223372036854775807 := by omega
 simp only [u8s] at p0 q0 ⊢
 simp at p3
 clear hl hm hlen
 (simp [*, F6]) <;> (repeat' (refine aI (by omega) ?_ <;> simp [*, F6])) <;> (try omega)
set_option maxHeartbeats 1000000 in
theorem parseExprs_spec (l : List UInt8) (hl : l.length <= 9223372036854775807) : zj E 4 [u8s l] [] = some (.ret (.bool true), []) := by
 refine zb rfl rfl rfl (by simp) ?_
 have a0 := zOc
 have p0 := znd exprs04 (by decide) (by decide) (by decide) l hl
 have hlen := pq04_len exprs04 (by decide) l
 generalize pq exprs04 l 14 = t at *
 have p3 := zwc ([105, 110, 116, 32, 109, 97, 105, 110, 40, 41, 32, 123, 32, 114, 101, 116, 117, 114, 110, 32] ++ t ++ [59, 32, 125])
 simp only [u8s] at p0 ⊢
 simp [exprs04] at p0
 simp at p3
 clear hl
 (simp [*, F4]) <;> (repeat' (refine aI (by omega) ?_ <;> simp [*, F4])) <;> (try omega)
def zcc (s : List UInt8) (n : Nat) : List UInt8 := (List.replicate n s).flatten
theorem manyM_len (s : List UInt8) : ∀ n, (zcc s n).length = n * s.length
 | 0 => by simp [zcc]
 | n + 1 => by simp [zcc]
theorem manyM_succ (s : List UInt8) (n : Nat) : zcc s (n + 1) = zcc s n ++ s := by
 unfold zcc
 rw [List.replicate_succ', List.flatten_append]; simp
theorem zSa (s : List UInt8) (n : Nat) (hs : s.length <= 20) (hn : n <= 200) : zj E 16 [.str s, .int .i64 n] [] = some (.ret (.str (zcc s n)), []) := by
 refine zb rfl rfl rfl (by simp) ?_
 simp [F16]
 refine zva K16_0 B16_0 (fun i : Nat => n - i) (fun i => [(5, .str (zcc s i)), (6, .int .i64 i)]) (fun _ => []) (fun _ => []) (fun i => i <= n) 0 ⟨by simp [zcc], by simp, by simp, by omega⟩ ?_
 intro i s1 hi g1 g2 g3 g4 g5
 simp at g1 g3 g5
 clear g2 g4
 by_cases h : i < n
 ·have k1 : ((i : Int) < n) = True := eqp (by omega)
  have hlen := manyM_len s i
  have hmul : i * s.length <= 200 * 20 := Nat.mul_le_mul (by omega) hs
  have hsu := manyM_succ s i
  have hw : zY .i64 ((i : Int) + 1) = (i : Int) + 1 := zm (by omega) (by omega)
  have hl : (zcc s i).length + s.length <= 9223372036854775807 := by omega
  generalize zcc s i = q at *
  clear hlen hmul
  simp [*]
  exact ⟨i + 1, by omega, ⟨hsu.symm, rfl⟩, by omega⟩
 ·obtain rfl : i = n := by omega
  have k1 : ((i : Int) < i) = False := eqn (by omega)
  simp [*]
end PE.U

namespace PE.U
open Go PE
set_option maxHeartbeats 8000000 in
theorem parseDeep_spec (n kind : UInt8) : zj E 7 [.int .u8 n.toNat, .int .u8 kind.toNat] [] = some (.ret (.bool true), []) := by
 refine zb rfl rfl rfl (by simp) ?_
 have a0 := zOc
 have p3 := zwc
 have e2 : remK (n.toNat : Int) 20 = ((n.toNat % 20 : Nat) : Int) := remNat n.toNat 20
 have f2 : remK (kind.toNat : Int) 9 = ((kind.toNat % 9 : Nat) : Int) := remNat kind.toNat 9
 have hj : kind.toNat % 9 < 9 := Nat.mod_lt _ (by omega)
 have hk0 : n.toNat % 20 < 20 := Nat.mod_lt _ (by omega)
 have e3 : zY .i64 (90 + ((n.toNat % 20 : Nat) : Int)) = ((90 + n.toNat % 20 : Nat) : Int) := by rw [zm] <;> omega
 have e4 : zY .i64 ((((90 + n.toNat % 20 : Nat) : Int)) / 2) = (((90 + n.toNat % 20) / 2 : Nat) : Int) := by rw [zm] <;> omega
 generalize hk : 90 + n.toNat % 20 = k at *
 generalize kind.toNat % 9 = j at *
 generalize n.toNat % 20 = r at *
 have hk1 : k <= 109 := by omega
 clear hk hk0
 have hl : ∀ (s : List UInt8), s.length <= 20 -> (zcc s k).length <= 2180 := fun s h => by rw [manyM_len]; exact Nat.mul_le_mul hk1 h
 have hl2 : ∀ (s : List UInt8), s.length <= 20 -> (zcc s (k / 2)).length <= 2180 := fun s h => by rw [manyM_len]; exact Nat.le_trans (Nat.mul_le_mul (show k / 2 <= 109 by omega) h) (by omega)
 have m1 := zSa [40] k (by simp) (by omega)
 have l1 := hl [40] (by simp)
 have m2 := zSa [41] k (by simp) (by omega)
 have l2 := hl [41] (by simp)
 have m3 := zSa [45] k (by simp) (by omega)
 have l3 := hl [45] (by simp)
 have m4 := zSa [105, 102, 32, 40, 49, 41, 32, 123] k (by simp) (by omega)
 have l4 := hl [105, 102, 32, 40, 49, 41, 32, 123] (by simp)
 have m5 := zSa [125] k (by simp) (by omega)
 have l5 := hl [125] (by simp)
 have m6 := zSa [119, 104, 105, 108, 101, 32, 40, 49, 41, 32, 123] k (by simp) (by omega)
 have l6 := hl [119, 104, 105, 108, 101, 32, 40, 49, 41, 32, 123] (by simp)
 have m7 := zSa [102, 40] k (by simp) (by omega)
 have l7 := hl [102, 40] (by simp)
 have m8 := zSa [97, 91] k (by simp) (by omega)
 have l8 := hl [97, 91] (by simp)
 have m9 := zSa [93] k (by simp) (by omega)
 have l9 := hl [93] (by simp)
 have m10 := zSa [32, 43, 32, 49] k (by simp) (by omega)
 have l10 := hl [32, 43, 32, 49] (by simp)
 have m11 := zSa [105, 56, 40, 45] (k / 2) (by simp) (by omega)
 have l11 := hl2 [105, 56, 40, 45] (by simp)
 have m12 := zSa [41] (k / 2) (by simp) (by omega)
 have l12 := hl2 [41] (by simp)
 generalize zcc [40] k = t1 at *
 generalize zcc [41] k = t2 at *
 generalize zcc [45] k = t3 at *
 generalize zcc [105, 102, 32, 40, 49, 41, 32, 123] k = t4 at *
 generalize zcc [125] k = t5 at *
 generalize zcc [119, 104, 105, 108, 101, 32, 40, 49, 41, 32, 123] k = t6 at *
 generalize zcc [102, 40] k = t7 at *
 generalize zcc [97, 91] k = t8 at *
 generalize zcc [93] k = t9 at *
 generalize zcc [32, 43, 32, 49] k = t10 at *
 generalize zcc [105, 56, 40, 45] (k / 2) = t11 at *
 generalize zcc [41] (k / 2) = t12 at *
 generalize hk2 : k / 2 = k2 at *
 clear hl hl2 hk1 hk2
 have hjs : j = 0 \/ j = 1 \/ j = 2 \/ j = 3 \/ j = 4 \/ j = 5 \/ j = 6 \/ j = 7 \/ j = 8 := by omega
 clear hj
 rcases hjs with rfl | rfl | rfl | rfl | rfl | rfl | rfl | rfl | rfl
 all_goals (simp [*, F7]) <;> (repeat' (refine aI (by omega) ?_ <;> simp [*, F7])) <;> (try omega)
end PE.U

namespace PE.U
open Go PE Go.Proofs
theorem cells_of {w : World} {b : Nat} {v : Value} (h : w.cell? ⟨b, 0, none⟩ = some v) : ∃ cs e fr, w.heap[b]? = some (.cells cs e fr) /\ cs[0]? = some v /\ b < w.heap.size := by
 unfold World.cell? at h
 simp only at h
 split at h
 ·rename_i cs e fr hc
  refine ⟨cs, e, fr, hc, by simpa using h, ?_⟩
  rcases Nat.lt_or_ge b w.heap.size with h' | h'
  ·exact h'
  ·rw [Array.getElem?_eq_none h'] at hc; cases hc
 ·cases h
theorem start_tab {w : World} (hm : ∃ m, w.cell? ⟨0, 0, none⟩ = some (.int .i64 m)) (hs : ∃ ev, w.cell? ⟨1, 0, none⟩ = some ev /\ (ev = .nilIface \/ ∃ te pe, ev = .iface te pe)) (hr : ∃ ev, w.cell? ⟨2, 0, none⟩ = some ev /\ (ev = .nilIface \/ ∃ te pe, ev = .iface te pe))
  (h : Lib.TabIs Tryz.prog w "internal/strconv.uint64pow10" .u64 Lib.pow10Tab) : ∃ c0 c1 c2, TabsOk c0 c1 c2 /\ (tabs c0 c1 c2).In (gh0 w) w := by
 obtain ⟨m, hm⟩ := hm
 obtain ⟨es, hs, hs2⟩ := hs
 obtain ⟨er, hr, hr2⟩ := hr
 obtain ⟨c0, t0, f0, a0, b0, l0⟩ := cells_of hm
 obtain ⟨c1, t1, f1, a1, b1, l1⟩ := cells_of hs
 obtain ⟨c2, t2, f2, a2, b2, l2⟩ := cells_of hr
 have hg : Tryz.prog.globalNamed "internal/strconv.uint64pow10" = some 3 := by kernel_rfl
 unfold Lib.TabIs World.var? at h
 rw [hg] at h
 simp only [Option.bind_some] at h
 refine ⟨c0, c1, c2, ⟨⟨m, b0⟩, ⟨es, b1, hs2⟩, ⟨er, b2, hr2⟩⟩, ?_⟩
 intro x hx
 rw [show tabs c0 c1 c2 = [(0, c0), (1, c1), (2, c2), (3, tab10)] from rfl] at hx
 simp only [List.mem_cons, List.not_mem_nil, or_false] at hx
 rcases hx with rfl | rfl | rfl | rfl
 ·exact ⟨by simp [gh0, l0], t0, f0, a0⟩
 ·exact ⟨by simp [gh0, l1], t1, f1, a1⟩
 ·exact ⟨by simp [gh0, l2], t2, f2, a2⟩
 ·split at h
  ·rename_i cs e fr hc
   have hcs : cs = tab10 := Option.some.inj h
   subst hcs
   refine ⟨?_, e, fr, hc⟩
   have hlt : 3 < w.heap.size := by
    rcases Nat.lt_or_ge 3 w.heap.size with h' | h'
    ·exact h'
    ·rw [Array.getElem?_eq_none h'] at hc; cases hc
   simp [gh0, hlt]
  ·cases h
end PE.U

namespace PE
open Go Go.RowKit
def Kept (w w' : World) : Prop := w.keptBut w' (fun _ => False) /\ ∀ k, k < w.heap.size -> w'.heap[k]? = w.heap[k]?
theorem Kept.frame {w w' : World} (h : Kept w w') (X : MemPlace -> Prop) : w.keptBut w' X := World.keptBut_mono (fun p hp => hp.elim) h.1
theorem kept_of_ext {w w' : World} {G' : Gh} {st' : ze} (h : Ext (gh0 w) [] w G' st' w') : Kept w w' :=
 ⟨by
  refine ⟨h.os, h.output, fun i hi => ?_⟩
  have hb := (h.prot i (by simp [gh0, hi])).2.2
  rw [hb]
  cases w.heap[i]? with
  | none => rfl
  | some o => cases o <;> first | exact ⟨rfl, rfl, rfl, fun _ _ => rfl⟩ | exact .inr ⟨rfl, rfl⟩ | rfl, fun k hk => (h.prot k (by simp [gh0, hk])).2.2⟩
theorem Kept.same {W w' : World} (h : Kept W w') {p : MemPlace} (hp : p.block < W.heap.size) : W.sameAt w' p := by
 cases p with
 | cell b o => exact World.cell?_of_block (w := W) (h.2 b hp)
 | map b => exact h.2 b hp
theorem Kept.trod {H : Type} {enc : TypeId × Value -> H} {P : Program} {t : TypeId} (hl : laidOutB P = true) (hr : P.readableRec t = true) (hrow : t < P.types.size) {W W' : World} {v : Value} {d : DataW H} {ps : List MemPlace}
  (h : DataW.Trod enc P W 0 (fun _ => true) true t v d ps) (hb : Kept W W') (hlt : ∀ x ∈ ps, x.block < W.heap.size) :
  DataW.Trod enc P W' 0 (fun b => decide (b < W.heap.size)) true t v d ps :=
 WideElems.Trod_stays hl hr hrow h (fun x hx => hb.same (hlt x hx)) (fun x hx => by simpa using hlt x hx)
theorem walk_kept {P : Program} {T : Tabs} {E : Env} (hE : EnvOk P T E) {f : Nat} {args : List PV} {margs : Array Value} {w : World} {st' : ze} (hT : T.In (gh0 w) w)
  (h : zj E f args [] = some (.ret (.bool true), st')) (hsz : margs.size = args.length)
  (hv : ∀ (j : Nat) c x, args[j]? = some c -> margs[j]? = some x -> VR ((gh0 w).im w) (fun _ => none) c x) :
  Calls P f margs w fun e w' => e = .returned (.bool true) /\ Kept w w' := by
 obtain ⟨n, hn⟩ := zWb.1 h
 have hloc : zi (gh0 w).lc [] = fun _ => none := by funext l; simp [zi]
 refine ((callF_good hE n _ _ _ _ _ hn (gh0 w) w margs rfl hT (gh0_sim w) hsz (by rw [hloc]; exact hv)).2).mono ?_
 intro e w' he
 cases e with
 | returned mv =>
  obtain ⟨G', q1, q2, q3⟩ := he
  exact ⟨by rw [VR.bool_inv q3], kept_of_ext q2⟩
 | panicked ch => exact he.elim
 | outgrown => exact he.elim
def IsRow (k : IntKind) (w : World) (a : Option Addr) (len cap : Nat) (zs : List Int) : Prop :=
 (a = none /\ len = 0 /\ cap = 0 /\ zs = []) ∨
 ∃ x, a = some x /\ len <= cap /\ cap <= maxLen /\ zs.length = cap /\ (∀ i, i < zs.length -> w.cell? (x.add i) = some (.int k (zs.getD i 0))) /\ ∀ n ∈ zs, (Lit.int k n).wf = true
theorem row_vr {k : IntKind} {w : World} {a : Option Addr} {len cap : Nat} {zs : List Int} (h : IsRow k w a len cap zs) : VR ((gh0 w).im w) (fun _ => none) (.slice .plain 1 ((zs.take len).map (PV.int k))) (.slice a len cap) := by
 rcases h with ⟨rfl, rfl, rfl, rfl⟩ | ⟨x, rfl, hl, hm, hz, hcell, hwz⟩
 ·exact .slice0 _ _ _ _ (by simp) (by simp)
 ·by_cases h0 : len = 0
  ·subst h0
   exact .slice0 _ _ _ _ (by simp) (by simp)
  ·obtain ⟨b, off, spot⟩ := x
   have hc := hcell 0 (by omega)
   have hspot : spot = none := by simpa [Addr.add] using World.cell?_spot hc
   subst hspot
   have hlen : ((zs.take len).map (PV.int k)).length = len := by simp; omega
   have hget : ∀ (i : Nat) e, ((zs.take len).map (PV.int k))[i]? = some e -> i < len /\ e = .int k (zs.getD i 0) := by
    intro i e he
    rw [List.getElem?_map, Option.map_eq_some_iff] at he
    obtain ⟨n, hn, rfl⟩ := he
    rw [List.getElem?_take] at hn
    split at hn
    ·rename_i hi
     refine ⟨hi, ?_⟩
     rw [List.getD_eq_getElem?_getD, hn]; rfl
    ·cases hn
   have := VR.slice (I := (gh0 w).im w) (L := fun _ => none) (k := .plain) (sz := 1) (l := (zs.take len).map (PV.int k)) (b := b) (o := off) (cap := cap)
    (by simp) (by simp) (by rw [hlen]; exact hl) (fun i _ => .int k (zs.getD i 0)) ?_ ?_ ?_
   ·rw [hlen] at this; exact this
   ·intro i e he
    obtain ⟨_, rfl⟩ := hget i e he
    exact ⟨rfl, rfl⟩
   ·intro i e j c he hc
    obtain ⟨hi, rfl⟩ := hget i e he
    cases j with
    | zero =>
     refine ⟨gh0_im ?_, rfl⟩
     have := hcell i (by omega)
     have e : (⟨b, off, none⟩ : Addr).add i = ⟨b, off + i * 1 + 0, none⟩ := by
      unfold Addr.add
      by_cases hi0 : i = 0 <;> simp [hi0]
     rw [<- e]; exact this
    | succ j => simp [cellsOf] at hc
   ·intro i e j c he hc
    obtain ⟨hi, rfl⟩ := hget i e he
    cases j with
    | zero => simp [cellsOf] at hc; subst hc; exact .int _ _
    | succ j => simp [cellsOf] at hc
theorem row_len {k : IntKind} {w : World} {a : Option Addr} {len cap : Nat} {zs : List Int} (h : IsRow k w a len cap zs) : (zs.take len).length <= maxLen := by
 rcases h with ⟨rfl, rfl, rfl, rfl⟩ | ⟨x, rfl, hl, hm, hz, hcell, hwz⟩
 ·simp
 ·rw [List.length_take]; omega
def bytesOf (zs : List Int) : List UInt8 := zs.map fun n => UInt8.ofNat n.toNat
theorem row_u8 {w : World} {a : Option Addr} {len cap : Nat} {zs : List Int} (h : IsRow .u8 w a len cap zs) : VR ((gh0 w).im w) (fun _ => none) (.slice .plain 1 ((bytesOf (zs.take len)).map fun b => .int .u8 b.toNat)) (.slice a len cap) := by
 have hv := row_vr h
 have : (bytesOf (zs.take len)).map (fun b => PV.int .u8 b.toNat) = (zs.take len).map (PV.int .u8) := by
  unfold bytesOf
  rw [List.map_map]
  apply List.map_congr_left
  intro n hn
  have hwf : (Lit.int .u8 n).wf = true := by
   rcases h with ⟨rfl, rfl, rfl, rfl⟩ | ⟨x, rfl, hl, hm, hz, hcell, hwz⟩
   ·simp at hn
   ·exact hwz n (List.mem_of_mem_take hn)
  have hb : 0 <= n /\ n <= 255 := by
   simp only [Lit.wf, Bool.and_eq_true, decide_eq_true_eq] at hwf
   exact hwf
  simp only [Function.comp_apply, PV.int.injEq, true_and]
  have : (UInt8.ofNat n.toNat).toNat = n.toNat := by
   rw [UInt8.toNat_ofNat']; omega
  omega
 rw [this]; exact hv
theorem bytes_len {w : World} {a : Option Addr} {len cap : Nat} {zs : List Int} (h : IsRow .u8 w a len cap zs) : (bytesOf (zs.take len)).length <= maxLen := by
 unfold bytesOf; rw [List.length_map]; exact row_len h
theorem str_vr (I : Im) (L : Loc) {b : ByteArray} : VR I L (.str b.data.toList) (.string b) := VR.str b.data.toList
theorem str_len {b : ByteArray} (h : b.size <= maxLen) : b.data.toList.length <= maxLen := by
 rw [Array.length_toList]; exact h
theorem maxLen_eq : maxLen = 9223372036854775807 := by decide
end PE

namespace PE
open Go Go.RowKit
def packT (P : Program) (e : TypeId) (l : List PV) : PV := match P.underlying e with
 | some (.struct _) => .agg l
 | _ => l.headD .undef
def CellsT (P : Program) : Nat -> TypeId -> List PV -> Prop
 | 0, _, _ => False
 | n + 1, t, l => match P.underlying t with
  | some (.int k) => ∃ z, l = [.int k z] /\ (Lit.int k z).wf = true
  | some .bool => ∃ b, l = [.bool b]
  | some .string => ∃ s : List UInt8, l = [.str s] /\ s.length <= maxLen
  | some (.struct fs) => l.length = P.cellsOf t /\ ∀ f ∈ fs.toList, CellsT P n f.type ((l.drop f.offset).take (P.cellsOf f.type))
  | some (.slice e) => ∃ es : List (List PV), l = [.slice .plain (P.cellsOf e) (es.map (packT P e))] /\ es.length <= maxLen /\ ∀ c ∈ es, CellsT P n e c
  | _ => False
def layB (P : Program) : List Field -> Nat -> Nat -> Bool
 | [], o, total => o == total
 | f :: r, o, total => f.offset == o && layB P r (o + P.cellsOf f.type) total
def plainB (P : Program) (S : List TypeId) : Bool := S.all fun t => match P.underlying t with
 | some (.int _) => P.cellsOf t == 1
 | some .bool => P.cellsOf t == 1
 | some .string => P.cellsOf t == 1
 | some (.struct fs) => fs.toList.all (fun f => S.contains f.type) && layB P fs.toList 0 (P.cellsOf t)
 | some (.slice e) => S.contains e && decide (0 < P.cellsOf e) && (P.cellsOf t == 1)
 | _ => false
def R1 (w : World) (c : PV) (v : Value) : Prop := VR ((gh0 w).im w) (fun _ => none) c v /\ zXb c = true /\ v.oneCell' = true
def Rs (w : World) (l : List PV) (cs : List Value) : Prop := l.length = cs.length /\ ∀ (j : Nat) c v, l[j]? = some c -> cs[j]? = some v -> R1 w c v
theorem Rs.one {w : World} {c : PV} {v : Value} (h : R1 w c v) : Rs w [c] [v] := by
 refine ⟨rfl, fun j c' v' hc hv => ?_⟩
 cases j with
 | zero => cases hc; cases hv; exact h
 | succ j => simp at hc
theorem Rs.append {w : World} {l l' : List PV} {cs cs' : List Value} (h : Rs w l cs) (h' : Rs w l' cs') : Rs w (l ++ l') (cs ++ cs') := by
 refine ⟨by simp [h.1, h'.1], fun j c v hc hv => ?_⟩
 by_cases hj : j < l.length
 ·rw [List.getElem?_append_left hj] at hc
  rw [List.getElem?_append_left (by rw [<- h.1]; exact hj)] at hv
  exact h.2 j c v hc hv
 ·rw [List.getElem?_append_right (by omega)] at hc
  rw [List.getElem?_append_right (by rw [<- h.1]; omega)] at hv
  rw [<- h.1] at hv
  exact h'.2 _ c v hc hv
theorem lay_join {P : Program} {w : World} {n : Nat} {cs : List Value} : ∀ (fs : List Field) (o total : Nat), layB P fs o total = true -> total = cs.length →
  (∀ f ∈ fs, ∃ l, Rs w l ((cs.drop f.offset).take (P.cellsOf f.type)) /\ CellsT P n f.type l) →
  ∃ l, Rs w l (cs.drop o) /\ ∀ f ∈ fs, o <= f.offset /\ CellsT P n f.type ((l.drop (f.offset - o)).take (P.cellsOf f.type)) := by
 intro fs
 induction fs with
 | nil =>
  intro o total hl ht _
  simp only [layB, beq_iff_eq] at hl
  refine ⟨[], ⟨?_, fun j c v hc => by simp at hc⟩, fun f hf => by simp at hf⟩
  simp; omega
 | cons f r ih =>
  intro o total hl ht hf
  simp only [layB, Bool.and_eq_true, beq_iff_eq] at hl
  obtain ⟨ho, hl⟩ := hl
  obtain ⟨l1, h1, c1⟩ := hf f (by simp)
  obtain ⟨l2, h2, c2⟩ := ih _ _ hl ht (fun g hg => hf g (by simp [hg]))
  have hle : ∀ (fs : List Field) (o total : Nat), layB P fs o total = true -> o <= total := by
   intro fs
   induction fs with
   | nil => intro o total h; simp only [layB, beq_iff_eq] at h; omega
   | cons g s ihs =>
    intro o total h
    simp only [layB, Bool.and_eq_true, beq_iff_eq] at h
    have := ihs _ _ h.2; omega
  have hn := hle _ _ _ hl
  have hlen1 : l1.length = P.cellsOf f.type := by
   rw [h1.1, List.length_take, List.length_drop, ho]; omega
  refine ⟨l1 ++ l2, ?_, ?_⟩
  ·have : cs.drop o = (cs.drop f.offset).take (P.cellsOf f.type) ++ cs.drop (o + P.cellsOf f.type) := by
    rw [ho, <- List.drop_drop, List.take_append_drop]
   rw [this]
   exact h1.append h2
  ·intro g hg
   rcases List.mem_cons.1 hg with rfl | hg
   ·refine ⟨by omega, ?_⟩
    rw [ho, Nat.sub_self, List.drop_zero, List.take_append_of_le_length (by omega), <- hlen1, List.take_length]
    exact c1
   ·obtain ⟨h3, h4⟩ := c2 g hg
    refine ⟨by omega, ?_⟩
    have : (l1 ++ l2).drop (g.offset - o) = l2.drop (g.offset - (o + P.cellsOf f.type)) := by
     rw [List.drop_append, List.drop_of_length_le (by omega), List.nil_append]
     congr 1; omega
    rw [this]; exact h4
theorem cells_packed {P : Program} {n : Nat} {e : TypeId} {l : List PV} {w : World} {cs : List Value} (hr : Rs w l cs) (h : CellsT P n e l) (hsz : cs.length = P.cellsOf e) : cellsOf (packT P e l) = l /\ zI (packT P e l) = true := by
 cases n with
 | zero => exact h.elim
 | succ n =>
  unfold CellsT at h
  unfold packT
  split at h
  ·rename_i hu; rw [hu]; obtain ⟨z, rfl, _⟩ := h; exact ⟨rfl, rfl⟩
  ·rename_i hu; rw [hu]; obtain ⟨z, rfl⟩ := h; exact ⟨rfl, rfl⟩
  ·rename_i hu; rw [hu]; obtain ⟨z, rfl, _⟩ := h; exact ⟨rfl, rfl⟩
  ·rename_i hu; rw [hu]; exact ⟨rfl, rfl⟩
  ·rename_i hu; rw [hu]; obtain ⟨z, rfl, _⟩ := h; exact ⟨rfl, rfl⟩
  ·exact h.elim
theorem cells?_get {w : World} {a : Addr} {n : Nat} {cs : List Value} (h : w.cells? 0 a n = some cs) : cs.length = n /\ ∀ (j : Nat) v, cs[j]? = some v -> w.cell? (a.add j) = some v := by
 unfold World.cells? at h
 rw [if_pos (Nat.zero_le _)] at h
 have hl := mapM_some_length h
 rw [List.length_range] at hl
 refine ⟨hl, fun j v hv => ?_⟩
 have hj : j < n := by rw [<- hl]; exact (List.getElem?_eq_some_iff.1 hv).1
 have := mapM_some_get h j j (by rw [List.getElem?_range hj])
 rw [this, hv]
theorem add_add (a : Addr) (ha : a.spot = none) (x : Nat) : a.add x = ⟨a.block, a.off + x, none⟩ := by
 obtain ⟨b, o, s⟩ := a
 simp only at ha
 subst ha
 unfold Addr.add
 by_cases h : x = 0 <;> simp [h]
theorem read_cells {P : Program} {S : List TypeId} (hp : plainB P S = true) {H : Type} {enc : TypeId × Value -> H} {w : World} {sp : Nat -> Bool} : ∀ (n : Nat) (t : TypeId) (cs : List Value) (x : DataW H × List MemPlace), t ∈ S →
  DataW.trod enc P w 0 sp true n t cs = some x -> ∃ l, Rs w l cs /\ CellsT P n t l /\ cs.length = P.cellsOf t := by
 intro n
 induction n with
 | zero => intro t cs x _ h; simp [DataW.trod] at h
 | succ n ih =>
  intro t cs x ht h
  have hp' := List.all_eq_true.1 hp t ht
  split at hp'
  ·rename_i k hu
   obtain ⟨z, rfl, _, hw⟩ := DataW.trod_int hu h
   simp only [beq_iff_eq] at hp'
   exact ⟨[.int k z], Rs.one ⟨.int _ _, rfl, rfl⟩, by unfold CellsT; rw [hu]; exact ⟨z, rfl, hw⟩, by simp [hp']⟩
  ·rename_i hu
   obtain ⟨z, rfl, _⟩ := DataW.trod_bool hu h
   simp only [beq_iff_eq] at hp'
   exact ⟨[.bool z], Rs.one ⟨.bool _, rfl, rfl⟩, by unfold CellsT; rw [hu]; exact ⟨z, rfl⟩, by simp [hp']⟩
  ·rename_i hu
   obtain ⟨s, rfl, _, hm⟩ := DataW.trod_string hu h
   simp only [beq_iff_eq] at hp'
   exact ⟨[.str s.data.toList], Rs.one ⟨str_vr _ _, rfl, rfl⟩, by unfold CellsT; rw [hu]; exact ⟨_, rfl, str_len hm⟩, by simp [hp']⟩
  ·rename_i fs hu
   simp only [Bool.and_eq_true, List.all_eq_true, List.contains_iff_mem] at hp'
   obtain ⟨hS, hlay⟩ := hp'
   obtain ⟨xs, m, hm, _, hlen, hxs, hget⟩ := DataW.trod_struct hu h
   cases hm
   obtain ⟨l, hl, hc⟩ := lay_join (w := w) (n := n) (cs := cs) fs.toList 0 _ hlay hlen.symm (by
    intro f hf
    obtain ⟨i, hi⟩ := List.getElem?_of_mem hf
    have hi' : fs[i]? = some f := by simpa using hi
    have hg := hget i f hi'
    have hlt : i < xs.length := by rw [hxs]; simpa using (List.getElem?_eq_some_iff.1 hi).1
    rw [List.getElem?_eq_getElem hlt] at hg
    obtain ⟨l, h1, h2, _⟩ := ih _ _ _ (hS f hf) hg
    exact ⟨l, h1, h2⟩)
   rw [List.drop_zero] at hl
   refine ⟨l, hl, ?_, hlen⟩
   unfold CellsT
   rw [hu]
   exact ⟨by rw [hl.1, hlen], fun f hf => by have := (hc f hf).2; rwa [Nat.sub_zero] at this⟩
  ·rename_i e hu
   simp only [Bool.and_eq_true, List.contains_iff_mem, decide_eq_true_eq, beq_iff_eq] at hp'
   obtain ⟨⟨hS, hpos⟩, h1⟩ := hp'
   rcases DataW.trod_slice hu h with ⟨rfl, _⟩ | ⟨a, len, cap, elems, rest, m, hm, rfl, _, _, hle, hcap, hel, hget, _, _⟩
   ·exact ⟨[.slice .plain (P.cellsOf e) []], Rs.one ⟨.slice0 _ _ _ _ (by simp) (by simp), rfl, rfl⟩, by unfold CellsT; rw [hu]; exact ⟨[], rfl, by simp, by simp⟩, by simp [h1]⟩
   ·cases hm
    have key : ∀ i, i < len -> ∃ l : List PV, l.length = P.cellsOf e /\ CellsT P n e l /\ cellsOf (packT P e l) = l /\ zI (packT P e l) = true /\ ∀ (j : Nat) c, l[j]? = some c -> ∃ v, w.cell? ((a.add (i * P.cellsOf e)).add j) = some v /\ R1 w c v := by
     intro i hi
     have hg := hget i hi
     have hlt : i < elems.length := by omega
     rw [List.getElem?_eq_getElem hlt, Option.bind_eq_some_iff] at hg
     obtain ⟨cs', h2, h3⟩ := hg
     obtain ⟨l, h4, h5, h6⟩ := ih _ _ _ hS h3
     obtain ⟨h7, h8⟩ := cells?_get h2
     obtain ⟨h9, h10⟩ := cells_packed h4 h5 h6
     refine ⟨l, by rw [h4.1, h6], h5, h9, h10, fun j c hc => ?_⟩
     have hj : j < cs'.length := by rw [<- h4.1]; exact (List.getElem?_eq_some_iff.1 hc).1
     exact ⟨cs'[j], h8 j _ (List.getElem?_eq_getElem hj), h4.2 j c _ hc (List.getElem?_eq_getElem hj)⟩
    let g : Nat -> List PV := fun i => if hi : i < len then (key i hi).choose else []
    have hg : ∀ i, i < len -> (g i).length = P.cellsOf e /\ CellsT P n e (g i) /\ cellsOf (packT P e (g i)) = g i /\ zI (packT P e (g i)) = true /\ ∀ (j : Nat) c, (g i)[j]? = some c -> ∃ v, w.cell? ((a.add (i * P.cellsOf e)).add j) = some v /\ R1 w c v := by
     intro i hi
     have := (key i hi).choose_spec
     simp only [g, dif_pos hi]
     exact this
    have hel' : ∀ (i : Nat) x, (((List.range len).map g).map (packT P e))[i]? = some x -> i < len /\ x = packT P e (g i) := by
     intro i x hx
     rw [List.map_map, List.getElem?_map, Option.map_eq_some_iff] at hx
     obtain ⟨k, hk, rfl⟩ := hx
     obtain ⟨hk1, hk2⟩ := List.getElem?_eq_some_iff.1 hk
     rw [List.length_range] at hk1
     rw [List.getElem_range] at hk2
     subst hk2
     exact ⟨hk1, rfl⟩
    refine ⟨[.slice .plain (P.cellsOf e) (((List.range len).map g).map (packT P e))], Rs.one ⟨?_, rfl, rfl⟩, ?_, by simp [h1]⟩
    ·by_cases h0 : len = 0
     ·subst h0
      exact .slice0 _ _ _ _ (by simp) (by simp)
     ·obtain ⟨q1, q2, q3, q4, q5⟩ := hg 0 (by omega)
      have hspot : a.spot = none := by
       have hlt : 0 < (g 0).length := by omega
       obtain ⟨v, hv, _⟩ := q5 0 _ (List.getElem?_eq_getElem hlt)
       have hsp := World.cell?_spot hv
       obtain ⟨b, o, s⟩ := a
       simpa [Addr.add] using hsp
      obtain ⟨b, o, s⟩ := a
      simp only at hspot
      subst hspot
      have hcell : ∀ (i : Nat) x (j : Nat) c, (((List.range len).map g).map (packT P e))[i]? = some x -> (cellsOf x)[j]? = some c -> ∃ v, (gh0 w).im w b (o + i * P.cellsOf e + j) = some v /\ R1 w c v := by
       intro i x j c hx hc
       obtain ⟨hi, rfl⟩ := hel' i x hx
       obtain ⟨r1, r2, r3, r4, r5⟩ := hg i hi
       rw [r3] at hc
       obtain ⟨v, hv, hr⟩ := r5 j c hc
       refine ⟨v, gh0_im ?_, hr⟩
       rw [add_add ⟨b, o, none⟩ rfl, add_add ⟨b, o + i * P.cellsOf e, none⟩ rfl] at hv
       exact hv
      have hlen : (((List.range len).map g).map (packT P e)).length = len := by simp
      have := VR.slice (I := (gh0 w).im w) (L := fun _ => none) (k := .plain) (sz := P.cellsOf e) (l := ((List.range len).map g).map (packT P e)) (b := b) (o := o) (cap := cap)
       (by simp) (by simp) (by rw [hlen]; exact hle) (fun i j => ((gh0 w).im w b (o + i * P.cellsOf e + j)).getD (.bool false)) ?_ ?_ ?_
      ·rw [hlen] at this; exact this
      ·intro i x hx
       obtain ⟨hi, rfl⟩ := hel' i x hx
       obtain ⟨r1, r2, r3, r4, r5⟩ := hg i hi
       exact ⟨by rw [r3, r1], r4⟩
      ·intro i x j c hx hc
       obtain ⟨v, hv, hr⟩ := hcell i x j c hx hc
       simp only [hv, Option.getD_some]
       exact ⟨trivial, hr.2.2⟩
      ·intro i x j c hx hc
       obtain ⟨v, hv, hr⟩ := hcell i x j c hx hc
       simp only [hv, Option.getD_some]
       exact hr.1
    ·unfold CellsT
     rw [hu]
     refine ⟨(List.range len).map g, rfl, by simp; omega, ?_⟩
     intro c hc
     rw [List.mem_map] at hc
     obtain ⟨i, hi, rfl⟩ := hc
     exact (hg i (List.mem_range.1 hi)).2.1
  ·cases hp'
theorem packT_struct {P : Program} {e : TypeId} {fs : Array Field} (hu : P.underlying e = some (.struct fs)) (l : List PV) : packT P e l = .agg l := by
 unfold packT; rw [hu]
theorem le_max {n : Nat} (h : n <= maxLen) : n <= 9223372036854775807 := by rw [maxLen_eq] at h; exact h
theorem read_row {P : Program} {S : List TypeId} (hp : plainB P S = true) {H : Type} {enc : TypeId × Value -> H} {w : World} {sp : Nat -> Bool} {t e : TypeId} (hu : P.underlying t = some (.slice e)) (ht : t ∈ S) {v : Value} {d : DataW H} {ps : List MemPlace} (h : DataW.Trod enc P w 0 sp true t v d ps) {a : Option Addr} {len cap : Nat} (hv : v = .slice a len cap) :
  ∃ (n : Nat) (es : List (List PV)), VR ((gh0 w).im w) (fun _ => none) (.slice .plain (P.cellsOf e) (es.map (packT P e))) v /\ es.length <= maxLen /\ ∀ c ∈ es, CellsT P n e c := by
 subst hv
 obtain ⟨n, hf⟩ := h
 obtain ⟨l, h1, h2, h3⟩ := read_cells hp n t _ _ ht hf
 cases n with
 | zero => exact h2.elim
 | succ n =>
  unfold CellsT at h2
  rw [hu] at h2
  obtain ⟨es, rfl, hm, hc⟩ := h2
  exact ⟨n, es, (h1.2 0 _ _ rfl (by simp [Value.cells])).1, hm, hc⟩
end PE
