/-
  Texts joined by program: PfWp, A2P0, A2U0, PfOps, T02Fnsa, T02Fnsb, T02Fns, PfAtoi, PfPure, A2X2, A2U1, A2U1b, A2D0, A2P1, A2D1, A2P2, A2P3, A2P4, A2T14, A2L1, A2L2, A2L3, A2L4, A2L5, A2D2, A2L6, A2L7, A2L8, A2L9, A2Z2, PfEnd.
-/
import Derived.Test.YtpfhhhdnbnbpiaaDoorB02
import Derived.Test.YtpfhhhdnbnbpiaaDoorProg
import Derived.Lib.Atoi
import Derived.Lib.ConvBytes
import Derived.Lib.Bytealg
import Derived.Lib.Index
import Derived.Lib.IndexMore
import Derived.Lib.Strings
import Derived.Lib.AtoiErrMem
import Derived.Lib.AtoiAll
import Derived.Sort.Grow
import Derived.Lib.ItoaNum
import Derived.Below
import Derived.Deep.Draws
import Derived.Ground.NamesProg
import Derived.Shelf.Strings.Prefix
import Derived.Shelf.Strings.Search3
import Derived.Shelf.Strings.Cut
import Derived.Shelf.Small.Strs
import Derived.Shelf.Strconv.AtoiAll
import Derived.Shelf.Strconv.Itoa3
import Derived.Shelf.Lay
import Derived.Lib.LaidTab
import Derived.Laws.RangeAny
import Derived.Laws.RangeString
import Derived.WalkKit
import Derived.ProofKit
import Derived.OpenShut
import Derived.ShutString
import Derived.ChangeOld
set_option linter.unusedVariables false
set_option linter.unusedSectionVars false
set_option linter.unusedSimpArgs false
namespace PE
open Go
def zE (x : Option (Ex × St)) (Q : Ex -> St -> Prop) : Prop := match x with
 | some (e, s) => Q e s
 | none => False
@[simp] theorem holds_some (e : Ex) (s : St) (Q : Ex -> St -> Prop) : zE (some (e, s)) Q = Q e s := Eq.trans rfl rfl
theorem holds_iff {x : Option (Ex × St)} {Q : Ex -> St -> Prop} : zE x Q <-> ∃ e s, x = some (e, s) /\ Q e s := by
 cases x with
 | none => exact ⟨fun h => h.elim, fun ⟨_, _, h, _⟩ => by cases h⟩
 | some q => obtain ⟨e, s⟩ := q; exact ⟨fun h => ⟨e, s, rfl, h⟩, fun ⟨_, _, h, h'⟩ => by cases h; exact h'⟩
theorem zE.mono {x : Option (Ex × St)} {Q R : Ex -> St -> Prop} (h : zE x Q) (hq : ∀ e s, Q e s -> R e s) : zE x R := by
 cases x with
 | none => exact h
 | some q => obtain ⟨e, s⟩ := q; exact hq e s h
def seqQ (k : St -> Option (Ex × St)) (Q : Ex -> St -> Prop) : Ex -> St -> Prop
 | .normal, s => zE (k s) Q
 | e, s => Q e s
@[simp] theorem seqQ_normal (k : St -> Option (Ex × St)) (Q : Ex -> St -> Prop) (s : St) : seqQ k Q .normal s = zE (k s) Q := Eq.trans rfl rfl
@[simp] theorem seqQ_exit (k : St -> Option (Ex × St)) (Q : Ex -> St -> Prop) (s : St) (i : Nat) : seqQ k Q (.exit i) s = Q (.exit i) s := Eq.trans rfl rfl
@[simp] theorem seqQ_ret (k : St -> Option (Ex × St)) (Q : Ex -> St -> Prop) (s : St) : seqQ k Q .ret s = Q .ret s := Eq.trans rfl rfl
@[simp] theorem holds_thenSeq (k : St -> Option (Ex × St)) (x : Option (Ex × St)) (Q : Ex -> St -> Prop) : zE (thenSeq k x) Q = zE x (seqQ k Q) := by
 cases x with
 | none => rfl
 | some q => obtain ⟨e, s⟩ := q; cases e <;> rfl
def blkQ (id : Nat) (Q : Ex -> St -> Prop) : Ex -> St -> Prop
 | .exit i, s => if i = id then Q .normal s else Q (.exit i) s
 | e, s => Q e s
@[simp] theorem blkQ_normal (id : Nat) (Q : Ex -> St -> Prop) (s : St) : blkQ id Q .normal s = Q .normal s := Eq.trans rfl rfl
@[simp] theorem blkQ_exit (id i : Nat) (Q : Ex -> St -> Prop) (s : St) : blkQ id Q (.exit i) s = if i = id then Q .normal s else Q (.exit i) s := Eq.trans rfl rfl
@[simp] theorem blkQ_ret (id : Nat) (Q : Ex -> St -> Prop) (s : St) : blkQ id Q .ret s = Q .ret s := Eq.trans rfl rfl
@[simp] theorem holds_leaveBlock (id : Nat) (x : Option (Ex × St)) (Q : Ex -> St -> Prop) : zE (leaveBlock id x) Q = zE x (blkQ id Q) := by
 cases x with
 | none => rfl
 | some q =>
  obtain ⟨e, s⟩ := q
  cases e <;> try rfl
  rename_i i
  by_cases h : i = id <;> simp [leaveBlock, h]
noncomputable def wpS (cf : zi) (s0 : St) (ops : List GOp) (s : St) (Q : Ex -> St -> Prop) : Prop := zE (regionEnd s0 (zib cf ops s)) Q
def after (cf : zi) (s0 : St) (r : List GOp) (Q : Ex -> St -> Prop) : Option SR -> Prop
 | some (.ok s') => wpS cf s0 r s' Q
 | some (.pan v st) => Q (.pan v) { s0 with st := st }
 | none => False
@[simp] theorem after_ok (cf : zi) (s0 : St) (r : List GOp) (Q : Ex -> St -> Prop) (s : St) : after cf s0 r Q (some (.ok s)) = wpS cf s0 r s Q := Eq.trans rfl rfl
@[simp] theorem wpS_nil (cf : zi) (s0 s : St) (Q : Ex -> St -> Prop) : wpS cf s0 [] s Q = Q .normal s := Eq.trans rfl rfl
noncomputable def zx (cf : zi) (w : Bool) (d : Option Nat) (o : IOp) (s : St) : PV -> Option SR
 | .bool b => if b = w then zn cf d o s else some (.ok { s with fr := zT s.fr d (.tup []) })
 | .tup [] => some (.ok { s with fr := zT s.fr d (.tup []) })
 | _ => none
theorem step_guarded (cf : zi) (g : Nat) (w : Bool) (d : Option Nat) (o : IOp) (s : St) : step cf ⟨some (g, w), d, o⟩ s = zx cf w d o s (s.fr g) := by
 simp only [step]
 generalize s.fr g = v
 cases v <;> try rfl
 ·rename_i b; cases b <;> cases w <;> rfl
 ·rename_i l; cases l <;> rfl
@[simp] theorem wpS_free (cf : zi) (s0 : St) (d : Option Nat) (o : IOp) (r : List GOp) (s : St) (Q : Ex -> St -> Prop) : wpS cf s0 (⟨none, d, o⟩ :: r) s Q = after cf s0 r Q (zn cf d o s) := by
 have : step cf ⟨none, d, o⟩ s = zn cf d o s := rfl
 simp only [wpS, zib, this]
 cases zn cf d o s with
 | none => rfl
 | some q => cases q <;> rfl
@[simp] theorem wpS_guard (cf : zi) (s0 : St) (g : Nat) (w : Bool) (d : Option Nat) (o : IOp) (r : List GOp) (s : St) (Q : Ex -> St -> Prop) : wpS cf s0 (⟨some (g, w), d, o⟩ :: r) s Q = after cf s0 r Q (zx cf w d o s (s.fr g)) := by
 simp only [wpS, zib, step_guarded]
 cases zx cf w d o s (s.fr g) with
 | none => rfl
 | some q => cases q <;> rfl
@[simp] theorem guarded_tt (cf : zi) (d : Option Nat) (o : IOp) (s : St) : zx cf true d o s (.bool true) = zn cf d o s := Eq.trans rfl rfl
@[simp] theorem guarded_ff (cf : zi) (d : Option Nat) (o : IOp) (s : St) : zx cf false d o s (.bool false) = zn cf d o s := Eq.trans rfl rfl
@[simp] theorem guarded_tf (cf : zi) (d : Option Nat) (o : IOp) (s : St) : zx cf true d o s (.bool false) = some (.ok { s with fr := zT s.fr d (.tup []) }) := Eq.trans rfl rfl
@[simp] theorem guarded_ft (cf : zi) (d : Option Nat) (o : IOp) (s : St) : zx cf false d o s (.bool true) = some (.ok { s with fr := zT s.fr d (.tup []) }) := Eq.trans rfl rfl
@[simp] theorem guarded_nil (cf : zi) (w : Bool) (d : Option Nat) (o : IOp) (s : St) : zx cf w d o s (.tup []) = some (.ok { s with fr := zT s.fr d (.tup []) }) := Eq.trans rfl rfl
theorem wp_region (cf : zi) (ops : List GOp) (s : St) (Q : Ex -> St -> Prop) : zE (exec cf (.region ops) s) Q = wpS cf s ops s Q := by
 rw [exec_region]; rfl
theorem guard_split {cf : zi} {s0 : St} {r : List GOp} {Q : Ex -> St -> Prop} {w : Bool} {d : Option Nat} {o : IOp} {s : St} (b : Bool)
  (h1 : b = true -> after cf s0 r Q (zx cf w d o s (.bool true))) (h2 : b = false -> after cf s0 r Q (zx cf w d o s (.bool false))) : after cf s0 r Q (zx cf w d o s (.bool b)) := by
 cases b
 ·exact h2 rfl
 ·exact h1 rfl
theorem guard_splitP {cf : zi} {s0 : St} {r : List GOp} {Q : Ex -> St -> Prop} {w : Bool} {d : Option Nat} {o : IOp} {s : St} (p : Prop) [Decidable p]
  (h1 : p -> after cf s0 r Q (zx cf w d o s (.bool true))) (h2 : ¬ p -> after cf s0 r Q (zx cf w d o s (.bool false))) : after cf s0 r Q (zx cf w d o s (.bool (decide p))) := by
 by_cases h : p
 ·simpa [h] using h1 h
 ·simpa [h] using h2 h
noncomputable def condX (cf : zi) (a b : ICode) (s : St) : PV -> Option (Ex × St)
 | .bool true => exec cf a s
 | .bool false => exec cf b s
 | _ => none
@[simp] theorem condX_true (cf : zi) (a b : ICode) (s : St) : condX cf a b s (.bool true) = exec cf a s := Eq.trans rfl rfl
@[simp] theorem condX_false (cf : zi) (a b : ICode) (s : St) : condX cf a b s (.bool false) = exec cf b s := Eq.trans rfl rfl
@[simp] theorem wp_cond (cf : zi) (c : Arg) (a b : ICode) (s : St) : exec cf (.cond c a b) s = condX cf a b s (c.val s.fr) := by
 rw [exec_cond]
 generalize c.val s.fr = v
 cases v with
 | bool x => cases x <;> rfl
 | _ => rfl
theorem cond_split {cf : zi} {x y : ICode} {s : St} {Q : Ex -> St -> Prop} (b : Bool) (h1 : b = true -> zE (exec cf x s) Q) (h2 : b = false -> zE (exec cf y s) Q) : zE (condX cf x y s (.bool b)) Q := by
 cases b
 ·exact h2 rfl
 ·exact h1 rfl
theorem cond_splitP {cf : zi} {x y : ICode} {s : St} {Q : Ex -> St -> Prop} (p : Prop) [Decidable p] (h1 : p -> zE (exec cf x s) Q) (h2 : ¬ p -> zE (exec cf y s) Q) : zE (condX cf x y s (.bool (decide p))) Q := by
 by_cases h : p
 ·have : decide p = true := decide_eq_true h
  rw [this]; exact h1 h
 ·have : decide p = false := decide_eq_false h
  rw [this]; exact h2 h
theorem guard_splitN {cf : zi} {s0 : St} {r : List GOp} {Q : Ex -> St -> Prop} {w : Bool} {d : Option Nat} {o : IOp} {s : St} (p : Prop) [Decidable p]
  (h1 : ¬ p -> after cf s0 r Q (zx cf w d o s (.bool true))) (h2 : p -> after cf s0 r Q (zx cf w d o s (.bool false))) : after cf s0 r Q (zx cf w d o s (.bool (!decide p))) := by
 by_cases h : p
 ·simpa [h] using h2 h
 ·simpa [h] using h1 h
theorem guard_splitM {cf : zi} {s0 : St} {r : List GOp} {Q : Ex -> St -> Prop} {w : Bool} {d : Option Nat} {o : IOp} {s : St} (b : Bool)
  (h1 : b = false -> after cf s0 r Q (zx cf w d o s (.bool true))) (h2 : b = true -> after cf s0 r Q (zx cf w d o s (.bool false))) : after cf s0 r Q (zx cf w d o s (.bool (!b))) := by
 cases b
 ·exact h1 rfl
 ·exact h2 rfl
theorem cond_splitN {cf : zi} {x y : ICode} {s : St} {Q : Ex -> St -> Prop} (p : Prop) [Decidable p] (h1 : ¬ p -> zE (exec cf x s) Q) (h2 : p -> zE (exec cf y s) Q) : zE (condX cf x y s (.bool (!decide p))) Q := by
 by_cases h : p
 ·have : decide p = true := decide_eq_true h
  rw [this]; exact h2 h
 ·have : decide p = false := decide_eq_false h
  rw [this]; exact h1 h
theorem cond_splitM {cf : zi} {x y : ICode} {s : St} {Q : Ex -> St -> Prop} (b : Bool) (h1 : b = false -> zE (exec cf x s) Q) (h2 : b = true -> zE (exec cf y s) Q) : zE (condX cf x y s (.bool (!b))) Q := by
 cases b
 ·exact h1 rfl
 ·exact h2 rfl
theorem sP {cf : zi} {x y : ICode} {s : St} {Q : Ex -> St -> Prop} (p : Prop) [Decidable p] (h1 : p -> zE (exec cf x s) Q) (h2 : ¬ p -> zE (exec cf y s) Q) : zE (condX cf x y s (.bool (decide p))) Q := cond_splitP p h1 h2
theorem gP {cf : zi} {s0 : St} {r : List GOp} {Q : Ex -> St -> Prop} {w : Bool} {d : Option Nat} {o : IOp} {s : St} (p : Prop) [Decidable p]
  (h1 : p -> after cf s0 r Q (zx cf w d o s (.bool true))) (h2 : ¬ p -> after cf s0 r Q (zx cf w d o s (.bool false))) : after cf s0 r Q (zx cf w d o s (.bool (decide p))) := guard_splitP p h1 h2
theorem sN {cf : zi} {x y : ICode} {s : St} {Q : Ex -> St -> Prop} (p : Prop) [Decidable p] (h1 : ¬ p -> zE (exec cf x s) Q) (h2 : p -> zE (exec cf y s) Q) : zE (condX cf x y s (.bool (!decide p))) Q := cond_splitN p h1 h2
theorem gN {cf : zi} {s0 : St} {r : List GOp} {Q : Ex -> St -> Prop} {w : Bool} {d : Option Nat} {o : IOp} {s : St} (p : Prop) [Decidable p]
  (h1 : ¬ p -> after cf s0 r Q (zx cf w d o s (.bool true))) (h2 : p -> after cf s0 r Q (zx cf w d o s (.bool false))) : after cf s0 r Q (zx cf w d o s (.bool (!decide p))) := guard_splitN p h1 h2
theorem sM {cf : zi} {x y : ICode} {s : St} {Q : Ex -> St -> Prop} (b : Bool) (h1 : b = false -> zE (exec cf x s) Q) (h2 : b = true -> zE (exec cf y s) Q) : zE (condX cf x y s (.bool (!b))) Q := cond_splitM b h1 h2
theorem gM {cf : zi} {s0 : St} {r : List GOp} {Q : Ex -> St -> Prop} {w : Bool} {d : Option Nat} {o : IOp} {s : St} (b : Bool)
  (h1 : b = false -> after cf s0 r Q (zx cf w d o s (.bool true))) (h2 : b = true -> after cf s0 r Q (zx cf w d o s (.bool false))) : after cf s0 r Q (zx cf w d o s (.bool (!b))) := guard_splitM b h1 h2
theorem sB {cf : zi} {x y : ICode} {s : St} {Q : Ex -> St -> Prop} (b : Bool) (h1 : b = true -> zE (exec cf x s) Q) (h2 : b = false -> zE (exec cf y s) Q) : zE (condX cf x y s (.bool b)) Q := cond_split b h1 h2
theorem gB {cf : zi} {s0 : St} {r : List GOp} {Q : Ex -> St -> Prop} {w : Bool} {d : Option Nat} {o : IOp} {s : St} (b : Bool)
  (h1 : b = true -> after cf s0 r Q (zx cf w d o s (.bool true))) (h2 : b = false -> after cf s0 r Q (zx cf w d o s (.bool false))) : after cf s0 r Q (zx cf w d o s (.bool b)) := guard_split b h1 h2
theorem eqp {p : Prop} (h : p) : p = True := eq_true h
theorem eqn {p : Prop} (h : ¬ p) : p = False := eq_false h
def loopQ (I : St -> Prop) (Q : Ex -> St -> Prop) : Ex -> St -> Prop
 | .normal, s => I s
 | e, s => Q e s
@[simp] theorem loopQ_normal (I : St -> Prop) (Q : Ex -> St -> Prop) (s : St) : loopQ I Q .normal s = I s := Eq.trans rfl rfl
@[simp] theorem loopQ_exit (I : St -> Prop) (Q : Ex -> St -> Prop) (s : St) (i : Nat) : loopQ I Q (.exit i) s = Q (.exit i) s := Eq.trans rfl rfl
@[simp] theorem loopQ_ret (I : St -> Prop) (Q : Ex -> St -> Prop) (s : St) : loopQ I Q .ret s = Q .ret s := Eq.trans rfl rfl
def round (cf : zi) (keep dead : List Nat) (b : ICode) (s : St) (Q : Ex -> St -> Prop) : Prop := match havoc keep dead s with
 | some s0 => zE (exec cf b s0) Q
 | none => False
theorem round_eq (cf : zi) (keep dead : List Nat) (b : ICode) (s : St) (Q : Ex -> St -> Prop) :
  round cf keep dead b s Q = (keep.all (fun t => avoids dead (s.fr t)) = true /\ zE (exec cf b { fr := keepFr s.fr keep, bx := dropBx s.bx dead, st := s.st }) Q) := by
 unfold round havoc
 generalize keep.all (fun t => avoids dead (s.fr t)) = c
 cases c <;> simp
theorem holds_loop (cf : zi) (keep dead : List Nat) (b : ICode) (s : St) (Q : Ex -> St -> Prop) :
  zE (exec cf (.loop keep dead b) s) Q = round cf keep dead b s (seqQ (exec cf (.loop keep dead b)) Q) := by
 rw [exec_loop]
 unfold round
 cases havoc keep dead s with
 | none => rfl
 | some s0 => exact holds_thenSeq _ _ _
theorem wp_loop {cf : zi} {keep dead : List Nat} {b : ICode} {Q : Ex -> St -> Prop} (I : Nat -> St -> Prop)
  (hstep : ∀ n s, I n s -> round cf keep dead b s (loopQ (fun s' => ∃ m, m < n /\ I m s') Q)) : ∀ n s, I n s -> zE (exec cf (.loop keep dead b) s) Q := by
 intro n
 induction n using Nat.strongRecOn with
 | ind n ih =>
  intro s hI
  rw [holds_loop]
  have h := hstep n s hI
  unfold round at h ⊢
  cases hh : havoc keep dead s with
  | none => rw [hh] at h; exact h
  | some s0 =>
   rw [hh] at h
   refine zE.mono h ?_
   intro e s' h'
   cases e with
   | normal => obtain ⟨m, hm, hI'⟩ := h'; exact ih m hm s' hI'
   | exit i => exact h'
   | ret => exact h'
   | pan v => exact h'
theorem zu {n : Int} (h0 : -9223372036854775808 <= n) (h1 : n <= 9223372036854775807) : zca .i64 n = n := by
 rw [wrapK_eq]
 simp only [IntKind.wrap, IntKind.bits, IntKind.signed, Bool.true_and]
 split
 ·rename_i h
  have := of_decide_eq_true h
  omega
 ·rename_i h
  have : ¬ (n % 2 ^ 64 >= 2 ^ (64 - 1)) := fun hh => h (decide_eq_true hh)
  omega
theorem wp_list {α : Type} {cf : zi} {keep dead : List Nat} {b : ICode} {Q : Ex -> St -> Prop} {s : St} (l : List α) (I : List α -> St -> Prop) (hb : l.length < 2 ^ 62) (h0 : I [] s)
  (hstep : ∀ d x r s, l = d ++ x :: r -> (hlt : d.length < l.length) -> l[d.length]? = some x -> l[d.length]'hlt = x -> zca .i64 ((d.length : Int) + 1) = (d.length : Int) + 1 -> I d s -> round cf keep dead b s (loopQ (I (d ++ [x])) Q))
  (hend : ∀ s, I l s -> round cf keep dead b s (loopQ (fun _ => False) Q)) : zE (exec cf (.loop keep dead b) s) Q := by
 have key : ∀ (r d : List α) (s : St), l = d ++ r -> I d s -> zE (exec cf (.loop keep dead b) s) Q := by
  intro r
  induction r with
  | nil =>
   intro d s hl hI
   rw [List.append_nil] at hl
   subst hl
   rw [holds_loop]
   have h := hend s hI
   unfold round at h ⊢
   cases hh : havoc keep dead s with
   | none => rw [hh] at h; exact h
   | some s0 =>
    rw [hh] at h
    refine zE.mono h ?_
    intro e s' h'
    cases e with
    | normal => exact h'.elim
    | exit i => exact h'
    | ret => exact h'
    | pan v => exact h'
  | cons x r ih =>
   intro d s hl hI
   rw [holds_loop]
   have h := hstep d x r s hl (by rw [hl]; simp) (by rw [hl]; simp) (by simp [hl]) (zu (by omega) (by have := congrArg List.length hl; simp at this; omega)) hI
   unfold round at h ⊢
   cases hh : havoc keep dead s with
   | none => rw [hh] at h; exact h
   | some s0 =>
    rw [hh] at h
    refine zE.mono h ?_
    intro e s' h'
    cases e with
    | normal => exact ih (d ++ [x]) s' (by simpa using hl) h'
    | exit i => exact h'
    | ret => exact h'
    | pan v => exact h'
 exact key l [] s rfl h0
def Split {α : Type} (l d : List α) (x : α) (r : List α) : Prop := l = d ++ x :: r
def kept (K B : List Nat) (s0 s : St) : Prop := (∀ t ∈ K, s.fr t = s0.fr t) /\ (∀ k ∈ B, s.bx k = s0.bx k)
def has (V : List (Nat × PV)) (s : St) : Prop := ∀ p ∈ V, s.fr p.1 = p.2
@[simp] theorem kept_eq (K B : List Nat) (s0 s : St) : kept K B s0 s = ((∀ t ∈ K, s.fr t = s0.fr t) /\ (∀ k ∈ B, s.bx k = s0.bx k)) := Eq.trans rfl rfl
@[simp] theorem has_nil (s : St) : has [] s = True := by simp [has]
@[simp] theorem has_cons (t : Nat) (v : PV) (V : List (Nat × PV)) (s : St) : has ((t, v) :: V) s = (s.fr t = v /\ has V s) := by simp [has]
def hasB (W : List (Nat × Bx)) (s : St) : Prop := ∀ p ∈ W, s.bx p.1 = p.2
@[simp] theorem hasB_nil (s : St) : hasB [] s = True := by simp [hasB]
@[simp] theorem hasB_cons (t : Nat) (v : Bx) (W : List (Nat × Bx)) (s : St) : hasB ((t, v) :: W) s = (s.bx t = v /\ hasB W s) := by simp [hasB]
def Inv (K B : List Nat) (s0 : St) (V : List (Nat × PV)) (W : List (Nat × Bx)) (σ : zb) (P : Prop) (s : St) : Prop := kept K B s0 s /\ has V s /\ hasB W s /\ s.st = σ /\ P
@[simp] theorem Inv_eq (K B : List Nat) (s0 : St) (V : List (Nat × PV)) (W : List (Nat × Bx)) (σ : zb) (P : Prop) (s : St) : Inv K B s0 V W σ P s = (kept K B s0 s /\ has V s /\ hasB W s /\ s.st = σ /\ P) := Eq.trans rfl rfl
theorem wp_eachB {α : Type} {cf : zi} {keep dead : List Nat} {b : ICode} {Q : Ex -> St -> Prop} {s0 : St} (l : List α) (K B : List Nat) (V : List α -> List (Nat × PV)) (W : List α -> List (Nat × Bx)) (σ : List α -> zb) (P : List α -> Prop)
  (hb : l.length < 2 ^ 62) (h0 : has (V []) s0 /\ hasB (W []) s0 /\ s0.st = σ [] /\ P [])
  (hstep : ∀ d x r s, Split l d x r -> (hlt : d.length < l.length) -> l[d.length]? = some x -> l[d.length]'hlt = x -> zca .i64 ((d.length : Int) + 1) = (d.length : Int) + 1 -> P d →
   (∀ t ∈ K, s.fr t = s0.fr t) -> (∀ k ∈ B, s.bx k = s0.bx k) -> has (V d) s -> hasB (W d) s -> s.st = σ d -> round cf keep dead b s (loopQ (Inv K B s0 (V (d ++ [x])) (W (d ++ [x])) (σ (d ++ [x])) (P (d ++ [x]))) Q))
  (hend : ∀ s, P l -> (∀ t ∈ K, s.fr t = s0.fr t) -> (∀ k ∈ B, s.bx k = s0.bx k) -> has (V l) s -> hasB (W l) s -> s.st = σ l -> round cf keep dead b s (loopQ (fun _ => False) Q)) : zE (exec cf (.loop keep dead b) s0) Q := by
 refine wp_list l (fun d s => Inv K B s0 (V d) (W d) (σ d) (P d) s) hb ?_ ?_ ?_
 ·exact ⟨⟨fun _ _ => rfl, fun _ _ => rfl⟩, h0⟩
 ·rintro d x r s hl hlt hg hg' hw ⟨⟨h1, h2⟩, h3, h3', h4, h5⟩
  exact hstep d x r s hl hlt hg hg' hw h5 h1 h2 h3 h3' h4
 ·rintro s ⟨⟨h1, h2⟩, h3, h3', h4, h5⟩
  exact hend s h5 h1 h2 h3 h3' h4
theorem zgb {α : Type} {cf : zi} {keep dead : List Nat} {b : ICode} {Q : Ex -> St -> Prop} {s0 : St} (l : List α) (K B : List Nat) (V : List α -> List (Nat × PV)) (σ : List α -> zb) (P : List α -> Prop)
  (hb : l.length < 2 ^ 62) (h0 : has (V []) s0 /\ s0.st = σ [] /\ P [])
  (hstep : ∀ d x r s, Split l d x r -> (hlt : d.length < l.length) -> l[d.length]? = some x -> l[d.length]'hlt = x -> zca .i64 ((d.length : Int) + 1) = (d.length : Int) + 1 -> P d →
   (∀ t ∈ K, s.fr t = s0.fr t) -> (∀ k ∈ B, s.bx k = s0.bx k) -> has (V d) s -> s.st = σ d -> round cf keep dead b s (loopQ (Inv K B s0 (V (d ++ [x])) [] (σ (d ++ [x])) (P (d ++ [x]))) Q))
  (hend : ∀ s, P l -> (∀ t ∈ K, s.fr t = s0.fr t) -> (∀ k ∈ B, s.bx k = s0.bx k) -> has (V l) s -> s.st = σ l -> round cf keep dead b s (loopQ (fun _ => False) Q)) : zE (exec cf (.loop keep dead b) s0) Q :=
 wp_eachB l K B V (fun _ => []) σ P hb ⟨h0.1, by simp, h0.2⟩ (fun d x r s a1 a2 a3 a4 a5 a6 a7 a8 a9 _ a10 => hstep d x r s a1 a2 a3 a4 a5 a6 a7 a8 a9 a10) (fun s a1 a2 a3 a4 _ a5 => hend s a1 a2 a3 a4 a5)
theorem wp_while {β : Type} {cf : zi} {keep dead : List Nat} {b : ICode} {Q : Ex -> St -> Prop} {s0 : St} (K B : List Nat) (μ : β -> Nat) (V : β -> List (Nat × PV)) (W : β -> List (Nat × Bx)) (σ : β -> zb) (P : β -> Prop) (c0 : β)
  (h0 : has (V c0) s0 /\ hasB (W c0) s0 /\ s0.st = σ c0 /\ P c0)
  (hstep : ∀ c s, P c -> (∀ t ∈ K, s.fr t = s0.fr t) -> (∀ k ∈ B, s.bx k = s0.bx k) -> has (V c) s -> hasB (W c) s -> s.st = σ c →
   round cf keep dead b s (loopQ (fun s' => ∃ c', μ c' < μ c /\ Inv K B s0 (V c') (W c') (σ c') (P c') s') Q)) : zE (exec cf (.loop keep dead b) s0) Q := by
 refine wp_loop (fun n s => ∃ c, μ c = n /\ Inv K B s0 (V c) (W c) (σ c) (P c) s) ?_ (μ c0) s0 ⟨c0, rfl, ⟨fun _ _ => rfl, fun _ _ => rfl⟩, h0⟩
 rintro n s ⟨c, rfl, ⟨h1, h2⟩, h3, h3', h4, h5⟩
 have h := hstep c s h5 h1 h2 h3 h3' h4
 unfold round at h ⊢
 cases hh : havoc keep dead s with
 | none => rw [hh] at h; exact h
 | some s1 =>
  rw [hh] at h
  refine zE.mono h ?_
  intro e s' h'
  cases e with
  | normal => obtain ⟨c', q1, q2⟩ := h'; exact ⟨μ c', q1, c', rfl, q2⟩
  | exit i => exact h'
  | ret => exact h'
  | pan v => exact h'
def PC (x : Option (CRes × zb)) (R : CRes -> zb -> Prop) : Prop := match x with
 | some (r, st) => R r st
 | none => False
theorem PC_iff {x : Option (CRes × zb)} {R : CRes -> zb -> Prop} : PC x R <-> ∃ r st, x = some (r, st) /\ R r st := by
 cases x with
 | none => exact ⟨fun h => h.elim, fun ⟨_, _, h, _⟩ => by cases h⟩
 | some q => obtain ⟨e, s⟩ := q; exact ⟨fun h => ⟨e, s, rfl, h⟩, fun ⟨_, _, h, h'⟩ => by cases h; exact h'⟩
def fin (res : List IRes) (fz : Bool) (n : Nat) (s : St) : Option (CRes × zb) :=
 match getAll s res with
 | none => none
 | some vs => if vs.all zp then
   if fz then
    if zF n (vs.map (zBa n s.st)) && zb.wf n (s.st.take n) && decide (n <= s.st.length) then some (.ret (resVal (vs.map (zBa n s.st))), s.st.take n) else none
   else some (.ret (resVal vs), s.st)
  else none
def finPan (fz : Bool) (n : Nat) (v : PV) (s : St) : Option (CRes × zb) :=
 if fz then
  if zm n v && zb.wf n (s.st.take n) && decide (n <= s.st.length) then some (.pan v, s.st.take n) else none
 else some (.pan v, s.st)
def leaveQ (res : List IRes) (fz : Bool) (n : Nat) (R : CRes -> zb -> Prop) : Ex -> St -> Prop
 | .normal, s => PC (fin res fz n s) R
 | .ret, s => PC (fin res fz n s) R
 | .pan v, s => PC (finPan fz n v s) R
 | _, _ => False
section
variable (res : List IRes) (fz : Bool) (n : Nat) (R : CRes -> zb -> Prop) (s : St)
@[simp] theorem leaveQ_normal : leaveQ res fz n R .normal s = PC (fin res fz n s) R := Eq.trans rfl rfl
@[simp] theorem leaveQ_ret : leaveQ res fz n R .ret s = PC (fin res fz n s) R := Eq.trans rfl rfl
@[simp] theorem fin_false : fin res false n s = match getAll s res with
 | none => none
 | some vs => if vs.all zp then some (.ret (resVal vs), s.st) else none := Eq.trans rfl rfl
@[simp] theorem PC_some (r : CRes) (st : zb) : PC (some (r, st)) R = R r st := Eq.trans rfl rfl
end
theorem pcall_wpP {E : Env} {f : Nat} {F : IFn} {args : List PV} {st : zb} {R : CRes -> zb -> Prop} (hx : E.ext f = none) (hf : E.fn f = some F) (hl : args.length = F.nargs) (hv : args.all zp = true)
  (h : zE (exec (zz E) F.body { fr := frOf args 0, bx := fun _ => .no, st := st }) (leaveQ F.res F.freeze st.length R)) (hh : E.hand f = none := by rfl) : PC (zz E f args st) R := by
 rw [holds_iff] at h
 obtain ⟨e, s, h1, h2⟩ := h
 have h3 : PC (leave F st.length (some (e, s))) R := by
  cases e with
  | normal => exact h2
  | ret => exact h2
  | pan v => exact h2
  | exit i => exact h2.elim
 rw [PC_iff] at h3
 obtain ⟨r, st', h4, h5⟩ := h3
 rw [pcall_body hx hf hl hv hh (by rw [h1]; exact h4)]
 exact h5
def isR (r : CRes × zb) : CRes -> zb -> Prop := fun r' st' => r' = r.1 /\ st' = r.2
theorem zr {E : Env} {f : Nat} {F : IFn} {args : List PV} {st : zb} {r : CRes × zb} (hx : E.ext f = none) (hf : E.fn f = some F) (hl : args.length = F.nargs) (hv : args.all zp = true)
  (h : zE (exec (zz E) F.body { fr := frOf args 0, bx := fun _ => .no, st := st }) (leaveQ F.res F.freeze st.length (isR r))) (hh : E.hand f = none := by rfl) : zz E f args st = some r := by
 have h1 := pcall_wpP (R := isR r) hx hf hl hv h hh
 rw [PC_iff] at h1
 obtain ⟨r', st', e, q1, q2⟩ := h1
 rw [e, q1, q2]
@[simp] theorem isR_mk (r r' : CRes) (st st' : zb) : isR (r, st) r' st' = (r' = r /\ st' = st) := Eq.trans rfl rfl
attribute [simp] wp_region round_eq
section
variable (n : Nat)
@[simp] theorem below_undef : zm n .undef = true := Eq.trans rfl rfl
@[simp] theorem below_bool (b : Bool) : zm n (.bool b) = true := Eq.trans rfl rfl
@[simp] theorem below_int (k : IntKind) (m : Int) : zm n (.int k m) = true := Eq.trans rfl rfl
@[simp] theorem below_str (m : List UInt8) : zm n (.str m) = true := Eq.trans rfl rfl
@[simp] theorem below_slice (k : SK) (z : Nat) (l : List PV) : zm n (.slice k z l) = zF n l := Eq.trans rfl rfl
@[simp] theorem below_agg (l : List PV) : zm n (.agg l) = zF n l := Eq.trans rfl rfl
@[simp] theorem below_tup (l : List PV) : zm n (.tup l) = zF n l := Eq.trans rfl rfl
@[simp] theorem below_nilif : zm n .nilif = true := Eq.trans rfl rfl
@[simp] theorem below_iface (t : Nat) (v : PV) : zm n (.iface t v) = zm n v := Eq.trans rfl rfl
@[simp] theorem belowL_nil : zF n [] = true := Eq.trans rfl rfl
@[simp] theorem belowL_cons (v : PV) (l : List PV) : zF n (v :: l) = (zm n v && zF n l) := Eq.trans rfl rfl
end
@[simp] theorem belowL_map {α : Type} (n : Nat) (f : α -> PV) (l : List α) (h : ∀ x, zm n (f x) = true) : zF n (l.map f) = true := by
 induction l with
 | nil => rfl
 | cons x r ih => simp [h, ih]
@[simp] theorem belowL_append (n : Nat) (a b : List PV) : zF n (a ++ b) = (zF n a && zF n b) := by
 induction a with
 | nil => simp
 | cons x r ih => simp [ih, Bool.and_assoc]
theorem Split.mem {α : Type} {l d : List α} {x : α} {r : List α} (h : Split l d x r) : x ∈ l := by
 have h : l = d ++ x :: r := h
 rw [h]; simp
theorem Split.eq {α : Type} {l d : List α} {x : α} {r : List α} (h : Split l d x r) : l = d ++ x :: r := h
theorem byte_lt (b : UInt8) : (b.toNat : Int) < 256 := by
 have := b.toNat_lt; omega
@[simp] theorem wrapK_byte (k : IntKind) (h : k ≠ .i8) (b : UInt8) : zca k b.toNat = b.toNat := by
 have := byte_lt b
 have h0 : (0 : Int) <= b.toNat := by omega
 rw [wrapK_eq]
 cases k <;> first | exact absurd rfl h | (simp only [IntKind.wrap, IntKind.bits, IntKind.signed, Bool.true_and, Bool.false_and]; split <;> rename_i h <;> first | omega | (have := of_decide_eq_true h; omega) | (exact absurd h (by simp)))
section
variable (n : Nat) (st : zb)
@[simp] theorem frA_int (k : IntKind) (m : Int) : zBa n st (.int k m) = (.int k m) := Eq.trans rfl rfl
@[simp] theorem frA_slice (k : SK) (z : Nat) (l : List PV) : zBa n st (.slice k z l) = (.slice k z l) := Eq.trans rfl rfl
end
@[simp] theorem fin_true0 (res : List IRes) (s : St) : fin res true 0 s = match getAll s res with
 | none => none
 | some vs => if vs.all zp then if zF 0 (vs.map (zBa 0 s.st)) then some (.ret (resVal (vs.map (zBa 0 s.st))), []) else none else none := by
 unfold fin
 cases getAll s res with
 | none => rfl
 | some vs => simp [zb.wf]
def acc (sz : Nat) (l : List PV) : PV := match l with
 | [] => .slice .fit sz []
 | x :: r => .slice .own sz (x :: r)
@[simp] theorem acc_nil (sz : Nat) : acc sz [] = .slice .fit sz [] := Eq.trans rfl rfl
@[simp] theorem acc_cons (sz : Nat) (x : PV) (r : List PV) : acc sz (x :: r) = .slice .own sz (x :: r) := Eq.trans rfl rfl
@[simp] theorem stripA_acc (sz : Nat) (l : List PV) : stripA (acc sz l) = .slice .plain sz l := by cases l <;> rfl
@[simp] theorem avoids_acc (dead : List Nat) (sz : Nat) (l : List PV) : avoids dead (acc sz l) = true := by cases l <;> rfl
@[simp] theorem appendS_acc (sz bytes : Nat) (b : Bx) (st : zb) (l l' : List PV) (h : (l.length + l'.length) * bytes <= zH) : appendS sz bytes b st (some l') (acc sz l) = some (acc sz (l ++ l'), b, st) := by
 cases l with
 | nil =>
  cases l' with
  | nil => simp
  | cons y r =>
   simp at h
   simp; exact h
 | cons x r => simp at h; simp; exact h
@[simp high] theorem appendS_nil (sz bytes : Nat) (b : Bx) (st : zb) (l' : List PV) (h : l'.length * bytes <= zH) : appendS sz bytes b st (some l') (.slice .fit sz []) = some (acc sz l', b, st) := by
 have := appendS_acc sz bytes b st [] l' (by simpa using h)
 simpa using this
end PE

namespace PE.U
open Go PE
structure Tok where
 kind : Int
 text : List UInt8
 line : Int
 deriving DecidableEq
structure Expr where
 kind : Int
 op : Int
 n : Int
 name : List UInt8
 args : List Expr
structure Stmt where
 kind : Int
 type : Int
 name : List UInt8
 args : List Expr
 thn : List Stmt
 els : List Stmt
structure Par where
 name : List UInt8
 type : Int
structure Func where
 name : List UInt8
 type : Int
 params : List Par
 body : List Stmt
structure PArr where
 name : List UInt8
 size : Int
structure Prog where
 arrays : List PArr
 funcs : List Func
def zf (t : Tok) : PV := .agg [.int .i64 t.kind, .str t.text, .int .i64 t.line]
def toks (l : List Tok) : PV := .slice .plain 3 (l.map zf)
mutual
def encExpr : Expr -> PV
 | ⟨k, o, n, s, a⟩ => .agg [.int .i64 k, .int .i64 o, .int .i64 n, .str s, .slice .plain 5 (encEs a)]
def encEs : List Expr -> List PV
 | [] => []
 | x :: r => encExpr x :: encEs r
end
def exprs (l : List Expr) : PV := .slice .plain 5 (l.map encExpr)
mutual
def encStmt : Stmt -> PV
 | ⟨k, t, s, a, th, el⟩ => .agg [.int .i64 k, .int .i64 t, .str s, exprs a, .slice .plain 6 (encSs th), .slice .plain 6 (encSs el)]
def encSs : List Stmt -> List PV
 | [] => []
 | x :: r => encStmt x :: encSs r
end
def stmts (l : List Stmt) : PV := .slice .plain 6 (l.map encStmt)
def encPar (p : Par) : PV := .agg [.str p.name, .int .i64 p.type]
def parsV (l : List Par) : PV := .slice .plain 2 (l.map encPar)
def encFunc (f : Func) : PV := .agg [.str f.name, .int .i64 f.type, parsV f.params, stmts f.body]
def funcs (l : List Func) : PV := .slice .plain 4 (l.map encFunc)
section
variable (k : Nat)
@[simp high] theorem pl_tok (l : List Tok) : zF k (l.map zf) = true := belowL_map _ _ _ (fun x => by simp [zf])
@[simp] theorem fl_tok (x : Tok) : zm k (zf x) = true := by simp [zf]
end
section
end
section
end
section
end
section
end
section
end
section
end
end PE.U

namespace PE.U
open Go PE
structure Node where
 kind : Int
 op : Int
 n : Int
 name : List UInt8
 args : List Int
 outs : List Int
 params : List Int
 kids : List (List Node)
structure Flow where
 name : List UInt8
 type : Int
 params : Int
 types : List Int
 body : List Node
structure Arr where
 name : List UInt8
 size : Int
structure Unt where
 arrays : List Arr
 flows : List Flow
abbrev int (n : Int) : PV := .int .i64 n
def ints (l : List Int) : PV := .slice .plain 1 (l.map (PV.int .i64))
mutual
def encNode : Node -> PV
 | ⟨k, o, n, s, a, u, p, ks⟩ => .agg [.int .i64 k, .int .i64 o, .int .i64 n, .str s, ints a, ints u, ints p, .slice .plain 1 (encK ks)]
def encL : List Node -> List PV
 | [] => []
 | x :: r => encNode x :: encL r
def encK : List (List Node) -> List PV
 | [] => []
 | l :: r => .slice .plain 8 (encL l) :: encK r
end
def nodes (l : List Node) : PV := .slice .plain 8 (l.map encNode)
def kids (l : List (List Node)) : PV := .slice .plain 1 (l.map nodes)
def encFlow (f : Flow) : PV := .agg [.str f.name, .int .i64 f.type, .int .i64 f.params, ints f.types, nodes f.body]
def flows (l : List Flow) : PV := .slice .plain 5 (l.map encFlow)
section
variable (k : Nat)
end
section
variable (n : Nat)
end
section
end
end PE.U

namespace PE
open Go
@[simp] def cI (n : Int) : Arg := .c (.int .i64 n)
@[simp] def oM (a b : Nat) : GOp := ⟨none, some a, .mv (.t b)⟩
@[simp] def oC (a : Nat) (v : PV) : GOp := ⟨none, some a, .mv (.c v)⟩
@[simp] def oO (a : Nat) (x : IOp) : GOp := ⟨none, some a, x⟩
@[simp] def oN (x : IOp) : GOp := ⟨none, none, x⟩
@[simp] def oT (g a : Nat) (x : IOp) : GOp := ⟨some (g, true), some a, x⟩
@[simp] def oF (g a : Nat) (x : IOp) : GOp := ⟨some (g, false), some a, x⟩
@[simp] def oA (a off t : Nat) : GOp := ⟨none, some a, .faddr off (.t t)⟩
@[simp] def oX (a t i : Nat) : GOp := ⟨none, some a, .ext (.t t) i⟩
@[simp] def oL (a k t : Nat) : GOp := ⟨none, some a, .load (.box k) false 1 (.t t)⟩
@[simp] def oLa (a k sz t : Nat) : GOp := ⟨none, some a, .load (.box k) true sz (.t t)⟩
@[simp] def oG (a t : Nat) : GOp := ⟨none, some a, .load .any false 1 (.t t)⟩
@[simp] def oS (k sz t v : Nat) : GOp := ⟨none, none, .store (.box k) sz (.t t) (.t v)⟩
@[simp] def oB (a : Nat) (op : BinOp) (x y : Arg) : GOp := ⟨none, some a, .bin 0 [] op x y⟩

@[simp] def bF : PV := .bool false
@[simp] def bT : PV := .bool true
@[simp] def sr (o : List GOp) (r : ICode) : ICode := .seq (.region o) r
@[simp] def cP (a f : Nat) (l : List Arg) : GOp := ⟨none, some a, .callP false (.c (.fn f [] [])) l⟩
@[simp] def cF (a f : Nat) (l : List Arg) : GOp := ⟨none, some a, .call false (.c (.fn f [] [])) l⟩
@[simp] def oK (a t : Nat) : GOp := ⟨none, some a, .nilck (.t t)⟩
@[simp] def oI (a z t i : Nat) : GOp := ⟨none, some a, .iaddr z (.t t) (.t i)⟩
@[simp] def oE (a t : Nat) : GOp := ⟨none, some a, .take t⟩
@[simp] def oZ (a : Nat) (n : Int) : GOp := ⟨none, some a, .mv (.c (.int .i64 n))⟩
@[simp] def oY (a t : Nat) : GOp := ⟨none, some a, .len 1 (.t t)⟩
@[simp] def oW (a z t : Nat) : GOp := ⟨none, some a, .load .any true z (.t t)⟩
@[simp] def oH (a t : Nat) : GOp := ⟨none, some a, .load .imm false 1 (.t t)⟩
@[simp] def oU (a t : Nat) : GOp := ⟨none, some a, .un .not (.t t)⟩
@[simp] def oV (t v : Nat) : GOp := ⟨none, none, .store .any 1 (.t t) (.t v)⟩
@[simp] def oP (a : Nat) (op : BinOp) (x y : Nat) : GOp := ⟨none, some a, .bin 0 [] op (.t x) (.t y)⟩
@[simp] def oD (a : Nat) (op : BinOp) (x : Nat) (y : Int) : GOp := ⟨none, some a, .bin 0 [] op (.t x) (.c (.int .i64 y))⟩
@[simp] def oTm (g a t : Nat) : GOp := ⟨some (g, true), some a, .mv (.t t)⟩
@[simp] def oFm (g a t : Nat) : GOp := ⟨some (g, false), some a, .mv (.t t)⟩
@[simp] def pP (n : Nat) (l : List Arg) : IOp := .callP false (.c (.fn n [] [])) l
@[simp] def pF (n : Nat) (l : List Arg) : IOp := .call false (.c (.fn n [] [])) l
end PE

set_option maxRecDepth 100000
namespace PE.U
open Go PE Go.Proofs
def L19_0 : ICode := .loop [0] []
 (.seq
 (sr [
 oM 5 0,
 oK 6 5,
 oA 7 0 6,
 oG 8 7,
 oB 9 .neq (.t 8) (.c (.str []))]
 (.cond (.t 9)
 .skip
 (.exit 0)))
 (.block 1
 (.block 2
 (sr [
 oM 11 0,
 oK 12 11,
 oA 13 0 12,
 oG 14 13,
 cP 15 27 [(.t 14), (.c (.str [47, 47]))],
 oM 10 15]
 (.cond (.t 10)
 (sr [
 oM 17 0,
 oK 18 17,
 oA 19 0 18,
 oG 20 19,
 cP 21 28 [(.t 20), (.c (.str [10]))],
 oM 16 21,
 oX 22 16 0,
 oX 23 16 1,
 oX 24 16 2,
 oM 2 22,
 oM 3 23,
 oM 4 24]
 (.region [
 oM 25 0,
 oM 26 0,
 oK 27 26,
 oA 28 0 27,
 oG 29 28,
 oM 30 2,
 oO 31 (.len 0 (.t 30)),
 oO 32 (.slc true 0 (.t 29) (some (.t 31)) none none),
 oK 33 25,
 oA 34 0 33,
 oV 34 32]))
 (sr [
 oM 36 0,
 oK 37 36,
 oA 38 0 37,
 oG 39 38,
 oO 40 (.idxS (.t 39) (cI 0)),
 oB 41 .eql (.t 40) (.c (.int .u8 10)),
 oM 35 41]
 (.cond (.t 35)
 (sr [
 oM 42 0,
 oK 43 42,
 oA 44 1 43,
 oG 45 44,
 oD 46 .add 45 1,
 oK 47 42,
 oA 48 1 47,
 oV 48 46]
 (.region [
 oM 49 0,
 oM 50 0,
 oK 51 50,
 oA 52 0 51,
 oG 53 52,
 oO 54 (.slc true 0 (.t 53) (some (cI 1)) none none),
 oK 55 49,
 oA 56 0 55,
 oV 56 54]))
 (sr [
 oM 58 0,
 oK 59 58,
 oA 60 0 59,
 oG 61 60,
 oO 62 (.idxS (.t 61) (cI 0)),
 cP 63 29 [(.c (.str [32, 9, 13])), (.t 62)],
 oD 64 .geq 63 0,
 oM 57 64]
 (.cond (.t 57)
 (.region [
 oM 65 0,
 oM 66 0,
 oK 67 66,
 oA 68 0 67,
 oG 69 68,
 oO 70 (.slc true 0 (.t 69) (some (cI 1)) none none),
 oK 71 65,
 oA 72 0 71,
 oV 72 70])
 .ret)))))))))
abbrev K19_0 : List Nat := [0]
abbrev B19_0 : List Nat := []
def F19 : IFn := ⟨73, 1, [], false,
 (.block 0
 L19_0)⟩
theorem ok19 : zy Tryd.prog Tryd.f19 F19 = true := by kernel_rfl
def F16 : IFn := ⟨23, 1, [.tmp 2], false,
 (sr [
 oC 2 bF]
 (.seq
 (sr [
 oM 3 0]
 (.block 0
 (.seq
 (sr [
 oB 5 .eql (.t 3) (.c (.str [105, 110, 116])),
 oM 4 5]
 (.cond (.t 4)
 .skip
 (sr [
 oB 6 .eql (.t 3) (.c (.str [98, 111, 111, 108])),
 oM 4 6]
 (.cond (.t 4)
 .skip
 (sr [
 oB 7 .eql (.t 3) (.c (.str [105, 102])),
 oM 4 7]
 (.cond (.t 4)
 .skip
 (sr [
 oB 8 .eql (.t 3) (.c (.str [101, 108, 115, 101])),
 oM 4 8]
 (.cond (.t 4)
 .skip
 (sr [
 oB 9 .eql (.t 3) (.c (.str [119, 104, 105, 108, 101])),
 oM 4 9]
 (.cond (.t 4)
 .skip
 (sr [
 oB 10 .eql (.t 3) (.c (.str [98, 114, 101, 97, 107])),
 oM 4 10]
 (.cond (.t 4)
 .skip
 (sr [
 oB 11 .eql (.t 3) (.c (.str [99, 111, 110, 116, 105, 110, 117, 101])),
 oM 4 11]
 (.cond (.t 4)
 .skip
 (sr [
 oB 12 .eql (.t 3) (.c (.str [114, 101, 116, 117, 114, 110])),
 oM 4 12]
 (.cond (.t 4)
 .skip
 (sr [
 oB 13 .eql (.t 3) (.c (.str [112, 114, 105, 110, 116])),
 oM 4 13]
 (.cond (.t 4)
 .skip
 (sr [
 oB 14 .eql (.t 3) (.c (.str [114, 101, 97, 100])),
 oM 4 14]
 (.cond (.t 4)
 .skip
 (sr [
 oB 15 .eql (.t 3) (.c (.str [116, 114, 117, 101])),
 oM 4 15]
 (.cond (.t 4)
 .skip
 (sr [
 oB 16 .eql (.t 3) (.c (.str [102, 97, 108, 115, 101])),
 oM 4 16]
 (.cond (.t 4)
 .skip
 (sr [
 oB 17 .eql (.t 3) (.c (.str [105, 56])),
 oM 4 17]
 (.cond (.t 4)
 .skip
 (sr [
 oB 18 .eql (.t 3) (.c (.str [105, 49, 54])),
 oM 4 18]
 (.cond (.t 4)
 .skip
 (sr [
 oB 19 .eql (.t 3) (.c (.str [105, 51, 50])),
 oM 4 19]
 (.cond (.t 4)
 .skip
 (sr [
 oB 20 .eql (.t 3) (.c (.str [117, 56])),
 oM 4 20]
 (.cond (.t 4)
 .skip
 (sr [
 oB 21 .eql (.t 3) (.c (.str [117, 49, 54])),
 oM 4 21]
 (.cond (.t 4)
 .skip
 (.region [
 oB 22 .eql (.t 3) (.c (.str [117, 51, 50])),
 oM 4 22])))))))))))))))))))))))))))))))))))
 (.cond (.t 4)
 (sr [
 oC 2 bT]
 .ret)
 .skip))))
 (sr [
 oC 2 bF]
 .ret)))⟩
theorem ok16 : zy Tryd.prog Tryd.f16 F16 = true := by kernel_rfl
def F25 : IFn := ⟨21, 1, [.tmp 2], false,
 (sr [
 oC 2 bF]
 (sr [
 oM 3 0,
 oB 4 .geq (.t 3) (.c (.int .i32 97)),
 oM 5 4,
 oTm 5 6 0,
 oT 5 7 (.bin 0 [] .leq (.t 6) (.c (.int .i32 122))),
 oO 8 (.pick (.t 5) (.t 7) (.c bF)),
 oM 9 8,
 oFm 9 10 0,
 oF 9 11 (.bin 0 [] .geq (.t 10) (.c (.int .i32 65))),
 oFm 9 12 11,
 oTm 12 13 0,
 oT 12 14 (.bin 0 [] .leq (.t 13) (.c (.int .i32 90))),
 oF 9 15 (.pick (.t 12) (.t 14) (.c bF)),
 oO 16 (.pick (.t 9) (.c bT) (.t 15)),
 oM 17 16,
 oFm 17 18 0,
 oF 17 19 (.bin 0 [] .eql (.t 18) (.c (.int .i32 95))),
 oO 20 (.pick (.t 17) (.c bT) (.t 19)),
 oM 2 20]
 .ret))⟩
theorem ok25 : zy Tryd.prog Tryd.f25 F25 = true := by kernel_rfl
def F33 : IFn := ⟨9, 1, [.tmp 2], false,
 (sr [
 oC 2 bF]
 (sr [
 oM 3 0,
 oB 4 .geq (.t 3) (.c (.int .i32 48)),
 oM 5 4,
 oTm 5 6 0,
 oT 5 7 (.bin 0 [] .leq (.t 6) (.c (.int .i32 57))),
 oO 8 (.pick (.t 5) (.t 7) (.c bF)),
 oM 2 8]
 .ret))⟩
theorem ok33 : zy Tryd.prog Tryd.f33 F33 = true := by kernel_rfl
def L26_0 : ICode := .loop [0, 6] []
 (sr [
 oO 7 (.next 6 (.t 6)),
 oX 8 7 0]
 (.seq
 (.cond (.t 8)
 .skip
 (.exit 0))
 (.block 1
 (sr [
 oX 9 7 1,
 oX 10 7 2,
 oM 3 9,
 oM 4 10]
 (sr [
 oM 11 4,
 cP 12 25 [.t 11],
 oU 13 12,
 oM 14 13,
 oTm 14 15 4,
 oT 14 16 (pP 33 [.t 15]),
 oT 14 17 (.un .not (.t 16)),
 oO 18 (.pick (.t 14) (.t 17) (.c bF))]
 (.cond (.t 18)
 (sr [
 oM 19 0,
 oM 20 3,
 oO 21 (.slc true 0 (.t 19) none (some (.t 20)) none),
 oM 2 21]
 .ret)
 .skip))))))
abbrev K26_0 : List Nat := [0, 6]
abbrev B26_0 : List Nat := []
def F26 : IFn := ⟨23, 1, [.tmp 2], false,
 (sr [
 oC 2 (.str [])]
 (.seq
 (sr [
 oM 5 0,
 oO 6 (.rng 6 (.t 5))]
 (.block 0
 L26_0))
 (sr [
 oM 22 0,
 oM 2 22]
 .ret)))⟩
theorem ok26 : zy Tryd.prog Tryd.f26 F26 = true := by kernel_rfl
def F14 : IFn := ⟨27, 1, [.tmp 2], false,
 (sr [
 oC 2 bF]
 (sr [
 oM 3 0,
 oB 4 .neq (.t 3) (.c (.str [])),
 oM 5 4,
 oTm 5 6 0,
 oT 5 7 (.idxS (.t 6) (cI 0)),
 oT 5 8 (.conv .i32 (.t 7)),
 oT 5 9 (pP 25 [.t 8]),
 oO 10 (.pick (.t 5) (.t 9) (.c bF)),
 oM 11 10,
 oTm 11 12 0,
 oT 11 13 (pP 26 [.t 12]),
 oTm 11 14 0,
 oT 11 15 (.bin 0 [] .eql (.t 13) (.t 14)),
 oO 16 (.pick (.t 11) (.t 15) (.c bF)),
 oM 17 16,
 oTm 17 18 0,
 oT 17 19 (.len 0 (.t 18)),
 oT 17 20 (.bin 0 [] .leq (.t 19) (cI 20)),
 oO 21 (.pick (.t 17) (.t 20) (.c bF)),
 oM 22 21,
 oTm 22 23 0,
 oT 22 24 (pP 16 [.t 23]),
 oT 22 25 (.un .not (.t 24)),
 oO 26 (.pick (.t 22) (.t 25) (.c bF)),
 oM 2 26]
 .ret))⟩
theorem ok14 : zy Tryd.prog Tryd.f14 F14 = true := by kernel_rfl
def F30 : IFn := ⟨34, 1, [.tmp 2], false,
 (sr [
 oC 2 (.str [])]
 (.seq
 (.block 0
 (sr [
 oM 4 0,
 cP 5 27 [(.t 4), (.c (.str [62, 62, 62]))],
 oM 3 5]
 (.cond (.t 3)
 (sr [
 oC 2 (.str [62, 62, 62])]
 .ret)
 (sr [
 oM 7 0,
 oO 8 (.len 0 (.t 7)),
 oD 9 .gtr 8 1,
 oM 10 9,
 oTm 10 11 0,
 oT 10 12 (.idxS (.t 11) (cI 0)),
 oT 10 13 (.bin 0 [] .neq (.t 12) (.c (.int .u8 32))),
 oO 14 (.pick (.t 10) (.t 13) (.c bF)),
 oM 15 14,
 oTm 15 16 0,
 oT 15 17 (.idxS (.t 16) (cI 1)),
 oT 15 18 (.bin 0 [] .neq (.t 17) (.c (.int .u8 32))),
 oO 19 (.pick (.t 15) (.t 18) (.c bF)),
 oM 20 19,
 oTm 20 21 0,
 oT 20 22 (.slc true 0 (.t 21) none (some (cI 2)) none),
 oT 20 23 (pP 37 [(.c (.str [60, 60, 32, 62, 62, 32, 60, 61, 32, 62, 61, 32, 61, 61, 32, 33, 61, 32, 38, 38, 32, 124, 124])), (.t 22)]),
 oO 24 (.pick (.t 20) (.t 23) (.c bF)),
 oM 6 24]
 (.cond (.t 6)
 (sr [
 oM 25 0,
 oO 26 (.slc true 0 (.t 25) none (some (cI 2)) none),
 oM 2 26]
 .ret)
 (sr [
 oM 28 0,
 oO 29 (.idxS (.t 28) (cI 0)),
 cP 30 29 [(.c (.str [40, 41, 123, 125, 91, 93, 44, 59, 61, 60, 62, 43, 45, 42, 47, 37, 38, 124, 94, 126, 33])), (.t 29)],
 oD 31 .geq 30 0,
 oM 27 31]
 (.cond (.t 27)
 (sr [
 oM 32 0,
 oO 33 (.slc true 0 (.t 32) none (some (cI 1)) none),
 oM 2 33]
 .ret)
 .skip)))))))
 (sr [
 oC 2 (.str [])]
 .ret)))⟩
theorem ok30 : zy Tryd.prog Tryd.f30 F30 = true := by kernel_rfl
def F31 : IFn := ⟨18, 1, [.tmp 2], false,
 (sr [
 oC 2 bF]
 (sr [
 oM 6 0,
 oO 7 (.callP true (.c (.fn 38 [] [])) [.t 6]),
 oM 5 7,
 oX 8 5 0,
 oX 9 5 1,
 oM 3 8,
 oM 4 9]
 (sr [
 oM 10 4,
 oO 11 (.ifnil false (.t 10)),
 oM 12 11,
 oTm 12 13 3,
 oT 12 14 (.callP true (.c (.fn 39 [] [])) [.t 13]),
 oTm 12 15 0,
 oT 12 16 (.bin 0 [] .eql (.t 14) (.t 15)),
 oO 17 (.pick (.t 12) (.t 16) (.c bF)),
 oM 2 17]
 .ret)))⟩
theorem ok31 : zy Tryd.prog Tryd.f31 F31 = true := by kernel_rfl
def F20 : IFn := ⟨71, 1, [.cell 2 true 3, .tmp 3], false,
 (sr [
 oO 2 (.boxL 2 (.c (.agg [.int .i64 0, .str [], .int .i64 0]))),
 oC 3 bF]
 (sr [
 oM 4 0,
 oK 5 4,
 oA 6 1 5,
 oG 7 6,
 oA 8 2 2,
 oS 2 1 8 7]
 (sr [
 oM 9 0,
 oK 10 9,
 oA 11 0 10,
 oG 12 11,
 cP 13 26 [.t 12],
 oA 14 1 2,
 oS 2 1 14 13]
 (.seq
 (.block 0
 (sr [
 oM 20 0,
 oK 21 20,
 oA 22 0 21,
 oG 23 22,
 oB 24 .eql (.t 23) (.c (.str [])),
 oM 19 24]
 (.cond (.t 19)
 (sr [
 oA 25 0 2,
 oN (.store (.box 2) 1 (.t 25) (cI 3))]
 (sr [
 oLa 26 2 3 2,
 oS 2 3 2 26,
 oC 3 bT]
 .ret))
 (sr [
 oA 28 1 2,
 oL 29 2 28,
 oB 30 .eql (.t 29) (.c (.str [])),
 oM 27 30]
 (.cond (.t 27)
 (sr [
 oM 31 0,
 oK 32 31,
 oA 33 0 32,
 oG 34 33,
 cP 35 30 [.t 34],
 oA 36 0 2,
 oN (.store (.box 2) 1 (.t 36) (cI 2)),
 oA 37 1 2,
 oS 2 1 37 35]
 (.region [
 oA 38 1 2,
 oL 39 2 38,
 oB 40 .neq (.t 39) (.c (.str [])),
 oM 3 40]))
 (sr [
 oA 42 1 2,
 oL 43 2 42,
 cP 44 16 [.t 43],
 oM 41 44]
 (.cond (.t 41)
 (.region [
 oA 45 0 2,
 oN (.store (.box 2) 1 (.t 45) (cI 2)),
 oC 3 bT])
 (sr [
 oM 47 0,
 oK 48 47,
 oA 49 0 48,
 oG 50 49,
 oO 51 (.idxS (.t 50) (cI 0)),
 oO 52 (.conv .i32 (.t 51)),
 cP 53 25 [.t 52],
 oM 46 53]
 (.cond (.t 46)
 (.region [
 oA 54 1 2,
 oL 55 2 54,
 cP 56 14 [.t 55],
 oA 57 0 2,
 oN (.store (.box 2) 1 (.t 57) (cI 1)),
 oM 3 56])
 (.region [
 oA 15 1 2,
 oL 16 2 15,
 oO 17 (.callP true (.c (.fn 31 [] [])) [.t 16]),
 oA 18 0 2,
 oN (.store (.box 2) 1 (.t 18) (cI 0)),
 oM 3 17]))))))))))
 (sr [
 oM 58 0,
 oM 59 0,
 oK 60 59,
 oA 61 0 60,
 oG 62 61,
 oA 63 1 2,
 oL 64 2 63,
 oO 65 (.len 0 (.t 64)),
 oO 66 (.slc true 0 (.t 62) (some (.t 65)) none none),
 oK 67 58,
 oA 68 0 67,
 oV 68 66]
 (sr [
 oLa 69 2 3 2,
 oM 70 3,
 oS 2 3 2 69,
 oM 3 70]
 .ret))))))⟩
theorem ok20 : zy Tryd.prog Tryd.f20 F20 = true := by kernel_rfl
def L9_0 : ICode := .loop [2, 5] [6]
 (.block 1
 (sr [
 oM 14 5,
 cF 15 19 [.t 14]]
 (sr [
 oM 17 5,
 oO 18 (.call true (.c (.fn 20 [] [])) [.t 17]),
 oM 16 18,
 oX 19 16 0,
 oX 20 16 1,
 oO 6 (.boxL 6 (.c (.agg [.int .i64 0, .str [], .int .i64 0]))),
 oS 6 3 6 19,
 oM 7 20]
 (.seq
 (sr [
 oM 21 7,
 oU 22 21]
 (.cond (.t 22)
 (sr [
 oA 23 2 6,
 oL 24 6 23,
 oC 2 (.slice .fit 3 []),
 oZ 3 20,
 oM 4 24]
 .ret)
 .skip))
 (sr [
 oE 25 2,
 oLa 26 6 3 6,
 oO 27 (.bslice 3 (.agg [.int .i64 0, .str [], .int .i64 0]) 1 [(0,(.t 26))]),
 oO 28 (.append 3 32 (.t 25) (.t 27)),
 oE 2 28]
 (sr [
 oA 29 0 6,
 oL 30 6 29,
 oD 31 .eql 30 3]
 (.cond (.t 31)
 (sr [
 oE 32 2,
 oE 2 32,
 oZ 3 0,
 oZ 4 0]
 .ret)
 .skip)))))))
abbrev K9_0 : List Nat := [5]
abbrev B9_0 : List Nat := []
def F9 : IFn := ⟨33, 1, [.tmp 2, .tmp 3, .tmp 4], true,
 (sr [
 oC 2 (.slice .fit 3 []),
 oZ 3 0,
 oZ 4 0]
 (.seq
 (sr [
 oM 8 0,
 oO 9 (.len 0 (.t 8)),
 oD 10 .gtr 9 100000]
 (.cond (.t 10)
 (sr [
 oC 2 (.slice .fit 3 []),
 oZ 3 2,
 oZ 4 0]
 .ret)
 .skip))
 (sr [
 oM 11 0,
 oO 12 (.build [.str [], .int .i64 0] [(0,1,(.t 11)),(1,1,(cI 1))]),
 oO 13 (.boxS 2 (.t 12)),
 oM 5 13]
 (.block 0
 L9_0))))⟩
theorem ok9 : zy Tryd.prog Tryd.f9 F9 = true := by kernel_rfl
def L11_0 : ICode := .loop [0, 1, 5] []
 (.seq
 (sr [
 oM 11 5,
 oM 12 0,
 oY 13 12,
 oP 14 .lss 11 13]
 (.cond (.t 14)
 .skip
 (.exit 0)))
 (.seq
 (.block 1
 (sr [
 oM 17 0,
 oM 18 5,
 oI 19 3 17 18,
 oO 20 (.load .imm true 3 (.t 19)),
 oM 21 1,
 oM 22 5,
 oI 23 3 21 22,
 oO 24 (.load .imm true 3 (.t 23)),
 oO 25 (.bin 4 [0, 2, 0] .neq (.t 20) (.t 24))]
 (.cond (.t 25)
 (sr [
 oC 4 bF]
 .ret)
 .skip)))
 (.region [
 oM 15 5,
 oD 16 .add 15 1,
 oM 5 16])))
abbrev K11_0 : List Nat := [0, 1]
abbrev B11_0 : List Nat := []
def F11 : IFn := ⟨26, 2, [.tmp 4], false,
 (sr [
 oC 4 bF]
 (.seq
 (sr [
 oM 6 0,
 oY 7 6,
 oM 8 1,
 oY 9 8,
 oP 10 .neq 7 9]
 (.cond (.t 10)
 (sr [
 oC 4 bF]
 .ret)
 .skip))
 (.seq
 (sr [
 oZ 5 0]
 (.block 0
 L11_0))
 (sr [
 oC 4 bT]
 .ret))))⟩
theorem ok11 : zy Tryd.prog Tryd.f11 F11 = true := by kernel_rfl
def F8 : IFn := ⟨45, 0, [.tmp 0], false,
 (sr [
 oC 0 bF]
 (sr [
 oO 9 (.callP true (.c (.fn 9 [] [])) [(.c (.str [120, 61, 49, 59, 47, 47, 32, 97]))]),
 oM 8 9,
 oX 10 8 0,
 oX 11 8 1,
 oX 12 8 2,
 oE 1 10,
 oM 2 11,
 oM 3 12]
 (sr [
 oO 13 (.build [.int .i64 0, .str [], .int .i64 0] [(0, 1, (cI 1)), (1, 1, (.c (.str [120]))), (2, 1, (cI 1))]),
 oO 14 (.build [.int .i64 0, .str [], .int .i64 0] [(0, 1, (cI 2)), (1, 1, (.c (.str [61]))), (2, 1, (cI 1))]),
 oO 15 (.build [.int .i64 0, .str [], .int .i64 0] [(0, 1, (cI 0)), (1, 1, (.c (.str [49]))), (2, 1, (cI 1))]),
 oO 16 (.build [.int .i64 0, .str [], .int .i64 0] [(0, 1, (cI 2)), (1, 1, (.c (.str [59]))), (2, 1, (cI 1))]),
 oO 17 (.build [.int .i64 0, .str [], .int .i64 0] [(0,1,(cI 3)),(2,1,(cI 1))]),
 oO 18 (.bslice 3 (.agg [.int .i64 0, .str [], .int .i64 0]) 5 [(0,(.t 13)),(1,(.t 14)),(2,(.t 15)),(3,(.t 16)),(4,(.t 17))]),
 oE 4 18]
 (sr [
 oO 20 (.callP true (.c (.fn 9 [] [])) [(.c (.str [10, 35]))]),
 oM 19 20,
 oX 21 19 0,
 oX 22 19 1,
 oX 23 19 2,
 oE 5 21,
 oM 6 22,
 oM 7 23]
 (sr [
 oM 24 2,
 oD 25 .eql 24 0,
 oM 26 25,
 oT 26 27 (.take 1),
 oT 26 28 (.take 4),
 oT 26 29 (pP 11 [.t 27,.t 28]),
 oO 30 (.pick (.t 26) (.t 29) (.c bF)),
 oM 31 30,
 oTm 31 32 6,
 oT 31 33 (.bin 0 [] .eql (.t 32) (cI 20)),
 oO 34 (.pick (.t 31) (.t 33) (.c bF)),
 oM 35 34,
 oTm 35 36 7,
 oT 35 37 (.bin 0 [] .eql (.t 36) (cI 2)),
 oO 38 (.pick (.t 35) (.t 37) (.c bF)),
 oM 39 38,
 oT 39 40 (pP 16 [(.c (.str [105, 102]))]),
 oO 41 (.pick (.t 39) (.t 40) (.c bF)),
 oM 42 41,
 oT 42 43 (pP 14 [(.c (.str [105, 102, 102]))]),
 oO 44 (.pick (.t 42) (.t 43) (.c bF)),
 oM 0 44]
 .ret)))))⟩
theorem ok8 : zy Tryd.prog Tryd.f8 F8 = true := by kernel_rfl
def F17 : IFn := ⟨23, 1, [.tmp 2], false,
 (sr [
 oC 2 bF]
 (.seq
 (sr [
 oM 3 0]
 (.block 0
 (.seq
 (sr [
 oB 5 .eql (.t 3) (.c (.str [105, 110, 116])),
 oM 4 5]
 (.cond (.t 4)
 .skip
 (sr [
 oB 6 .eql (.t 3) (.c (.str [98, 111, 111, 108])),
 oM 4 6]
 (.cond (.t 4)
 .skip
 (sr [
 oB 7 .eql (.t 3) (.c (.str [105, 102])),
 oM 4 7]
 (.cond (.t 4)
 .skip
 (sr [
 oB 8 .eql (.t 3) (.c (.str [101, 108, 115, 101])),
 oM 4 8]
 (.cond (.t 4)
 .skip
 (sr [
 oB 9 .eql (.t 3) (.c (.str [119, 104, 105, 108, 101])),
 oM 4 9]
 (.cond (.t 4)
 .skip
 (sr [
 oB 10 .eql (.t 3) (.c (.str [98, 114, 101, 97, 107])),
 oM 4 10]
 (.cond (.t 4)
 .skip
 (sr [
 oB 11 .eql (.t 3) (.c (.str [99, 111, 110, 116, 105, 110, 117, 101])),
 oM 4 11]
 (.cond (.t 4)
 .skip
 (sr [
 oB 12 .eql (.t 3) (.c (.str [114, 101, 116, 117, 114, 110])),
 oM 4 12]
 (.cond (.t 4)
 .skip
 (sr [
 oB 13 .eql (.t 3) (.c (.str [112, 114, 105, 110, 116])),
 oM 4 13]
 (.cond (.t 4)
 .skip
 (sr [
 oB 14 .eql (.t 3) (.c (.str [114, 101, 97, 100])),
 oM 4 14]
 (.cond (.t 4)
 .skip
 (sr [
 oB 15 .eql (.t 3) (.c (.str [116, 114, 117, 101])),
 oM 4 15]
 (.cond (.t 4)
 .skip
 (sr [
 oB 16 .eql (.t 3) (.c (.str [102, 97, 108, 115, 101])),
 oM 4 16]
 (.cond (.t 4)
 .skip
 (sr [
 oB 17 .eql (.t 3) (.c (.str [105, 56])),
 oM 4 17]
 (.cond (.t 4)
 .skip
 (sr [
 oB 18 .eql (.t 3) (.c (.str [105, 49, 54])),
 oM 4 18]
 (.cond (.t 4)
 .skip
 (sr [
 oB 19 .eql (.t 3) (.c (.str [105, 51, 50])),
 oM 4 19]
 (.cond (.t 4)
 .skip
 (sr [
 oB 20 .eql (.t 3) (.c (.str [117, 56])),
 oM 4 20]
 (.cond (.t 4)
 .skip
 (sr [
 oB 21 .eql (.t 3) (.c (.str [117, 49, 54])),
 oM 4 21]
 (.cond (.t 4)
 .skip
 (.region [
 oB 22 .eql (.t 3) (.c (.str [117, 51, 50])),
 oM 4 22])))))))))))))))))))))))))))))))))))
 (.cond (.t 4)
 (sr [
 oC 2 bT]
 .ret)
 .skip))))
 (sr [
 oC 2 bF]
 .ret)))⟩
theorem ok17 : zy Tryd.prog Tryd.f17 F17 = true := by kernel_rfl
def F21 : IFn := ⟨21, 1, [.tmp 2], false,
 (sr [
 oC 2 bF]
 (sr [
 oM 3 0,
 oB 4 .geq (.t 3) (.c (.int .u8 97)),
 oM 5 4,
 oTm 5 6 0,
 oT 5 7 (.bin 0 [] .leq (.t 6) (.c (.int .u8 122))),
 oO 8 (.pick (.t 5) (.t 7) (.c bF)),
 oM 9 8,
 oFm 9 10 0,
 oF 9 11 (.bin 0 [] .geq (.t 10) (.c (.int .u8 65))),
 oFm 9 12 11,
 oTm 12 13 0,
 oT 12 14 (.bin 0 [] .leq (.t 13) (.c (.int .u8 90))),
 oF 9 15 (.pick (.t 12) (.t 14) (.c bF)),
 oO 16 (.pick (.t 9) (.c bT) (.t 15)),
 oM 17 16,
 oFm 17 18 0,
 oF 17 19 (.bin 0 [] .eql (.t 18) (.c (.int .u8 95))),
 oO 20 (.pick (.t 17) (.c bT) (.t 19)),
 oM 2 20]
 .ret))⟩
theorem ok21 : zy Tryd.prog Tryd.f21 F21 = true := by kernel_rfl
def F22 : IFn := ⟨9, 1, [.tmp 2], false,
 (sr [
 oC 2 bF]
 (sr [
 oM 3 0,
 oB 4 .geq (.t 3) (.c (.int .u8 48)),
 oM 5 4,
 oTm 5 6 0,
 oT 5 7 (.bin 0 [] .leq (.t 6) (.c (.int .u8 57))),
 oO 8 (.pick (.t 5) (.t 7) (.c bF)),
 oM 2 8]
 .ret))⟩
theorem ok22 : zy Tryd.prog Tryd.f22 F22 = true := by kernel_rfl
def L15_0 : ICode := .loop [0, 3] []
 (.seq
 (sr [
 oM 21 3,
 oM 22 0,
 oO 23 (.len 0 (.t 22)),
 oP 24 .lss 21 23]
 (.cond (.t 24)
 .skip
 (.exit 0)))
 (.seq
 (.block 1
 (sr [
 oM 27 0,
 oM 28 3,
 oO 29 (.idxS (.t 27) (.t 28)),
 cP 30 21 [.t 29],
 oU 31 30,
 oM 32 31,
 oTm 32 33 0,
 oTm 32 34 3,
 oT 32 35 (.idxS (.t 33) (.t 34)),
 oT 32 36 (pP 22 [.t 35]),
 oT 32 37 (.un .not (.t 36)),
 oO 38 (.pick (.t 32) (.t 37) (.c bF))]
 (.cond (.t 38)
 (sr [
 oC 2 bF]
 .ret)
 .skip)))
 (.region [
 oM 25 3,
 oD 26 .add 25 1,
 oM 3 26])))
abbrev K15_0 : List Nat := [0]
abbrev B15_0 : List Nat := []
def F15 : IFn := ⟨39, 1, [.tmp 2], false,
 (sr [
 oC 2 bF]
 (.seq
 (sr [
 oM 4 0,
 oB 5 .eql (.t 4) (.c (.str [])),
 oM 6 5,
 oFm 6 7 0,
 oF 6 8 (.len 0 (.t 7)),
 oF 6 9 (.bin 0 [] .gtr (.t 8) (cI 20)),
 oO 10 (.pick (.t 6) (.c bT) (.t 9)),
 oM 11 10,
 oFm 11 12 0,
 oF 11 13 (.idxS (.t 12) (cI 0)),
 oF 11 14 (pP 21 [.t 13]),
 oF 11 15 (.un .not (.t 14)),
 oO 16 (.pick (.t 11) (.c bT) (.t 15)),
 oM 17 16,
 oFm 17 18 0,
 oF 17 19 (pP 17 [.t 18]),
 oO 20 (.pick (.t 17) (.c bT) (.t 19))]
 (.cond (.t 20)
 (sr [
 oC 2 bF]
 .ret)
 .skip))
 (.seq
 (sr [
 oZ 3 0]
 (.block 0
 L15_0))
 (sr [
 oC 2 bT]
 .ret))))⟩
theorem ok15 : zy Tryd.prog Tryd.f15 F15 = true := by kernel_rfl
def L32_0 : ICode := .loop [0, 3, 4] []
 (.seq
 (sr [
 oM 6 4,
 oM 7 0,
 oO 8 (.len 0 (.t 7)),
 oP 9 .lss 6 8]
 (.cond (.t 9)
 .skip
 (.exit 0)))
 (.seq
 (.block 1
 (sr [
 oM 12 0,
 oM 13 4,
 oO 14 (.idxS (.t 12) (.t 13)),
 oO 15 (.conv .i64 (.t 14)),
 oD 16 .sub 15 48,
 oM 5 16]
 (.seq
 (sr [
 oM 17 3,
 oM 18 5,
 oB 19 .sub (cI 9223372036854775807) (.t 18),
 oD 20 .quo 19 10,
 oP 21 .gtr 17 20]
 (.cond (.t 21)
 (sr [
 oO 2 (.mv (cI (-1)))]
 .ret)
 .skip))
 (.region [
 oM 22 3,
 oD 23 .mul 22 10,
 oM 24 5,
 oP 25 .add 23 24,
 oM 3 25]))))
 (.region [
 oM 10 4,
 oD 11 .add 10 1,
 oM 4 11])))
abbrev K32_0 : List Nat := [0]
abbrev B32_0 : List Nat := []
def F32 : IFn := ⟨39, 1, [.tmp 2], false,
 (sr [
 oZ 2 0]
 (sr [
 oZ 3 0]
 (.seq
 (sr [
 oZ 4 0]
 (.block 0
 L32_0))
 (.seq
 (sr [
 oM 26 0,
 oB 27 .eql (.t 26) (.c (.str [])),
 oM 28 27,
 oFm 28 29 0,
 oF 28 30 (.len 0 (.t 29)),
 oF 28 31 (.bin 0 [] .gtr (.t 30) (cI 1)),
 oFm 28 32 31,
 oTm 32 33 0,
 oT 32 34 (.idxS (.t 33) (cI 0)),
 oT 32 35 (.bin 0 [] .eql (.t 34) (.c (.int .u8 48))),
 oF 28 36 (.pick (.t 32) (.t 35) (.c bF)),
 oO 37 (.pick (.t 28) (.c bT) (.t 36))]
 (.cond (.t 37)
 (sr [
 oO 2 (.mv (cI (-1)))]
 .ret)
 .skip))
 (sr [
 oM 38 3,
 oM 2 38]
 .ret)))))⟩
theorem ok32 : zy Tryd.prog Tryd.f32 F32 = true := by kernel_rfl
end PE.U

set_option maxRecDepth 100000
namespace PE.U
open Go PE Go.Proofs
def L23_0 : ICode := .loop [0, 3] []
 (.seq
 (sr [
 oM 4 3,
 oM 5 0,
 oO 6 (.len 0 (.t 5)),
 oP 7 .lss 4 6]
 (.cond (.t 7)
 .skip
 (.exit 0)))
 (.seq
 (.block 1
 (sr [
 oM 10 0,
 oM 11 3,
 oO 12 (.idxS (.t 10) (.t 11)),
 cP 13 22 [.t 12],
 oU 14 13]
 (.cond (.t 14)
 (sr [
 oC 2 bF]
 .ret)
 .skip)))
 (.region [
 oM 8 3,
 oD 9 .add 8 1,
 oM 3 9])))
abbrev K23_0 : List Nat := [0]
abbrev B23_0 : List Nat := []
def F23 : IFn := ⟨18, 1, [.tmp 2], false,
 (sr [
 oC 2 bF]
 (.seq
 (sr [
 oZ 3 0]
 (.block 0
 L23_0))
 (sr [
 oM 15 0,
 cP 16 32 [.t 15],
 oD 17 .geq 16 0,
 oM 2 17]
 .ret)))⟩
theorem ok23 : zy Tryd.prog Tryd.f23 F23 = true := by kernel_rfl
def L24_0 : ICode := .loop [0, 3, 4] []
 (.seq
 (sr [
 oM 6 4,
 oM 7 3,
 oY 8 7,
 oP 9 .lss 6 8]
 (.cond (.t 9)
 .skip
 (.exit 0)))
 (.seq
 (.block 1
 (sr [
 oM 12 3,
 oM 13 4,
 oI 14 1 12 13,
 oH 15 14,
 oO 16 (.len 0 (.t 15)),
 oM 17 0,
 oO 18 (.len 0 (.t 17)),
 oP 19 .leq 16 18,
 oM 20 19,
 oTm 20 21 0,
 oTm 20 22 3,
 oTm 20 23 4,
 oT 20 24 (.iaddr 1 (.t 22) (.t 23)),
 oT 20 25 (.load .imm false 1 (.t 24)),
 oT 20 26 (.len 0 (.t 25)),
 oT 20 27 (.slc true 0 (.t 21) none (some (.t 26)) none),
 oTm 20 28 3,
 oTm 20 29 4,
 oT 20 30 (.iaddr 1 (.t 28) (.t 29)),
 oT 20 31 (.load .imm false 1 (.t 30)),
 oT 20 32 (.bin 0 [] .eql (.t 27) (.t 31)),
 oO 33 (.pick (.t 20) (.t 32) (.c bF))]
 (.cond (.t 33)
 (sr [
 oE 34 3,
 oM 35 4,
 oI 36 1 34 35,
 oG 37 36,
 oM 2 37]
 .ret)
 .skip)))
 (.region [
 oM 10 4,
 oD 11 .add 10 1,
 oM 4 11])))
abbrev K24_0 : List Nat := [0, 3]
abbrev B24_0 : List Nat := []
def F24 : IFn := ⟨38, 1, [.tmp 2], false,
 (sr [
 oC 2 (.str [])]
 (sr [
 oO 5 (.bslice 1 (.str []) 30 [(0, (.c (.str [62, 62, 62]))), (1, (.c (.str [60, 60]))), (2, (.c (.str [62, 62]))), (3, (.c (.str [60, 61]))), (4, (.c (.str [62, 61]))), (5, (.c (.str [61, 61]))), (6, (.c (.str [33, 61]))), (7, (.c (.str [38, 38]))), (8, (.c (.str [124, 124]))), (9, (.c (.str [40]))), (10, (.c (.str [41]))), (11, (.c (.str [123]))), (12, (.c (.str [125]))), (13, (.c (.str [91]))), (14, (.c (.str [93]))), (15, (.c (.str [44]))), (16, (.c (.str [59]))), (17, (.c (.str [61]))), (18, (.c (.str [60]))), (19, (.c (.str [62]))), (20, (.c (.str [43]))), (21, (.c (.str [45]))), (22, (.c (.str [42]))), (23, (.c (.str [47]))), (24, (.c (.str [37]))), (25, (.c (.str [38]))), (26, (.c (.str [124]))), (27, (.c (.str [94]))), (28, (.c (.str [126]))), (29, (.c (.str [33])))]),
 oE 3 5]
 (.seq
 (sr [
 oZ 4 0]
 (.block 0
 L24_0))
 (sr [
 oC 2 (.str [])]
 .ret))))⟩
theorem ok24 : zy Tryd.prog Tryd.f24 F24 = true := by kernel_rfl
def L10_0 : ICode := .loop [0, 5, 6, 7, 8, 9] []
 (.seq
 (sr [
 oM 19 7,
 oM 20 9,
 oP 21 .add 19 20,
 oM 22 0,
 oO 23 (.len 0 (.t 22)),
 oP 24 .lss 21 23,
 oM 25 24,
 oTm 25 26 0,
 oTm 25 27 7,
 oTm 25 28 9,
 oT 25 29 (.bin 0 [] .add (.t 27) (.t 28)),
 oT 25 30 (.idxS (.t 26) (.t 29)),
 oT 25 31 (pP 21 [.t 30]),
 oTm 25 32 31,
 oFm 32 33 0,
 oFm 32 34 7,
 oFm 32 35 9,
 oF 32 36 (.bin 0 [] .add (.t 34) (.t 35)),
 oF 32 37 (.idxS (.t 33) (.t 36)),
 oF 32 38 (pP 22 [.t 37]),
 oT 25 39 (.pick (.t 32) (.c bT) (.t 38)),
 oO 40 (.pick (.t 25) (.t 39) (.c bF))]
 (.cond (.t 40)
 .skip
 (.exit 2)))
 (.block 3
 (.region [
 oM 41 9,
 oD 42 .add 41 1,
 oM 9 42])))
def L10_1 : ICode := .loop [0, 5, 6, 7] []
 (.seq
 (sr [
 oM 100 7,
 oM 101 0,
 oO 102 (.len 0 (.t 101)),
 oP 103 .lss 100 102,
 oM 104 103,
 oTm 104 105 0,
 oTm 104 106 7,
 oT 104 107 (.idxS (.t 105) (.t 106)),
 oT 104 108 (.bin 0 [] .neq (.t 107) (.c (.int .u8 10))),
 oO 109 (.pick (.t 104) (.t 108) (.c bF))]
 (.cond (.t 109)
 .skip
 (.exit 5)))
 (.block 6
 (.region [
 oM 110 7,
 oD 111 .add 110 1,
 oM 7 111])))
def L10_2 : ICode := .loop [0, 5, 6, 7] [8]
 (.seq
 (sr [
 oM 13 7,
 oM 14 0,
 oO 15 (.len 0 (.t 14)),
 oP 16 .lss 13 15]
 (.cond (.t 16)
 .skip
 (.exit 0)))
 (.block 1
 (sr [
 oM 17 6,
 oO 18 (.build [.int .i64 0, .str [], .int .i64 0] [(2,1,(.t 17))]),
 oO 8 (.boxL 8 (.c (.agg [.int .i64 0, .str [], .int .i64 0]))),
 oS 8 3 8 18]
 (sr [
 oZ 9 0]
 (.seq
 (.block 2
 L10_0)
 (.seq
 (.block 4
 (sr [
 oM 54 0,
 oM 55 7,
 oO 56 (.idxS (.t 54) (.t 55)),
 oB 57 .eql (.t 56) (.c (.int .u8 10)),
 oM 53 57]
 (.cond (.t 53)
 (sr [
 oM 58 6,
 oD 59 .add 58 1,
 oM 6 59]
 (sr [
 oM 60 7,
 oD 61 .add 60 1,
 oM 7 61]
 (.exit 1)))
 (sr [
 oM 63 0,
 oM 64 7,
 oO 65 (.idxS (.t 63) (.t 64)),
 oB 66 .eql (.t 65) (.c (.int .u8 32)),
 oM 67 66,
 oFm 67 68 0,
 oFm 67 69 7,
 oF 67 70 (.idxS (.t 68) (.t 69)),
 oF 67 71 (.bin 0 [] .eql (.t 70) (.c (.int .u8 9))),
 oO 72 (.pick (.t 67) (.c bT) (.t 71)),
 oM 73 72,
 oFm 73 74 0,
 oFm 73 75 7,
 oF 73 76 (.idxS (.t 74) (.t 75)),
 oF 73 77 (.bin 0 [] .eql (.t 76) (.c (.int .u8 13))),
 oO 78 (.pick (.t 73) (.c bT) (.t 77)),
 oM 62 78]
 (.cond (.t 62)
 (sr [
 oM 79 7,
 oD 80 .add 79 1,
 oM 7 80]
 (.exit 1))
 (sr [
 oM 82 0,
 oM 83 7,
 oO 84 (.idxS (.t 82) (.t 83)),
 oB 85 .eql (.t 84) (.c (.int .u8 47)),
 oM 86 85,
 oTm 86 87 7,
 oT 86 88 (.bin 0 [] .add (.t 87) (cI 1)),
 oTm 86 89 0,
 oT 86 90 (.len 0 (.t 89)),
 oT 86 91 (.bin 0 [] .lss (.t 88) (.t 90)),
 oO 92 (.pick (.t 86) (.t 91) (.c bF)),
 oM 93 92,
 oTm 93 94 0,
 oTm 93 95 7,
 oT 93 96 (.bin 0 [] .add (.t 95) (cI 1)),
 oT 93 97 (.idxS (.t 94) (.t 96)),
 oT 93 98 (.bin 0 [] .eql (.t 97) (.c (.int .u8 47))),
 oO 99 (.pick (.t 93) (.t 98) (.c bF)),
 oM 81 99]
 (.cond (.t 81)
 (.seq
 (.block 5
 L10_1)
 (.exit 1))
 (sr [
 oM 113 9,
 oD 114 .gtr 113 0,
 oM 112 114]
 (.cond (.t 112)
 (sr [
 oM 115 0,
 oM 116 7,
 oM 117 7,
 oM 118 9,
 oP 119 .add 117 118,
 oO 120 (.slc true 0 (.t 115) (some (.t 116)) (some (.t 119)) none),
 oA 121 1 8,
 oS 8 1 121 120]
 (sr [
 oA 122 0 8,
 oN (.store (.box 8) 1 (.t 122) (cI 0))]
 (.seq
 (sr [
 oM 123 0,
 oM 124 7,
 oO 125 (.idxS (.t 123) (.t 124)),
 cP 126 21 [.t 125]]
 (.cond (.t 126)
 (.region [
 oA 127 0 8,
 oN (.store (.box 8) 1 (.t 127) (cI 1))])
 .skip))
 (.seq
 (sr [
 oA 128 1 8,
 oL 129 8 128,
 cP 130 17 [.t 129]]
 (.cond (.t 130)
 (.region [
 oA 131 0 8,
 oN (.store (.box 8) 1 (.t 131) (cI 2))])
 .skip))
 (sr [
 oA 132 0 8,
 oL 133 8 132,
 oD 134 .eql 133 1,
 oM 135 134,
 oT 135 136 (.faddr 1 (.t 8)),
 oT 135 137 (.load (.box 8) false 1 (.t 136)),
 oT 135 138 (pP 15 [.t 137]),
 oT 135 139 (.un .not (.t 138)),
 oO 140 (.pick (.t 135) (.t 139) (.c bF)),
 oM 141 140,
 oF 141 142 (.faddr 0 (.t 8)),
 oF 141 143 (.load (.box 8) false 1 (.t 142)),
 oF 141 144 (.bin 0 [] .eql (.t 143) (cI 0)),
 oFm 141 145 144,
 oT 145 146 (.faddr 1 (.t 8)),
 oT 145 147 (.load (.box 8) false 1 (.t 146)),
 oT 145 148 (pP 23 [.t 147]),
 oT 145 149 (.un .not (.t 148)),
 oF 141 150 (.pick (.t 145) (.t 149) (.c bF)),
 oO 151 (.pick (.t 141) (.c bT) (.t 150))]
 (.cond (.t 151)
 (sr [
 oM 152 6,
 oC 2 (.slice .fit 3 []),
 oZ 3 20,
 oM 4 152]
 .ret)
 .skip))))))
 (sr [
 oM 43 0,
 oM 44 7,
 oO 45 (.slc true 0 (.t 43) (some (.t 44)) none none),
 cP 46 24 [.t 45],
 oA 47 0 8,
 oN (.store (.box 8) 1 (.t 47) (cI 2)),
 oA 48 1 8,
 oS 8 1 48 46]
 (sr [
 oA 49 1 8,
 oL 50 8 49,
 oB 51 .eql (.t 50) (.c (.str []))]
 (.cond (.t 51)
 (sr [
 oM 52 6,
 oC 2 (.slice .fit 3 []),
 oZ 3 20,
 oM 4 52]
 .ret)
 .skip))))))))))))
 (sr [
 oM 153 7,
 oA 154 1 8,
 oL 155 8 154,
 oO 156 (.len 0 (.t 155)),
 oP 157 .add 153 156,
 oM 7 157]
 (.region [
 oE 158 5,
 oLa 159 8 3 8,
 oO 160 (.bslice 3 (.agg [.int .i64 0, .str [], .int .i64 0]) 1 [(0,(.t 159))]),
 oO 161 (.append 3 32 (.t 158) (.t 160)),
 oE 5 161]))))))))
abbrev K10_0 : List Nat := [0, 5, 6, 7, 8]
abbrev B10_0 : List Nat := [8]
abbrev K10_1 : List Nat := [0, 5, 6]
abbrev B10_1 : List Nat := []
abbrev K10_2 : List Nat := [0]
abbrev B10_2 : List Nat := []
def F10 : IFn := ⟨167, 1, [.tmp 2, .tmp 3, .tmp 4], false,
 (sr [
 oC 2 (.slice .fit 3 []),
 oZ 3 0,
 oZ 4 0]
 (.seq
 (sr [
 oM 10 0,
 oO 11 (.len 0 (.t 10)),
 oD 12 .gtr 11 100000]
 (.cond (.t 12)
 (sr [
 oC 2 (.slice .fit 3 []),
 oZ 3 2,
 oZ 4 0]
 .ret)
 .skip))
 (sr [
 oC 5 (.slice .fit 3 [])]
 (sr [
 oZ 6 1,
 oZ 7 0]
 (.seq
 (.block 0
 L10_2)
 (sr [
 oE 162 5,
 oM 163 6,
 oO 164 (.build [.int .i64 0, .str [], .int .i64 0] [(0,1,(cI 3)),(2,1,(.t 163))]),
 oO 165 (.bslice 3 (.agg [.int .i64 0, .str [], .int .i64 0]) 1 [(0,(.t 164))]),
 oO 166 (.append 3 32 (.t 162) (.t 165)),
 oE 2 166,
 oZ 3 0,
 oZ 4 0]
 .ret))))))⟩
theorem ok10 : zy Tryd.prog Tryd.f10 F10 = true := by kernel_rfl
def F3 : IFn := ⟨46, 1, [.tmp 2], false,
 (sr [
 oC 2 bF]
 (.seq
 (sr [
 oM 9 0,
 oO 10 (.len 0 (.t 9)),
 oD 11 .gtr 10 1000,
 oM 12 11,
 oTm 12 13 0,
 oT 12 14 (.len 0 (.t 13)),
 oT 12 15 (.bin 0 [] .leq (.t 14) (cI 100000)),
 oO 16 (.pick (.t 12) (.t 15) (.c bF))]
 (.cond (.t 16)
 (sr [
 oO 17 (.callP true (.c (.fn 8 [] [])) []),
 oM 2 17]
 .ret)
 .skip))
 (sr [
 oM 19 0,
 oO 20 (.callP true (.c (.fn 9 [] [])) [.t 19]),
 oM 18 20,
 oX 21 18 0,
 oX 22 18 1,
 oX 23 18 2,
 oE 3 21,
 oM 4 22,
 oM 5 23]
 (sr [
 oM 25 0,
 cP 26 10 [.t 25],
 oM 24 26,
 oX 27 24 0,
 oX 28 24 1,
 oX 29 24 2,
 oE 6 27,
 oM 7 28,
 oM 8 29]
 (sr [
 oO 30 (.callP true (.c (.fn 8 [] [])) []),
 oM 31 30,
 oT 31 32 (.take 3),
 oT 31 33 (.take 6),
 oT 31 34 (pP 11 [.t 32,.t 33]),
 oO 35 (.pick (.t 31) (.t 34) (.c bF)),
 oM 36 35,
 oTm 36 37 4,
 oTm 36 38 7,
 oT 36 39 (.bin 0 [] .eql (.t 37) (.t 38)),
 oO 40 (.pick (.t 36) (.t 39) (.c bF)),
 oM 41 40,
 oTm 41 42 5,
 oTm 41 43 8,
 oT 41 44 (.bin 0 [] .eql (.t 42) (.t 43)),
 oO 45 (.pick (.t 41) (.t 44) (.c bF)),
 oM 2 45]
 .ret)))))⟩
theorem ok3 : zy Tryd.prog Tryd.f3 F3 = true := by kernel_rfl
def L12_0 : ICode := .loop [0, 1, 5, 6] []
 (.seq
 (sr [
 oM 7 6,
 oM 8 0,
 oY 9 8,
 oP 10 .lss 7 9,
 oM 11 10,
 oTm 11 12 6,
 oT 11 13 (.bin 0 [] .lss (.t 12) (cI 14)),
 oO 14 (.pick (.t 11) (.t 13) (.c bF))]
 (.cond (.t 14)
 .skip
 (.exit 0)))
 (.seq
 (.block 1
 (.region [
 oM 17 5,
 oM 18 1,
 oM 19 0,
 oM 20 6,
 oI 21 1 19 20,
 oG 22 21,
 oO 23 (.conv .i64 (.t 22)),
 oM 24 1,
 oY 25 24,
 oP 26 .rem 23 25,
 oI 27 1 18 26,
 oG 28 27,
 oP 29 .add 17 28,
 oM 5 29]))
 (.region [
 oM 15 6,
 oD 16 .add 15 1,
 oM 6 16])))
abbrev K12_0 : List Nat := [0, 1]
abbrev B12_0 : List Nat := []
def F12 : IFn := ⟨31, 2, [.tmp 4], false,
 (sr [
 oC 4 (.str [])]
 (sr [
 oC 5 (.str [])]
 (.seq
 (sr [
 oZ 6 0]
 (.block 0
 L12_0))
 (sr [
 oM 30 5,
 oM 4 30]
 .ret))))⟩
theorem ok12 : zy Tryd.prog Tryd.f12 F12 = true := by kernel_rfl
def F13 : IFn := ⟨2, 0, [.tmp 0], false,
 (sr [
 oC 0 (.slice .fit 1 [])]
 (sr [
 oO 1 (.bslice 1 (.str []) 36 [(0, (.c (.str [97]))), (1, (.c (.str [49]))), (2, (.c (.str [48]))), (3, (.c (.str [32]))), (4, (.c (.str [10]))), (5, (.c (.str [47, 47]))), (6, (.c (.str [47]))), (7, (.c (.str [61]))), (8, (.c (.str [60]))), (9, (.c (.str [62]))), (10, (.c (.str [33]))), (11, (.c (.str [38]))), (12, (.c (.str [124]))), (13, (.c (.str [105, 110, 116]))), (14, (.c (.str [105, 102]))), (15, (.c (.str [105, 56]))), (16, (.c (.str [95]))), (17, (.c (.str [40]))), (18, (.c (.str [41]))), (19, (.c (.str [123]))), (20, (.c (.str [125]))), (21, (.c (.str [91]))), (22, (.c (.str [93]))), (23, (.c (.str [44]))), (24, (.c (.str [59]))), (25, (.c (.str [43]))), (26, (.c (.str [45]))), (27, (.c (.str [42]))), (28, (.c (.str [37]))), (29, (.c (.str [94]))), (30, (.c (.str [126]))), (31, (.c (.str [9]))), (32, (.c (.str [57, 50, 50, 51, 51, 55, 50, 48, 51, 54, 56, 53, 52, 55, 55, 53, 56, 48, 55]))), (33, (.c (.str [13]))), (34, (.c (.str [35]))), (35, (.c (.str [195, 169])))]),
 oE 0 1]
 .ret))⟩
theorem ok13 : zy Tryd.prog Tryd.f13 F13 = true := by kernel_rfl
def F4 : IFn := ⟨41, 1, [.tmp 2], false,
 (sr [
 oC 2 bF]
 (sr [
 oE 10 0,
 cP 11 13 [],
 cP 12 12 [.t 10,.t 11],
 oM 3 12]
 (sr [
 oM 14 3,
 oO 15 (.callP true (.c (.fn 9 [] [])) [.t 14]),
 oM 13 15,
 oX 16 13 0,
 oX 17 13 1,
 oX 18 13 2,
 oE 4 16,
 oM 5 17,
 oM 6 18]
 (sr [
 oM 20 3,
 cP 21 10 [.t 20],
 oM 19 21,
 oX 22 19 0,
 oX 23 19 1,
 oX 24 19 2,
 oE 7 22,
 oM 8 23,
 oM 9 24]
 (sr [
 oO 25 (.callP true (.c (.fn 8 [] [])) []),
 oM 26 25,
 oT 26 27 (.take 4),
 oT 26 28 (.take 7),
 oT 26 29 (pP 11 [.t 27,.t 28]),
 oO 30 (.pick (.t 26) (.t 29) (.c bF)),
 oM 31 30,
 oTm 31 32 5,
 oTm 31 33 8,
 oT 31 34 (.bin 0 [] .eql (.t 32) (.t 33)),
 oO 35 (.pick (.t 31) (.t 34) (.c bF)),
 oM 36 35,
 oTm 36 37 6,
 oTm 36 38 9,
 oT 36 39 (.bin 0 [] .eql (.t 37) (.t 38)),
 oO 40 (.pick (.t 36) (.t 39) (.c bF)),
 oM 2 40]
 .ret)))))⟩
theorem ok4 : zy Tryd.prog Tryd.f4 F4 = true := by kernel_rfl
def F5 : IFn := ⟨38, 2, [.tmp 4], false,
 (sr [
 oC 4 bF]
 (sr [
 oE 6 1,
 oO 7 (.bslice 1 (.str []) 9 [(0, (.c (.str [97]))), (1, (.c (.str [49]))), (2, (.c (.str [95]))), (3, (.c (.str [90]))), (4, (.c (.str [105, 110, 116]))), (5, (.c (.str [105]))), (6, (.c (.str [56]))), (7, (.c (.str [105, 102]))), (8, (.c (.str [45])))]),
 cP 8 12 [.t 6,.t 7],
 oM 5 8]
 (sr [
 oO 9 (.callP true (.c (.fn 8 [] [])) []),
 oM 10 9,
 oTm 10 11 0,
 oT 10 12 (pP 14 [.t 11]),
 oTm 10 13 0,
 oT 10 14 (pP 15 [.t 13]),
 oT 10 15 (.bin 1 [] .eql (.t 12) (.t 14)),
 oO 16 (.pick (.t 10) (.t 15) (.c bF)),
 oM 17 16,
 oTm 17 18 0,
 oT 17 19 (pP 16 [.t 18]),
 oTm 17 20 0,
 oT 17 21 (pP 17 [.t 20]),
 oT 17 22 (.bin 1 [] .eql (.t 19) (.t 21)),
 oO 23 (.pick (.t 17) (.t 22) (.c bF)),
 oM 24 23,
 oTm 24 25 5,
 oT 24 26 (pP 14 [.t 25]),
 oTm 24 27 5,
 oT 24 28 (pP 15 [.t 27]),
 oT 24 29 (.bin 1 [] .eql (.t 26) (.t 28)),
 oO 30 (.pick (.t 24) (.t 29) (.c bF)),
 oM 31 30,
 oTm 31 32 5,
 oT 31 33 (pP 16 [.t 32]),
 oTm 31 34 5,
 oT 31 35 (pP 17 [.t 34]),
 oT 31 36 (.bin 1 [] .eql (.t 33) (.t 35)),
 oO 37 (.pick (.t 31) (.t 36) (.c bF)),
 oM 4 37]
 .ret)))⟩
theorem ok5 : zy Tryd.prog Tryd.f5 F5 = true := by kernel_rfl
def L18_0 : ICode := .loop [0, 3, 4] [5]
 (.seq
 (sr [
 oM 6 4,
 oM 7 0,
 oY 8 7,
 oP 9 .lss 6 8]
 (.cond (.t 9)
 .skip
 (.exit 0)))
 (.seq
 (.block 1
 (sr [
 oM 12 0,
 oM 13 4,
 oI 14 3 12 13,
 oW 15 3 14,
 oO 5 (.boxL 5 (.c (.agg [.int .i64 0, .str [], .int .i64 0]))),
 oS 5 3 5 15]
 (sr [
 oA 16 2 5,
 oN (.store (.box 5) 1 (.t 16) (cI 0))]
 (.region [
 oE 17 3,
 oLa 18 5 3 5,
 oO 19 (.bslice 3 (.agg [.int .i64 0, .str [], .int .i64 0]) 1 [(0,(.t 18))]),
 oO 20 (.append 3 32 (.t 17) (.t 19)),
 oE 3 20]))))
 (.region [
 oM 10 4,
 oD 11 .add 10 1,
 oM 4 11])))
abbrev K18_0 : List Nat := [0]
abbrev B18_0 : List Nat := []
def F18 : IFn := ⟨22, 1, [.tmp 2], false,
 (sr [
 oC 2 (.slice .fit 3 [])]
 (sr [
 oC 3 (.slice .fit 3 [])]
 (.seq
 (sr [
 oZ 4 0]
 (.block 0
 L18_0))
 (sr [
 oE 21 3,
 oE 2 21]
 .ret))))⟩
theorem ok18 : zy Tryd.prog Tryd.f18 F18 = true := by kernel_rfl
def L6_0 : ICode := .loop [7, 9, 12, 13] []
 (.seq
 (sr [
 oM 43 13,
 oM 44 9,
 oY 45 44,
 oP 46 .lss 43 45]
 (.cond (.t 46)
 .skip
 (.exit 0)))
 (.seq
 (.block 1
 (.region [
 oM 49 12,
 oM 50 9,
 oM 51 13,
 oI 52 3 50 51,
 oA 53 1 52,
 oG 54 53,
 oP 55 .add 49 54,
 oB 56 .add (.t 55) (.c (.str [32])),
 oM 12 56]))
 (.region [
 oM 47 13,
 oD 48 .add 47 1,
 oM 13 48])))
abbrev K6_0 : List Nat := [7, 9]
abbrev B6_0 : List Nat := []
def F6 : IFn := ⟨75, 3, [.tmp 6], false,
 (sr [
 oC 6 bF]
 (sr [
 oO 17 (.callP true (.c (.fn 8 [] [])) []),
 oM 7 17]
 (.seq
 (sr [
 oM 18 7,
 oU 19 18]
 (.cond (.t 19)
 (sr [
 oC 6 bF]
 .ret)
 .skip))
 (sr [
 oM 20 0,
 oM 8 20]
 (.seq
 (sr [
 oM 21 2]
 (.cond (.t 21)
 (.region [
 oE 22 1,
 cP 23 13 [],
 cP 24 12 [.t 22,.t 23],
 oM 8 24])
 .skip))
 (.seq
 (sr [
 oM 25 8,
 oO 26 (.len 0 (.t 25)),
 oD 27 .gtr 26 1000]
 (.cond (.t 27)
 (sr [
 oM 28 7,
 oM 6 28]
 .ret)
 .skip))
 (sr [
 oM 30 8,
 oO 31 (.callP true (.c (.fn 9 [] [])) [.t 30]),
 oM 29 31,
 oX 32 29 0,
 oX 33 29 1,
 oX 34 29 2,
 oE 9 32,
 oM 10 33,
 oM 11 34]
 (.seq
 (sr [
 oM 35 10,
 oD 36 .neq 35 0]
 (.cond (.t 36)
 (sr [
 oM 37 7,
 oM 38 37,
 oT 38 39 (.take 9),
 oT 38 40 (.len 1 (.t 39)),
 oT 38 41 (.bin 0 [] .eql (.t 40) (cI 0)),
 oO 42 (.pick (.t 38) (.t 41) (.c bF)),
 oM 6 42]
 .ret)
 .skip))
 (sr [
 oC 12 (.str [])]
 (.seq
 (sr [
 oZ 13 0]
 (.block 0
 L6_0))
 (sr [
 oM 58 12,
 oO 59 (.callP true (.c (.fn 9 [] [])) [.t 58]),
 oM 57 59,
 oX 60 57 0,
 oX 61 57 1,
 oX 62 57 2,
 oE 14 60,
 oM 15 61,
 oM 16 62]
 (sr [
 oM 63 7,
 oM 64 63,
 oTm 64 65 15,
 oT 64 66 (.bin 0 [] .eql (.t 65) (cI 0)),
 oO 67 (.pick (.t 64) (.t 66) (.c bF)),
 oM 68 67,
 oT 68 69 (.take 9),
 oT 68 70 (pP 18 [.t 69]),
 oT 68 71 (.take 14),
 oT 68 72 (pP 18 [.t 71]),
 oT 68 73 (pP 11 [.t 70,.t 72]),
 oO 74 (.pick (.t 68) (.t 73) (.c bF)),
 oM 6 74]
 .ret))))))))))))⟩
theorem ok6 : zy Tryd.prog Tryd.f6 F6 = true := by kernel_rfl
def F7 : IFn := ⟨104, 4, [.tmp 8], false,
 (sr [
 oC 8 bF]
 (sr [
 oO 20 (.callP true (.c (.fn 8 [] [])) []),
 oM 9 20]
 (.seq
 (sr [
 oM 21 9,
 oU 22 21]
 (.cond (.t 22)
 (sr [
 oC 8 bF]
 .ret)
 .skip))
 (.seq
 (sr [
 oM 23 3]
 (.cond (.t 23)
 (.region [
 oM 24 2,
 cP 25 13 [],
 cP 26 12 [.t 24,.t 25],
 oE 27 2,
 oO 28 (.bslice 1 (.str []) 5 [(0, (.c (.str [98]))), (1, (.c (.str [32]))), (2, (.c (.str [61, 61]))), (3, (.c (.str [55]))), (4, (.c (.str [119, 104, 105, 108, 101])))]),
 cP 29 12 [.t 27,.t 28],
 oM 0 26,
 oM 1 29])
 .skip))
 (.seq
 (sr [
 oM 30 0,
 oO 31 (.len 0 (.t 30)),
 oD 32 .gtr 31 500,
 oM 33 32,
 oFm 33 34 1,
 oF 33 35 (.len 0 (.t 34)),
 oF 33 36 (.bin 0 [] .gtr (.t 35) (cI 500)),
 oO 37 (.pick (.t 33) (.c bT) (.t 36))]
 (.cond (.t 37)
 (sr [
 oM 38 9,
 oM 8 38]
 .ret)
 .skip))
 (sr [
 oM 40 0,
 oO 41 (.callP true (.c (.fn 9 [] [])) [.t 40]),
 oM 39 41,
 oX 42 39 0,
 oX 43 39 1,
 oX 44 39 2,
 oE 10 42,
 oM 11 43,
 oM 12 44]
 (sr [
 oM 46 1,
 oO 47 (.callP true (.c (.fn 9 [] [])) [.t 46]),
 oM 45 47,
 oX 48 45 0,
 oX 49 45 1,
 oX 50 45 2,
 oE 13 48,
 oM 14 49,
 oM 15 50]
 (.seq
 (sr [
 oM 51 11,
 oD 52 .neq 51 0,
 oM 53 52,
 oFm 53 54 14,
 oF 53 55 (.bin 0 [] .neq (.t 54) (cI 0)),
 oO 56 (.pick (.t 53) (.c bT) (.t 55)),
 oM 57 56,
 oFm 57 58 10,
 oF 57 59 (.len 1 (.t 58)),
 oF 57 60 (.bin 0 [] .eql (.t 59) (cI 0)),
 oO 61 (.pick (.t 57) (.c bT) (.t 60))]
 (.cond (.t 61)
 (sr [
 oM 62 9,
 oM 63 62,
 oTm 63 64 11,
 oT 63 65 (.bin 0 [] .neq (.t 64) (cI 0)),
 oTm 63 66 65,
 oFm 66 67 14,
 oF 66 68 (.bin 0 [] .neq (.t 67) (cI 0)),
 oT 63 69 (.pick (.t 66) (.c bT) (.t 68)),
 oO 70 (.pick (.t 63) (.t 69) (.c bF)),
 oM 8 70]
 .ret)
 .skip))
 (sr [
 oM 72 0,
 oB 73 .add (.c (.str [9, 47, 47, 32, 120, 32, 39, 32, 195, 169, 10])) (.t 72),
 oB 74 .add (.t 73) (.c (.str [10, 47, 47, 10])),
 oM 75 1,
 oP 76 .add 74 75,
 oB 77 .add (.t 76) (.c (.str [32])),
 oO 78 (.callP true (.c (.fn 9 [] [])) [.t 77]),
 oM 71 78,
 oX 79 71 0,
 oX 80 71 1,
 oX 81 71 2,
 oE 16 79,
 oM 17 80,
 oM 18 81]
 (sr [
 oC 19 (.slice .fit 3 [])]
 (sr [
 oE 82 19,
 oM 83 10,
 oE 84 10,
 oY 85 84,
 oD 86 .sub 85 1,
 oO 87 (.slc false 3 (.t 83) none (some (.t 86)) none),
 oO 88 (.append 3 32 (.t 82) (.t 87)),
 oE 19 88]
 (sr [
 oE 89 19,
 oE 90 13,
 oO 91 (.append 3 32 (.t 89) (.t 90)),
 oE 19 91]
 (sr [
 oM 92 9,
 oM 93 92,
 oTm 93 94 17,
 oT 93 95 (.bin 0 [] .eql (.t 94) (cI 0)),
 oO 96 (.pick (.t 93) (.t 95) (.c bF)),
 oM 97 96,
 oT 97 98 (.take 16),
 oT 97 99 (pP 18 [.t 98]),
 oT 97 100 (.take 19),
 oT 97 101 (pP 18 [.t 100]),
 oT 97 102 (pP 11 [.t 99,.t 101]),
 oO 103 (.pick (.t 97) (.t 102) (.c bF)),
 oM 8 103]
 .ret)))))))))))))⟩
theorem ok7 : zy Tryd.prog Tryd.f7 F7 = true := by kernel_rfl
end PE.U

namespace PE.U
open Go PE Go.Proofs
def fns : Nat -> Option IFn
 | 19 => some F19
 | 16 => some F16
 | 25 => some F25
 | 33 => some F33
 | 26 => some F26
 | 14 => some F14
 | 30 => some F30
 | 31 => some F31
 | 20 => some F20
 | 9 => some F9
 | 11 => some F11
 | 8 => some F8
 | 17 => some F17
 | 21 => some F21
 | 22 => some F22
 | 15 => some F15
 | 32 => some F32
 | 23 => some F23
 | 24 => some F24
 | 10 => some F10
 | 3 => some F3
 | 12 => some F12
 | 13 => some F13
 | 4 => some F4
 | 5 => some F5
 | 18 => some F18
 | 6 => some F6
 | 7 => some F7
 | _ => none
set_option maxRecDepth 100000 in
theorem fnsOk : ∀ f F, fns f = some F -> ∃ fn, Tryd.prog.funcs[f]? = some fn /\ zy Tryd.prog fn F = true := by
 intro f F h
 unfold fns at h
 split at h
 ·cases h; exact ⟨Tryd.f19, Tryd.func19, ok19⟩
 ·cases h; exact ⟨Tryd.f16, Tryd.func16, ok16⟩
 ·cases h; exact ⟨Tryd.f25, Tryd.func25, ok25⟩
 ·cases h; exact ⟨Tryd.f33, Tryd.func33, ok33⟩
 ·cases h; exact ⟨Tryd.f26, Tryd.func26, ok26⟩
 ·cases h; exact ⟨Tryd.f14, Tryd.func14, ok14⟩
 ·cases h; exact ⟨Tryd.f30, Tryd.func30, ok30⟩
 ·cases h; exact ⟨Tryd.f31, Tryd.func31, ok31⟩
 ·cases h; exact ⟨Tryd.f20, Tryd.func20, ok20⟩
 ·cases h; exact ⟨Tryd.f9, Tryd.func9, ok9⟩
 ·cases h; exact ⟨Tryd.f11, Tryd.func11, ok11⟩
 ·cases h; exact ⟨Tryd.f8, Tryd.func8, ok8⟩
 ·cases h; exact ⟨Tryd.f17, Tryd.func17, ok17⟩
 ·cases h; exact ⟨Tryd.f21, Tryd.func21, ok21⟩
 ·cases h; exact ⟨Tryd.f22, Tryd.func22, ok22⟩
 ·cases h; exact ⟨Tryd.f15, Tryd.func15, ok15⟩
 ·cases h; exact ⟨Tryd.f32, Tryd.func32, ok32⟩
 ·cases h; exact ⟨Tryd.f23, Tryd.func23, ok23⟩
 ·cases h; exact ⟨Tryd.f24, Tryd.func24, ok24⟩
 ·cases h; exact ⟨Tryd.f10, Tryd.func10, ok10⟩
 ·cases h; exact ⟨Tryd.f3, Tryd.func3, ok3⟩
 ·cases h; exact ⟨Tryd.f12, Tryd.func12, ok12⟩
 ·cases h; exact ⟨Tryd.f13, Tryd.func13, ok13⟩
 ·cases h; exact ⟨Tryd.f4, Tryd.func4, ok4⟩
 ·cases h; exact ⟨Tryd.f5, Tryd.func5, ok5⟩
 ·cases h; exact ⟨Tryd.f18, Tryd.func18, ok18⟩
 ·cases h; exact ⟨Tryd.f6, Tryd.func6, ok6⟩
 ·cases h; exact ⟨Tryd.f7, Tryd.func7, ok7⟩
 ·cases h
def hand : Nat -> Option HFn
 | _ => none
set_option maxRecDepth 100000 in
theorem handOk : ∀ f H, hand f = some H -> ∃ fn cl, Tryd.prog.funcs[f]? = some fn /\ Tryd.prog.funcs[H.k]? = some cl /\ checkH Tryd.prog fn cl H = true := by
 intro f H h
 unfold hand at h
 split at h
 ·cases h
-- E and envOk stand in a text of their own (they need what stands in for library functions)
end PE.U

namespace PE
open Go
structure Behind (w w' : World) : Prop where
 heap : ∀ b, b < w.heap.size -> w'.heap[b]? = w.heap[b]?
 size : w.heap.size <= w'.heap.size
 os : w'.os = w.os
 output : w'.output = w.output
section
variable {G : Gh} {st : zb} {w w' : World}
theorem Behind.keeps (h : Behind w w') (hS : SimS G st w) (κ : Cl) : zXa G w G w' κ := by
 intro b hb
 refine ⟨hb, rfl, h.heap b ?_⟩
 rcases Nat.lt_or_ge b w.heap.size with h | h
 ·exact h
 ·rw [(hS.fresh b h).2] at hb; cases hb
theorem Behind.im (h : Behind w w') (hS : SimS G st w) : (G.im w).le (G.im w') := by
 intro b o v hv
 unfold Gh.im at hv ⊢
 split at hv
 ·rename_i hlt
  rw [if_pos hlt]
  have hb : b < w.heap.size := by
   rcases Nat.lt_or_ge b w.heap.size with h | h
   ·exact h
   ·rw [(hS.fresh b h).1] at hlt; omega
  rw [World.cell?_of_block (w := w) (a := ⟨b, o, none⟩) (h.heap b hb)]
  exact hv
 ·cases hv
theorem Behind.sims (h : Behind w w') (hS : SimS G st w) : SimS G st w' :=
 ⟨fun l o hl => (hS.obj l o hl).mono (G := G) (G' := G) (h.im hS) (Loc.le_refl _) rfl (h.keeps hS _) (fun _ _ => h.keeps hS _), fun b hb => hS.fresh b (Nat.le_trans h.size hb)⟩
theorem Behind.ext (h : Behind w w') (hS : SimS G st w) : Ext G st w G st w' :=
 ⟨h.im hS, Loc.le_refl _, fun b hb => h.keeps hS .prot b hb, h.size, h.os, h.output, fun x hx => World.frozen?_of_block (h.heap x.block hx), rfl⟩
end
end PE

namespace PE
open Go
theorem Behind.refl (w : World) : Behind w w := ⟨fun _ _ => rfl, Nat.le_refl _, rfl, rfl⟩
theorem Behind.drewN (w : World) (n : Nat) : Behind w (w.drewN n) := ⟨fun _ _ => rfl, Nat.le_refl _, rfl, rfl⟩
theorem Behind.bytes (w : World) (e : TypeId) (t : ByteArray) : Behind w (Lib.bytesWorld w e t) :=
 ⟨fun b hb => Lib.bytesWorld_at_old w e t b hb, by rw [Lib.bytesWorld_size]; omega, by unfold Lib.bytesWorld World.freeze; simp; rfl, by unfold Lib.bytesWorld World.freeze; simp; rfl⟩
theorem Behind.grow (w : World) (k : Nat) (os : Array Go.Obj) : Behind w (Sort.grow (w.drewN k) os) :=
 ⟨fun b hb => Sort.heap_grow_old (w.drewN k) os hb, by simp, rfl, rfl⟩
def pureX (g : List PV -> Option PV) (args : List PV) (st : zb) : Option (CRes × zb) := (g args).map fun v => (.ret v, st)
def Tabs.lie (T : Tabs) (w : World) : Prop := ∀ x ∈ T, ∃ e fr, w.heap[x.1]? = some (.cells x.2 e fr)
theorem zcb {P : Program} {T : Tabs} {f : Nat} (hfn : ∃ fn c, P.funcs[f]? = some fn /\ (fn.name == "runtime.NumGoroutine") = false /\ fn.body = some c) {g : List PV -> Option PV}
  (hC : ∀ args v, g args = some v -> ∀ (I : Im) (L : Loc) (margs : Array Value) (w : World), T.lie w -> margs.size = args.length -> (∀ (j : Nat) c x, args[j]? = some c -> margs[j]? = some x -> VR I L c x) →
   Calls P f margs w fun e w' => ∃ mv, e = .returned mv /\ (∀ I L, VR I L v mv) /\ Behind w w')
  (args : List PV) (st : zb) (r : CRes) (st' : zb) (h : pureX g args st = some (r, st')) : GoodF P T f args st r st' := by
 unfold pureX at h
 rw [Option.map_eq_some_iff] at h
 obtain ⟨v, hv, h⟩ := h
 cases h
 intro G w margs hD hT hS hsz hvr
 refine ⟨hfn, (hC args v hv _ _ margs w (fun x hx => (hT x hx).2) hsz hvr).mono ?_⟩
 rintro e w' ⟨mv, rfl, hm, hB⟩
 exact ⟨G, hB.sims hS, hB.ext hS, hm _ _⟩
theorem margs_1 {I : Im} {L : Loc} {s : List UInt8} {margs : Array Value} (hsz : margs.size = 1) (h : ∀ (j : Nat) c x, [PV.str s][j]? = some c -> margs[j]? = some x -> VR I L c x) : margs = #[.string ⟨s.toArray⟩] := by
 obtain ⟨x, rfl⟩ := Array.size_eq_one_iff.1 hsz
 have := h 0 _ x rfl rfl
 cases this; rfl
theorem margs_2 {I : Im} {L : Loc} {a : List UInt8} {v : PV} {margs : Array Value} (hsz : margs.size = 2) (h : ∀ (j : Nat) c x, [PV.str a, v][j]? = some c -> margs[j]? = some x -> VR I L c x) : ∃ y, margs = #[.string ⟨a.toArray⟩, y] /\ VR I L v y := by
 obtain ⟨l⟩ := margs
 match l, hsz with
 | [x, y], _ =>
  have h0 := h 0 _ x rfl rfl
  have h1 := h 1 _ y rfl rfl
  cases h0
  exact ⟨y, rfl, h1⟩
def hasPrefixG : List PV -> Option PV
 | [.str s, .str p] => some (.bool (p.isPrefixOf s))
 | _ => none
theorem hasPrefixG_calls {P : Program} {f : Nat} {T : Tabs} (hC : ∀ (s p : ByteArray) (w : World), Calls P f #[.string s, .string p] w fun e w' => e = .returned (.bool (Lib.hasPrefix s.data.toList p.data.toList)) /\ w' = w) :
  ∀ args v, hasPrefixG args = some v -> ∀ (I : Im) (L : Loc) (margs : Array Value) (w : World), T.lie w -> margs.size = args.length -> (∀ (j : Nat) c x, args[j]? = some c -> margs[j]? = some x -> VR I L c x) →
   Calls P f margs w fun e w' => ∃ mv, e = .returned mv /\ (∀ I L, VR I L v mv) /\ Behind w w' := by
 intro args v h I L margs w hT hsz hv
 unfold hasPrefixG at h
 split at h
 ·rename_i s p
  cases h
  obtain ⟨y, rfl, hy⟩ := margs_2 hsz hv
  cases hy
  refine (hC _ _ w).mono ?_
  rintro e w' ⟨rfl, rfl⟩
  exact ⟨_, rfl, fun I L => .bool _, .refl _⟩
 ·cases h
def indexByteG : List PV -> Option PV
 | [.str s, .int .u8 c] => some (.int .i64 (Lib.indexByte s c.toNat.toUInt8))
 | _ => none
theorem indexByteG_calls {P : Program} {f : Nat} {T : Tabs} (hC : ∀ (s : ByteArray) (c : Int) (w : World), Calls P f #[.string s, .int .u8 c] w fun e w' => e = .returned (.int .i64 (Lib.indexByte s.data.toList c.toNat.toUInt8)) /\ w' = w) :
  ∀ args v, indexByteG args = some v -> ∀ (I : Im) (L : Loc) (margs : Array Value) (w : World), T.lie w -> margs.size = args.length -> (∀ (j : Nat) c x, args[j]? = some c -> margs[j]? = some x -> VR I L c x) →
   Calls P f margs w fun e w' => ∃ mv, e = .returned mv /\ (∀ I L, VR I L v mv) /\ Behind w w' := by
 intro args v h I L margs w hT hsz hv
 unfold indexByteG at h
 split at h
 ·rename_i s c
  cases h
  obtain ⟨y, rfl, hy⟩ := margs_2 hsz hv
  cases hy
  refine (hC _ _ w).mono ?_
  rintro e w' ⟨rfl, rfl⟩
  exact ⟨_, rfl, fun I L => .int _ _, .refl _⟩
 ·cases h
def containsG : List PV -> Option PV
 | [.str s, .str p] => if s.length < 4294967281 then some (.bool (Lib.contains s p)) else none
 | _ => none
theorem containsG_calls {P : Program} {f : Nat} {T : Tabs} (hC : ∀ (s p : ByteArray) (w : World), T.lie w -> s.size < 4294967281 -> Calls P f #[.string s, .string p] w fun e w' => e = .returned (.bool (Lib.contains s.data.toList p.data.toList)) /\ w' = w) :
  ∀ args v, containsG args = some v -> ∀ (I : Im) (L : Loc) (margs : Array Value) (w : World), T.lie w -> margs.size = args.length -> (∀ (j : Nat) c x, args[j]? = some c -> margs[j]? = some x -> VR I L c x) →
   Calls P f margs w fun e w' => ∃ mv, e = .returned mv /\ (∀ I L, VR I L v mv) /\ Behind w w' := by
 intro args v h I L margs w hT hsz hv
 unfold containsG at h
 split at h
 ·rename_i s p
  split at h
  case isFalse => cases h
  rename_i hl
  cases h
  obtain ⟨y, rfl, hy⟩ := margs_2 hsz hv
  cases hy
  refine (hC _ _ w hT (by simpa [ByteArray.size] using hl)).mono ?_
  rintro e w' ⟨rfl, rfl⟩
  exact ⟨_, rfl, fun I L => .bool _, .refl _⟩
 ·cases h
def cutG : List PV -> Option PV
 | [.str s, .str p] => if s.length < 4294967281 then some (.tup [.str (Lib.cut s p).1, .str (Lib.cut s p).2.1, .bool (Lib.cut s p).2.2]) else none
 | _ => none
theorem cutG_calls {P : Program} {f : Nat} {T : Tabs} (hC : ∀ (s sep : ByteArray) (w : World), T.lie w -> s.size < 4294967281 -> Calls P f #[.string s, .string sep] w fun e w' => e = .returned (.tuple #[.string ⟨(Lib.cut s.data.toList sep.data.toList).1.toArray⟩, .string ⟨(Lib.cut s.data.toList sep.data.toList).2.1.toArray⟩, .bool (Lib.cut s.data.toList sep.data.toList).2.2]) /\ ∃ n, w' = w.drewN n) :
  ∀ args v, cutG args = some v -> ∀ (I : Im) (L : Loc) (margs : Array Value) (w : World), T.lie w -> margs.size = args.length -> (∀ (j : Nat) c x, args[j]? = some c -> margs[j]? = some x -> VR I L c x) →
   Calls P f margs w fun e w' => ∃ mv, e = .returned mv /\ (∀ I L, VR I L v mv) /\ Behind w w' := by
 intro args v h I L margs w hT hsz hv
 unfold cutG at h
 split at h
 ·rename_i s p
  split at h
  case isFalse => cases h
  rename_i hl
  cases h
  obtain ⟨y, rfl, hy⟩ := margs_2 hsz hv
  cases hy
  refine (hC _ _ w hT (by simpa [ByteArray.size] using hl)).mono ?_
  rintro e w' ⟨rfl, n, rfl⟩
  refine ⟨_, rfl, fun I L => .tup rfl fun j c v hc hv => ?_, .drewN _ _⟩
  match j with
  | 0 => cases hc; cases hv; exact .str _
  | 1 => cases hc; cases hv; exact .str _
  | 2 => cases hc; cases hv; exact .bool _
  | j + 3 => simp at hc
 ·cases h
def atoiG (t : Nat) : List PV -> Option PV
 | [.str s] => if s.length <= 281474976710656 then some (match Lib.atoiAll s with
  | .ok v => .tup [.int .i64 v, .nilif]
  | .«syntax» => .tup [.int .i64 0, .iface t .undef]
  | .range => .tup [.int .i64 (Lib.atoiSat s), .iface t .undef]) else none
 | _ => none
theorem Behind.below {w w' : World} (h : Go.RowKit.Below w.heap.size w w') : Behind w w' := ⟨h.block, h.size, h.os, h.output⟩
theorem atoiG_calls {P : Program} {f t : Nat} {T : Tabs}
  (hok : ∀ (s : ByteArray) (v : Int) (w : World), s.size <= 9223372036854775806 -> Lib.atoiAll s.data.toList = .ok v -> Calls P f #[.string s] w fun e w' => e = .returned (.tuple #[.int .i64 v, .nilIface]) /\ (w' = w \/ ∃ e t, w' = Lib.bytesWorld w e t))
  (hsyn : ∀ (s : ByteArray) (w : World), T.lie w -> s.size <= 281474976710656 -> Lib.atoiAll s.data.toList = .«syntax» -> Calls P f #[.string s] w fun e w' => ∃ N : Nat, e = .returned (.tuple #[.int .i64 0, .iface t (.pointer (some ⟨N, 0, none⟩))]) /\ Go.RowKit.Below w.heap.size w w')
  (hran : ∀ (s : ByteArray) (w : World), T.lie w -> s.size <= 281474976710656 -> Lib.atoiAll s.data.toList = .range -> Calls P f #[.string s] w fun e w' => ∃ N : Nat, e = .returned (.tuple #[.int .i64 (Lib.atoiSat s.data.toList), .iface t (.pointer (some ⟨N, 0, none⟩))]) /\ Go.RowKit.Below w.heap.size w w') :
  ∀ args v, atoiG t args = some v -> ∀ (I : Im) (L : Loc) (margs : Array Value) (w : World), T.lie w -> margs.size = args.length -> (∀ (j : Nat) c x, args[j]? = some c -> margs[j]? = some x -> VR I L c x) →
   Calls P f margs w fun e w' => ∃ mv, e = .returned mv /\ (∀ I L, VR I L v mv) /\ Behind w w' := by
 intro args v h I L margs w hT hsz hv
 unfold atoiG at h
 split at h
 ·rename_i s
  split at h
  case isFalse => cases h
  rename_i hl
  have hm := margs_1 hsz hv
  subst hm
  have hl' : (⟨s.toArray⟩ : ByteArray).size <= 281474976710656 := by simpa [ByteArray.size] using hl
  have two : ∀ (n : Int) (x y : _) (I : Im) (L : Loc), VR I L x y -> VR I L (.tup [.int .i64 n, x]) (.tuple #[.int .i64 n, y]) := by
   intro n x y I L hxy
   refine .tup rfl fun j c v hc hv => ?_
   match j with
   | 0 => cases hc; cases hv; exact .int _ _
   | 1 => cases hc; cases hv; exact hxy
   | j + 2 => simp at hc
  cases ha : Lib.atoiAll s with
  | ok n =>
   rw [ha] at h
   cases h
   refine (hok _ n w (by omega) (by simpa using ha)).mono ?_
   rintro e w' ⟨rfl, hw⟩
   refine ⟨_, rfl, fun I L => two _ _ _ I L .nilif, ?_⟩
   rcases hw with rfl | ⟨e, t, rfl⟩
   ·exact .refl _
   ·exact .bytes _ _ _
  | «syntax» =>
   rw [ha] at h
   cases h
   refine (hsyn _ w hT hl' (by simpa using ha)).mono ?_
   rintro e w' ⟨N, rfl, hw⟩
   exact ⟨_, rfl, fun I L => two _ _ _ I L (.iface (.undef _)), .below hw⟩
  | range =>
   rw [ha] at h
   cases h
   refine (hran _ w hT hl' (by simpa using ha)).mono ?_
   rintro e w' ⟨N, rfl, hw⟩
   exact ⟨_, rfl, fun I L => two _ _ _ I L (.iface (.undef _)), .below hw⟩
 ·cases h
def itoaG : List PV -> Option PV
 | [.int .i64 n] => if -9223372036854775808 <= n /\ n <= 9223372036854775807 then some (.str (Lib.itoa n)) else none
 | _ => none
theorem itoaG_calls {P : Program} {f : Nat} {T : Tabs}
  (hC : ∀ (n : Int) (w : World), T.lie w -> -9223372036854775808 <= n -> n <= 9223372036854775807 -> Calls P f #[.int .i64 n] w fun e w' => e = .returned (.string ⟨(Lib.itoa n).toArray⟩) /\ ∃ k os, w' = Sort.grow (w.drewN k) os) :
  ∀ args v, itoaG args = some v -> ∀ (I : Im) (L : Loc) (margs : Array Value) (w : World), T.lie w -> margs.size = args.length -> (∀ (j : Nat) c x, args[j]? = some c -> margs[j]? = some x -> VR I L c x) →
   Calls P f margs w fun e w' => ∃ mv, e = .returned mv /\ (∀ I L, VR I L v mv) /\ Behind w w' := by
 intro args v h I L margs w hT hsz hv
 unfold itoaG at h
 split at h
 ·rename_i n
  split at h
  case isFalse => cases h
  rename_i hb
  cases h
  obtain ⟨x, rfl⟩ := Array.size_eq_one_iff.1 (show margs.size = 1 from hsz)
  have hx := hv 0 (.int .i64 n) x rfl rfl
  cases hx
  refine (hC n w hT hb.1 hb.2).mono ?_
  rintro e w' ⟨rfl, k, os, rfl⟩
  exact ⟨_, rfl, fun I L => .str _, .grow _ _ _⟩
 ·cases h
end PE

namespace Go.Proofs
open Go.Shelf
def Tryd.prefixL_ren : Go.Shelf.Ren := ⟨fun | 99 => 27 | 206 => 34 | n => n, fun | 9 => 9 | 4 => 4 | 3 => 3 | n => n, fun | n => n⟩
theorem Tryd.prefixL : Go.Proofs.Lays.n99 Tryd.prog Tryd.prefixL_ren := {
 mixed := by kernel_rfl
 f99 := Tryd.func27.trans (congrArg some (by kernel_rfl))
 f206 := Tryd.func34.trans (congrArg some (by kernel_rfl))
 t3 := Tryd.underlying3
 a3 := Tryd.isAgg3
 z3 := Tryd.sizeOf3
 v3 := Tryd.zeroValue3
 t4 := Tryd.underlying4
 a4 := Tryd.isAgg4
 z4 := Tryd.sizeOf4
 v4 := Tryd.zeroValue4
 t9 := Tryd.underlying9
 a9 := Tryd.isAgg9
 z9 := Tryd.sizeOf9
 v9 := Tryd.zeroValue9 }
def Tryd.byteL_ren : Go.Shelf.Ren := ⟨fun | 137 => 29 | 217 => 36 | 266 => 41 | n => n, fun | 9 => 9 | 5 => 5 | 3 => 3 | n => n, fun | n => n⟩
theorem Tryd.byteL : Go.Proofs.Lays.n137 Tryd.prog Tryd.byteL_ren := {
 mixed := by kernel_rfl
 f137 := Tryd.func29.trans (congrArg some (by kernel_rfl))
 f217 := Tryd.func36.trans (congrArg some (by kernel_rfl))
 f266 := Tryd.func41.trans (congrArg some (by kernel_rfl))
 t3 := Tryd.underlying3
 a3 := Tryd.isAgg3
 z3 := Tryd.sizeOf3
 v3 := Tryd.zeroValue3
 t5 := Tryd.underlying5
 a5 := Tryd.isAgg5
 z5 := Tryd.sizeOf5
 v5 := Tryd.zeroValue5
 t9 := Tryd.underlying9
 a9 := Tryd.isAgg9
 z9 := Tryd.sizeOf9
 v9 := Tryd.zeroValue9 }
def Tryd.containsL_ren : Go.Shelf.Ren := ⟨fun | 144 => 37 | 143 => 42 | 219 => 40 | 217 => 36 | 225 => 46 | 224 => 47 | 267 => 48 | 266 => 41 | 314 => 55 | n => n, fun | 9 => 9 | 4 => 4 | 3 => 3 | 5 => 5 | 46 => 61 | 146 => 70 | 51 => 69 | n => n, fun | 1 => 0 | n => n⟩
theorem Tryd.containsL : Go.Proofs.Lays.n144 Tryd.prog Tryd.containsL_ren := {
 mixed := by kernel_rfl
 f143 := Tryd.func42.trans (congrArg some (by kernel_rfl))
 f144 := Tryd.func37.trans (congrArg some (by kernel_rfl))
 f217 := Tryd.func36.trans (congrArg some (by kernel_rfl))
 f219 := Tryd.func40.trans (congrArg some (by kernel_rfl))
 f224 := Tryd.func47.trans (congrArg some (by kernel_rfl))
 f225 := Tryd.func46.trans (congrArg some (by kernel_rfl))
 f266 := Tryd.func41.trans (congrArg some (by kernel_rfl))
 f267 := Tryd.func48.trans (congrArg some (by kernel_rfl))
 f314 := Tryd.func55.trans (congrArg some (by kernel_rfl))
 t3 := Tryd.underlying3
 a3 := Tryd.isAgg3
 z3 := Tryd.sizeOf3
 v3 := Tryd.zeroValue3
 t4 := Tryd.underlying4
 a4 := Tryd.isAgg4
 z4 := Tryd.sizeOf4
 v4 := Tryd.zeroValue4
 t5 := Tryd.underlying5
 a5 := Tryd.isAgg5
 z5 := Tryd.sizeOf5
 v5 := Tryd.zeroValue5
 t9 := Tryd.underlying9
 a9 := Tryd.isAgg9
 z9 := Tryd.sizeOf9
 v9 := Tryd.zeroValue9
 t46 := Tryd.underlying61
 a46 := Tryd.isAgg61
 z46 := Tryd.sizeOf61
 v46 := Tryd.zeroValue61
 t51 := Tryd.underlying69
 a51 := Tryd.isAgg69
 z51 := Tryd.sizeOf69
 v51 := Tryd.zeroValue69
 t146 := Tryd.underlying70
 a146 := Tryd.isAgg70
 z146 := Tryd.sizeOf70
 v146 := Tryd.zeroValue70
 g1 := by kernel_rfl }
def Tryd.cutL_ren : Go.Shelf.Ren := ⟨fun | 145 => 28 | 220 => 35 | 219 => 40 | 217 => 36 | 225 => 46 | 224 => 47 | 267 => 48 | 266 => 41 | 314 => 55 | n => n, fun | 9 => 9 | 4 => 4 | 59 => 49 | 3 => 3 | 5 => 5 | 46 => 61 | 146 => 70 | 51 => 69 | n => n, fun | 1 => 0 | n => n⟩
theorem Tryd.cutL : Go.Proofs.Lays.n145 Tryd.prog Tryd.cutL_ren := {
 mixed := by kernel_rfl
 f145 := Tryd.func28.trans (congrArg some (by kernel_rfl))
 f217 := Tryd.func36.trans (congrArg some (by kernel_rfl))
 f219 := Tryd.func40.trans (congrArg some (by kernel_rfl))
 f220 := Tryd.func35.trans (congrArg some (by kernel_rfl))
 f224 := Tryd.func47.trans (congrArg some (by kernel_rfl))
 f225 := Tryd.func46.trans (congrArg some (by kernel_rfl))
 f266 := Tryd.func41.trans (congrArg some (by kernel_rfl))
 f267 := Tryd.func48.trans (congrArg some (by kernel_rfl))
 f314 := Tryd.func55.trans (congrArg some (by kernel_rfl))
 t3 := Tryd.underlying3
 a3 := Tryd.isAgg3
 z3 := Tryd.sizeOf3
 v3 := Tryd.zeroValue3
 t4 := Tryd.underlying4
 a4 := Tryd.isAgg4
 z4 := Tryd.sizeOf4
 v4 := Tryd.zeroValue4
 t5 := Tryd.underlying5
 a5 := Tryd.isAgg5
 z5 := Tryd.sizeOf5
 v5 := Tryd.zeroValue5
 t9 := Tryd.underlying9
 a9 := Tryd.isAgg9
 z9 := Tryd.sizeOf9
 v9 := Tryd.zeroValue9
 t46 := Tryd.underlying61
 a46 := Tryd.isAgg61
 z46 := Tryd.sizeOf61
 v46 := Tryd.zeroValue61
 t51 := Tryd.underlying69
 a51 := Tryd.isAgg69
 z51 := Tryd.sizeOf69
 v51 := Tryd.zeroValue69
 t59 := Tryd.underlying49
 a59 := Tryd.isAgg49
 z59 := Tryd.sizeOf49
 v59 := Tryd.zeroValue49
 t146 := Tryd.underlying70
 a146 := Tryd.isAgg70
 z146 := Tryd.sizeOf70
 v146 := Tryd.zeroValue70
 g1 := by kernel_rfl }
def Tryd.atoiL_ren : Go.Shelf.Ren := ⟨fun | 172 => 38 | 244 => 43 | 245 => 44 | 247 => 49 | 279 => 50 | 280 => 51 | 281 => 52 | 282 => 53 | 287 => 56 | 316 => 57 | 171 => 39 | 205 => 58 | 321 => 63 | 322 => 64 | 243 => 45 | 246 => 54 | 283 => 59 | 284 => 60 | 285 => 61 | 286 => 62 | 129 => 66 | 317 => 65 | 318 => 67 | 319 => 68 | 320 => 69 | 337 => 70 | 338 => 71 | n => n, fun | 9 => 9 | 3 => 3 | 75 => 54 | 76 => 55 | 4 => 4 | 5 => 5 | 167 => 62 | 37 => 29 | 0 => 0 | 85 => 63 | 2 => 2 | 168 => 65 | 53 => 72 | 175 => 73 | 46 => 61 | 210 => 76 | 127 => 84 | 145 => 87 | 143 => 85 | 21 => 21 | 171 => 78 | 173 => 81 | 212 => 89 | 51 => 69 | 20 => 20 | 213 => 90 | 232 => 94 | 233 => 95 | 80 => 96 | n => n, fun | 15 => 1 | 16 => 2 | 17 => 3 | 18 => 4 | 19 => 5 | n => n⟩
theorem Tryd.atoiL : Go.Proofs.LaysC.n172 Tryd.prog Tryd.atoiL_ren := {
 mixed := by kernel_rfl
 f129 := Tryd.func66.trans (congrArg some (by kernel_rfl))
 f171 := Tryd.func39.trans (congrArg some (by kernel_rfl))
 f172 := Tryd.func38.trans (congrArg some (by kernel_rfl))
 f205 := Tryd.func58.trans (congrArg some (by kernel_rfl))
 f243 := Tryd.func45.trans (congrArg some (by kernel_rfl))
 f244 := Tryd.func43.trans (congrArg some (by kernel_rfl))
 f245 := Tryd.func44.trans (congrArg some (by kernel_rfl))
 f246 := Tryd.func54.trans (congrArg some (by kernel_rfl))
 f247 := Tryd.func49.trans (congrArg some (by kernel_rfl))
 f279 := Tryd.func50.trans (congrArg some (by kernel_rfl))
 f280 := Tryd.func51.trans (congrArg some (by kernel_rfl))
 f281 := Tryd.func52.trans (congrArg some (by kernel_rfl))
 f282 := Tryd.func53.trans (congrArg some (by kernel_rfl))
 f283 := Tryd.func59.trans (congrArg some (by kernel_rfl))
 f284 := Tryd.func60.trans (congrArg some (by kernel_rfl))
 f285 := Tryd.func61.trans (congrArg some (by kernel_rfl))
 f286 := Tryd.func62.trans (congrArg some (by kernel_rfl))
 f287 := Tryd.func56.trans (congrArg some (by kernel_rfl))
 f316 := Tryd.func57.trans (congrArg some (by kernel_rfl))
 f317 := Tryd.func65.trans (congrArg some (by kernel_rfl))
 f318 := Tryd.func67.trans (congrArg some (by kernel_rfl))
 f319 := Tryd.func68.trans (congrArg some (by kernel_rfl))
 f320 := Tryd.func69.trans (congrArg some (by kernel_rfl))
 f321 := Tryd.func63.trans (congrArg some (by kernel_rfl))
 f322 := Tryd.func64.trans (congrArg some (by kernel_rfl))
 f337 := Tryd.func70.trans (congrArg some (by kernel_rfl))
 f338 := Tryd.func71.trans (congrArg some (by kernel_rfl))
 t0 := Tryd.underlying0
 a0 := Tryd.isAgg0
 z0 := Tryd.sizeOf0
 v0 := Tryd.zeroValue0
 t2 := Tryd.underlying2
 a2 := Tryd.isAgg2
 z2 := Tryd.sizeOf2
 v2 := Tryd.zeroValue2
 t3 := Tryd.underlying3
 a3 := Tryd.isAgg3
 z3 := Tryd.sizeOf3
 v3 := Tryd.zeroValue3
 t4 := Tryd.underlying4
 a4 := Tryd.isAgg4
 z4 := Tryd.sizeOf4
 v4 := Tryd.zeroValue4
 t5 := Tryd.underlying5
 a5 := Tryd.isAgg5
 z5 := Tryd.sizeOf5
 v5 := Tryd.zeroValue5
 t9 := Tryd.underlying9
 a9 := Tryd.isAgg9
 z9 := Tryd.sizeOf9
 v9 := Tryd.zeroValue9
 t20 := Tryd.underlying20
 a20 := Tryd.isAgg20
 z20 := Tryd.sizeOf20
 v20 := Tryd.zeroValue20
 t21 := Tryd.underlying21
 a21 := Tryd.isAgg21
 z21 := Tryd.sizeOf21
 v21 := Tryd.zeroValue21
 t37 := Tryd.underlying29
 a37 := Tryd.isAgg29
 z37 := Tryd.sizeOf29
 v37 := Tryd.zeroValue29
 t46 := Tryd.underlying61
 a46 := Tryd.isAgg61
 z46 := Tryd.sizeOf61
 v46 := Tryd.zeroValue61
 t51 := Tryd.underlying69
 a51 := Tryd.isAgg69
 z51 := Tryd.sizeOf69
 v51 := Tryd.zeroValue69
 t53 := Tryd.underlying72
 a53 := Tryd.isAgg72
 z53 := Tryd.sizeOf72
 v53 := Tryd.zeroValue72
 t75 := Tryd.underlying54
 a75 := Tryd.isAgg54
 z75 := Tryd.sizeOf54
 v75 := Tryd.zeroValue54
 t76 := Tryd.underlying55
 a76 := Tryd.isAgg55
 z76 := Tryd.sizeOf55
 v76 := Tryd.zeroValue55
 t85 := Tryd.underlying63
 a85 := Tryd.isAgg63
 z85 := Tryd.sizeOf63
 v85 := Tryd.zeroValue63
 t127 := Tryd.underlying84
 a127 := Tryd.isAgg84
 z127 := Tryd.sizeOf84
 v127 := Tryd.zeroValue84
 t143 := Tryd.underlying85
 a143 := Tryd.isAgg85
 z143 := Tryd.sizeOf85
 v143 := Tryd.zeroValue85
 t145 := Tryd.underlying87
 a145 := Tryd.isAgg87
 z145 := Tryd.sizeOf87
 v145 := Tryd.zeroValue87
 t167 := Tryd.underlying62
 a167 := Tryd.isAgg62
 z167 := Tryd.sizeOf62
 v167 := Tryd.zeroValue62
 t168 := Tryd.underlying65
 a168 := Tryd.isAgg65
 z168 := Tryd.sizeOf65
 v168 := Tryd.zeroValue65
 t171 := Tryd.underlying78
 a171 := Tryd.isAgg78
 z171 := Tryd.sizeOf78
 v171 := Tryd.zeroValue78
 t173 := Tryd.underlying81
 a173 := Tryd.isAgg81
 z173 := Tryd.sizeOf81
 v173 := Tryd.zeroValue81
 t175 := Tryd.underlying73
 a175 := Tryd.isAgg73
 z175 := Tryd.sizeOf73
 v175 := Tryd.zeroValue73
 t210 := Tryd.underlying76
 a210 := Tryd.isAgg76
 z210 := Tryd.sizeOf76
 v210 := Tryd.zeroValue76
 t212 := Tryd.underlying89
 a212 := Tryd.isAgg89
 z212 := Tryd.sizeOf89
 v212 := Tryd.zeroValue89
 t213 := Tryd.underlying90
 a213 := Tryd.isAgg90
 z213 := Tryd.sizeOf90
 t232 := Tryd.underlying94
 a232 := Tryd.isAgg94
 z232 := Tryd.sizeOf94
 v232 := Tryd.zeroValue94
 t233 := Tryd.underlying95
 a233 := Tryd.isAgg95
 z233 := Tryd.sizeOf95
 v233 := Tryd.zeroValue95
 g15 := by kernel_rfl
 g16 := by kernel_rfl
 g17 := by kernel_rfl
 g18 := by kernel_rfl
 g19 := by kernel_rfl
 t80 := Tryd.underlying96
 a80 := Tryd.isAgg96
 z80 := Tryd.sizeOf96
 v80 := Tryd.zeroValue96
 i0 := by kernel_rfl
 i2 := by kernel_rfl
 i3 := by kernel_rfl
 i4 := by kernel_rfl
 i5 := by kernel_rfl
 i9 := by kernel_rfl
 i20 := by kernel_rfl
 i21 := by kernel_rfl
 i37 := by kernel_rfl
 i46 := by kernel_rfl
 i51 := by kernel_rfl
 i53 := by kernel_rfl
 i75 := by kernel_rfl
 i76 := by kernel_rfl
 i80 := by kernel_rfl
 i85 := by kernel_rfl
 i127 := by kernel_rfl
 i143 := by kernel_rfl
 i145 := by kernel_rfl
 i167 := by kernel_rfl
 i168 := by kernel_rfl
 i171 := by kernel_rfl
 i173 := by kernel_rfl
 i175 := by kernel_rfl
 i210 := by kernel_rfl
 i212 := by kernel_rfl
 i232 := by kernel_rfl
 i233 := by kernel_rfl
 m15 := by kernel_rfl
 m16 := by kernel_rfl
 m17 := by kernel_rfl
 m18 := by kernel_rfl
 m19 := by kernel_rfl
 c0 := by kernel_rfl
 c2 := by kernel_rfl
 c3 := by kernel_rfl
 c4 := by kernel_rfl
 c5 := by kernel_rfl
 c9 := by kernel_rfl
 c20 := by kernel_rfl
 c21 := by kernel_rfl
 c37 := by kernel_rfl
 c46 := by kernel_rfl
 c51 := by kernel_rfl
 c53 := by kernel_rfl
 c75 := by kernel_rfl
 c76 := by kernel_rfl
 c80 := by kernel_rfl
 c85 := by kernel_rfl
 c127 := by kernel_rfl
 c143 := by kernel_rfl
 c145 := by kernel_rfl
 c167 := by kernel_rfl
 c168 := by kernel_rfl
 c171 := by kernel_rfl
 c173 := by kernel_rfl
 c175 := by kernel_rfl
 c210 := by kernel_rfl
 c212 := by kernel_rfl
 c213 := by kernel_rfl
 c232 := by kernel_rfl
 c233 := by kernel_rfl }
def Tryd.itoaL_ren : Go.Shelf.Ren := ⟨fun | 171 => 39 | 243 => 45 | 246 => 54 | 283 => 59 | 284 => 60 | 285 => 61 | 286 => 62 | 129 => 66 | 317 => 65 | 318 => 67 | 319 => 68 | 320 => 69 | 337 => 70 | 338 => 71 | n => n, fun | 3 => 3 | 9 => 9 | 2 => 2 | 4 => 4 | 171 => 78 | 0 => 0 | 53 => 72 | 37 => 29 | 5 => 5 | 173 => 81 | 212 => 89 | 51 => 69 | 20 => 20 | 213 => 90 | 46 => 61 | 232 => 94 | 233 => 95 | n => n, fun | 17 => 3 | 18 => 4 | 19 => 5 | n => n⟩
theorem Tryd.itoaL : Go.Proofs.LaysM.n171 Tryd.prog Tryd.itoaL_ren := {
 mixed := by kernel_rfl
 f129 := Tryd.func66.trans (congrArg some (by kernel_rfl))
 f171 := Tryd.func39.trans (congrArg some (by kernel_rfl))
 f243 := Tryd.func45.trans (congrArg some (by kernel_rfl))
 f246 := Tryd.func54.trans (congrArg some (by kernel_rfl))
 f283 := Tryd.func59.trans (congrArg some (by kernel_rfl))
 f284 := Tryd.func60.trans (congrArg some (by kernel_rfl))
 f285 := Tryd.func61.trans (congrArg some (by kernel_rfl))
 f286 := Tryd.func62.trans (congrArg some (by kernel_rfl))
 f317 := Tryd.func65.trans (congrArg some (by kernel_rfl))
 f318 := Tryd.func67.trans (congrArg some (by kernel_rfl))
 f319 := Tryd.func68.trans (congrArg some (by kernel_rfl))
 f320 := Tryd.func69.trans (congrArg some (by kernel_rfl))
 f337 := Tryd.func70.trans (congrArg some (by kernel_rfl))
 f338 := Tryd.func71.trans (congrArg some (by kernel_rfl))
 t0 := Tryd.underlying0
 a0 := Tryd.isAgg0
 z0 := Tryd.sizeOf0
 v0 := Tryd.zeroValue0
 t2 := Tryd.underlying2
 a2 := Tryd.isAgg2
 z2 := Tryd.sizeOf2
 v2 := Tryd.zeroValue2
 t3 := Tryd.underlying3
 a3 := Tryd.isAgg3
 z3 := Tryd.sizeOf3
 v3 := Tryd.zeroValue3
 t4 := Tryd.underlying4
 a4 := Tryd.isAgg4
 z4 := Tryd.sizeOf4
 v4 := Tryd.zeroValue4
 t5 := Tryd.underlying5
 a5 := Tryd.isAgg5
 z5 := Tryd.sizeOf5
 v5 := Tryd.zeroValue5
 t9 := Tryd.underlying9
 a9 := Tryd.isAgg9
 z9 := Tryd.sizeOf9
 v9 := Tryd.zeroValue9
 t20 := Tryd.underlying20
 a20 := Tryd.isAgg20
 z20 := Tryd.sizeOf20
 v20 := Tryd.zeroValue20
 t37 := Tryd.underlying29
 a37 := Tryd.isAgg29
 z37 := Tryd.sizeOf29
 v37 := Tryd.zeroValue29
 t46 := Tryd.underlying61
 a46 := Tryd.isAgg61
 z46 := Tryd.sizeOf61
 v46 := Tryd.zeroValue61
 t51 := Tryd.underlying69
 a51 := Tryd.isAgg69
 z51 := Tryd.sizeOf69
 v51 := Tryd.zeroValue69
 t53 := Tryd.underlying72
 a53 := Tryd.isAgg72
 z53 := Tryd.sizeOf72
 v53 := Tryd.zeroValue72
 t171 := Tryd.underlying78
 a171 := Tryd.isAgg78
 z171 := Tryd.sizeOf78
 v171 := Tryd.zeroValue78
 t173 := Tryd.underlying81
 a173 := Tryd.isAgg81
 z173 := Tryd.sizeOf81
 v173 := Tryd.zeroValue81
 t212 := Tryd.underlying89
 a212 := Tryd.isAgg89
 z212 := Tryd.sizeOf89
 v212 := Tryd.zeroValue89
 t213 := Tryd.underlying90
 a213 := Tryd.isAgg90
 z213 := Tryd.sizeOf90
 t232 := Tryd.underlying94
 a232 := Tryd.isAgg94
 z232 := Tryd.sizeOf94
 v232 := Tryd.zeroValue94
 t233 := Tryd.underlying95
 a233 := Tryd.isAgg95
 z233 := Tryd.sizeOf95
 v233 := Tryd.zeroValue95
 g17 := by kernel_rfl
 g18 := by kernel_rfl
 g19 := by kernel_rfl
 i0 := by kernel_rfl
 i2 := by kernel_rfl
 i3 := by kernel_rfl
 i4 := by kernel_rfl
 i5 := by kernel_rfl
 i9 := by kernel_rfl
 i20 := by kernel_rfl
 i37 := by kernel_rfl
 i46 := by kernel_rfl
 i51 := by kernel_rfl
 i53 := by kernel_rfl
 i171 := by kernel_rfl
 i173 := by kernel_rfl
 i212 := by kernel_rfl
 i232 := by kernel_rfl
 i233 := by kernel_rfl
 m17 := by kernel_rfl
 m18 := by kernel_rfl
 m19 := by kernel_rfl }
end Go.Proofs
namespace PE.U
open Go PE Go.Proofs
def tab10 : Array Value := (Lib.pow10Tab.map fun z => Value.int .u64 z).toArray
def tabs (c0 c1 c2 : Array Value) : Tabs := [(0, c0), (1, c1), (2, c2), (3, tab10)]
structure TabsOk (c0 c1 c2 : Array Value) : Prop where
 n : ∃ m, c0[0]? = some (.int .i64 m)
 s : ∃ ev, c1[0]? = some ev /\ (ev = .nilIface \/ ∃ te pe, ev = .iface te pe)
 r : ∃ ev, c2[0]? = some ev /\ (ev = .nilIface \/ ∃ te pe, ev = .iface te pe)
theorem cell_at {w : World} {b : Nat} {cs : Array Value} {v : Value} (h : ∃ e fr, w.heap[b]? = some (.cells cs e fr)) (hc : cs[0]? = some v) : w.cell? ⟨b, 0, none⟩ = some v := by
 obtain ⟨e, fr, h⟩ := h
 simp [World.cell?, h, hc]
theorem tab_is {w : World} (h : ∃ e fr, w.heap[3]? = some (.cells tab10 e fr)) : Lib.TabIs Tryd.prog w "internal/strconv.uint64pow10" .u64 Lib.pow10Tab := by
 obtain ⟨e, fr, h⟩ := h
 have hg : Tryd.prog.globalNamed "internal/strconv.uint64pow10" = some 3 := by kernel_rfl
 unfold Lib.TabIs World.var?
 rw [hg]
 simp only [Option.bind_some, h]
 rfl
def extE : Nat -> Option (List PV -> zb -> Option (CRes × zb))
 | 27 => some (pureX hasPrefixG)
 | 29 => some (pureX indexByteG)
 | 37 => some (pureX containsG)
 | 28 => some (pureX cutG)
 | 38 => some (pureX (atoiG 65))
 | 39 => some (pureX itoaG)
 | _ => none
noncomputable def E : Env := { fn := fns, ext := extE, hand := hand }
set_option maxRecDepth 100000 in
theorem envOk {c0 c1 c2 : Array Value} (ht : TabsOk c0 c1 c2) : EnvOk Tryd.prog (tabs c0 c1 c2) E := by
 obtain ⟨⟨m, hm⟩, ⟨es, hs, hes⟩, ⟨er, hr, her⟩⟩ := ht
 have t0 : ∀ w : World, (tabs c0 c1 c2).lie w -> w.cell? ⟨0, 0, none⟩ = some (.int .i64 m) := fun w h => cell_at (h (0, c0) (by simp [tabs])) hm
 have t1 : ∀ w : World, (tabs c0 c1 c2).lie w -> w.cell? ⟨1, 0, none⟩ = some es := fun w h => cell_at (h (1, c1) (by simp [tabs])) hs
 have t2 : ∀ w : World, (tabs c0 c1 c2).lie w -> w.cell? ⟨2, 0, none⟩ = some er := fun w h => cell_at (h (2, c2) (by simp [tabs])) hr
 have t3 : ∀ w : World, (tabs c0 c1 c2).lie w -> Lib.TabIs Tryd.prog w "internal/strconv.uint64pow10" .u64 Lib.pow10Tab := fun w h => tab_is (h (3, tab10) (by simp [tabs]))
 refine ⟨fnsOk, fun f g h args st r st' hg => ?_, handOk⟩
 unfold E extE at h
 simp only at h
 split at h
 ·cases h; exact zcb ⟨_, _, Tryd.func27, by decide, rfl⟩ (hasPrefixG_calls fun s p w => Any.strings_HasPrefix Tryd.prefixL s p w) args st r st' hg
 ·cases h; exact zcb ⟨_, _, Tryd.func29, by decide, rfl⟩ (indexByteG_calls fun s c w => Any.strings_IndexByte Tryd.byteL s c w) args st r st' hg
 ·cases h; exact zcb ⟨_, _, Tryd.func37, by decide, rfl⟩ (containsG_calls fun s p w hT hl => Any.strings_Contains Tryd.containsL s p m w hl (t0 w hT)) args st r st' hg
 ·cases h; exact zcb ⟨_, _, Tryd.func28, by decide, rfl⟩ (cutG_calls fun s p w hT hl => Any.strings_Cut Tryd.cutL s p m w hl (t0 w hT)) args st r st' hg
 ·cases h
  refine zcb ⟨_, _, Tryd.func38, by decide, rfl⟩ (atoiG_calls (fun s v w hl ha => ?_) (fun s w hT hl ha => ?_) (fun s w hT hl ha => ?_)) args st r st' hg
  ·refine (Any.strconv_Atoi_ok Tryd.atoiL s hl v ha w).mono ?_
   rintro e w' ⟨rfl, hw⟩
   refine ⟨rfl, ?_⟩
   rcases hw with h | ⟨t, h⟩
   ·exact .inl h
   ·exact .inr ⟨_, t, h⟩
  ·refine (Any.strconv_Atoi_syntax Tryd.atoiL s hl ha es w (t1 w hT) hes).mono ?_
   rintro e w' ⟨N, rfl, _, _, hb⟩
   exact ⟨N, rfl, hb⟩
  ·refine (Any.strconv_Atoi_range Tryd.atoiL s hl ha er w (t2 w hT) her).mono ?_
   rintro e w' ⟨N, rfl, _, _, hb⟩
   exact ⟨N, rfl, hb⟩
 ·cases h; exact zcb ⟨_, _, Tryd.func39, by decide, rfl⟩ (itoaG_calls fun n w hT h0 h1 => Any.strconv_Itoa Tryd.itoaL n h0 h1 w (t3 w hT)) args st r st' hg
 ·cases h
end PE.U

namespace PE.U
open Go PE
def zK (c : Int) : Bool := (decide (97 <= c) && decide (c <= 122)) || (decide (65 <= c) && decide (c <= 90)) || decide (c = 95)
def zga (c : Int) : Bool := decide (48 <= c) && decide (c <= 57)
theorem zAa (c : Int) (σ : zb) : zz E 25 [.int .i32 c] σ = some (.ret (.bool (zK c)), σ) := by
 refine zr rfl rfl rfl (by simp) ?_
 (simp [*, F25, zK]) <;> (repeat' ((first | refine sP _ ?_ ?_ | refine gP _ ?_ ?_ | refine sN _ ?_ ?_ | refine gN _ ?_ ?_ | refine sM _ ?_ ?_ | refine gM _ ?_ ?_ | refine sB _ ?_ ?_ | refine gB _ ?_ ?_) <;> intro hc <;> simp [*, F25, zK]))
theorem digit_spec (c : Int) (σ : zb) : zz E 33 [.int .i32 c] σ = some (.ret (.bool (zga c)), σ) := by
 refine zr rfl rfl rfl (by simp) ?_
 (simp [*, F33, zga]) <;> (repeat' ((first | refine sP _ ?_ ?_ | refine gP _ ?_ ?_ | refine sN _ ?_ ?_ | refine gN _ ?_ ?_ | refine sM _ ?_ ?_ | refine gM _ ?_ ?_ | refine sB _ ?_ ?_ | refine gB _ ?_ ?_) <;> intro hc <;> simp [*, F33, zga]))
theorem zI (c : Int) (σ : zb) : zz E 21 [.int .u8 c] σ = some (.ret (.bool (zK c)), σ) := by
 refine zr rfl rfl rfl (by simp) ?_
 (simp [*, F21, zK]) <;> (repeat' ((first | refine sP _ ?_ ?_ | refine gP _ ?_ ?_ | refine sN _ ?_ ?_ | refine gN _ ?_ ?_ | refine sM _ ?_ ?_ | refine gM _ ?_ ?_ | refine sB _ ?_ ?_ | refine gB _ ?_ ?_) <;> intro hc <;> simp [*, F21, zK]))
theorem zY (c : Int) (σ : zb) : zz E 22 [.int .u8 c] σ = some (.ret (.bool (zga c)), σ) := by
 refine zr rfl rfl rfl (by simp) ?_
 (simp [*, F22, zga]) <;> (repeat' ((first | refine sP _ ?_ ?_ | refine gP _ ?_ ?_ | refine sN _ ?_ ?_ | refine gN _ ?_ ?_ | refine sM _ ?_ ?_ | refine gM _ ?_ ?_ | refine sB _ ?_ ?_ | refine gB _ ?_ ?_) <;> intro hc <;> simp [*, F22, zga]))
def words : List (List UInt8) := [[105, 110, 116], [98, 111, 111, 108], [105, 102], [101, 108, 115, 101], [119, 104, 105, 108, 101], [98, 114, 101, 97, 107], [99, 111, 110, 116, 105, 110, 117, 101], [114, 101, 116, 117, 114, 110],
 [112, 114, 105, 110, 116], [114, 101, 97, 100], [116, 114, 117, 101], [102, 97, 108, 115, 101], [105, 56], [105, 49, 54], [105, 51, 50], [117, 56], [117, 49, 54], [117, 51, 50]]
def wordM (s : List UInt8) : Bool := words.contains s
theorem zDb (s : List UInt8) (σ : zb) : zz E 16 [.str s] σ = some (.ret (.bool (wordM s)), σ) := by
 refine zr rfl rfl rfl (by simp) ?_
 (simp [*, F16, wordM, words]) <;> (repeat' ((first | refine sP _ ?_ ?_ | refine gP _ ?_ ?_ | refine sN _ ?_ ?_ | refine gN _ ?_ ?_ | refine sM _ ?_ ?_ | refine gM _ ?_ ?_ | refine sB _ ?_ ?_ | refine gB _ ?_ ?_) <;> intro hc <;> simp [*, F16, wordM, words]))
theorem zGb (s : List UInt8) (σ : zb) : zz E 17 [.str s] σ = some (.ret (.bool (wordM s)), σ) := by
 refine zr rfl rfl rfl (by simp) ?_
 (simp [*, F17, wordM, words]) <;> (repeat' ((first | refine sP _ ?_ ?_ | refine gP _ ?_ ?_ | refine sN _ ?_ ?_ | refine gN _ ?_ ?_ | refine sM _ ?_ ?_ | refine gM _ ?_ ?_ | refine sB _ ?_ ?_ | refine gB _ ?_ ?_) <;> intro hc <;> simp [*, F17, wordM, words]))
end PE.U

namespace PE.U
open Go PE
def zd (b : UInt8) : Bool := zK b.toNat || zga b.toNat
def runM (s : List UInt8) : List UInt8 := s.takeWhile zd
def nameM (s : List UInt8) : Bool := decide (s ≠ []) && (zK ((s.head?.getD 0).toNat) && (s.all zd && (decide (s.length <= 20) && !wordM s)))
theorem nameByte_high {b : UInt8} (h : 128 <= b.toNat) : zd b = false := by
 simp [zd, zK, zga]; omega
theorem high_not {c : Nat} (h : 128 <= c) : zK c = false /\ zga c = false := by
 simp [zK, zga]; omega
theorem zsa {p : UInt8 -> Bool} : ∀ {s : List UInt8}, s.takeWhile p = s <-> s.all p = true
 | [] => by simp
 | b :: r => by
  rw [List.takeWhile_cons]
  cases h : p b
  ·simp [h]
  ·simp [h, zsa (s := r)]
theorem run_spec (s : List UInt8) (σ : zb) : zz E 26 [.str s] σ = some (.ret (.str (runM s)), σ) := by
 refine zr rfl rfl rfl (by simp) ?_
 simp [F26]
 refine wp_while K26_0 B26_0 (fun d => s.length - d) (fun d => []) (fun d => [(6, .iter s d)]) (fun _ => σ) (fun d => d <= s.length /\ (s.take d).all zd = true) 0 (by simp) ?_
 rintro d s1 ⟨hd, ha⟩ h1 h2 h3 h4 h5
 simp at h4
 by_cases hlt : d < s.length
 ·have hs : d < (⟨s.toArray⟩ : ByteArray).size := by show d < s.toArray.size; simpa using hlt
  have hget : (⟨s.toArray⟩ : ByteArray)[d]'hs = s[d] := rfl
  have htk : s.take (d + 1) = s.take d ++ [s[d]] := by simp
  by_cases hb : s[d].toNat < 128
  ·have hdec := decode_ascii ⟨s.toArray⟩ d hs (by rw [hget]; exact hb)
   rw [hget] at hdec
   cases hn : zd s[d]
   ·have e : runM s = s.take d := by
     have : s = s.take d ++ (s[d] :: s.drop (d + 1)) := by simp
     unfold runM
     rw [this, List.takeWhile_append_of_pos (by simpa using ha), List.takeWhile_cons, hn]
     simp
    have hn2 := hn
    simp only [zd, Bool.or_eq_false_iff] at hn2
    have hmin : min d s.length = d := by omega
    simp [*, zAa, digit_spec]
   ·have hn2 := hn
    simp only [zd, Bool.or_eq_true] at hn2
    cases hl : zK s[d].toNat
    ·rw [hl] at hn2
     simp at hn2
     simp [*, zAa, digit_spec]
     exact ⟨d + 1, by omega, rfl, by omega, by rw [<- List.all_eq_true, htk, List.all_append, ha]; simp [hn]⟩
    ·simp [*, zAa, digit_spec]
     exact ⟨d + 1, by omega, rfl, by omega, by rw [<- List.all_eq_true, htk, List.all_append, ha]; simp [hn]⟩
  ·obtain ⟨hd1, hd2⟩ := decode_high ⟨s.toArray⟩ d hs (by rw [hget]; omega)
   obtain ⟨q1, q2⟩ := high_not hd1
   have e : runM s = s.take d := by
    have : s = s.take d ++ (s[d] :: s.drop (d + 1)) := by simp
    unfold runM
    rw [this, List.takeWhile_append_of_pos (by simpa using ha), List.takeWhile_cons, nameByte_high (by omega)]
    simp
   simp [*, zAa, digit_spec]
 ·have hd' : d = s.length := by omega
  subst hd'
  simp at ha
  have e : runM s = s := by
   unfold runM
   exact zsa.2 (by simpa using ha)
  simp [*]
theorem name_spec (s : List UInt8) (σ : zb) : zz E 14 [.str s] σ = some (.ret (.bool (nameM s)), σ) := by
 refine zr rfl rfl rfl (by simp) ?_
 have hr : decide (runM s = s) = s.all zd := by
  unfold runM
  simp only [zsa, Bool.decide_eq_true]
 by_cases hne : s = []
 ·subst hne; simp [F14, nameM]
 obtain ⟨b, r, hs⟩ := List.exists_cons_of_ne_nil hne
 have hb : s[0]? = some b := by rw [hs]; rfl
 have hd : s.head? = some b := by rw [hs]; rfl
 clear hs
 generalize ha : s.all zd = A at hr
 (simp [*, F14, nameM, zAa, run_spec, zDb]) <;> (repeat' ((first | refine sP _ ?_ ?_ | refine gP _ ?_ ?_ | refine sN _ ?_ ?_ | refine gN _ ?_ ?_ | refine sM _ ?_ ?_ | refine gM _ ?_ ?_ | refine sB _ ?_ ?_ | refine gB _ ?_ ?_) <;> intro hc <;> simp [*, F14, nameM, zAa, run_spec, zDb]))
 all_goals (try grind)
theorem rname_spec (s : List UInt8) (σ : zb) : zz E 15 [.str s] σ = some (.ret (.bool (nameM s)), σ) := by
 refine zr rfl rfl rfl (by simp) ?_
 by_cases hne : s = []
 ·subst hne; simp [F15, nameM]
 obtain ⟨b, r, hs⟩ := List.exists_cons_of_ne_nil hne
 have hb : s[0]? = some b := by rw [hs]; rfl
 have hd : s.head? = some b := by rw [hs]; rfl
 clear hs
 (simp [*, F15, nameM, zI, zGb]) <;> (repeat' ((first | refine sP _ ?_ ?_ | refine gP _ ?_ ?_ | refine sN _ ?_ ?_ | refine gN _ ?_ ?_ | refine sM _ ?_ ?_ | refine gM _ ?_ ?_ | refine sB _ ?_ ?_ | refine gB _ ?_ ?_) <;> intro hc <;> simp [*, F15, nameM, zI, zGb]))
 all_goals first | refine zgb s K15_0 B15_0 (fun d => [(3, .int .i64 d.length)]) (fun _ => σ) (fun d => d.all zd = true) (by omega) (by simp) ?_ ?_ | grind
 ·intros d x r' s hl' hlt hget hget' hw hp h1 h2 h3 h4
  simp at h1 h3
  have hx := hl'.mem
  clear h2
  (simp [*, zI, zY]) <;> (repeat' ((first | refine sP _ ?_ ?_ | refine gP _ ?_ ?_ | refine sN _ ?_ ?_ | refine gN _ ?_ ?_ | refine sM _ ?_ ?_ | refine gM _ ?_ ?_ | refine sB _ ?_ ?_ | refine gB _ ?_ ?_) <;> intro hc <;> simp [*, zI, zY]))
  all_goals grind [zd]
 ·intros s hp h1 h2 h3 h4
  simp at h1 h3
  (simp [*]) <;> (repeat' ((first | refine sP _ ?_ ?_ | refine gP _ ?_ ?_ | refine sN _ ?_ ?_ | refine gN _ ?_ ?_ | refine sM _ ?_ ?_ | refine gM _ ?_ ?_ | refine sB _ ?_ ?_ | refine gB _ ?_ ?_) <;> intro hc <;> simp [*]))
  all_goals (try grind)
end PE.U

namespace PE.U
open Go PE
def digF : Nat -> Nat -> List UInt8
 | 0, _ => []
 | k + 1, n => if n < 10 then [UInt8.ofNat (48 + n)] else digF k (n / 10) ++ [UInt8.ofNat (48 + n % 10)]
def digitsM (n : Nat) : List UInt8 := digF 20 n
theorem digF_ne (k n : Nat) : digF (k + 1) n ≠ [] := by unfold digF; split <;> simp
end PE.U

namespace PE.U
open Go PE
def zOb : Int -> List UInt8 -> Option Int
 | n, [] => some n
 | n, b :: r => if (9223372036854775807 - ((b.toNat : Int) - 48)) / 10 < n then none else zOb (n * 10 + ((b.toNat : Int) - 48)) r
def valueM (s : List UInt8) : Int := match zOb 0 s with
 | none => -1
 | some n => if s = [] \/ (1 < s.length /\ s.head? = some 48) then -1 else n
def digs (s : List UInt8) : Bool := s.all fun b => zga b.toNat
theorem valGo_append : ∀ (a b : List UInt8) (n : Int), zOb n (a ++ b) = (zOb n a).bind fun m => zOb m b
 | [], b, n => by simp [zOb]
 | x :: a, b, n => by
  simp only [List.cons_append, zOb]
  split
  ·simp
  ·exact valGo_append a b _
theorem valGo_range : ∀ (s : List UInt8) (n m : Int), digs s = true -> 0 <= n -> n <= 9223372036854775807 -> zOb n s = some m -> 0 <= m /\ m <= 9223372036854775807
 | [], n, m, _, h0, h1, h => by simp [zOb] at h; omega
 | b :: r, n, m, hd, h0, h1, h => by
  simp only [zOb] at h
  simp only [digs, List.all_cons, Bool.and_eq_true] at hd
  split at h
  ·cases h
  ·rename_i hc
   have : 48 <= (b.toNat : Int) /\ (b.toNat : Int) <= 57 := by simpa [zga] using hd.1
   exact valGo_range r _ m hd.2 (by omega) (by omega) h
theorem value_spec' (s : List UInt8) (σ : zb) (hs : digs s = true) (hl : s.length < 1099511627776) : zz E 32 [.str s] σ = some (.ret (.int .i64 (valueM s)), σ) := by
 refine zr rfl rfl rfl (by simp) ?_
 simp [F32]
 refine zgb s K32_0 B32_0 (fun d => [(4, .int .i64 d.length), (3, .int .i64 ((zOb 0 d).getD 0))]) (fun _ => σ) (fun d => (zOb 0 d).isSome = true) (by omega) (by simp [zOb]) ?_ ?_
 ·intros d x r s1 hl' hlt hget hget' hw hp h1 h2 h3 h4
  simp at h1 h3
  obtain ⟨n, hn⟩ := Option.isSome_iff_exists.1 hp
  have hdd : digs d = true := by
   have := hl'.eq
   rw [this] at hs; simp only [digs, List.all_append, Bool.and_eq_true] at hs; exact hs.1
  have hdx : zga x.toNat = true := by
   have := hl'.eq
   rw [this] at hs; simp only [digs, List.all_append, List.all_cons, Bool.and_eq_true] at hs; exact hs.2.1
  have hx : 48 <= (x.toNat : Int) /\ (x.toNat : Int) <= 57 := by simpa [zga] using hdx
  obtain ⟨n0, n1⟩ := valGo_range d 0 n hdd (by omega) (by omega) hn
  have w1 : zca .i64 ((x.toNat : Int) - 48) = (x.toNat : Int) - 48 := zu (by omega) (by omega)
  have w2 : zca .i64 (9223372036854775807 - ((x.toNat : Int) - 48)) = 9223372036854775807 - ((x.toNat : Int) - 48) := zu (by omega) (by omega)
  have w3 : (9223372036854775807 - ((x.toNat : Int) - 48)).tdiv 10 = (9223372036854775807 - ((x.toNat : Int) - 48)) / 10 := Int.tdiv_eq_ediv_of_nonneg (by omega)
  have w4 : zca .i64 ((9223372036854775807 - ((x.toNat : Int) - 48)) / 10) = (9223372036854775807 - ((x.toNat : Int) - 48)) / 10 := zu (by omega) (by omega)
  have e1 : zOb 0 (d ++ [x]) = if (9223372036854775807 - ((x.toNat : Int) - 48)) / 10 < n then none else some (n * 10 + ((x.toNat : Int) - 48)) := by
   rw [valGo_append, hn]; simp only [Option.bind_some, zOb]
  rw [hn] at h3
  simp at h3
  clear h2 hp hs
  by_cases hc : (9223372036854775807 - ((x.toNat : Int) - 48)) / 10 < n
  ·have hv : valueM s = -1 := by
    unfold valueM
    have : zOb 0 s = none := by
     rw [hl'.eq, show d ++ x :: r = (d ++ [x]) ++ r by simp, valGo_append, e1, if_pos hc]; rfl
    rw [this]
   rw [if_pos hc] at e1
   (simp [*]) <;> (repeat' (first | ((first | refine sP _ ?_ ?_ | refine gP _ ?_ ?_ | refine sN _ ?_ ?_ | refine gN _ ?_ ?_) <;> intro hc <;> (first | replace hc := eqn hc | replace hc := eqp hc) <;> simp [*]) | ((first | refine sM _ ?_ ?_ | refine gM _ ?_ ?_ | refine sB _ ?_ ?_ | refine gB _ ?_ ?_) <;> intro hc <;> simp [*])))
  ·rw [if_neg hc] at e1
   have w5 : zca .i64 (n * 10) = n * 10 := zu (by omega) (by omega)
   have w6 : zca .i64 (n * 10 + ((x.toNat : Int) - 48)) = n * 10 + ((x.toNat : Int) - 48) := zu (by omega) (by omega)
   (simp [*]) <;> (repeat' (first | ((first | refine sP _ ?_ ?_ | refine gP _ ?_ ?_ | refine sN _ ?_ ?_ | refine gN _ ?_ ?_) <;> intro hc <;> (first | replace hc := eqn hc | replace hc := eqp hc) <;> simp [*]) | ((first | refine sM _ ?_ ?_ | refine gM _ ?_ ?_ | refine sB _ ?_ ?_ | refine gB _ ?_ ?_) <;> intro hc <;> simp [*])))
 ·intros s1 hp h1 h2 h3 h4
  simp at h1 h3
  obtain ⟨n, hn⟩ := Option.isSome_iff_exists.1 hp
  have hv : valueM s = if s = [] \/ (1 < s.length /\ s.head? = some 48) then -1 else n := by unfold valueM; rw [hn]
  rw [hn] at h3
  simp at h3
  clear h2 hp hs hn
  by_cases he : s = []
  ·subst he; (simp [*]) <;> (repeat' (first | ((first | refine sP _ ?_ ?_ | refine gP _ ?_ ?_ | refine sN _ ?_ ?_ | refine gN _ ?_ ?_) <;> intro hc <;> (first | replace hc := eqn hc | replace hc := eqp hc) <;> simp [*]) | ((first | refine sM _ ?_ ?_ | refine gM _ ?_ ?_ | refine sB _ ?_ ?_ | refine gB _ ?_ ?_) <;> intro hc <;> simp [*])))
  ·obtain ⟨b, r, rfl⟩ := List.exists_cons_of_ne_nil he
   simp at hv
   have hbb : ((b.toNat : Int) = 48) = (b = 48) := by
    apply propext
    constructor
    ·intro h; apply UInt8.toNat_inj.1; simpa using (by omega : b.toNat = 48)
    ·rintro rfl; rfl
   by_cases h1l : 0 < r.length
   ·have h1l' : (1 : Int) < (r.length : Int) + 1 := by omega
    by_cases hb : b = 48
    ·subst hb; (simp [*]) <;> (repeat' (first | ((first | refine sP _ ?_ ?_ | refine gP _ ?_ ?_ | refine sN _ ?_ ?_ | refine gN _ ?_ ?_) <;> intro hc <;> (first | replace hc := eqn hc | replace hc := eqp hc) <;> simp [*]) | ((first | refine sM _ ?_ ?_ | refine gM _ ?_ ?_ | refine sB _ ?_ ?_ | refine gB _ ?_ ?_) <;> intro hc <;> simp [*])))
    ·(simp [*]) <;> (repeat' (first | ((first | refine sP _ ?_ ?_ | refine gP _ ?_ ?_ | refine sN _ ?_ ?_ | refine gN _ ?_ ?_) <;> intro hc <;> (first | replace hc := eqn hc | replace hc := eqp hc) <;> simp [*]) | ((first | refine sM _ ?_ ?_ | refine gM _ ?_ ?_ | refine sB _ ?_ ?_ | refine gB _ ?_ ?_) <;> intro hc <;> simp [*])))
   ·have h1l' : ¬ (1 : Int) < (r.length : Int) + 1 := by omega
    (simp [*]) <;> (repeat' (first | ((first | refine sP _ ?_ ?_ | refine gP _ ?_ ?_ | refine sN _ ?_ ?_ | refine gN _ ?_ ?_) <;> intro hc <;> (first | replace hc := eqn hc | replace hc := eqp hc) <;> simp [*]) | ((first | refine sM _ ?_ ?_ | refine gM _ ?_ ?_ | refine sB _ ?_ ?_ | refine gB _ ?_ ?_) <;> intro hc <;> simp [*])))
def zMa (s : List UInt8) : Bool := digs s && decide (0 <= valueM s)
theorem number_spec (s : List UInt8) (hl : s.length < 1099511627776) : zz E 23 [.str s] [] = some (.ret (.bool (zMa s)), []) := by
 refine zr rfl rfl rfl (by simp) ?_
 simp [F23]
 refine zgb s K23_0 B23_0 (fun d => [(3, .int .i64 d.length)]) (fun _ => []) (fun d => digs d = true) (by omega) (by simp [digs]) ?_ ?_
 ·intros d x r s1 hl' hlt hget hget' hw hp h1 h2 h3 h4
  simp at h1 h3
  clear h2
  have hd := zY x.toNat []
  have hn : zga x.toNat = false -> zMa s = false := fun h => by
   unfold zMa digs
   rw [hl'.eq]; simp [h]
  have hdd : digs (d ++ [x]) = zga x.toNat := by simp only [digs] at hp ⊢; rw [List.all_append, hp]; simp
  cases hx : zga x.toNat
  ·have hn := hn hx
   rw [hx] at hdd
   (simp [*]) <;> (repeat' (first | ((first | refine sP _ ?_ ?_ | refine gP _ ?_ ?_ | refine sN _ ?_ ?_ | refine gN _ ?_ ?_) <;> intro hc <;> (first | replace hc := eqn hc | replace hc := eqp hc) <;> simp [*]) | ((first | refine sM _ ?_ ?_ | refine gM _ ?_ ?_ | refine sB _ ?_ ?_ | refine gB _ ?_ ?_) <;> intro hc <;> simp [*])))
  ·clear hn
   rw [hx] at hdd
   (simp [*]) <;> (repeat' (first | ((first | refine sP _ ?_ ?_ | refine gP _ ?_ ?_ | refine sN _ ?_ ?_ | refine gN _ ?_ ?_) <;> intro hc <;> (first | replace hc := eqn hc | replace hc := eqp hc) <;> simp [*]) | ((first | refine sM _ ?_ ?_ | refine gM _ ?_ ?_ | refine sB _ ?_ ?_ | refine gB _ ?_ ?_) <;> intro hc <;> simp [*])))
 ·intros s1 hp h1 h2 h3 h4
  simp at h1 h3
  have hv := value_spec' s [] hp hl
  have hn : zMa s = decide (0 <= valueM s) := by unfold zMa; rw [hp]; rfl
  clear h2 hp
  (simp [*]) <;> (repeat' (first | ((first | refine sP _ ?_ ?_ | refine gP _ ?_ ?_ | refine sN _ ?_ ?_ | refine gN _ ?_ ?_) <;> intro hc <;> (first | replace hc := eqn hc | replace hc := eqp hc) <;> simp [*]) | ((first | refine sM _ ?_ ?_ | refine gM _ ?_ ?_ | refine sB _ ?_ ?_ | refine gB _ ?_ ?_) <;> intro hc <;> simp [*])))
def zta : List (List UInt8) := [[62, 62, 62], [60, 60], [62, 62], [60, 61], [62, 61], [61, 61], [33, 61], [38, 38], [124, 124], [40], [41], [123], [125], [91], [93], [44], [59], [61], [60], [62], [43], [45], [42], [47], [37], [38], [124], [94], [126], [33]]
def zG (s : List UInt8) : List UInt8 := (zta.find? fun x => x.isPrefixOf s).getD []
theorem prefix_take (x s : List UInt8) : x.isPrefixOf s = (decide (x.length <= s.length) && decide (s.take x.length = x)) := by
 rw [Bool.eq_iff_iff]
 simp only [List.isPrefixOf_iff_prefix, Bool.and_eq_true, decide_eq_true_eq]
 constructor
 ·intro h; exact ⟨h.length_le, (List.prefix_iff_eq_take.1 h).symm⟩
 ·rintro ⟨_, h⟩; rw [<- h]; exact List.take_prefix _ _
theorem sign_spec (s : List UInt8) (hl : s.length < 1099511627776) : zz E 24 [.str s] [] = some (.ret (.str (zG s)), []) := by
 refine zr rfl rfl rfl (by simp) ?_
 simp [F24]
 refine zgb zta K24_0 B24_0 (fun d => [(4, .int .i64 d.length)]) (fun _ => []) (fun d => ∀ x ∈ d, x.isPrefixOf s = false) (by decide) (by simp) ?_ ?_
 ·intros d x r s1 hl' hlt hget hget' hw hp h1 h2 h3 h4
  have hl3 : [PV.str [62, 62, 62], PV.str [60, 60], PV.str [62, 62], PV.str [60, 61], PV.str [62, 61], PV.str [61, 61], PV.str [33, 61], PV.str [38, 38], PV.str [124, 124], PV.str [40], PV.str [41], PV.str [123], PV.str [125], PV.str [91], PV.str [93], PV.str [44], PV.str [59], PV.str [61], PV.str [60], PV.str [62], PV.str [43], PV.str [45], PV.str [42], PV.str [47], PV.str [37], PV.str [38], PV.str [124], PV.str [94], PV.str [126], PV.str [33]] = zta.map PV.str := rfl
  simp [hl3] at h1 h3
  clear h2
  have hlen : d.length < 30 := hlt
  have hl30 : (zta.map PV.str).length = 30 := rfl
  have hpre := prefix_take x s
  have hxl : x.length <= 3 := by
   have : ∀ y ∈ zta, y.length <= 3 := by decide
   exact this x hl'.mem
  have hf : x.isPrefixOf s = true -> zG s = x := by
   intro h
   unfold zG
   rw [hl'.eq, List.find?_append]
   have : d.find? (fun x => x.isPrefixOf s) = none := by rw [List.find?_eq_none]; intro y hy; simp [hp y hy]
   rw [this]
   simp [List.find?_cons, h]
  cases hx : x.isPrefixOf s
  ·rw [hx] at hpre
   by_cases hle : x.length <= s.length
   ·have hne : ¬ s.take x.length = x := by
     intro h; simp [hle, h] at hpre
    clear hf hpre hl3
    (simp [*]) <;> (repeat' (first | ((first | refine sP _ ?_ ?_ | refine gP _ ?_ ?_ | refine sN _ ?_ ?_ | refine gN _ ?_ ?_) <;> intro hc <;> (first | replace hc := eqn hc | replace hc := eqp hc) <;> simp [*]) | ((first | refine sM _ ?_ ?_ | refine gM _ ?_ ?_ | refine sB _ ?_ ?_ | refine gB _ ?_ ?_) <;> intro hc <;> simp [*])))
    all_goals (try refine ⟨rfl, ?_⟩)
    all_goals (try grind)
   ·clear hf hpre hl3
    (simp [*]) <;> (repeat' (first | ((first | refine sP _ ?_ ?_ | refine gP _ ?_ ?_ | refine sN _ ?_ ?_ | refine gN _ ?_ ?_) <;> intro hc <;> (first | replace hc := eqn hc | replace hc := eqp hc) <;> simp [*]) | ((first | refine sM _ ?_ ?_ | refine gM _ ?_ ?_ | refine sB _ ?_ ?_ | refine gB _ ?_ ?_) <;> intro hc <;> simp [*])))
    all_goals (try refine ⟨rfl, ?_⟩)
    all_goals (try grind)
  ·rw [hx] at hpre
   have hf := hf hx
   have hpre' := hpre.symm
   simp only [Bool.and_eq_true, decide_eq_true_eq] at hpre'
   obtain ⟨p1, p2⟩ := hpre'
   clear hl3 hpre
   (simp [*]) <;> (repeat' (first | ((first | refine sP _ ?_ ?_ | refine gP _ ?_ ?_ | refine sN _ ?_ ?_ | refine gN _ ?_ ?_) <;> intro hc <;> (first | replace hc := eqn hc | replace hc := eqp hc) <;> simp [*]) | ((first | refine sM _ ?_ ?_ | refine gM _ ?_ ?_ | refine sB _ ?_ ?_ | refine gB _ ?_ ?_) <;> intro hc <;> simp [*])))
   all_goals (try grind)
 ·intros s1 hp h1 h2 h3 h4
  have hl3 : [PV.str [62, 62, 62], PV.str [60, 60], PV.str [62, 62], PV.str [60, 61], PV.str [62, 61], PV.str [61, 61], PV.str [33, 61], PV.str [38, 38], PV.str [124, 124], PV.str [40], PV.str [41], PV.str [123], PV.str [125], PV.str [91], PV.str [93], PV.str [44], PV.str [59], PV.str [61], PV.str [60], PV.str [62], PV.str [43], PV.str [45], PV.str [42], PV.str [47], PV.str [37], PV.str [38], PV.str [124], PV.str [94], PV.str [126], PV.str [33]] = zta.map PV.str := rfl
  simp [hl3] at h1 h3
  have hf : zG s = [] := by
   unfold zG
   have : zta.find? (fun x => x.isPrefixOf s) = none := by rw [List.find?_eq_none]; intro y hy; simp [hp y hy]
   rw [this]; rfl
  have hl30 : (zta.map PV.str).length = 30 := rfl
  have hl30' : (zta.length : Int) = 30 := rfl
  clear h2 hp hl3
  (simp [*]) <;> (repeat' (first | ((first | refine sP _ ?_ ?_ | refine gP _ ?_ ?_ | refine sN _ ?_ ?_ | refine gN _ ?_ ?_) <;> intro hc <;> (first | replace hc := eqn hc | replace hc := eqp hc) <;> simp [*]) | ((first | refine sM _ ?_ ?_ | refine gM _ ?_ ?_ | refine sB _ ?_ ?_ | refine gB _ ?_ ?_) <;> intro hc <;> simp [*])))
end PE.U

namespace PE.U
open Go PE
theorem lead_ne : ∀ (k m : Nat), 0 < m -> m < 10 ^ (k + 1) -> (digF (k + 1) m).head? ≠ some 48 := by
  intro k
  induction k with
  | zero =>
   intro m hm hm2
   unfold digF
   rw [if_pos (by simpa using hm2)]
   intro e
   have := congrArg UInt8.toNat (Option.some.inj e)
   rw [UInt8.toNat_ofNat'] at this
   simp at hm2 this
   omega
  | succ k ih =>
   intro m hm hm2
   unfold digF
   split
   ·rename_i hm10
    intro e
    have := congrArg UInt8.toNat (Option.some.inj e)
    rw [UInt8.toNat_ofNat'] at this
    simp at this
    omega
   ·rename_i hm10
    have h1 := ih (m / 10) (by omega) (by rw [Nat.pow_succ] at hm2; omega)
    have h2 := digF_ne k (m / 10)
    cases hq : digF (k + 1) (m / 10) with
    | nil => exact absurd hq h2
    | cons b r => rw [hq] at h1; simpa using h1
theorem dec_dig : ∀ (k n : Nat), n < 10 ^ (k + 1) -> Lib.decDigits n = digF (k + 1) n
 | 0, n, h => by rw [Lib.decDigits, digF]; simp at h; simp [h]
 | k + 1, n, h => by
  rw [Lib.decDigits, digF]
  split
  ·rfl
  ·rw [dec_dig k (n / 10) (by rw [Nat.pow_succ] at h; omega)]
theorem itoa_dec (c : Nat) (h : c < 10 ^ 20) : Lib.itoa c = digitsM c := by
 have h0 : ¬ ((c : Int) < 0) := by omega
 unfold Lib.itoa digitsM
 rw [if_neg h0, Int.toNat_natCast, dec_dig 19 c h]
end PE.U

namespace PE.U
open Go PE
def zfa (w : List UInt8) (b : UInt8) : Int := if wordM w then 2 else if zK b.toNat then 1 else 0
def tokBad (w : List UInt8) (b : UInt8) : Bool := (decide (zfa w b = 1) && !nameM w) || (decide (zfa w b = 0) && !zMa w)
def blank (b : UInt8) : Bool := b == 32 || b == 9 || b == 13
def zR : Nat -> List UInt8 -> Int -> List Tok -> List Tok × Int × Int
 | 0, _, _, acc => (acc, 0, 0)
 | _ + 1, [], line, acc => (acc ++ [⟨3, [], line⟩], 0, 0)
 | n + 1, b :: r, line, acc =>
  if b = 10 then zR n r (line + 1) acc
  else if blank b then zR n r line acc
  else if b = 47 /\ r.head? = some 47 then zR n ((b :: r).dropWhile (· != 10)) line acc
  else if zd b then
   if tokBad ((b :: r).takeWhile zd) b then ([], 20, line)
   else zR n ((b :: r).drop ((b :: r).takeWhile zd).length) line (acc ++ [⟨zfa ((b :: r).takeWhile zd) b, (b :: r).takeWhile zd, line⟩])
  else if zG (b :: r) = [] then ([], 20, line)
  else zR n ((b :: r).drop (zG (b :: r)).length) line (acc ++ [⟨2, zG (b :: r), line⟩])
def ze (s : List UInt8) : List Tok × Int × Int := if 100000 < s.length then ([], 2, 0) else zR (s.length + 1) s 1 []
example : ze [105, 110, 116, 32, 120, 61, 49, 59, 10] = ([⟨2, [105, 110, 116], 1⟩, ⟨1, [120], 1⟩, ⟨2, [61], 1⟩, ⟨0, [49], 1⟩, ⟨2, [59], 1⟩, ⟨3, [], 2⟩], 0, 0) := by decide
theorem sign_len (s : List UInt8) : (zG s).length <= s.length := by
 unfold zG
 cases h : zta.find? (fun x => x.isPrefixOf s) with
 | none => simp
 | some x =>
  have := List.find?_some h
  simp only [List.isPrefixOf_iff_prefix] at this
  simpa using this.length_le
end PE.U

namespace PE.U
open Go PE
theorem zN {s : List UInt8} {i : Nat} (h : i < s.length) : s.drop i = s[i] :: s.drop (i + 1) := List.drop_eq_getElem_cons h
theorem takeWhile_all (p : UInt8 -> Bool) (l : List UInt8) (j : Nat) (h : j < (l.takeWhile p).length) (h' : j < l.length) : p l[j] = true := by
 have h1 : (l.takeWhile p)[j] = l[j] := by
  have := List.takeWhile_prefix (l := l) (p := p)
  exact this.getElem h
 rw [<- h1]
 exact (List.all_eq_true.1 (List.all_takeWhile (l := l) (p := p))) _ (List.getElem_mem h)
theorem zBb (p : UInt8 -> Bool) : ∀ (l : List UInt8) (h : (l.takeWhile p).length < l.length), p (l[(l.takeWhile p).length]) = false
 | [], h => by simp at h
 | b :: r, h => by
  cases hp : p b
  ·have e : (b :: r).takeWhile p = [] := by simp [hp]
   simp only [e]; simpa using hp
  ·have e : (b :: r).takeWhile p = b :: r.takeWhile p := by simp [hp]
   simp only [e, List.length_cons, List.getElem_cons_succ]
   exact zBb p r (by rw [e] at h; simpa using h)
theorem zOa (p : UInt8 -> Bool) (l : List UInt8) : l.dropWhile p = l.drop (l.takeWhile p).length := by
 induction l with
 | nil => rfl
 | cons b r ih =>
  cases hp : p b <;> simp [hp, ih]
theorem zEb (p : UInt8 -> Bool) (l : List UInt8) : l.takeWhile p = l.take (l.takeWhile p).length := by
 induction l with
 | nil => rfl
 | cons b r ih =>
  cases hp : p b
  ·simp [hp]
  ·simp only [List.takeWhile_cons, hp, if_true, List.length_cons, List.take_succ_cons]; rw [<- ih]
def zea (s : List UInt8) (at' : Nat) : Nat := ((s.drop at').takeWhile zd).length
theorem runLen_le (s : List UInt8) (i : Nat) (h : i <= s.length) : i + zea s i <= s.length := by
 unfold zea
 have := (List.takeWhile_prefix (l := s.drop i) (p := zd)).length_le
 simp at this; omega
theorem runLen_in (s : List UInt8) (i j : Nat) (h : j < zea s i) (h' : i + j < s.length) : zd (s[i + j]) = true := by
 have := takeWhile_all zd (s.drop i) j h (by simp; omega)
 simpa using this
theorem runLen_end (s : List UInt8) (i : Nat) (h : i + zea s i < s.length) : zd (s[i + zea s i]) = false := by
 unfold zea at h ⊢
 have := zBb zd (s.drop i) (by simp; omega)
 simpa using this
def comLen (s : List UInt8) (i : Nat) : Nat := ((s.drop i).takeWhile (· != 10)).length
theorem comLen_le (s : List UInt8) (i : Nat) (h : i <= s.length) : i + comLen s i <= s.length := by
 unfold comLen
 have := (List.takeWhile_prefix (l := s.drop i) (p := (· != 10))).length_le
 simp at this; omega
theorem comLen_in (s : List UInt8) (i j : Nat) (h : j < comLen s i) (h' : i + j < s.length) : ¬ s[i + j] = 10 := by
 have := takeWhile_all (· != 10) (s.drop i) j h (by simp; omega)
 simpa using this
theorem comLen_end (s : List UInt8) (i : Nat) (h : i + comLen s i < s.length) : s[i + comLen s i] = 10 := by
 unfold comLen at h ⊢
 have := zBb (· != 10) (s.drop i) (by simp; omega)
 simpa using this
structure TS where
 at' : Nat
 line : Nat
 acc : List Tok
def OnRoad (s : List UInt8) (c : TS) : Prop := c.at' <= s.length /\ c.line <= c.at' + 1 /\ c.acc.length <= c.at' /\ ∃ n, s.length - c.at' < n /\ zR (s.length + 1) s 1 [] = zR n (s.drop c.at') c.line c.acc
theorem getD_idx {s : List UInt8} {i : Nat} (h : i < s.length) : s[i]? = some s[i] := by simp [h]
end PE.U

namespace PE.U
open Go PE
abbrev zHa (r : List Tok × Int × Int) : List PV := [toks r.1, .int .i64 r.2.1, .int .i64 r.2.2]
theorem road_nl {s : List UInt8} {i line : Nat} {ac : List Tok} (h : OnRoad s ⟨i, line, ac⟩) (hi : i < s.length) (hb : (s[i].toNat : Int) = 10) : OnRoad s ⟨i + 1, line + 1, ac⟩ := by
 obtain ⟨h1, h2, h3, n, h4, h5⟩ := h
 simp only at h1 h2 h3 h4 h5
 obtain ⟨n, rfl⟩ : ∃ m, n = m + 1 := ⟨n - 1, by omega⟩
 have hb' : s[i] = 10 := UInt8.toNat_inj.1 (by simp; omega)
 refine ⟨by simp only; omega, by simp only; omega, by simp only; omega, n, by simp only; omega, ?_⟩
 rw [h5, zN hi]
 simp [zR, hb']
theorem road_blank {s : List UInt8} {i line : Nat} {ac : List Tok} (h : OnRoad s ⟨i, line, ac⟩) (hi : i < s.length) (hb : blank s[i] = true) : OnRoad s ⟨i + 1, line, ac⟩ := by
 obtain ⟨h1, h2, h3, n, h4, h5⟩ := h
 simp only at h1 h2 h3 h4 h5
 obtain ⟨n, rfl⟩ : ∃ m, n = m + 1 := ⟨n - 1, by omega⟩
 have hb' : ¬ s[i] = 10 := by intro h; rw [h] at hb; exact absurd hb (by decide)
 refine ⟨by simp only; omega, by simp only; omega, by simp only; omega, n, by simp only; omega, ?_⟩
 rw [h5, zN hi]
 simp [zR, hb', hb]
theorem road_com {s : List UInt8} {i line : Nat} {ac : List Tok} (h : OnRoad s ⟨i, line, ac⟩) (hi : i < s.length) (hb : (s[i].toNat : Int) = 47) (hi2 : i + 1 < s.length) (hb2 : (s[i + 1].toNat : Int) = 47) : OnRoad s ⟨i + comLen s i, line, ac⟩ /\ 0 < comLen s i := by
 obtain ⟨h1, h2, h3, n, h4, h5⟩ := h
 simp only at h1 h2 h3 h4 h5
 obtain ⟨n, rfl⟩ : ∃ m, n = m + 1 := ⟨n - 1, by omega⟩
 have hb' : s[i] = 47 := UInt8.toNat_inj.1 (by simp; omega)
 have hb2' : s[i + 1] = 47 := UInt8.toNat_inj.1 (by simp; omega)
 have hpos : 0 < comLen s i := by
  unfold comLen; rw [zN hi, List.takeWhile_cons]; simp [hb']
 have hle := comLen_le s i h1
 refine ⟨⟨by simp only; omega, by simp only; omega, by simp only; omega, n, by simp only; omega, ?_⟩, hpos⟩
 have e : (s[i] :: s.drop (i + 1)).dropWhile (· != 10) = s.drop (i + comLen s i) := by
  rw [<- zN hi, zOa, List.drop_drop]; rfl
 have hh : (s.drop (i + 1)).head? = some 47 := by rw [zN hi2, hb2']; rfl
 rw [h5, zN hi]
 simp only [zR]
 rw [if_neg (by rw [hb']; decide), if_neg (by rw [hb']; decide), if_pos ⟨hb', hh⟩, e]
structure Plain (s : List UInt8) (i : Nat) (hi : i < s.length) : Prop where
 nl : ¬ (s[i].toNat : Int) = 10
 blank : blank s[i] = false
 com : ¬ (s[i] = 47 /\ (s.drop (i + 1)).head? = some 47)
theorem road_name {s : List UInt8} {i line : Nat} {ac : List Tok} (h : OnRoad s ⟨i, line, ac⟩) (hi : i < s.length) (hp : Plain s i hi) (hn : zd s[i] = true) :
  (tokBad ((s.take (i + zea s i)).drop i) s[i] = true -> zR (s.length + 1) s 1 [] = ([], 20, (line : Int))) ∧
  (tokBad ((s.take (i + zea s i)).drop i) s[i] = false -> OnRoad s ⟨i + zea s i, line, ac ++ [⟨zfa ((s.take (i + zea s i)).drop i) s[i], (s.take (i + zea s i)).drop i, line⟩]⟩) := by
 obtain ⟨h1, h2, h3, n, h4, h5⟩ := h
 simp only at h1 h2 h3 h4 h5
 obtain ⟨n, rfl⟩ : ∃ m, n = m + 1 := ⟨n - 1, by omega⟩
 have hnl : ¬ s[i] = 10 := by intro h; exact hp.nl (by rw [h]; rfl)
 have hpos : 0 < zea s i := by
  unfold zea; rw [zN hi, List.takeWhile_cons]; simp [hn]
 have hle := runLen_le s i h1
 have e : (s[i] :: s.drop (i + 1)).takeWhile zd = (s.take (i + zea s i)).drop i := by
  rw [<- zN hi, zEb]
  rw [List.drop_take]; congr 1; unfold zea; omega
 have el : ((s.take (i + zea s i)).drop i).length = zea s i := by simp; omega
 have hs : ∀ k : Nat, zR (k + 1) (s[i] :: s.drop (i + 1)) line ac = if tokBad ((s.take (i + zea s i)).drop i) s[i] then ([], 20, (line : Int)) else zR k (s.drop (i + zea s i)) line (ac ++ [⟨zfa ((s.take (i + zea s i)).drop i) s[i], (s.take (i + zea s i)).drop i, line⟩]) := by
  intro k
  simp only [zR]
  rw [if_neg hnl, if_neg (by rw [hp.blank]; decide), if_neg hp.com, if_pos hn, e, el]
  rw [<- zN hi, List.drop_drop]
 refine ⟨fun hb => by rw [h5, zN hi, hs, if_pos hb], fun hb => ⟨by simp only; omega, by simp only; omega, by simp only [List.length_append, List.length_cons, List.length_nil]; omega, n, by simp only; omega, ?_⟩⟩
 rw [h5, zN hi, hs, if_neg (by rw [hb]; decide)]
theorem road_sign {s : List UInt8} {i line : Nat} {ac : List Tok} (h : OnRoad s ⟨i, line, ac⟩) (hi : i < s.length) (hp : Plain s i hi) (hn : zd s[i] = false) :
  (zG (s.drop i) = [] -> zR (s.length + 1) s 1 [] = ([], 20, (line : Int))) ∧
  (¬ zG (s.drop i) = [] -> OnRoad s ⟨i + (zG (s.drop i)).length, line, ac ++ [⟨2, zG (s.drop i), line⟩]⟩) := by
 obtain ⟨h1, h2, h3, n, h4, h5⟩ := h
 simp only at h1 h2 h3 h4 h5
 obtain ⟨n, rfl⟩ : ∃ m, n = m + 1 := ⟨n - 1, by omega⟩
 have hnl : ¬ s[i] = 10 := by intro h; exact hp.nl (by rw [h]; rfl)
 have hle := sign_len (s.drop i)
 rw [List.length_drop] at hle
 have hs : ∀ k : Nat, zR (k + 1) (s.drop i) line ac = if zG (s.drop i) = [] then ([], 20, (line : Int)) else zR k (s.drop (i + (zG (s.drop i)).length)) line (ac ++ [⟨2, zG (s.drop i), line⟩]) := by
  intro k
  rw [<- List.drop_drop]
  rw [zN hi]
  simp only [zR]
  rw [if_neg hnl, if_neg (by rw [hp.blank]; decide), if_neg hp.com, if_neg (by rw [hn]; decide)]
 refine ⟨fun hb => by rw [h5, hs, if_pos hb], fun hb => ?_⟩
 have hpos : 0 < (zG (s.drop i)).length := List.length_pos_iff.2 hb
 refine ⟨by simp only; omega, by simp only; omega, by simp only [List.length_append, List.length_cons, List.length_nil]; omega, n, by simp only; omega, ?_⟩
 rw [h5, hs, if_neg hb]
theorem ub_eq (b : UInt8) (n : Nat) (h : n < 256) : (b == UInt8.ofNat n) = decide ((b.toNat : Int) = n) := by
 rw [Bool.eq_iff_iff]
 simp only [beq_iff_eq, decide_eq_true_eq]
 constructor
 ·rintro rfl; simp; omega
 ·intro h2; apply UInt8.toNat_inj.1; simp; omega
theorem blank_eq (b : UInt8) : blank b = (decide ((b.toNat : Int) = 32) || (decide ((b.toNat : Int) = 9) || decide ((b.toNat : Int) = 13))) := by
 unfold blank
 rw [show (32 : UInt8) = UInt8.ofNat 32 from rfl, show (9 : UInt8) = UInt8.ofNat 9 from rfl, show (13 : UInt8) = UInt8.ofNat 13 from rfl, ub_eq _ _ (by omega), ub_eq _ _ (by omega), ub_eq _ _ (by omega), Bool.or_assoc]
 rfl
theorem run_zero {s : List UInt8} {i : Nat} (hi : i < s.length) : zea s i = 0 <-> zd s[i] = false := by
 unfold zea
 rw [zN hi, List.takeWhile_cons]
 cases zd s[i] <;> simp
set_option maxHeartbeats 4000000 in
set_option maxRecDepth 3000 in
theorem tokens_spec (s : List UInt8) : zz E 10 [.str s] [] = some (.ret (.tup (zHa (ze s))), []) := by
 refine zr rfl rfl rfl (by simp) ?_
 by_cases hlong : 100000 < s.length
 ·have e : ze s = ([], 2, 0) := by unfold ze; rw [if_pos hlong]
  have hlong' : (100000 : Int) < s.length := by omega
  simp [F10, hlong', e, zHa, toks]
 have e0 : ze s = zR (s.length + 1) s 1 [] := by unfold ze; rw [if_neg hlong]
 have hlong' : ¬ (100000 : Int) < s.length := by omega
 simp [F10, hlong', zHa, toks]
 refine wp_while K10_2 B10_2 (fun c : TS => s.length - c.at') (fun c => [(7, .int .i64 c.at'), (6, .int .i64 c.line), (5, acc 3 (c.acc.map zf))]) (fun _ => []) (fun _ => []) (OnRoad s) ⟨0, 1, []⟩ ⟨?_, ?_, ?_, ?_⟩ ?_
 ·simp
 ·simp
 ·simp
 ·exact ⟨by simp, by simp, by simp, s.length + 1, by simp, by simp⟩
 rintro ⟨i, line, ac⟩ s1 ⟨hi, hline, hac, n, hn, hg⟩ h1 h2 h3 _ h4
 simp at hi hline hac hn hg h1 h3
 have w0 : zca .i64 ((i : Int) + 1) = (i : Int) + 1 := zu (by omega) (by omega)
 have w1 : zca .i64 ((line : Int) + 1) = (line : Int) + 1 := zu (by omega) (by omega)
 have hroad : OnRoad s ⟨i, line, ac⟩ := ⟨hi, hline, hac, n, hn, hg⟩
 obtain ⟨n, rfl⟩ : ∃ m, n = m + 1 := ⟨n - 1, by omega⟩
 by_cases hend : ¬ i < s.length
 ·have he : i = s.length := by omega
  subst he
  have e1 : ze s = (ac ++ [⟨3, [], line⟩], 0, 0) := by rw [e0, hg]; simp [zR]
  have q4 : (ac.length + 1) * 32 <= zH := by simp only [zH]; omega
  clear hg e0 hroad
  (simp [*, zf]) <;> (repeat' (first | ((first | refine sP _ ?_ ?_ | refine gP _ ?_ ?_ | refine sN _ ?_ ?_ | refine gN _ ?_ ?_) <;> intro hc <;> (first | replace hc := eqn hc | replace hc := eqp hc) <;> simp [*, zf]) | ((first | refine sM _ ?_ ?_ | refine gM _ ?_ ?_ | refine sB _ ?_ ?_ | refine gB _ ?_ ?_) <;> intro hc <;> simp [*, zf])))
 have hend := Decidable.of_not_not hend
 have hi2 : (i : Int) < s.length := by omega
 have hgi := getD_idx hend
 clear hg hn
 have hget : s[i]? = some s[i] := by simp [hend]
 -- the run
 have hrun : ∀ (s2 : St) (Q : Ex -> St -> Prop), (∀ t ∈ K10_0, s2.fr t = s2.fr t) -> True := fun _ _ _ => trivial
 clear hrun
 have hrl := runLen_le s i hi
 have hri := runLen_in s i
 have hre := runLen_end s i
 generalize hk : zea s i = k at *
 simp [h1, h3, h4, hend]
 refine zgb (List.range k) K10_0 B10_0 (fun d => [(9, .int .i64 d.length)]) (fun _ => []) (fun d => True) (by simp; omega) (by simp; try exact h4) ?_ ?_
 ·intros d x r s3 hl' hlt hget2 hget' hw hp h1' h2' h3' h4'
  simp at h1' h3' hlt
  simp at h2'
  clear hget2 hget' hl'
  have hq : i + d.length < s.length := by omega
  have hcb := hri d.length hlt hq
  have hgc : s[i + d.length]? = some s[i + d.length] := by simp [hq]
  generalize s[i + d.length] = c at hcb hgc
  have l1 := zI c.toNat []
  have l2 := zY c.toNat []
  have wi : zca .i64 ((i : Int) + d.length) = ((i + d.length : Nat) : Int) := zu (by omega) (by omega)
  clear h1 h2 h3 e0 hgi hget hre hri hroad
  generalize i + d.length = q at *
  have hgc' : s[q]'hq = c := by simpa [hq] using hgc
  simp only [zd, Bool.or_eq_true] at hcb
  cases hx : zK c.toNat
  ·have hy : zga c.toNat = true := by simpa [hx] using hcb
   clear hcb
   (simp [*]) <;> (repeat' (first | ((first | refine sP _ ?_ ?_ | refine gP _ ?_ ?_ | refine sN _ ?_ ?_ | refine gN _ ?_ ?_) <;> intro hc <;> (first | replace hc := eqn hc | replace hc := eqp hc) <;> simp [*]) | ((first | refine sM _ ?_ ?_ | refine gM _ ?_ ?_ | refine sB _ ?_ ?_ | refine gB _ ?_ ?_) <;> intro hc <;> simp [*])))
   all_goals (try grind)
  ·clear hcb
   (simp [*]) <;> (repeat' (first | ((first | refine sP _ ?_ ?_ | refine gP _ ?_ ?_ | refine sN _ ?_ ?_ | refine gN _ ?_ ?_) <;> intro hc <;> (first | replace hc := eqn hc | replace hc := eqp hc) <;> simp [*]) | ((first | refine sM _ ?_ ?_ | refine gM _ ?_ ?_ | refine sB _ ?_ ?_ | refine gB _ ?_ ?_) <;> intro hc <;> simp [*])))
   all_goals (try grind)
 ·intros s3 hp h1' h2' h3' h4'
  simp at h1' h2' h3'
  clear h1 h2 h3 hri hp
  have wk : ∃ q : Nat, q = i + k /\ zca .i64 ((i : Int) + k) = (q : Int) /\ (q = s.length \/ ∃ c, ∃ h : q < s.length, s[q]'h = c /\ s[q]? = some c /\ zK c.toNat = false /\ zga c.toNat = false) := by
   refine ⟨i + k, rfl, zu (by omega) (by omega), ?_⟩
   by_cases h : i + k < s.length
   ·have := hre h
    simp only [zd, Bool.or_eq_false_iff] at this
    exact Or.inr ⟨s[i + k], h, rfl, by simp [h], this.1, this.2⟩
   ·exact Or.inl (by omega)
  obtain ⟨q, hq, wk, hstop⟩ := wk
  clear hre
  have hz := run_zero hend
  rw [hk] at hz
  have b10 := fun h => road_nl hroad hend h
  have bbl := fun h => road_blank hroad hend h
  have bcom := fun h => road_com hroad hend h
  have bname := fun hp h => road_name hroad hend hp h
  have bsign := fun hp h => road_sign hroad hend hp h
  rw [hk] at bname
  have hle := comLen_le s i hi
  have hci := comLen_in s i
  have hce := comLen_end s i
  generalize hbb : s[i] = b at *
  have l1 := zI b.toNat []
  have hbl : blank b = (decide ((b.toNat : Int) = 32) || (decide ((b.toNat : Int) = 9) || decide ((b.toNat : Int) = 13))) := blank_eq b
  by_cases c10 : (b.toNat : Int) = 10
  ·have r := b10 c10
   clear b10 bbl bcom bname bsign hz hroad e0 hle hci hce hq hbl
   replace c10 := eqp c10
   rcases hstop with hst | ⟨c, hst, g1, g2, g3, g4⟩
   ·(simp [*]) <;> (repeat' (first | ((first | refine sP _ ?_ ?_ | refine gP _ ?_ ?_ | refine sN _ ?_ ?_ | refine gN _ ?_ ?_) <;> intro hc <;> (first | replace hc := eqn hc | replace hc := eqp hc) <;> simp [*]) | ((first | refine sM _ ?_ ?_ | refine gM _ ?_ ?_ | refine sB _ ?_ ?_ | refine gB _ ?_ ?_) <;> intro hc <;> simp [*])))
    all_goals exact ⟨⟨i + 1, line + 1, ac⟩, by simp only; omega, ⟨by simp, by simp, rfl⟩, r⟩
   ·have l2 := zI c.toNat []
    have l3 := zY c.toNat []
    (simp [*]) <;> (repeat' (first | ((first | refine sP _ ?_ ?_ | refine gP _ ?_ ?_ | refine sN _ ?_ ?_ | refine gN _ ?_ ?_) <;> intro hc <;> (first | replace hc := eqn hc | replace hc := eqp hc) <;> simp [*]) | ((first | refine sM _ ?_ ?_ | refine gM _ ?_ ?_ | refine sB _ ?_ ?_ | refine gB _ ?_ ?_) <;> intro hc <;> simp [*])))
    all_goals exact ⟨⟨i + 1, line + 1, ac⟩, by simp only; omega, ⟨by simp, by simp, rfl⟩, r⟩
  replace c10 := eqn c10
  cases hcb : blank b
  ·rw [hcb] at hbl
   replace hbl := hbl.symm
   simp only [Bool.or_eq_false_iff, decide_eq_false_iff_not] at hbl
   obtain ⟨c1, c2, c3⟩ := hbl
   have hpl : ¬ (b = 47 /\ (s.drop (i + 1)).head? = some 47) -> Plain s i hend := fun h => ⟨by rw [hbb]; simpa using c10, by rw [hbb]; exact hcb, by rw [hbb]; exact h⟩
   replace c1 := eqn c1
   replace c2 := eqn c2
   replace c3 := eqn c3
   have w1' : zca .i64 ((i : Int) + 1) = ((i + 1 : Nat) : Int) := by rw [w0]; simp
   by_cases hcom : (b.toNat : Int) = 47 /\ ∃ h : i + 1 < s.length, (s[i + 1].toNat : Int) = 47
   ·obtain ⟨c4, hj, c5⟩ := hcom
    obtain ⟨r, hpos⟩ := bcom c4 hj c5
    clear b10 bbl bcom bname bsign hz hroad e0 hq hpl hcb
    replace c4 := eqp c4
    have gj : s[i + 1]? = some s[i + 1] := by simp [hj]
    have gj' : s[i + 1]'hj = s[i + 1] := rfl
    generalize hm : comLen s i = m at *
    generalize hbj : s[i + 1] = bj at *
    have hj' : (i : Int) + 1 < s.length := by omega
    have tj : ((i : Int) + 1).toNat = i + 1 := by omega
    have nj : (0 : Int) <= (i : Int) + 1 := by omega
    replace c5 := eqp c5
    clear w1'
    rcases hstop with hst | ⟨c, hst, g1, g2, g3, g4⟩
    ·(simp [*]) <;> (repeat' (first | ((first | refine sP _ ?_ ?_ | refine gP _ ?_ ?_ | refine sN _ ?_ ?_ | refine gN _ ?_ ?_) <;> intro hc <;> (first | replace hc := eqn hc | replace hc := eqp hc) <;> simp [*]) | ((first | refine sM _ ?_ ?_ | refine gM _ ?_ ?_ | refine sB _ ?_ ?_ | refine gB _ ?_ ?_) <;> intro hc <;> simp [*])))
     refine zgb (List.range m) K10_1 B10_1 (fun d => [(7, .int .i64 ((i + d.length : Nat) : Int))]) (fun _ => []) (fun _ => True) (by simp; omega) (by simp) ?_ ?_
     ·intros d x r' s4 hl' hlt hget2 hget' hw hp h1'' h2'' h3'' h4''
      simp at h1'' h3'' hlt
      have hq2 : i + d.length < s.length := by omega
      have hcb := hci d.length hlt hq2
      have hgc : s[i + d.length]? = some s[i + d.length] := by simp [hq2]
      have hcb' : ¬ (s[i + d.length].toNat : Int) = 10 := fun h => hcb (UInt8.toNat_inj.1 (by simp; omega))
      have wi : zca .i64 ((i : Int) + d.length + 1) = ((i : Int) + d.length) + 1 := zu (by omega) (by omega)
      have a0 : (0 : Int) <= (i : Int) + d.length := by omega
      have a1 : ((i : Int) + d.length).toNat = i + d.length := by omega
      have a2 : (i : Int) + d.length < s.length := by omega
      have a3 : (i : Int) + (d.length + 1) = (i : Int) + d.length + 1 := by omega
      obtain ⟨c2, hgc'⟩ : ∃ c2, s[i + d.length]'hq2 = c2 := ⟨_, rfl⟩
      rw [hgc'] at hcb hgc hcb'
      replace hcb' := eqn hcb'
      clear hci hce hget2 hget' hl' hbb hgi hget gj gj' h2'' hcb
      simp [*]
     ·intros s4 hp h1'' h2'' h3'' h4''
      simp at h1'' h3''
      have a0 : (0 : Int) <= (i : Int) + m := by omega
      have a1 : ((i : Int) + m).toNat = i + m := by omega
      clear hci hbb hgi hget gj gj' h2''
      by_cases hmm : i + m < s.length
      ·have hcb := hce hmm
       have hgc : s[i + m]? = some s[i + m] := by simp [hmm]
       have a2 : (i : Int) + m < s.length := by omega
       rw [hcb] at hgc
       clear hce
       simp [*]
       exact ⟨⟨i + m, line, ac⟩, by simp only; omega, ⟨by simp, by simp, rfl⟩, r⟩
      ·have a2 : ¬ (i : Int) + m < s.length := by omega
       clear hce
       simp [*]
       exact ⟨⟨i + m, line, ac⟩, by simp only; omega, ⟨by simp, by simp, rfl⟩, r⟩
    ·have l2 := zI c.toNat []
     have l3 := zY c.toNat []
     (simp [*]) <;> (repeat' (first | ((first | refine sP _ ?_ ?_ | refine gP _ ?_ ?_ | refine sN _ ?_ ?_ | refine gN _ ?_ ?_) <;> intro hc <;> (first | replace hc := eqn hc | replace hc := eqp hc) <;> simp [*]) | ((first | refine sM _ ?_ ?_ | refine gM _ ?_ ?_ | refine sB _ ?_ ?_ | refine gB _ ?_ ?_) <;> intro hc <;> simp [*])))
     refine zgb (List.range m) K10_1 B10_1 (fun d => [(7, .int .i64 ((i + d.length : Nat) : Int))]) (fun _ => []) (fun _ => True) (by simp; omega) (by simp) ?_ ?_
     ·intros d x r' s4 hl' hlt hget2 hget' hw hp h1'' h2'' h3'' h4''
      simp at h1'' h3'' hlt
      have hq2 : i + d.length < s.length := by omega
      have hcb := hci d.length hlt hq2
      have hgc : s[i + d.length]? = some s[i + d.length] := by simp [hq2]
      have hcb' : ¬ (s[i + d.length].toNat : Int) = 10 := fun h => hcb (UInt8.toNat_inj.1 (by simp; omega))
      have wi : zca .i64 ((i : Int) + d.length + 1) = ((i : Int) + d.length) + 1 := zu (by omega) (by omega)
      have a0 : (0 : Int) <= (i : Int) + d.length := by omega
      have a1 : ((i : Int) + d.length).toNat = i + d.length := by omega
      have a2 : (i : Int) + d.length < s.length := by omega
      have a3 : (i : Int) + (d.length + 1) = (i : Int) + d.length + 1 := by omega
      obtain ⟨c2, hgc'⟩ : ∃ c2, s[i + d.length]'hq2 = c2 := ⟨_, rfl⟩
      rw [hgc'] at hcb hgc hcb'
      replace hcb' := eqn hcb'
      clear hci hce hget2 hget' hl' hbb hgi hget gj gj' h2'' hcb
      simp [*]
     ·intros s4 hp h1'' h2'' h3'' h4''
      simp at h1'' h3''
      have a0 : (0 : Int) <= (i : Int) + m := by omega
      have a1 : ((i : Int) + m).toNat = i + m := by omega
      clear hci hbb hgi hget gj gj' h2''
      by_cases hmm : i + m < s.length
      ·have hcb := hce hmm
       have hgc : s[i + m]? = some s[i + m] := by simp [hmm]
       have a2 : (i : Int) + m < s.length := by omega
       rw [hcb] at hgc
       clear hce
       simp [*]
       exact ⟨⟨i + m, line, ac⟩, by simp only; omega, ⟨by simp, by simp, rfl⟩, r⟩
      ·have a2 : ¬ (i : Int) + m < s.length := by omega
       clear hce
       simp [*]
       exact ⟨⟨i + m, line, ac⟩, by simp only; omega, ⟨by simp, by simp, rfl⟩, r⟩
   ·clear bcom hci hce hle
    replace hpl := hpl (by
     rintro ⟨h1, h2⟩
     apply hcom
     refine ⟨by rw [h1]; rfl, ?_⟩
     by_cases hj : i + 1 < s.length
     ·refine ⟨hj, ?_⟩
      rw [zN hj] at h2
      simp at h2
      have h3 : s[i + 1] = 47 := by
       have : s[i + 1]? = some s[i + 1] := by simp [hj]
       rw [this] at h2; simpa using h2
      rw [h3]; rfl
     ·rw [List.drop_eq_nil_of_le (by omega)] at h2; simp at h2)
    have q4 : (ac.length + 1) * 32 <= zH := by simp only [zH]; omega
    cases hnb : zd b
    ·obtain ⟨s0, s1⟩ := bsign hpl hnb
     have hk0 : k = 0 := hz.2 hnb
     have hs := sign_spec (s.drop i) (by simp; omega)
     have hsl := sign_len (s.drop i)
     simp at hsl
     generalize hsg : zG (s.drop i) = sg at *
     have hcc : (¬ (b.toNat : Int) = 47) \/ ((b.toNat : Int) = 47 /\ (i + 1 = s.length \/ ∃ h : i + 1 < s.length, ¬ (s[i + 1].toNat : Int) = 47)) := by
      by_cases c4 : (b.toNat : Int) = 47
      ·right; refine ⟨c4, ?_⟩
       by_cases hj : i + 1 < s.length
       ·exact Or.inr ⟨hj, fun h => hcom ⟨c4, hj, h⟩⟩
       ·exact Or.inl (by omega)
      ·exact Or.inl c4
     have he : sg = [] -> ze s = ([], 20, (line : Int)) := fun h => by rw [e0]; exact s0 h
     have hnb' := hnb
     clear b10 bbl bname bsign hz hcb hcom hpl hroad s0 hnb e0 hk hrl hsg
     subst hk0
     have hwi : zca .i64 ((i : Int) + sg.length) = ((i + sg.length : Nat) : Int) := zu (by omega) (by omega)
     have hii : i <= s.length := hi
     generalize hq2 : i + sg.length = q2 at *
     have wi0 : zca .i64 (i : Int) = i := zu (by omega) (by omega)
     have l3 := zY b.toNat []
     simp only [zd, Bool.or_eq_false_iff] at hnb'
     obtain ⟨g3, g4⟩ := hnb'
     clear hq hstop wk
     rcases hcc with c4 | ⟨c4, hj | ⟨hj, c5⟩⟩
     ·replace c4 := eqn c4
      by_cases hsn : sg = []
      ·replace he := he hsn
       subst hsn
       clear s1
       (simp [*]) <;> (repeat' (first | ((first | refine sP _ ?_ ?_ | refine gP _ ?_ ?_ | refine sN _ ?_ ?_ | refine gN _ ?_ ?_) <;> intro hc <;> (first | replace hc := eqn hc | replace hc := eqp hc) <;> simp [*]) | ((first | refine sM _ ?_ ?_ | refine gM _ ?_ ?_ | refine sB _ ?_ ?_ | refine gB _ ?_ ?_) <;> intro hc <;> simp [*])))
      ·replace s1 := s1 hsn
       have hpos : 0 < sg.length := List.length_pos_iff.2 hsn
       replace hsn := eqn hsn
       clear he
       (simp [*, zf]) <;> (repeat' (first | ((first | refine sP _ ?_ ?_ | refine gP _ ?_ ?_ | refine sN _ ?_ ?_ | refine gN _ ?_ ?_) <;> intro hc <;> (first | replace hc := eqn hc | replace hc := eqp hc) <;> simp [*, zf]) | ((first | refine sM _ ?_ ?_ | refine gM _ ?_ ?_ | refine sB _ ?_ ?_ | refine gB _ ?_ ?_) <;> intro hc <;> simp [*, zf])))
       all_goals exact ⟨⟨q2, line, ac ++ [⟨2, sg, line⟩]⟩, by simp only; omega, ⟨by first | rfl | omega | (simp only; omega), by simp, by simp [zf]⟩, s1⟩
     ·replace c4 := eqp c4
      have hj1 : ¬ (i : Int) + 1 < s.length := by omega
      by_cases hsn : sg = []
      ·replace he := he hsn
       subst hsn
       clear s1
       (simp [*]) <;> (repeat' (first | ((first | refine sP _ ?_ ?_ | refine gP _ ?_ ?_ | refine sN _ ?_ ?_ | refine gN _ ?_ ?_) <;> intro hc <;> (first | replace hc := eqn hc | replace hc := eqp hc) <;> simp [*]) | ((first | refine sM _ ?_ ?_ | refine gM _ ?_ ?_ | refine sB _ ?_ ?_ | refine gB _ ?_ ?_) <;> intro hc <;> simp [*])))
      ·replace s1 := s1 hsn
       have hpos : 0 < sg.length := List.length_pos_iff.2 hsn
       replace hsn := eqn hsn
       clear he
       (simp [*, zf]) <;> (repeat' (first | ((first | refine sP _ ?_ ?_ | refine gP _ ?_ ?_ | refine sN _ ?_ ?_ | refine gN _ ?_ ?_) <;> intro hc <;> (first | replace hc := eqn hc | replace hc := eqp hc) <;> simp [*, zf]) | ((first | refine sM _ ?_ ?_ | refine gM _ ?_ ?_ | refine sB _ ?_ ?_ | refine gB _ ?_ ?_) <;> intro hc <;> simp [*, zf])))
       all_goals exact ⟨⟨q2, line, ac ++ [⟨2, sg, line⟩]⟩, by simp only; omega, ⟨by first | rfl | omega | (simp only; omega), by simp, by simp [zf]⟩, s1⟩
     ·replace c4 := eqp c4
      have hj1 : (i : Int) + 1 < s.length := by omega
      have tj : ((i : Int) + 1).toNat = i + 1 := by omega
      have nj : (0 : Int) <= (i : Int) + 1 := by omega
      obtain ⟨bj, gj'⟩ : ∃ bj, s[i + 1]'hj = bj := ⟨_, rfl⟩
      rw [gj'] at c5
      replace c5 := eqn c5
      clear w1'
      by_cases hsn : sg = []
      ·replace he := he hsn
       subst hsn
       clear s1
       (simp [*]) <;> (repeat' (first | ((first | refine sP _ ?_ ?_ | refine gP _ ?_ ?_ | refine sN _ ?_ ?_ | refine gN _ ?_ ?_) <;> intro hc <;> (first | replace hc := eqn hc | replace hc := eqp hc) <;> simp [*]) | ((first | refine sM _ ?_ ?_ | refine gM _ ?_ ?_ | refine sB _ ?_ ?_ | refine gB _ ?_ ?_) <;> intro hc <;> simp [*])))
      ·replace s1 := s1 hsn
       have hpos : 0 < sg.length := List.length_pos_iff.2 hsn
       replace hsn := eqn hsn
       clear he
       (simp [*, zf]) <;> (repeat' (first | ((first | refine sP _ ?_ ?_ | refine gP _ ?_ ?_ | refine sN _ ?_ ?_ | refine gN _ ?_ ?_) <;> intro hc <;> (first | replace hc := eqn hc | replace hc := eqp hc) <;> simp [*, zf]) | ((first | refine sM _ ?_ ?_ | refine gM _ ?_ ?_ | refine sB _ ?_ ?_ | refine gB _ ?_ ?_) <;> intro hc <;> simp [*, zf])))
       all_goals exact ⟨⟨q2, line, ac ++ [⟨2, sg, line⟩]⟩, by simp only; omega, ⟨by first | rfl | omega | (simp only; omega), by simp, by simp [zf]⟩, s1⟩
    ·obtain ⟨s0, s1⟩ := bname hpl hnb
     have hk0 : 0 < k := by
      rcases Nat.eq_zero_or_pos k with h | h
      ·rw [hz.1 h] at hnb; cases hnb
      ·exact h
     have c4 : ¬ (b.toNat : Int) = 47 := by
      intro h
      have : b = 47 := UInt8.toNat_inj.1 (by simp; omega)
      rw [this] at hnb; exact absurd hnb (by decide)
     rw [<- hq] at s0 s1
     have hqi : i <= q := by omega
     have hqs : q <= s.length := by omega
     have hwl : ((s.take q).drop i).length = k := by simp; omega
     have hqk : i < q := by omega
     clear hz hcom hpl hroad b10 bbl bname bsign hcb hk hrl
     have hw1 := zGb ((s.take q).drop i) []
     have hw2 := rname_spec ((s.take q).drop i) []
     have hw3 := number_spec ((s.take q).drop i) (by simp; omega)
     have he : tokBad ((s.take q).drop i) b = true -> ze s = ([], 20, (line : Int)) := fun h => by rw [e0]; exact s0 h
     clear s0 e0
     have ww : zca .i64 ((i : Int) + k) = q := wk
     have hki : i + k = q := hq.symm
     clear hq
     generalize hww : (s.take q).drop i = w at *
     replace c4 := eqn c4
     have hnbb : zd b = (zK b.toNat || zga b.toNat) := rfl
     rw [hnb] at hnbb
     replace hnbb := hnbb.symm
     have hkn : zfa w b = if wordM w then 2 else if zK b.toNat then 1 else 0 := rfl
     have hbn : tokBad w b = ((decide (zfa w b = 1) && !nameM w) || (decide (zfa w b = 0) && !zMa w)) := rfl
     rcases hstop with hst | ⟨c, hst, g1, g2, g3, g4⟩
     ·rw [hst, List.take_length] at hww
      cases f1 : wordM w
      ·cases f2 : zK b.toNat
       ·rw [f1, f2] at hkn
        simp at hkn
        rw [hkn] at hbn s1
        cases f3 : zMa w
        ·rw [f3] at hbn
         simp at hbn
         replace he := he hbn
         clear s1 hkn hnbb hbn
         (simp [*]) <;> (repeat' (first | ((first | refine sP _ ?_ ?_ | refine gP _ ?_ ?_ | refine sN _ ?_ ?_ | refine gN _ ?_ ?_) <;> intro hc <;> (first | replace hc := eqn hc | replace hc := eqp hc) <;> simp [*]) | ((first | refine sM _ ?_ ?_ | refine gM _ ?_ ?_ | refine sB _ ?_ ?_ | refine gB _ ?_ ?_) <;> intro hc <;> simp [*])))
        ·rw [f3] at hbn
         simp at hbn
         replace s1 := s1 hbn
         clear he hkn hnbb hbn
         (simp [*, zf]) <;> (repeat' (first | ((first | refine sP _ ?_ ?_ | refine gP _ ?_ ?_ | refine sN _ ?_ ?_ | refine gN _ ?_ ?_) <;> intro hc <;> (first | replace hc := eqn hc | replace hc := eqp hc) <;> simp [*, zf]) | ((first | refine sM _ ?_ ?_ | refine gM _ ?_ ?_ | refine sB _ ?_ ?_ | refine gB _ ?_ ?_) <;> intro hc <;> simp [*, zf])))
         all_goals exact ⟨⟨q, line, ac ++ [⟨0, w, line⟩]⟩, by simp only; omega, ⟨by first | rfl | omega | (simp only; omega), by simp, by simp [zf]⟩, s1⟩
       ·rw [f1, f2] at hkn
        simp at hkn
        rw [hkn] at hbn s1
        cases f3 : nameM w
        ·rw [f3] at hbn
         simp at hbn
         replace he := he hbn
         clear s1 hkn hnbb hbn
         (simp [*]) <;> (repeat' (first | ((first | refine sP _ ?_ ?_ | refine gP _ ?_ ?_ | refine sN _ ?_ ?_ | refine gN _ ?_ ?_) <;> intro hc <;> (first | replace hc := eqn hc | replace hc := eqp hc) <;> simp [*]) | ((first | refine sM _ ?_ ?_ | refine gM _ ?_ ?_ | refine sB _ ?_ ?_ | refine gB _ ?_ ?_) <;> intro hc <;> simp [*])))
        ·rw [f3] at hbn
         simp at hbn
         replace s1 := s1 hbn
         clear he hkn hnbb hbn
         (simp [*, zf]) <;> (repeat' (first | ((first | refine sP _ ?_ ?_ | refine gP _ ?_ ?_ | refine sN _ ?_ ?_ | refine gN _ ?_ ?_) <;> intro hc <;> (first | replace hc := eqn hc | replace hc := eqp hc) <;> simp [*, zf]) | ((first | refine sM _ ?_ ?_ | refine gM _ ?_ ?_ | refine sB _ ?_ ?_ | refine gB _ ?_ ?_) <;> intro hc <;> simp [*, zf])))
         all_goals exact ⟨⟨q, line, ac ++ [⟨1, w, line⟩]⟩, by simp only; omega, ⟨by first | rfl | omega | (simp only; omega), by simp, by simp [zf]⟩, s1⟩
      ·rw [f1] at hkn
       simp at hkn
       rw [hkn] at hbn s1
       simp at hbn
       replace s1 := s1 hbn
       clear he hkn hnbb hbn
       cases f2 : zK b.toNat
       ·(simp [*, zf]) <;> (repeat' (first | ((first | refine sP _ ?_ ?_ | refine gP _ ?_ ?_ | refine sN _ ?_ ?_ | refine gN _ ?_ ?_) <;> intro hc <;> (first | replace hc := eqn hc | replace hc := eqp hc) <;> simp [*, zf]) | ((first | refine sM _ ?_ ?_ | refine gM _ ?_ ?_ | refine sB _ ?_ ?_ | refine gB _ ?_ ?_) <;> intro hc <;> simp [*, zf])))
        all_goals exact ⟨⟨q, line, ac ++ [⟨2, w, line⟩]⟩, by simp only; omega, ⟨by first | rfl | omega | (simp only; omega), by simp, by simp [zf]⟩, s1⟩
       ·(simp [*, zf]) <;> (repeat' (first | ((first | refine sP _ ?_ ?_ | refine gP _ ?_ ?_ | refine sN _ ?_ ?_ | refine gN _ ?_ ?_) <;> intro hc <;> (first | replace hc := eqn hc | replace hc := eqp hc) <;> simp [*, zf]) | ((first | refine sM _ ?_ ?_ | refine gM _ ?_ ?_ | refine sB _ ?_ ?_ | refine gB _ ?_ ?_) <;> intro hc <;> simp [*, zf])))
        all_goals exact ⟨⟨q, line, ac ++ [⟨2, w, line⟩]⟩, by simp only; omega, ⟨by first | rfl | omega | (simp only; omega), by simp, by simp [zf]⟩, s1⟩
     ·have l2 := zI c.toNat []
      have l3 := zY c.toNat []
      cases f1 : wordM w
      ·cases f2 : zK b.toNat
       ·rw [f1, f2] at hkn
        simp at hkn
        rw [hkn] at hbn s1
        cases f3 : zMa w
        ·rw [f3] at hbn
         simp at hbn
         replace he := he hbn
         clear s1 hkn hnbb hbn
         (simp [*]) <;> (repeat' (first | ((first | refine sP _ ?_ ?_ | refine gP _ ?_ ?_ | refine sN _ ?_ ?_ | refine gN _ ?_ ?_) <;> intro hc <;> (first | replace hc := eqn hc | replace hc := eqp hc) <;> simp [*]) | ((first | refine sM _ ?_ ?_ | refine gM _ ?_ ?_ | refine sB _ ?_ ?_ | refine gB _ ?_ ?_) <;> intro hc <;> simp [*])))
        ·rw [f3] at hbn
         simp at hbn
         replace s1 := s1 hbn
         clear he hkn hnbb hbn
         (simp [*, zf]) <;> (repeat' (first | ((first | refine sP _ ?_ ?_ | refine gP _ ?_ ?_ | refine sN _ ?_ ?_ | refine gN _ ?_ ?_) <;> intro hc <;> (first | replace hc := eqn hc | replace hc := eqp hc) <;> simp [*, zf]) | ((first | refine sM _ ?_ ?_ | refine gM _ ?_ ?_ | refine sB _ ?_ ?_ | refine gB _ ?_ ?_) <;> intro hc <;> simp [*, zf])))
         all_goals exact ⟨⟨q, line, ac ++ [⟨0, w, line⟩]⟩, by simp only; omega, ⟨by first | rfl | omega | (simp only; omega), by simp, by simp [zf]⟩, s1⟩
       ·rw [f1, f2] at hkn
        simp at hkn
        rw [hkn] at hbn s1
        cases f3 : nameM w
        ·rw [f3] at hbn
         simp at hbn
         replace he := he hbn
         clear s1 hkn hnbb hbn
         (simp [*]) <;> (repeat' (first | ((first | refine sP _ ?_ ?_ | refine gP _ ?_ ?_ | refine sN _ ?_ ?_ | refine gN _ ?_ ?_) <;> intro hc <;> (first | replace hc := eqn hc | replace hc := eqp hc) <;> simp [*]) | ((first | refine sM _ ?_ ?_ | refine gM _ ?_ ?_ | refine sB _ ?_ ?_ | refine gB _ ?_ ?_) <;> intro hc <;> simp [*])))
        ·rw [f3] at hbn
         simp at hbn
         replace s1 := s1 hbn
         clear he hkn hnbb hbn
         (simp [*, zf]) <;> (repeat' (first | ((first | refine sP _ ?_ ?_ | refine gP _ ?_ ?_ | refine sN _ ?_ ?_ | refine gN _ ?_ ?_) <;> intro hc <;> (first | replace hc := eqn hc | replace hc := eqp hc) <;> simp [*, zf]) | ((first | refine sM _ ?_ ?_ | refine gM _ ?_ ?_ | refine sB _ ?_ ?_ | refine gB _ ?_ ?_) <;> intro hc <;> simp [*, zf])))
         all_goals exact ⟨⟨q, line, ac ++ [⟨1, w, line⟩]⟩, by simp only; omega, ⟨by first | rfl | omega | (simp only; omega), by simp, by simp [zf]⟩, s1⟩
      ·rw [f1] at hkn
       simp at hkn
       rw [hkn] at hbn s1
       simp at hbn
       replace s1 := s1 hbn
       clear he hkn hnbb hbn
       cases f2 : zK b.toNat
       ·(simp [*, zf]) <;> (repeat' (first | ((first | refine sP _ ?_ ?_ | refine gP _ ?_ ?_ | refine sN _ ?_ ?_ | refine gN _ ?_ ?_) <;> intro hc <;> (first | replace hc := eqn hc | replace hc := eqp hc) <;> simp [*, zf]) | ((first | refine sM _ ?_ ?_ | refine gM _ ?_ ?_ | refine sB _ ?_ ?_ | refine gB _ ?_ ?_) <;> intro hc <;> simp [*, zf])))
        all_goals exact ⟨⟨q, line, ac ++ [⟨2, w, line⟩]⟩, by simp only; omega, ⟨by first | rfl | omega | (simp only; omega), by simp, by simp [zf]⟩, s1⟩
       ·(simp [*, zf]) <;> (repeat' (first | ((first | refine sP _ ?_ ?_ | refine gP _ ?_ ?_ | refine sN _ ?_ ?_ | refine gN _ ?_ ?_) <;> intro hc <;> (first | replace hc := eqn hc | replace hc := eqp hc) <;> simp [*, zf]) | ((first | refine sM _ ?_ ?_ | refine gM _ ?_ ?_ | refine sB _ ?_ ?_ | refine gB _ ?_ ?_) <;> intro hc <;> simp [*, zf])))
        all_goals exact ⟨⟨q, line, ac ++ [⟨2, w, line⟩]⟩, by simp only; omega, ⟨by first | rfl | omega | (simp only; omega), by simp, by simp [zf]⟩, s1⟩
  ·have r := bbl hcb
   rw [hcb] at hbl
   replace hbl := hbl.symm
   simp only [Bool.or_eq_true, decide_eq_true_eq] at hbl
   clear b10 bbl bcom bname bsign hz hroad e0 hle hci hce hq hcb
   rcases hbl with c1 | c1 | c1
   all_goals
    replace c1 := eqp c1
    rcases hstop with hst | ⟨c, hst, g1, g2, g3, g4⟩
    ·(simp [*]) <;> (repeat' (first | ((first | refine sP _ ?_ ?_ | refine gP _ ?_ ?_ | refine sN _ ?_ ?_ | refine gN _ ?_ ?_) <;> intro hc <;> (first | replace hc := eqn hc | replace hc := eqp hc) <;> simp [*]) | ((first | refine sM _ ?_ ?_ | refine gM _ ?_ ?_ | refine sB _ ?_ ?_ | refine gB _ ?_ ?_) <;> intro hc <;> simp [*])))
     all_goals exact ⟨⟨i + 1, line, ac⟩, by simp only; omega, ⟨by simp, by simp, rfl⟩, r⟩
    ·have l2 := zI c.toNat []
     have l3 := zY c.toNat []
     (simp [*]) <;> (repeat' (first | ((first | refine sP _ ?_ ?_ | refine gP _ ?_ ?_ | refine sN _ ?_ ?_ | refine gN _ ?_ ?_) <;> intro hc <;> (first | replace hc := eqn hc | replace hc := eqp hc) <;> simp [*]) | ((first | refine sM _ ?_ ?_ | refine gM _ ?_ ?_ | refine sB _ ?_ ?_ | refine gB _ ?_ ?_) <;> intro hc <;> simp [*])))
     all_goals exact ⟨⟨i + 1, line, ac⟩, by simp only; omega, ⟨by simp, by simp, rfl⟩, r⟩
end PE.U

namespace PE.U
open Go PE
abbrev KT := Int × List UInt8
def kt (t : Tok) : KT := (t.kind, t.text)
def tokK : Nat -> List UInt8 -> Option (List KT)
 | 0, _ => none
 | _ + 1, [] => some []
 | n + 1, b :: r =>
  if b = 10 then tokK n r
  else if blank b then tokK n r
  else if b = 47 /\ r.head? = some 47 then tokK n ((b :: r).dropWhile (· != 10))
  else if zd b then
   if tokBad ((b :: r).takeWhile zd) b then none
   else (tokK n ((b :: r).drop ((b :: r).takeWhile zd).length)).map fun l => (zfa ((b :: r).takeWhile zd) b, (b :: r).takeWhile zd) :: l
  else if zG (b :: r) = [] then none
  else (tokK n ((b :: r).drop (zG (b :: r)).length)).map fun l => (2, zG (b :: r)) :: l
def tokS (s : List UInt8) : Option (List KT) := tokK (s.length + 1) s
theorem zUa {b : UInt8} {r : List UInt8} (h : zd b = true) : ((b :: r).drop ((b :: r).takeWhile zd).length).length <= r.length := by
 have hw : 0 < ((b :: r).takeWhile zd).length := by rw [List.takeWhile_cons, h]; simp
 rw [List.length_drop]; simp only [List.length_cons]; omega
theorem zTa {b : UInt8} {r : List UInt8} (h : ¬ zG (b :: r) = []) : ((b :: r).drop (zG (b :: r)).length).length <= r.length := by
 have hp : 0 < (zG (b :: r)).length := List.length_pos_iff.2 h
 rw [List.length_drop]; simp only [List.length_cons]; omega
theorem zZa {b : UInt8} {r : List UInt8} (h : b = 47) : ((b :: r).dropWhile (· != 10)).length <= r.length := by
 rw [List.dropWhile_cons, h]
 simp only [show ((47 : UInt8) != 10) = true from rfl, if_true]
 rw [zOa, List.length_drop]; omega
theorem tokK_fuel : ∀ n m (s : List UInt8), s.length < n -> s.length < m -> tokK n s = tokK m s := by
 intro n
 induction n with
 | zero => intro m s h; omega
 | succ n ih =>
  intro m s hn hm
  obtain ⟨m, rfl⟩ : ∃ k, m = k + 1 := ⟨m - 1, by omega⟩
  cases s with
  | nil => rfl
  | cons b r =>
   simp only [List.length_cons] at hn hm
   simp only [tokK]
   split
   ·exact ih m r (by omega) (by omega)
   split
   ·exact ih m r (by omega) (by omega)
   split
   ·rename_i h
    have := zZa (r := r) h.1
    exact ih m _ (by omega) (by omega)
   split
   ·rename_i h
    have := zUa (r := r) h
    split
    ·rfl
    ·rw [ih m _ (by omega) (by omega)]
   split
   ·rfl
   ·rename_i h
    have := zTa h
    rw [ih m _ (by omega) (by omega)]
theorem zoa {n : Nat} {s : List UInt8} (h : s.length < n) : tokK n s = tokS s := tokK_fuel n (s.length + 1) s h (by omega)
theorem take_nl (s t : List UInt8) : (s ++ 10 :: t).takeWhile zd = s.takeWhile zd := by
 induction s with
 | nil => rfl
 | cons b r ih =>
  rw [List.cons_append, List.takeWhile_cons, List.takeWhile_cons, ih]
theorem drop_nl (s t : List UInt8) : (s ++ 10 :: t).dropWhile (· != 10) = s.dropWhile (· != 10) ++ 10 :: t := by
 induction s with
 | nil => simp
 | cons b r ih =>
  rw [List.cons_append, List.dropWhile_cons, List.dropWhile_cons, ih]
  split <;> rfl
theorem prefix_nl : ∀ (x s t : List UInt8), (10 : UInt8) ∉ x -> x.isPrefixOf (s ++ 10 :: t) = x.isPrefixOf s
 | [], s, t, _ => by simp
 | a :: x, [], t, h => by
  have : ¬ a = 10 := fun e => h (by rw [e]; simp)
  simp [List.isPrefixOf, this]
 | a :: x, b :: s, t, h => by
  have h' : (10 : UInt8) ∉ x := fun e => h (by simp [e])
  simp [List.isPrefixOf, prefix_nl x s t h']
theorem sign_nl (s t : List UInt8) : zG (s ++ 10 :: t) = zG s := by
 have h : ∀ x ∈ zta, (10 : UInt8) ∉ x := by decide
 unfold zG
 have e : zta.find? (fun x => x.isPrefixOf (s ++ 10 :: t)) = zta.find? (fun x => x.isPrefixOf s) := by
  have : ∀ l : List (List UInt8), (∀ x ∈ l, (10 : UInt8) ∉ x) -> l.find? (fun x => x.isPrefixOf (s ++ 10 :: t)) = l.find? (fun x => x.isPrefixOf s) := by
   intro l
   induction l with
   | nil => intro _; rfl
   | cons x r ih =>
    intro hl
    rw [List.find?_cons, List.find?_cons, prefix_nl x s t (hl x (by simp)), ih (fun y hy => hl y (by simp [hy]))]
  exact this _ h
 rw [e]
theorem sign_le (s : List UInt8) : (zG s).length <= s.length := sign_len s
theorem tokS_nl' : ∀ n (s t : List UInt8), s.length < n -> tokS (s ++ 10 :: t) = (tokS s).bind fun a => (tokS t).map (a ++ ·) := by
 intro n
 induction n with
 | zero => intro s t h; omega
 | succ n ih =>
  intro s t hn
  cases s with
  | nil =>
   have e1 : tokS ([] ++ 10 :: t) = tokS t := by
    unfold tokS
    simp only [List.nil_append, List.length_cons, tokK, if_true]
   have e2 : tokS [] = some [] := rfl
   rw [e1, e2]
   simp only [Option.bind_some, List.nil_append]
   cases tokS t <;> rfl
  | cons b r =>
   simp only [List.length_cons] at hn
   have hlen : (r ++ 10 :: t).length = r.length + t.length + 1 := by simp; omega
   have hh : (r ++ 10 :: t).head? = some 47 <-> r.head? = some 47 := by
    cases r with
    | nil => simp
    | cons c q => simp
   have hnl := take_nl (b :: r) t
   have hdl := drop_nl (b :: r) t
   have hsl := sign_nl (b :: r) t
   have e1 : tokS ((b :: r) ++ 10 :: t) = tokK (r.length + t.length + 1 + 1 + 1) (b :: (r ++ 10 :: t)) := by
    unfold tokS
    rw [show ((b :: r) ++ 10 :: t).length = r.length + t.length + 1 + 1 from by simp; omega]; rfl
   have e2 : tokS (b :: r) = tokK (r.length + 1 + 1) (b :: r) := rfl
   rw [e1, e2]
   rw [List.cons_append] at hnl hdl hsl
   simp only [tokK, hnl, hdl, hsl, hh]
   split
   ·rw [zoa (by rw [hlen]; omega), zoa (by omega)]; exact ih r t (by omega)
   split
   ·rw [zoa (by rw [hlen]; omega), zoa (by omega)]; exact ih r t (by omega)
   split
   ·rename_i h
    have := zZa (r := r) h.1
    rw [zoa (by simp; omega), zoa (by omega)]
    exact ih _ t (by omega)
   split
   ·rename_i h
    have hd := zUa (r := r) h
    have hle := (List.takeWhile_prefix (l := b :: r) (p := zd)).length_le
    split
    ·rfl
    ·rw [<- List.cons_append, List.drop_append_of_le_length hle, zoa (by simp at hd ⊢; omega), zoa (by omega), ih _ t (by omega)]
     cases tokS (List.drop (List.takeWhile zd (b :: r)).length (b :: r)) with
     | none => rfl
     | some a => cases tokS t <;> simp
   split
   ·rfl
   ·rename_i h
    have hd := zTa h
    have hle := sign_le (b :: r)
    rw [<- List.cons_append, List.drop_append_of_le_length hle, zoa (by simp at hd ⊢; omega), zoa (by omega), ih _ t (by omega)]
    cases tokS (List.drop (zG (b :: r)).length (b :: r)) with
    | none => rfl
    | some a => cases tokS t <;> simp
theorem tokS_nl (s t : List UInt8) : tokS (s ++ 10 :: t) = (tokS s).bind fun a => (tokS t).map (a ++ ·) := tokS_nl' _ s t (Nat.lt_succ_self _)
theorem tokGo_K : ∀ n (s : List UInt8) line acc, s.length < n →
  (tokK n s = none -> (zR n s line acc).2.1 = 20) /\ (∀ L, tokK n s = some L -> (zR n s line acc).2 = (0, 0) /\ (zR n s line acc).1.map kt = acc.map kt ++ L ++ [(3, [])]) := by
 intro n
 induction n with
 | zero => intro s line acc h; omega
 | succ n ih =>
  intro s line acc hn
  cases s with
  | nil =>
   refine ⟨fun h => by simp [tokK] at h, fun L h => ?_⟩
   simp only [tokK, Option.some.injEq] at h
   subst h
   simp [zR, kt]
  | cons b r =>
   simp only [List.length_cons] at hn
   simp only [tokK, zR]
   split
   ·exact ih r _ _ (by omega)
   split
   ·exact ih r _ _ (by omega)
   split
   ·rename_i h
    have := zZa (r := r) h.1
    exact ih _ _ _ (by omega)
   split
   ·rename_i h
    have hd := zUa (r := r) h
    split
    ·exact ⟨fun _ => rfl, fun L h => by cases h⟩
    ·obtain ⟨i1, i2⟩ := ih ((b :: r).drop ((b :: r).takeWhile zd).length) line (acc ++ [⟨zfa ((b :: r).takeWhile zd) b, (b :: r).takeWhile zd, line⟩]) (by omega)
     refine ⟨fun h => i1 (by simpa using h), fun L h => ?_⟩
     rw [Option.map_eq_some_iff] at h
     obtain ⟨L', h1, rfl⟩ := h
     obtain ⟨j1, j2⟩ := i2 L' h1
     refine ⟨j1, ?_⟩
     rw [j2]; simp [kt]
   split
   ·exact ⟨fun _ => rfl, fun L h => by cases h⟩
   ·rename_i h
    have hd := zTa h
    obtain ⟨i1, i2⟩ := ih ((b :: r).drop (zG (b :: r)).length) line (acc ++ [⟨2, zG (b :: r), line⟩]) (by omega)
    refine ⟨fun h => i1 (by simpa using h), fun L h => ?_⟩
    rw [Option.map_eq_some_iff] at h
    obtain ⟨L', h1, rfl⟩ := h
    obtain ⟨j1, j2⟩ := i2 L' h1
    refine ⟨j1, ?_⟩
    rw [j2]; simp [kt]
theorem tokens_K (s : List UInt8) (h : s.length <= 100000) (h0 : (ze s).2.1 = 0) : ∃ L, tokS s = some L /\ (ze s).1.map kt = L ++ [(3, [])] := by
 unfold ze at h0 ⊢
 rw [if_neg (by omega)] at h0 ⊢
 obtain ⟨i1, i2⟩ := tokGo_K (s.length + 1) s 1 [] (by omega)
 cases hk : tokK (s.length + 1) s with
 | none => rw [i1 hk] at h0; exact absurd h0 (by decide)
 | some L =>
  exact ⟨L, hk, by rw [(i2 L hk).2]; simp⟩
end PE.U

namespace PE.U
open Go PE
theorem tokGo_fuel : ∀ n m (s : List UInt8) line acc, s.length < n -> s.length < m -> zR n s line acc = zR m s line acc := by
 intro n
 induction n with
 | zero => intro m s line acc h; omega
 | succ n ih =>
  intro m s line acc hn hm
  obtain ⟨m, rfl⟩ : ∃ k, m = k + 1 := ⟨m - 1, by omega⟩
  cases s with
  | nil => rfl
  | cons b r =>
   simp only [List.length_cons] at hn hm
   simp only [zR]
   split
   ·exact ih m r _ _ (by omega) (by omega)
   split
   ·exact ih m r _ _ (by omega) (by omega)
   split
   ·rename_i h
    have := zZa (r := r) h.1
    exact ih m _ _ _ (by omega) (by omega)
   split
   ·rename_i h
    have := zUa (r := r) h
    split
    ·rfl
    ·exact ih m _ _ _ (by omega) (by omega)
   split
   ·rfl
   ·rename_i h
    have := zTa h
    exact ih m _ _ _ (by omega) (by omega)
def tokL (s : List UInt8) (line : Int) (acc : List Tok) : List Tok × Int × Int := zR (s.length + 1) s line acc
def zUb (s : List UInt8) (line : Int) : Tok × Bool :=
 if s = [] then (⟨3, [], line⟩, true)
 else if runM s = [] then (⟨2, zG s, line⟩, decide (zG s ≠ []))
 else (⟨zfa (runM s) (s.head?.getD 0), runM s, line⟩, !tokBad (runM s) (s.head?.getD 0))
def skips : List UInt8 -> Bool
 | [] => false
 | b :: r => decide (b = 10) || (blank b || (decide (b = 47) && decide (r.head? = some 47)))
def skip1 : List UInt8 -> Int -> List UInt8 × Int
 | [], line => ([], line)
 | b :: r, line => if b = 10 then (r, line + 1) else if blank b then (r, line) else ((b :: r).dropWhile (· != 10), line)
theorem skip1_cons (b : UInt8) (r : List UInt8) (line : Int) : skip1 (b :: r) line = if b = 10 then (r, line + 1) else if blank b then (r, line) else ((b :: r).dropWhile (· != 10), line) := rfl
theorem zFb (b : UInt8) (r : List UInt8) : skips (b :: r) = true <-> b = 10 \/ blank b = true \/ (b = 47 /\ r.head? = some 47) := by
 unfold skips
 simp only [Bool.or_eq_true, decide_eq_true_eq, Bool.and_eq_true]
theorem skip1_len {s : List UInt8} (h : skips s = true) (line : Int) : (skip1 s line).1.length < s.length := by
 cases s with
 | nil => cases h
 | cons b r =>
  rw [skip1_cons]
  rw [zFb] at h
  by_cases h1 : b = 10
  ·rw [if_pos h1]; simp
  rw [if_neg h1]
  by_cases h2 : blank b = true
  ·rw [if_pos h2]; simp
  rw [if_neg h2]
  rcases h with h | h | h
  ·exact absurd h h1
  ·exact absurd h h2
  ·have := zZa (r := r) h.1
   simp only [List.length_cons]
   omega
theorem skip1_tok {s : List UInt8} (h : skips s = true) (line : Int) (acc : List Tok) : tokL s line acc = tokL (skip1 s line).1 (skip1 s line).2 acc := by
 cases s with
 | nil => cases h
 | cons b r =>
  have hl := skip1_len h line
  unfold tokL
  rw [List.length_cons, zR]
  rw [skip1_cons] at hl ⊢
  rw [zFb] at h
  by_cases h1 : b = 10
  ·rw [if_pos h1, if_pos h1]
  rw [if_neg h1] at hl
  rw [if_neg h1, if_neg h1]
  by_cases h2 : blank b = true
  ·rw [if_pos h2, if_pos h2]
  rw [if_neg h2] at hl
  rw [if_neg h2, if_neg h2]
  have h3 : b = 47 /\ r.head? = some 47 := by
   rcases h with h | h | h
   ·exact absurd h h1
   ·exact absurd h h2
   ·exact h
  rw [if_pos h3]
  exact tokGo_fuel _ _ _ _ _ (by rw [List.length_cons] at hl; exact hl) (Nat.lt_succ_self _)
theorem nextM_cons (b : UInt8) (r : List UInt8) (line : Int) : zUb (b :: r) line = if runM (b :: r) = [] then (⟨2, zG (b :: r), line⟩, decide (zG (b :: r) ≠ [])) else (⟨zfa (runM (b :: r)) b, runM (b :: r), line⟩, !tokBad (runM (b :: r)) b) := by
 unfold zUb
 rw [if_neg (List.cons_ne_nil b r)]
 rfl
theorem tokKind_ne (w : List UInt8) (b : UInt8) : ¬ zfa w b = 3 := by
 unfold zfa
 split
 ·decide
 ·split <;> decide
theorem next_tok {s : List UInt8} (h : skips s = false) (line : Int) (acc : List Tok) :
  tokL s line acc = (if (zUb s line).2 = false then ([], 20, line) else if (zUb s line).1.kind = 3 then (acc ++ [(zUb s line).1], 0, 0) else tokL (s.drop (zUb s line).1.text.length) line (acc ++ [(zUb s line).1])) := by
 cases s with
 | nil => simp [tokL, zR, zUb]
 | cons b r =>
  have hn : ¬ (b = 10 \/ blank b = true \/ (b = 47 /\ r.head? = some 47)) := by rw [<- zFb, h]; simp
  simp only [not_or] at hn
  obtain ⟨h1, h2, h3⟩ := hn
  have e1 : tokL (b :: r) line acc = zR (r.length + 1 + 1) (b :: r) line acc := rfl
  rw [e1, zR, if_neg h1, if_neg h2, if_neg h3, nextM_cons]
  have hrun : runM (b :: r) = (b :: r).takeWhile zd := rfl
  rw [hrun]
  by_cases hb : zd b = true
  ·have hne : ¬ (b :: r).takeWhile zd = [] := by rw [List.takeWhile_cons, if_pos hb]; simp
   have hlen := zUa (r := r) hb
   rw [if_pos hb, if_neg hne]
   cases hbad : tokBad ((b :: r).takeWhile zd) b
   ·rw [if_neg (by simp), if_neg (by simp), if_neg (tokKind_ne _ _)]
    exact tokGo_fuel _ _ _ _ _ (Nat.lt_succ_of_le hlen) (Nat.lt_succ_self _)
   ·simp
  ·have he : (b :: r).takeWhile zd = [] := by rw [List.takeWhile_cons, if_neg hb]
   rw [if_neg hb, if_pos he]
   by_cases hs : zG (b :: r) = []
   ·rw [if_pos hs, if_pos (by simp [hs])]
   ·have hlen := zTa hs
    rw [if_neg hs, if_neg (by simp [hs]), if_neg (by show ¬ (2 : Int) = 3; decide)]
    exact tokGo_fuel _ _ _ _ _ (Nat.lt_succ_of_le hlen) (Nat.lt_succ_self _)
end PE.U

namespace PE.U
open Go PE
def twosT : List UInt8 := [60, 60, 32, 62, 62, 32, 60, 61, 32, 62, 61, 32, 61, 61, 32, 33, 61, 32, 38, 38, 32, 124, 124]
def onesT : List UInt8 := [40, 41, 123, 125, 91, 93, 44, 59, 61, 60, 62, 43, 45, 42, 47, 37, 38, 124, 94, 126, 33]
def pairsL : List (List UInt8) := [[60, 60], [62, 62], [60, 61], [62, 61], [61, 61], [33, 61], [38, 38], [124, 124]]
def onesL : List (List UInt8) := [[40], [41], [123], [125], [91], [93], [44], [59], [61], [60], [62], [43], [45], [42], [47], [37], [38], [124], [94], [126], [33]]
theorem signsL_eq : zta = [62, 62, 62] :: (pairsL ++ onesL) := by decide
theorem find_len {s : List UInt8} {k : Nat} (hk : k <= s.length) : ∀ (l : List (List UInt8)), (∀ x ∈ l, x.length = k) -> l.find? (fun x => x.isPrefixOf s) = if s.take k ∈ l then some (s.take k) else none
 | [], _ => rfl
 | x :: r, h => by
  have hx : x.length = k := h x (by simp)
  rw [List.find?_cons, find_len hk r (fun y hy => h y (by simp [hy]))]
  have hp := prefix_take x s
  rw [hx] at hp
  by_cases e : s.take k = x
  ·rw [hp]; simp [hk, e]
  ·rw [hp]
   have : ¬ x = s.take k := fun q => e q.symm
   simp [e]
theorem find_short {s : List UInt8} : ∀ (l : List (List UInt8)), (∀ x ∈ l, s.length < x.length) -> l.find? (fun x => x.isPrefixOf s) = none
 | [], _ => rfl
 | x :: r, h => by
  rw [List.find?_cons, find_short r (fun y hy => h y (by simp [hy])), prefix_take]
  have := h x (by simp)
  have hn : ¬ x.length <= s.length := by omega
  simp [hn]
theorem contains_cons (b : UInt8) (l sub : List UInt8) : Lib.contains (b :: l) sub = (sub.isPrefixOf (b :: l) || Lib.contains l sub) := by
 have hg := Lib.index_ge l sub
 unfold Lib.contains
 rw [Lib.index]
 cases h : sub.isPrefixOf (b :: l)
 ·simp only [Bool.false_eq_true, if_false, Bool.false_or]
  split
  ·rename_i e
   simp only [beq_iff_eq] at e
   rw [e]
   try rfl
  ·rename_i e
   simp only [beq_iff_eq] at e
   have e1 : 0 <= Lib.index l sub := by omega
   rw [decide_eq_true e1, decide_eq_true (by omega)]
 ·simp
theorem contains_nil (a : UInt8) (r : List UInt8) : Lib.contains [] (a :: r) = false := by simp [Lib.contains, Lib.index]
theorem twos_pairs (a b : UInt8) (ha : ¬ a = 32) (hb : ¬ b = 32) : Lib.contains twosT [a, b] = pairsL.contains [a, b] := by
 have ha' : (a == 32) = false := by simpa using ha
 have hb' : (b == 32) = false := by simpa using hb
 unfold twosT pairsL
 simp only [contains_cons, contains_nil, List.isPrefixOf, ha', hb', Bool.and_true, Bool.and_false, Bool.false_and, Bool.or_false, Bool.false_or, List.contains_cons, List.contains_nil, Bool.and_self]
 have hbq : ∀ x y : UInt8, (([a, b] : List UInt8) == [x, y]) = (a == x && b == y) := fun x y => by
  rw [Bool.eq_iff_iff]; simp
 simp only [hbq]
theorem index_mem (c : UInt8) : ∀ l : List UInt8, (0 <= Lib.indexByte l c) <-> c ∈ l
 | [] => by simp [Lib.indexByte]
 | b :: l => by
  have hg := Lib.indexByte_ge l c
  rw [Lib.indexByte]
  by_cases h : b = c
  ·subst h; simp
  ·have h' : (b == c) = false := by simpa using h
   rw [h']
   simp only [Bool.false_eq_true, if_false, List.mem_cons]
   have ih := index_mem c l
   split
   ·rename_i e
    simp only [beq_iff_eq] at e
    rw [e] at ih
    constructor
    ·intro q; omega
    ·rintro (q | q)
     ·exact absurd q.symm h
     ·have := ih.2 q; omega
   ·rename_i e
    simp only [beq_iff_eq] at e
    constructor
    ·intro q; exact .inr (ih.1 (by omega))
    ·rintro (q | q)
     ·exact absurd q.symm h
     ·have := ih.2 q; omega
theorem ones_mem (c : UInt8) : [c] ∈ onesL <-> c ∈ onesT := by
 unfold onesL onesT
 simp
def psign (s : List UInt8) : List UInt8 :=
 if [62, 62, 62].isPrefixOf s then [62, 62, 62]
 else match s with
  | a :: b :: r => if ¬ a = 32 /\ ¬ b = 32 /\ Lib.contains twosT [a, b] = true then [a, b] else if 0 <= Lib.indexByte onesT a then [a] else []
  | [a] => if 0 <= Lib.indexByte onesT a then [a] else []
  | [] => []
theorem psign_eq (s : List UInt8) (hs : s ≠ []) : psign s = zG s := by
 unfold psign zG
 rw [signsL_eq, List.find?_cons]
 cases h3 : [62, 62, 62].isPrefixOf s
 ·simp only [Bool.false_eq_true, if_false]
  rw [List.find?_append]
  match s, hs with
  | [a], _ =>
   rw [find_short pairsL (by intro x hx; rw [show x.length = 2 from (by decide : ∀ x ∈ pairsL, x.length = 2) x hx]; simp), find_len (k := 1) (by simp) onesL (by decide)]
   simp only [List.take_succ_cons, List.take_zero, Option.none_or, ones_mem, index_mem]
   split <;> rfl
  | a :: b :: r, _ =>
   rw [find_len (k := 2) (by simp) pairsL (by decide), find_len (k := 1) (by simp) onesL (by decide)]
   simp only [List.take_succ_cons, List.take_zero, ones_mem, index_mem]
   by_cases hm : [a, b] ∈ pairsL
   ·have hab : ¬ a = 32 /\ ¬ b = 32 := by
     have hall : pairsL.all (fun x => decide (¬ (32 : UInt8) ∈ x)) = true := by decide
     have := List.all_eq_true.1 hall _ hm
     simp at this
     exact ⟨fun e => this.1 e.symm, fun e => this.2 e.symm⟩
    rw [if_pos ⟨hab.1, hab.2, by rw [twos_pairs a b hab.1 hab.2]; exact List.contains_iff_mem.2 hm⟩]
    simp [hm]
   ·rw [if_neg]
    ·simp only [hm, if_false, Option.none_or]
     split <;> rfl
    ·rintro ⟨h1, h2, h3⟩
     rw [twos_pairs a b h1 h2] at h3
     exact hm (List.contains_iff_mem.1 h3)
 ·simp
def valN (n : Nat) (s : List UInt8) : Nat := s.foldl (fun n b => n * 10 + (b.toNat - 48)) n
theorem valN_nil (n : Nat) : valN n [] = n := rfl
theorem zhb (n : Nat) (b : UInt8) (r : List UInt8) : valN n (b :: r) = valN (n * 10 + (b.toNat - 48)) r := by
 unfold valN
 rw [List.foldl_cons]
theorem valN_ge : ∀ (s : List UInt8) (n : Nat), n <= valN n s
 | [], n => Nat.le_of_eq (valN_nil n).symm
 | b :: r, n => by
  have := valN_ge r (n * 10 + (b.toNat - 48))
  rw [zhb]; omega
theorem zqb {b : UInt8} {r : List UInt8} : digs (b :: r) = true <-> (48 <= b.toNat /\ b.toNat <= 57) /\ digs r = true := by
 unfold digs
 rw [List.all_cons, Bool.and_eq_true]
 simp [zga]
 omega
theorem valGo_N : ∀ (s : List UInt8) (n : Nat), digs s = true -> n <= 9223372036854775807 -> zOb n s = if valN n s <= 9223372036854775807 then some (valN n s : Int) else none
 | [], n, _, h => by simp [zOb, valN_nil, h]
 | b :: r, n, hd, h => by
  obtain ⟨hb, hr⟩ := zqb.1 hd
  rw [zOb, zhb]
  have hc : ((b.toNat : Int) - 48) = ((b.toNat - 48 : Nat) : Int) := by omega
  rw [hc]
  have hge := valN_ge r (n * 10 + (b.toNat - 48))
  split
  ·rename_i hlt
   rw [if_neg (by omega)]
  ·rename_i hlt
   have e : (n : Int) * 10 + ((b.toNat - 48 : Nat) : Int) = ((n * 10 + (b.toNat - 48) : Nat) : Int) := by omega
   rw [e]
   exact valGo_N r _ hr (by omega)
theorem parse_N : ∀ (s : List UInt8) (n : Nat), digs s = true -> n < 18446744073709551616 -> Lib.parseUint10 n s = if valN n s < 18446744073709551616 then .ok (valN n s) else .range
 | [], n, _, h => by simp [Lib.parseUint10, valN_nil, h]
 | b :: r, n, hd, h => by
  obtain ⟨hb, hr⟩ := zqb.1 hd
  rw [Lib.parseUint10, if_pos hb, zhb]
  have hge := valN_ge r (n * 10 + (b.toNat - 48))
  split
  ·rw [if_neg (by omega)]
  split
  ·rw [if_neg (by omega)]
  ·exact parse_N r _ hr (by omega)
theorem parse_bad : ∀ (s : List UInt8) (n u : Nat), digs s = false -> Lib.parseUint10 n s ≠ .ok u
 | [], n, u, hd => by cases hd
 | b :: r, n, u, hd => by
  rw [Lib.parseUint10]
  split
  ·rename_i hb
   split
   ·exact fun e => by cases e
   split
   ·exact fun e => by cases e
   ·refine parse_bad r _ u ?_
    cases hr : digs r
    ·rfl
    ·rw [zqb.2 ⟨hb, hr⟩] at hd; cases hd
  ·exact fun e => by cases e
theorem digF_valN : ∀ (s : List UInt8) (n k : Nat), digs s = true -> 0 < n -> digF (k + s.length) (valN n s) = digF k n ++ s
 | [], n, k, _, _ => by simp [valN_nil]
 | b :: r, n, k, hd, hn => by
  obtain ⟨hb, hr⟩ := zqb.1 hd
  have ih := digF_valN r (n * 10 + (b.toNat - 48)) (k + 1) hr (by omega)
  rw [zhb, List.length_cons, show k + (r.length + 1) = k + 1 + r.length by omega, ih, digF, if_neg (by omega)]
  have e1 : (n * 10 + (b.toNat - 48)) / 10 = n := by omega
  have e2 : (n * 10 + (b.toNat - 48)) % 10 = b.toNat - 48 := by omega
  rw [e1, e2]
  have e3 : UInt8.ofNat (48 + (b.toNat - 48)) = b := by
   rw [show 48 + (b.toNat - 48) = b.toNat by omega]; simp
  rw [e3]; simp
theorem digF_fuel : ∀ (k j v : Nat), v < 10 ^ j -> 0 < j -> j <= k -> digF k v = digF j v
 | 0, j, v, _, h1, h2 => by omega
 | k + 1, 0, v, _, h1, _ => by omega
 | k + 1, j + 1, v, hv, _, hjk => by
  rw [digF, digF]
  split
  ·rfl
  ·cases j with
   | zero => simp at hv; omega
   | succ j => rw [digF_fuel k (j + 1) (v / 10) (by rw [Nat.pow_succ] at hv; omega) (by omega) (by omega)]
theorem valN_lt : ∀ (s : List UInt8) (n j : Nat), digs s = true -> n < 10 ^ j -> valN n s < 10 ^ (j + s.length)
 | [], n, j, _, h => by simpa [valN_nil] using h
 | b :: r, n, j, hd, h => by
  obtain ⟨hb, hr⟩ := zqb.1 hd
  rw [zhb, List.length_cons, show j + (r.length + 1) = j + 1 + r.length by omega]
  exact valN_lt r _ (j + 1) hr (by rw [Nat.pow_succ]; omega)
theorem valN_ge10 : ∀ (s : List UInt8) (n : Nat), digs s = true -> n * 10 ^ s.length <= valN n s
 | [], n, _ => by simp [valN_nil]
 | b :: r, n, hd => by
  obtain ⟨hb, hr⟩ := zqb.1 hd
  have ih := valN_ge10 r (n * 10 + (b.toNat - 48)) hr
  rw [zhb, List.length_cons, Nat.pow_succ]
  refine Nat.le_trans ?_ ih
  rw [Nat.add_mul, Nat.mul_assoc, Nat.mul_comm (10 ^ r.length) 10]
  omega
def pnumber (s : List UInt8) : Bool := match Lib.atoiAll s with
 | .ok v => decide (Lib.itoa v = s)
 | _ => false
theorem pnumber_eq (b : UInt8) (r : List UInt8) (hb : ¬ b.toNat = 43 /\ ¬ b.toNat = 45) : pnumber (b :: r) = zMa (b :: r) := by
 have hat : Lib.atoiAll (b :: r) = match Lib.parseUint10 0 (b :: r) with
   | .«syntax» => .«syntax»
   | .range => .range
   | .ok u => if 9223372036854775808 <= u then .range else .ok (u : Int) := by
  unfold Lib.atoiAll
  simp only [hb.1, hb.2, or_self, if_false, false_and, not_false_eq_true, true_and]
  unfold Lib.parseMag
  rfl
 unfold pnumber zMa
 rw [hat]
 cases hd : digs (b :: r)
 ·cases hp : Lib.parseUint10 0 (b :: r) with
  | ok u => exact absurd hp (parse_bad _ _ _ hd)
  | «syntax» => rfl
  | range => rfl
 ·rw [parse_N _ 0 hd (by omega), Bool.true_and]
  have hv := valGo_N (b :: r) 0 hd (by omega)
  unfold valueM
  rw [show (0 : Int) = ((0 : Nat) : Int) from rfl, hv]
  by_cases h64 : valN 0 (b :: r) < 18446744073709551616
  ·rw [if_pos h64]
   simp only
   by_cases h63 : valN 0 (b :: r) <= 9223372036854775807
   ·rw [if_neg (by omega), if_pos h63]
    simp only
    rw [itoa_dec (valN 0 (b :: r)) (by omega)]
    obtain ⟨hb1, hr⟩ := zqb.1 hd
    have hval : valN 0 (b :: r) = valN (b.toNat - 48) r := by rw [zhb]; simp
    by_cases h0 : b.toNat = 48
    ·have hb48 : b = 48 := by apply UInt8.toNat_inj.1; simpa using h0
     subst hb48
     cases r with
     | nil => decide
     | cons c q =>
      have hlt : 1 < ((48 : UInt8) :: c :: q).length /\ ((48 : UInt8) :: c :: q).head? = some 48 := ⟨by simp, rfl⟩
      rw [Bool.eq_iff_iff]
      simp only [decide_eq_true_eq]
      rw [if_pos (.inr hlt)]
      refine ⟨fun e => absurd e ?_, fun h => absurd h (by decide)⟩
      have hz : digitsM (valN 0 (48 :: c :: q)) ≠ 48 :: c :: q := by
       intro e
       by_cases hsm : valN 0 (48 :: c :: q) < 10
       ·rw [digitsM, digF, if_pos hsm] at e
        have := congrArg List.length e
        simp at this
       ·exact lead_ne 19 (valN 0 (48 :: c :: q)) (by omega) (Nat.lt_of_le_of_lt h63 (by decide)) (by rw [show digF (19 + 1) (valN 0 (48 :: c :: q)) = digitsM _ from rfl, e]; rfl)
      exact hz
    ·have hpos : 0 < b.toNat - 48 := by omega
     rw [Bool.eq_iff_iff]
     simp only [decide_eq_true_eq]
     rw [if_neg (by
      rintro (h | ⟨_, h⟩)
      ·cases h
      ·exact h0 (by rw [Option.some.inj h]; rfl))]
     have hge := valN_ge10 r (b.toNat - 48) hr
     have hlen : r.length <= 18 := by
      rcases Nat.lt_or_ge 18 r.length with h | h
      ·have h1 : 10 ^ 19 <= 10 ^ r.length := Nat.pow_le_pow_right (by omega) h
       have h2 : 1 * 10 ^ r.length <= (b.toNat - 48) * 10 ^ r.length := Nat.mul_le_mul_right _ hpos
       rw [hval] at h63
       omega
      ·exact h
     have e1 := digF_valN r (b.toNat - 48) 1 hr hpos
     have e2 : digF 1 (b.toNat - 48) = [b] := by
      rw [digF, if_pos (by omega), show 48 + (b.toNat - 48) = b.toNat by omega]; simp
     have e3 : digitsM (valN 0 (b :: r)) = b :: r := by
      rw [hval]
      unfold digitsM
      rw [digF_fuel 20 (1 + r.length) _ (valN_lt r _ 1 hr (by omega)) (by omega) (by omega), e1, e2]; rfl
     rw [e3]
     simp
   ·rw [if_pos (by omega), if_neg h63]; rfl
  ·rw [if_neg h64, if_neg (by omega)]; rfl
end PE.U

namespace PE.U
open Go PE
theorem hasPrefix_x (s p : List UInt8) (σ : zb) : zz E 27 [.str s, .str p] σ = some (.ret (.bool (p.isPrefixOf s)), σ) := by
 rw [zIb (E := E) (f := 27) (g := pureX hasPrefixG) rfl]; rfl
theorem indexByte_x (s : List UInt8) (c : Int) (σ : zb) : zz E 29 [.str s, .int .u8 c] σ = some (.ret (.int .i64 (Lib.indexByte s c.toNat.toUInt8)), σ) := by
 rw [zIb (E := E) (f := 29) (g := pureX indexByteG) rfl]; rfl
theorem contains_x (s p : List UInt8) (σ : zb) (h : s.length < 4294967281) : zz E 37 [.str s, .str p] σ = some (.ret (.bool (Lib.contains s p)), σ) := by
 rw [zIb (E := E) (f := 37) (g := pureX containsG) rfl]
 unfold pureX containsG
 simp [h]
theorem cut_x (s p : List UInt8) (σ : zb) (h : s.length < 4294967281) : zz E 28 [.str s, .str p] σ = some (.ret (.tup [.str (Lib.cut s p).1, .str (Lib.cut s p).2.1, .bool (Lib.cut s p).2.2]), σ) := by
 rw [zIb (E := E) (f := 28) (g := pureX cutG) rfl]
 unfold pureX cutG
 simp [h]
def encAtoi (s : List UInt8) : PV := match Lib.atoiAll s with
 | .ok v => .tup [.int .i64 v, .nilif]
 | .«syntax» => .tup [.int .i64 0, .iface 65 .undef]
 | .range => .tup [.int .i64 (Lib.atoiSat s), .iface 65 .undef]
theorem atoi_x (s : List UInt8) (σ : zb) (h : s.length <= 281474976710656) : zz E 38 [.str s] σ = some (.ret (encAtoi s), σ) := by
 rw [zIb (E := E) (f := 38) (g := pureX (atoiG 65)) rfl]
 unfold pureX atoiG encAtoi
 simp only [if_pos h, Option.map_some]
 all_goals (cases Lib.atoiAll s <;> rfl)
theorem itoa_x (n : Int) (σ : zb) (h0 : -9223372036854775808 <= n) (h1 : n <= 9223372036854775807) : zz E 39 [.int .i64 n] σ = some (.ret (.str (Lib.itoa n)), σ) := by
 rw [zIb (E := E) (f := 39) (g := pureX itoaG) rfl]
 unfold pureX itoaG
 simp only [if_pos (And.intro h0 h1), Option.map_some]
@[simp] theorem rebuild_aggT (a l : List PV) : zda (.agg a) l = .agg l := Eq.trans rfl rfl
theorem u8_nat (b : UInt8) : ((b.toNat : Int)).toNat.toUInt8 = b := by simp
theorem u8_ne (b c : UInt8) : (decide ((b.toNat : Int) = c.toNat)) = decide (b = c) := by
 rw [decide_eq_decide]
 constructor
 ·intro h; exact UInt8.toNat_inj.1 (by omega)
 ·rintro rfl; rfl
theorem psign_one (a : UInt8) : psign [a] = if [62, 62, 62].isPrefixOf [a] then [62, 62, 62] else if 0 <= Lib.indexByte onesT a then [a] else [] := rfl
theorem psign_two (a b : UInt8) (r : List UInt8) : psign (a :: b :: r) = if [62, 62, 62].isPrefixOf (a :: b :: r) then [62, 62, 62] else if ¬ a = 32 /\ ¬ b = 32 /\ Lib.contains twosT [a, b] = true then [a, b] else if 0 <= Lib.indexByte onesT a then [a] else [] := rfl
theorem psign_spec (s : List UInt8) (hs : s ≠ []) (hl : s.length < 1099511627776) : zz E 30 [.str s] [] = some (.ret (.str (zG s)), []) := by
 rw [<- psign_eq s hs]
 refine zr rfl rfl rfl (by simp) ?_
 have h1 := hasPrefix_x s [62, 62, 62] []
 match s, hs with
 | [a], _ =>
  rw [psign_one]
  have h3 := indexByte_x onesT a.toNat []
  rw [u8_nat] at h3
  obtain ⟨i, hi⟩ : ∃ i, Lib.indexByte onesT a = i := ⟨_, rfl⟩
  obtain ⟨p, hp⟩ : ∃ p, List.isPrefixOf [62, 62, 62] [a] = p := ⟨_, rfl⟩
  rw [hi] at h3 ⊢
  rw [hp] at h1 ⊢
  unfold onesT at h3
  clear hi hp
  (simp [*, F30]) <;> (repeat' (first | ((first | refine sP _ ?_ ?_ | refine gP _ ?_ ?_ | refine sN _ ?_ ?_ | refine gN _ ?_ ?_) <;> intro hc <;> (first | replace hc := eqn hc | replace hc := eqp hc) <;> simp [*, F30]) | ((first | refine sM _ ?_ ?_ | refine gM _ ?_ ?_ | refine sB _ ?_ ?_ | refine gB _ ?_ ?_) <;> intro hc <;> simp [*, F30])))
 | a :: b :: r, _ =>
  rw [psign_two]
  have h3 := indexByte_x onesT a.toNat []
  have h2 := contains_x twosT [a, b] [] (by decide)
  rw [u8_nat] at h3
  obtain ⟨i, hi⟩ : ∃ i, Lib.indexByte onesT a = i := ⟨_, rfl⟩
  obtain ⟨c, hc⟩ : ∃ c, Lib.contains twosT [a, b] = c := ⟨_, rfl⟩
  obtain ⟨p, hp⟩ : ∃ p, List.isPrefixOf [62, 62, 62] (a :: b :: r) = p := ⟨_, rfl⟩
  rw [hi] at h3 ⊢
  rw [hp] at h1 ⊢
  rw [hc] at h2 ⊢
  unfold onesT at h3
  unfold twosT at h2
  clear hi hp hc
  have ea : ∀ x : UInt8, ((x.toNat : Int) = 32) = (x = 32) := fun x => by
   have := u8_ne x 32
   rw [decide_eq_decide] at this
   exact propext this
  have e2 : (1 : Int) < (r.length : Int) + 1 + 1 := by omega
  simp only [List.length_cons] at hl
  have ha := ea a
  have hb := ea b
  (simp [*, F30]) <;> (repeat' (first | ((first | refine sP _ ?_ ?_ | refine gP _ ?_ ?_ | refine sN _ ?_ ?_ | refine gN _ ?_ ?_) <;> intro hc <;> (first | replace hc := eqn hc | replace hc := eqp hc) <;> simp [*, F30]) | ((first | refine sM _ ?_ ?_ | refine gM _ ?_ ?_ | refine sB _ ?_ ?_ | refine gB _ ?_ ?_) <;> intro hc <;> simp [*, F30])))
theorem pnumber_spec (b : UInt8) (r : List UInt8) (hb : ¬ b.toNat = 43 /\ ¬ b.toNat = 45) (hl : (b :: r).length < 1099511627776) : zz E 31 [.str (b :: r)] [] = some (.ret (.bool (zMa (b :: r))), []) := by
 rw [<- pnumber_eq b r hb]
 refine zr rfl rfl rfl (by simp) ?_
 have h1 := atoi_x (b :: r) [] (by omega)
 generalize b :: r = s at *
 unfold encAtoi at h1
 unfold pnumber
 cases ha : Lib.atoiAll s with
 | ok v =>
  rw [ha] at h1
  simp only at h1
  obtain ⟨v0, v1⟩ := Lib.atoiAll_bounds ha
  have h2 := itoa_x v [] v0 v1
  clear ha
  (simp [*, F31]) <;> (repeat' (first | ((first | refine sP _ ?_ ?_ | refine gP _ ?_ ?_ | refine sN _ ?_ ?_ | refine gN _ ?_ ?_) <;> intro hc <;> (first | replace hc := eqn hc | replace hc := eqp hc) <;> simp [*, F31]) | ((first | refine sM _ ?_ ?_ | refine gM _ ?_ ?_ | refine sB _ ?_ ?_ | refine gB _ ?_ ?_) <;> intro hc <;> simp [*, F31])))
 | «syntax» =>
  rw [ha] at h1
  simp only at h1
  clear ha
  (simp [*, F31]) <;> (repeat' (first | ((first | refine sP _ ?_ ?_ | refine gP _ ?_ ?_ | refine sN _ ?_ ?_ | refine gN _ ?_ ?_) <;> intro hc <;> (first | replace hc := eqn hc | replace hc := eqp hc) <;> simp [*, F31]) | ((first | refine sM _ ?_ ?_ | refine gM _ ?_ ?_ | refine sB _ ?_ ?_ | refine gB _ ?_ ?_) <;> intro hc <;> simp [*, F31])))
 | range =>
  rw [ha] at h1
  simp only at h1
  clear ha
  (simp [*, F31]) <;> (repeat' (first | ((first | refine sP _ ?_ ?_ | refine gP _ ?_ ?_ | refine sN _ ?_ ?_ | refine gN _ ?_ ?_) <;> intro hc <;> (first | replace hc := eqn hc | replace hc := eqp hc) <;> simp [*, F31]) | ((first | refine sM _ ?_ ?_ | refine gM _ ?_ ?_ | refine sB _ ?_ ?_ | refine gB _ ?_ ?_) <;> intro hc <;> simp [*, F31])))
def sob (s : List UInt8) (line : Int) : zb := [.arr 2 [.agg [.str s, .int .i64 line]]]
def skipGo : Nat -> List UInt8 -> Int -> List UInt8 × Int
 | 0, s, line => (s, line)
 | n + 1, s, line => if skips s then skipGo n (skip1 s line).1 (skip1 s line).2 else (s, line)
theorem skipGo_fuel : ∀ n m (s : List UInt8) line, s.length <= n -> s.length <= m -> skipGo n s line = skipGo m s line := by
 intro n
 induction n with
 | zero =>
  intro m s line hn hm
  have : s = [] := List.eq_nil_of_length_eq_zero (by omega)
  subst this
  cases m <;> rfl
 | succ n ih =>
  intro m s line hn hm
  cases m with
  | zero =>
   have : s = [] := List.eq_nil_of_length_eq_zero (by omega)
   subst this; rfl
  | succ m =>
   unfold skipGo
   split
   ·rename_i h
    have := skip1_len h line
    exact ih m _ _ (by omega) (by omega)
   ·rfl
def skipM (s : List UInt8) (line : Int) : List UInt8 × Int := skipGo (s.length + 1) s line
theorem skipM_stop {s : List UInt8} (h : skips s = false) (line : Int) : skipM s line = (s, line) := by
 unfold skipM
 simp [skipGo, h]
theorem skipM_step {s : List UInt8} (h : skips s = true) (line : Int) : skipM s line = skipM (skip1 s line).1 (skip1 s line).2 := by
 have hl := skip1_len h line
 unfold skipM
 rw [skipGo, if_pos h]
 exact skipGo_fuel _ _ _ _ (by omega) (by omega)
end PE.U

namespace PE.U
open Go PE
theorem index_nl : ∀ s : List UInt8, Lib.index s [10] = if (10 : UInt8) ∈ s then ((s.takeWhile (· != 10)).length : Int) else -1
 | [] => by simp [Lib.index]
 | b :: r => by
  rw [Lib.index, index_nl r, List.takeWhile_cons]
  by_cases h : b = 10
  ·subst h; simp
  ·have h1 : ¬ (10 : UInt8) = b := fun e => h e.symm
   by_cases hm : (10 : UInt8) ∈ r
   ·simp [h, h1, hm, List.isPrefixOf]
    try omega
   ·simp [h, h1, hm, List.isPrefixOf]
theorem cut_nl (s : List UInt8) : (Lib.cut s [10]).1 = s.takeWhile (· != 10) := by
 unfold Lib.cut
 rw [index_nl]
 by_cases hm : (10 : UInt8) ∈ s
 ·rw [if_pos hm, if_pos (by omega)]
  simp only [Int.toNat_natCast]
  exact (zEb _ s).symm
 ·rw [if_neg hm, if_neg (by decide)]
  simp only
  symm
  rw [zsa, List.all_eq_true]
  intro x hx
  simp only [bne_iff_ne]
  rintro rfl; exact hm hx
theorem blank_ix (b : UInt8) : (0 <= Lib.indexByte [32, 9, 13] b) <-> blank b = true := by
 rw [index_mem]
 simp [blank, or_assoc]
theorem com_prefix (b : UInt8) (r : List UInt8) : [47, 47].isPrefixOf (b :: r) = (decide (b = 47) && decide (r.head? = some 47)) := by
 cases r with
 | nil => simp [List.isPrefixOf]
 | cons c q =>
  have e : ∀ x : UInt8, (47 == x) = decide (x = 47) := fun x => by
   rw [Bool.eq_iff_iff]; simp [eq_comm (a := (47 : UInt8))]
  simp [List.isPrefixOf, e]
set_option maxHeartbeats 1000000 in
theorem skip_spec (s : List UInt8) (line : Int) (hl : s.length <= 100000) (h0 : 0 <= line) (h1 : line + s.length <= 1000000) :
  zz E 19 [.ptr 0 0 0] (sob s line) = some (.ret (.tup []), sob (skipM s line).1 (skipM s line).2) := by
 refine zr rfl rfl rfl (by simp) ?_
 simp [F19]
 refine wp_while K19_0 B19_0 (fun c : List UInt8 × Int => c.1.length) (fun _ => []) (fun _ => []) (fun c => sob c.1 c.2) (fun c => skipM c.1 c.2 = skipM s line /\ c.1.length <= 100000 /\ 0 <= c.2 /\ c.2 + c.1.length <= 1000000) (s, line) ⟨by simp, by simp, rfl, rfl, hl, h0, h1⟩ ?_
 rintro ⟨q, n⟩ s1 ⟨hq, hql, hn0, hn1⟩ g1 g2 g3 g4 g5
 simp only at hq hql hn0 hn1 g5
 simp at g1
 clear g2 g3 g4
 unfold sob at g5 ⊢
 cases q with
 | nil =>
  rw [skipM_stop (s := []) rfl n] at hq
  rw [<- hq]
  (simp [*]) <;> (repeat' (first | ((first | refine sP _ ?_ ?_ | refine gP _ ?_ ?_ | refine sN _ ?_ ?_ | refine gN _ ?_ ?_) <;> intro hc <;> (first | replace hc := eqn hc | replace hc := eqp hc) <;> simp [*]) | ((first | refine sM _ ?_ ?_ | refine gM _ ?_ ?_ | refine sB _ ?_ ?_ | refine gB _ ?_ ?_) <;> intro hc <;> simp [*])))
 | cons b r =>
  have a1 := hasPrefix_x (b :: r) [47, 47] []
  have a2 := cut_x (b :: r) [10] [] (by omega)
  have a3 := indexByte_x [32, 9, 13] b.toNat []
  rw [com_prefix] at a1
  rw [cut_nl] at a2
  rw [u8_nat] at a3
  have hb := blank_ix b
  obtain ⟨i, hi⟩ : ∃ i, Lib.indexByte [32, 9, 13] b = i := ⟨_, rfl⟩
  rw [hi] at a3 hb
  have w1 : zca .i64 (n + 1) = n + 1 := zu (by omega) (by omega)
  have e10 : ((b.toNat : Int) = 10) = (b = 10) := by
   have := u8_ne b 10
   rw [decide_eq_decide] at this
   exact propext this
  have e47 : ((b.toNat : Int) = 47) = (b = 47) := by
   have := u8_ne b 47
   rw [decide_eq_decide] at this
   exact propext this
  by_cases hs : skips (b :: r) = true
  ·rw [skipM_step hs n] at hq
   have hlen := skip1_len hs n
   rw [skip1_cons] at hq hlen
   rw [zFb] at hs
   by_cases hc : b = 47 /\ r.head? = some 47
   ·rw [decide_eq_true hc.1, decide_eq_true hc.2] at a1
    have hne : ¬ b = 10 := by rw [hc.1]; decide
    have hnb : ¬ blank b = true := by rw [hc.1]; decide
    rw [if_neg hne, if_neg hnb, zOa] at hq hlen
    have hle : ((b :: r).takeWhile (· != 10)).length <= (b :: r).length := (List.takeWhile_prefix _).length_le
    generalize (b :: r).takeWhile (· != 10) = tw at *
    clear hi e10 e47 hc hne hnb hs hb w1
    try simp at a1
    generalize hqr : b :: r = qr at *
    have hne2 : ¬ qr = [] := by rw [<- hqr]; simp
    clear hqr
    (simp [*]) <;> (repeat' (first | ((first | refine sP _ ?_ ?_ | refine gP _ ?_ ?_ | refine sN _ ?_ ?_ | refine gN _ ?_ ?_) <;> intro hc <;> (first | replace hc := eqn hc | replace hc := eqp hc) <;> simp [*]) | ((first | refine sM _ ?_ ?_ | refine gM _ ?_ ?_ | refine sB _ ?_ ?_ | refine gB _ ?_ ?_) <;> intro hc <;> simp [*])))
    simp only [List.length_drop] at hlen
    exact ⟨qr.drop tw.length, by rw [List.length_drop]; omega, n, ⟨rfl, rfl⟩, hq, by rw [List.length_drop]; omega, hn0, by rw [List.length_drop]; omega⟩
   ·have a1' : (decide (b = 47) && decide (r.head? = some 47)) = false := by
     rw [Bool.eq_false_iff]; intro h; simp at h; exact hc h
    rw [a1'] at a1
    try simp at a1
    simp only [List.length_cons] at hql hn1
    by_cases hn : b = 10
    ·rw [if_pos hn] at hq hlen
     clear hc hb hi e47 a2 a3 hs hlen
     subst hn
     (simp [*]) <;> (repeat' (first | ((first | refine sP _ ?_ ?_ | refine gP _ ?_ ?_ | refine sN _ ?_ ?_ | refine gN _ ?_ ?_) <;> intro hc <;> (first | replace hc := eqn hc | replace hc := eqp hc) <;> simp [*]) | ((first | refine sM _ ?_ ?_ | refine gM _ ?_ ?_ | refine sB _ ?_ ?_ | refine gB _ ?_ ?_) <;> intro hc <;> simp [*])))
     exact ⟨r, by omega, n + 1, ⟨rfl, rfl⟩, hq, by omega, by omega, by omega⟩
    ·rw [if_neg hn] at hq hlen
     have hbl : blank b = true := by
      rcases hs with h | h | h
      ·exact absurd h hn
      ·exact h
      ·exact absurd h hc
     rw [if_pos hbl] at hq hlen
     have hi0 : 0 <= i := hb.2 hbl
     clear hc hb hi e47 a2 hs hlen hbl
     try simp at a3
     (simp [*]) <;> (repeat' (first | ((first | refine sP _ ?_ ?_ | refine gP _ ?_ ?_ | refine sN _ ?_ ?_ | refine gN _ ?_ ?_) <;> intro hc <;> (first | replace hc := eqn hc | replace hc := eqp hc) <;> simp [*]) | ((first | refine sM _ ?_ ?_ | refine gM _ ?_ ?_ | refine sB _ ?_ ?_ | refine gB _ ?_ ?_) <;> intro hc <;> simp [*])))
     exact ⟨r, by omega, n, ⟨rfl, rfl⟩, hq, by omega, by omega, by omega⟩
  ·have hs' : skips (b :: r) = false := by simpa using hs
   rw [skipM_stop hs' n] at hq
   rw [zFb] at hs
   simp only [not_or] at hs
   obtain ⟨k1, k2, k3⟩ := hs
   have a1' : (decide (b = 47) && decide (r.head? = some 47)) = false := by
    rw [Bool.eq_false_iff]; intro h; simp at h; exact k3 h
   rw [a1'] at a1
   have hi0 : ¬ 0 <= i := fun h => k2 (hb.1 h)
   have hi1 : i < 0 := by omega
   rw [<- hq]
   clear k3 hb hi e47 a2 a1' hq k2
   try simp at a1 a3
   (simp [*]) <;> (repeat' (first | ((first | refine sP _ ?_ ?_ | refine gP _ ?_ ?_ | refine sN _ ?_ ?_ | refine gN _ ?_ ?_) <;> intro hc <;> (first | replace hc := eqn hc | replace hc := eqp hc) <;> simp [*]) | ((first | refine sM _ ?_ ?_ | refine gM _ ?_ ?_ | refine sB _ ?_ ?_ | refine gB _ ?_ ?_) <;> intro hc <;> simp [*])))
theorem runM_nil : runM [] = [] := rfl
set_option maxHeartbeats 1000000 in
theorem next_spec (s : List UInt8) (line : Int) (hl : s.length <= 100000) (hs : skips s = false) :
  zz E 20 [.ptr 0 0 0] (sob s line) = some (.ret (.tup [zf (zUb s line).1, .bool (zUb s line).2]), sob (s.drop (zUb s line).1.text.length) line) := by
 refine zr rfl rfl rfl (by simp) ?_
 have hrun := run_spec s []
 unfold sob
 cases s with
 | nil =>
  rw [runM_nil] at hrun
  have e : zUb [] line = (⟨3, [], line⟩, true) := rfl
  rw [e]
  (simp [*, F20, zf]) <;> (repeat' (first | ((first | refine sP _ ?_ ?_ | refine gP _ ?_ ?_ | refine sN _ ?_ ?_ | refine gN _ ?_ ?_) <;> intro hc <;> (first | replace hc := eqn hc | replace hc := eqp hc) <;> simp [*, F20, zf]) | ((first | refine sM _ ?_ ?_ | refine gM _ ?_ ?_ | refine sB _ ?_ ?_ | refine gB _ ?_ ?_) <;> intro hc <;> simp [*, F20, zf])))
 | cons b r =>
  have hsg := psign_spec (b :: r) (by simp) (by omega)
  have hlet := zAa b.toNat []
  have hw := zDb (runM (b :: r)) []
  have hnm := name_spec (runM (b :: r)) []
  have hne : ¬ b :: r = [] := by simp
  have h0 : (b :: r)[0]? = some b := rfl
  rw [nextM_cons]
  by_cases he : runM (b :: r) = []
  ·rw [if_pos he]
   rw [he] at hrun
   have hle := sign_len (b :: r)
   clear hlet hw hnm he h0
   generalize zG (b :: r) = g at *
   generalize b :: r = q at *
   have hle' : (g.length : Int) <= q.length := by omega
   by_cases hg : g = []
   ·subst hg
    (simp [*, F20, zf]) <;> (repeat' (first | ((first | refine sP _ ?_ ?_ | refine gP _ ?_ ?_ | refine sN _ ?_ ?_ | refine gN _ ?_ ?_) <;> intro hc <;> (first | replace hc := eqn hc | replace hc := eqp hc) <;> simp [*, F20, zf]) | ((first | refine sM _ ?_ ?_ | refine gM _ ?_ ?_ | refine sB _ ?_ ?_ | refine gB _ ?_ ?_) <;> intro hc <;> simp [*, F20, zf])))
   ·(simp [*, F20, zf]) <;> (repeat' (first | ((first | refine sP _ ?_ ?_ | refine gP _ ?_ ?_ | refine sN _ ?_ ?_ | refine gN _ ?_ ?_) <;> intro hc <;> (first | replace hc := eqn hc | replace hc := eqp hc) <;> simp [*, F20, zf]) | ((first | refine sM _ ?_ ?_ | refine gM _ ?_ ?_ | refine sB _ ?_ ?_ | refine gB _ ?_ ?_) <;> intro hc <;> simp [*, F20, zf])))
  ·rw [if_neg he]
   have hle : (runM (b :: r)).length <= (b :: r).length := (List.takeWhile_prefix _).length_le
   have hnum : ¬ zK b.toNat = true -> zz E 31 [.str (runM (b :: r))] [] = some (.ret (.bool (zMa (runM (b :: r)))), []) := by
    intro hb
    unfold runM at he hle ⊢
    rw [List.takeWhile_cons] at he hle ⊢
    by_cases hn : zd b = true
    ·rw [if_pos hn] at hle ⊢
     have hd : zga b.toNat = true := by
      simp only [zd, Bool.or_eq_true] at hn
      rcases hn with h | h
      ·exact absurd h hb
      ·exact h
     have hd2 : 48 <= b.toNat /\ b.toNat <= 57 := by
      simp [zga] at hd; omega
     exact pnumber_spec b _ (by omega) (by omega)
    ·rw [if_neg hn] at he; exact absurd rfl he
   clear hsg
   generalize runM (b :: r) = w at *
   generalize b :: r = q at *
   have hle' : (w.length : Int) <= q.length := by omega
   unfold tokBad zfa
   cases hwd : wordM w
   ·rw [hwd] at hw
    cases hlb : zK b.toNat
    ·have hnum := hnum (by rw [hlb]; decide)
     rw [hlb] at hlet
     (simp [*, F20, zf]) <;> (repeat' (first | ((first | refine sP _ ?_ ?_ | refine gP _ ?_ ?_ | refine sN _ ?_ ?_ | refine gN _ ?_ ?_) <;> intro hc <;> (first | replace hc := eqn hc | replace hc := eqp hc) <;> simp [*, F20, zf]) | ((first | refine sM _ ?_ ?_ | refine gM _ ?_ ?_ | refine sB _ ?_ ?_ | refine gB _ ?_ ?_) <;> intro hc <;> simp [*, F20, zf])))
    ·clear hnum
     rw [hlb] at hlet
     (simp [*, F20, zf]) <;> (repeat' (first | ((first | refine sP _ ?_ ?_ | refine gP _ ?_ ?_ | refine sN _ ?_ ?_ | refine gN _ ?_ ?_) <;> intro hc <;> (first | replace hc := eqn hc | replace hc := eqp hc) <;> simp [*, F20, zf]) | ((first | refine sM _ ?_ ?_ | refine gM _ ?_ ?_ | refine sB _ ?_ ?_ | refine gB _ ?_ ?_) <;> intro hc <;> simp [*, F20, zf])))
   ·rw [hwd] at hw
    clear hnum
    (simp [*, F20, zf]) <;> (repeat' (first | ((first | refine sP _ ?_ ?_ | refine gP _ ?_ ?_ | refine sN _ ?_ ?_ | refine gN _ ?_ ?_) <;> intro hc <;> (first | replace hc := eqn hc | replace hc := eqp hc) <;> simp [*, F20, zf]) | ((first | refine sM _ ?_ ?_ | refine gM _ ?_ ?_ | refine sB _ ?_ ?_ | refine gB _ ?_ ?_) <;> intro hc <;> simp [*, F20, zf])))
end PE.U

namespace PE.U
open Go PE
theorem skipM_facts : ∀ k (q : List UInt8) (n : Int), q.length <= k -> skips (skipM q n).1 = false /\ (∀ ac, tokL q n ac = tokL (skipM q n).1 (skipM q n).2 ac) /\ (skipM q n).1.length <= q.length /\ n <= (skipM q n).2 /\ (skipM q n).2 + (skipM q n).1.length <= n + q.length := by
 intro k
 induction k with
 | zero =>
  intro q n h
  have : q = [] := List.eq_nil_of_length_eq_zero (by omega)
  subst this
  rw [skipM_stop (s := []) rfl n]
  exact ⟨rfl, fun _ => rfl, Nat.le_refl _, Int.le_refl _, Int.le_refl _⟩
 | succ k ih =>
  intro q n h
  cases hs : skips q
  ·rw [skipM_stop hs n]
   exact ⟨hs, fun _ => rfl, Nat.le_refl _, Int.le_refl _, Int.le_refl _⟩
  ·have hl := skip1_len hs n
   have hn : n <= (skip1 q n).2 /\ (skip1 q n).2 <= n + 1 := by
    cases q with
    | nil => cases hs
    | cons b r =>
     rw [skip1_cons]
     split
     ·simp only; omega
     ·split <;> simp only <;> omega
   rw [skipM_step hs n]
   obtain ⟨i1, i2, i3, i4, i5⟩ := ih (skip1 q n).1 (skip1 q n).2 (by omega)
   exact ⟨i1, fun ac => (skip1_tok hs n ac).trans (i2 ac), by omega, by omega, by omega⟩
theorem nextM_line (s : List UInt8) (n : Int) : (zUb s n).1.line = n := by
 unfold zUb
 split
 ·rfl
 ·split <;> rfl
theorem nextM_pos {s : List UInt8} {n : Int} (h : (zUb s n).2 = true) (h3 : ¬ (zUb s n).1.kind = 3) : (s.drop (zUb s n).1.text.length).length < s.length := by
 unfold zUb at h h3 ⊢
 by_cases hs : s = []
 ·rw [if_pos hs] at h3; exact absurd rfl h3
 ·rw [if_neg hs] at h ⊢
  have hp : 0 < s.length := List.length_pos_iff.2 hs
  rw [List.length_drop]
  by_cases hr : runM s = []
  ·rw [if_pos hr] at h ⊢
   simp only [decide_eq_true_eq] at h
   have := List.length_pos_iff.2 h
   simp only; omega
  ·rw [if_neg hr]
   have := List.length_pos_iff.2 hr
   simp only; omega
set_option maxHeartbeats 2000000 in
theorem zM (s : List UInt8) : zz E 9 [.str s] [] = some (.ret (.tup (zHa (ze s))), []) := by
 refine zr rfl rfl rfl (by simp) ?_
 by_cases hlong : 100000 < s.length
 ·have e : ze s = ([], 2, 0) := by unfold ze; rw [if_pos hlong]
  have hlong' : (100000 : Int) < s.length := by omega
  simp [F9, hlong', e, zHa, toks]
 have e0 : ze s = zR (s.length + 1) s 1 [] := by unfold ze; rw [if_neg hlong]
 have hlong' : ¬ (100000 : Int) < s.length := by omega
 simp [F9, hlong', zHa, toks]
 refine wp_while K9_0 B9_0 (fun c : List UInt8 × Int × List Tok => c.1.length) (fun c => [(2, acc 3 (c.2.2.map zf))]) (fun _ => []) (fun c => sob c.1 c.2.1) (fun c => ze s = tokL c.1 c.2.1 c.2.2 /\ 0 <= c.2.1 /\ c.2.1 + c.1.length <= 200000 /\ c.2.2.length + c.1.length <= 100000) (s, 1, []) ⟨by simp, by simp, rfl, e0, Int.le_of_lt Int.one_pos, by simp only; omega, by simp; omega⟩ ?_
 rintro ⟨q, n, ac⟩ s1 ⟨hq, hn0, hn1, hac⟩ g1 g2 g3 g4 g5
 simp only at hq hn0 hn1 hac g5
 simp at g1 g3
 clear g2 g4 e0 hlong hlong'
 obtain ⟨f1, f2, f3, f4, f5⟩ := skipM_facts _ q n (Nat.le_refl _)
 have a1 := skip_spec q n (by omega) hn0 (by omega)
 rw [f2 ac] at hq
 obtain ⟨⟨q', n'⟩, hqn⟩ : ∃ c, skipM q n = c := ⟨_, rfl⟩
 rw [hqn] at f1 f3 f4 f5 a1 hq
 clear hqn f2
 simp only at f1 f3 f4 f5 a1 hq
 have a2 := next_spec q' n' (by omega) f1
 rw [next_tok f1 n' ac] at hq
 have hline := nextM_line q' n'
 have hpos := @nextM_pos q' n'
 obtain ⟨⟨t, ok⟩, htk⟩ : ∃ c, zUb q' n' = c := ⟨_, rfl⟩
 rw [htk] at a2 hq hline hpos
 clear htk f1
 obtain ⟨k, w, l⟩ := t
 simp only at a2 hq hline hpos
 subst hline
 unfold sob at a1 a2 g5
 cases ok
 ·rw [if_pos rfl] at hq
  rw [hq]
  clear hpos hq
  (simp [*, zf]) <;> (repeat' (first | ((first | refine sP _ ?_ ?_ | refine gP _ ?_ ?_ | refine sN _ ?_ ?_ | refine gN _ ?_ ?_) <;> intro hc <;> (first | replace hc := eqn hc | replace hc := eqp hc) <;> simp [*, zf]) | ((first | refine sM _ ?_ ?_ | refine gM _ ?_ ?_ | refine sB _ ?_ ?_ | refine gB _ ?_ ?_) <;> intro hc <;> simp [*, zf])))
 ·rw [if_neg (by decide)] at hq
  have q4 : (ac.length + 1) * 32 <= zH := by simp only [zH]; omega
  by_cases hk : k = 3
  ·rw [if_pos hk] at hq
   rw [hq]
   clear hpos hq
   subst hk
   (simp [*, zf]) <;> (repeat' (first | ((first | refine sP _ ?_ ?_ | refine gP _ ?_ ?_ | refine sN _ ?_ ?_ | refine gN _ ?_ ?_) <;> intro hc <;> (first | replace hc := eqn hc | replace hc := eqp hc) <;> simp [*, zf]) | ((first | refine sM _ ?_ ?_ | refine gM _ ?_ ?_ | refine sB _ ?_ ?_ | refine gB _ ?_ ?_) <;> intro hc <;> simp [*, zf])))
  ·rw [if_neg hk] at hq
   have hpos := hpos rfl hk
   (simp [*, zf]) <;> (repeat' (first | ((first | refine sP _ ?_ ?_ | refine gP _ ?_ ?_ | refine sN _ ?_ ?_ | refine gN _ ?_ ?_) <;> intro hc <;> (first | replace hc := eqn hc | replace hc := eqp hc) <;> simp [*, zf]) | ((first | refine sM _ ?_ ?_ | refine gM _ ?_ ?_ | refine sB _ ?_ ?_ | refine gB _ ?_ ?_) <;> intro hc <;> simp [*, zf])))
   exact ⟨q'.drop w.length, by omega, l, ac ++ [⟨k, w, l⟩], by simp [zf], rfl, rfl, by omega, by omega, by rw [List.length_append, List.length_singleton]; omega⟩
end PE.U

namespace PE.U
open Go PE
def u8s (l : List UInt8) : PV := .slice .plain 1 (l.map fun b => .int .u8 b.toNat)
section
variable (l : List UInt8)
@[simp high] theorem isVar_u8s : zp (u8s l) = true := Eq.trans rfl rfl
@[simp high] theorem strip_u8s : strip (u8s l) = u8s l := Eq.trans rfl rfl
@[simp high] theorem stripA_u8s : stripA (u8s l) = u8s l := Eq.trans rfl rfl
@[simp high] theorem bl_u8 (n : Nat) : zF n (l.map fun b => PV.int .u8 b.toNat) = true := belowL_map _ _ _ (fun _ => rfl)
@[simp high] theorem below_u8s (n : Nat) : zm n (u8s l) = true := by simp [u8s]
end
theorem remNat (a b : Nat) : remK (a : Int) (b : Int) = ((a % b : Nat) : Int) := by rw [remK_eq]; rfl
def pc (P : List (List UInt8)) (b : UInt8) : List UInt8 := P[b.toNat % P.length]?.getD []
def pq (P : List (List UInt8)) (l : List UInt8) (i : Nat) : List UInt8 := (l.take i).flatMap (pc P)
theorem pc_get {P : List (List UInt8)} (hP : 0 < P.length) (b : UInt8) : P[b.toNat % P.length]? = some (pc P b) := by
 unfold pc
 have h := Nat.mod_lt b.toNat hP
 rw [List.getElem?_eq_getElem h]; rfl
theorem pc_len {P : List (List UInt8)} (hm : ∀ x ∈ P, x.length <= 30) (b : UInt8) : (pc P b).length <= 30 := by
 unfold pc
 cases h : P[b.toNat % P.length]? with
 | none => simp
 | some x => exact hm x (List.mem_of_getElem? h)
theorem pq_all {P : List (List UInt8)} (hm : ∀ x ∈ P, x.length <= 30) (l : List UInt8) : (l.flatMap (pc P)).length <= 30 * l.length := by
 induction l with
 | nil => simp
 | cons b r ih =>
  have := pc_len hm b
  rw [List.flatMap_cons, List.length_append, List.length_cons]; omega
theorem pq_len {P : List (List UInt8)} (hm : ∀ x ∈ P, x.length <= 30) (l : List UInt8) (i : Nat) : (pq P l i).length <= 30 * i := by
 have h1 := pq_all hm (l.take i)
 have h2 : (l.take i).length <= i := by rw [List.length_take]; omega
 unfold pq; omega
theorem pq_succ (P : List (List UInt8)) (l : List UInt8) (i : Nat) (h : i < l.length) : pq P l (i + 1) = pq P l i ++ pc P l[i] := by
 unfold pq
 rw [List.take_add_one, List.getElem?_eq_getElem h, Option.toList_some, List.flatMap_append, List.flatMap_singleton]
theorem pq_end (P : List (List UInt8)) (l : List UInt8) (i : Nat) (h : l.length <= i) (h2 : i <= 14) : pq P l 14 = pq P l i := by
 unfold pq
 rw [List.take_of_length_le h, List.take_of_length_le (by omega)]
end PE.U

namespace PE.U
open Go PE
theorem zjb (l : List Tok) (hl : l.length < 1099511627776) : zz E 11 [toks l, toks l] [] = some (.ret (.bool true), []) := by
 refine zr rfl rfl rfl (by simp [toks]) ?_
 simp [F11, toks]
 refine zgb l K11_0 B11_0 (fun d => [(5, .int .i64 d.length)]) (fun _ => []) (fun d => True) (by omega) (by simp) ?_ ?_
 ·intros d x r s1 hl' hlt hget hget' hw1 hp h1 h2 h3 h4
  simp at h1 h2 h3
  have hdec : decide (d.length < l.length) = true := decide_eq_true hlt
  clear hl' h2
  simp [*, zf]
 ·intros s1 hp h1 h2 h3 h4
  simp at h1 h2 h3
  simp [*]
def zQb : List (List UInt8) := [[97], [49], [48], [32], [10], [47, 47], [47], [61], [60], [62], [33], [38], [124], [105, 110, 116], [105, 102], [105, 56], [95], [40], [41], [123], [125], [91], [93], [44], [59], [43], [45], [42], [37], [94], [126], [9], [57, 50, 50, 51, 51, 55, 50, 48, 51, 54, 56, 53, 52, 55, 55, 53, 56, 48, 55], [13], [35], [195, 169]]
theorem zlb (P : List (List UInt8)) (hP : 0 < P.length) (hPl : P.length < 1000) (hm : ∀ x ∈ P, x.length <= 30) (l : List UInt8) (hl : l.length <= 9223372036854775807) :
  zz E 12 [u8s l, .slice .plain 1 (P.map PV.str)] [] = some (.ret (.str (pq P l 14)), []) := by
 refine zr rfl rfl rfl (by simp) ?_
 simp [*, F12, u8s]
 refine wp_while K12_0 B12_0 (fun i : Nat => 14 - i) (fun i => [(5, .str (pq P l i)), (6, .int .i64 i)]) (fun _ => []) (fun _ => []) (fun i => i <= 14 /\ i <= l.length) 0 (by simp [pq]) ?_
 rintro i s1 ⟨hi, hil⟩ h1 h2 h3 h4 h5
 simp at h1 h3 h5
 clear h2 h4
 have hlen := pq_len hm l i
 by_cases hc : i < l.length /\ i < 14
 ·obtain ⟨c1, c2⟩ := hc
  have g1 := pc_get hP l[i]
  have g2 := pc_len hm l[i]
  have g3 := Nat.mod_lt l[i].toNat hP
  have hrem : remK (l[i].toNat : Int) (P.length : Int) = ((l[i].toNat % P.length : Nat) : Int) := remNat _ _
  have htk := pq_succ P l i c1
  have hget : l[i]? = some l[i] := List.getElem?_eq_getElem c1
  generalize hb : l[i] = b at *
  generalize hk : b.toNat % P.length = k at *
  generalize pc P b = t at *
  have hne : ¬ (P.length = 0) := by omega
  have hne' : ¬ ((P.length : Int) = 0) := by omega
  have k1 : ((i : Int) < l.length) = True := eqp (by omega)
  have k2 : ((i : Int) < 14) = True := eqp (by omega)
  have k3 : ((k : Int) < P.length) = True := eqp (by omega)
  have hw : zca .i64 ((i : Int) + 1) = (i : Int) + 1 := zu (by omega) (by omega)
  have hnil : ¬ P = [] := by intro h; rw [h] at hP; exact absurd hP (by decide)
  have m1 : (pq P l i).length + t.length <= 9223372036854775807 := by omega
  generalize pq P l i = q at *
  have g4 : P[k]'g3 = t := by rw [List.getElem?_eq_getElem g3] at g1; exact Option.some.inj g1
  clear hk c1 hb
  simp [*]
  exact ⟨i + 1, by omega, ⟨by rw [htk], by omega⟩, by omega, by have := of_eq_true k1; omega⟩
 ·have e : pq P l 14 = pq P l i := by
   by_cases h14 : i = 14
   ·rw [h14]
   ·exact pq_end P l i (by omega) hi
  rw [e]
  clear e
  generalize pq P l i = q at *
  by_cases k1 : (i : Int) < l.length
  ·have k2 : ¬ (i : Int) < 14 := by omega
   (simp [*]) <;> (repeat' (first | ((first | refine sP _ ?_ ?_ | refine gP _ ?_ ?_ | refine sN _ ?_ ?_ | refine gN _ ?_ ?_) <;> intro hc <;> (first | replace hc := eqn hc | replace hc := eqp hc) <;> simp [*]) | ((first | refine sM _ ?_ ?_ | refine gM _ ?_ ?_ | refine sB _ ?_ ?_ | refine gB _ ?_ ?_) <;> intro hc <;> simp [*])))
  ·(simp [*]) <;> (repeat' (first | ((first | refine sP _ ?_ ?_ | refine gP _ ?_ ?_ | refine sN _ ?_ ?_ | refine gN _ ?_ ?_) <;> intro hc <;> (first | replace hc := eqn hc | replace hc := eqp hc) <;> simp [*]) | ((first | refine sM _ ?_ ?_ | refine gM _ ?_ ?_ | refine sB _ ?_ ?_ | refine gB _ ?_ ?_) <;> intro hc <;> simp [*])))
theorem signs02_len : ∀ x ∈ zQb, x.length <= 30 := by decide
theorem signs_x : zz E 13 [] [] = some (.ret (.slice .plain 1 (zQb.map PV.str)), []) := by
 refine zr rfl rfl rfl (by simp) ?_
 simp [F13, zQb]
def zXb (t : Tok) : Tok := { t with line := 0 }
theorem flat_spec (l : List Tok) (hl : l.length < 1000000) : zz E 18 [toks l] [] = some (.ret (toks (l.map zXb)), []) := by
 refine zr rfl rfl rfl (by simp [toks]) ?_
 simp [F18, toks]
 refine zgb l K18_0 B18_0 (fun d => [(4, .int .i64 d.length), (3, acc 3 (d.map fun t => zf (zXb t)))]) (fun _ => []) (fun d => True) (by omega) (by simp) ?_ ?_
 ·intros d x r s1 hl' hlt hget hget' hw1 hp h1 h2 h3 h4
  simp at h1 h2 h3
  have hdec : decide (d.length < l.length) = true := decide_eq_true hlt
  have q4 : (d.length + 1) * 32 <= zH := by simp only [zH]; omega
  clear hl' h2
  simp [*, zf, zXb]
 ·intros s1 hp h1 h2 h3 h4
  simp at h1 h2 h3
  simp [*, Function.comp_def]
end PE.U

namespace PE.U
open Go PE
def aw02 : List UInt8 := [120, 61, 49, 59, 47, 47, 32, 97]
def aw02b : List UInt8 := [10, 35]
def aw02T : List Tok := [⟨1, [120], 1⟩, ⟨2, [61], 1⟩, ⟨0, [49], 1⟩, ⟨2, [59], 1⟩, ⟨3, [], 1⟩]
theorem aw02_ok : ze aw02 = (aw02T, 0, 0) := by decide +kernel
theorem aw02b_ok : ze aw02b = ([], 20, 2) := by decide +kernel
set_option maxHeartbeats 1000000 in
theorem zVa : zz E 8 [] [] = some (.ret (.bool true), []) := by
 refine zr rfl rfl rfl (by simp) ?_
 have p1 := zM aw02
 have p2 := zM aw02b
 rw [aw02_ok] at p1
 rw [aw02b_ok] at p2
 have s1 := zjb aw02T (by decide)
 have w1 := zDb [105, 102] []
 have w2 := name_spec [105, 102, 102] []
 rw [show wordM [105, 102] = true from by decide] at w1
 rw [show nameM [105, 102, 102] = true from by decide] at w2
 simp [zHa, toks, aw02, aw02b, aw02T, zf] at p1 p2 s1
 simp [*, F8]
theorem tokens_le (s : List UInt8) (hs : s.length <= 100000) : (ze s).1.length <= s.length + 1 := by
 have h : ∀ n (s : List UInt8) line acc, s.length < n -> (zR n s line acc).1.length <= acc.length + s.length + 1 := by
  intro n
  induction n with
  | zero => intro s line acc h; omega
  | succ n ih =>
   intro s line acc hn
   cases s with
   | nil => simp [zR]
   | cons b r =>
    simp only [List.length_cons] at hn ⊢
    simp only [zR]
    split
    ·have := ih r (line + 1) acc (by omega); omega
    split
    ·have := ih r line acc (by omega); omega
    split
    ·rename_i h
     have h1 := zZa (r := r) h.1
     have := ih _ line acc (Nat.lt_of_le_of_lt h1 (by omega)); omega
    split
    ·rename_i h
     have h1 := zUa (r := r) h
     split
     ·simp
     ·have := ih _ line (acc ++ [⟨zfa ((b :: r).takeWhile zd) b, (b :: r).takeWhile zd, line⟩]) (Nat.lt_of_le_of_lt h1 (by omega))
      rw [List.length_append, List.length_singleton] at this
      omega
    split
    ·simp
    ·rename_i h
     have h1 := zTa h
     have := ih _ line (acc ++ [⟨2, zG (b :: r), line⟩]) (Nat.lt_of_le_of_lt h1 (by omega))
     rw [List.length_append, List.length_singleton] at this
     omega
 unfold ze
 rw [if_neg (by omega)]
 have := h (s.length + 1) s 1 [] (by omega)
 simp only [List.length_nil] at this
 omega
theorem tokens_few (s : List UInt8) (hs : s.length <= 100000) : (ze s).1.length < 1000000 := by
 have := tokens_le s hs; omega
theorem tokens_many (s : List UInt8) : (ze s).1.length < 1099511627776 := by
 by_cases h : s.length <= 100000
 ·have := tokens_few s h; omega
 ·unfold ze
  rw [if_pos (by omega)]; simp
set_option maxHeartbeats 1000000 in
theorem tokenTokens_spec (s : List UInt8) (hl : s.length <= 9223372036854775807) : zz E 3 [.str s] [] = some (.ret (.bool true), []) := by
 refine zr rfl rfl rfl (by simp) ?_
 have a0 := zVa
 have a1 := zM s
 have a2 := tokens_spec s
 have a3 := zjb (ze s).1 (tokens_many s)
 generalize ze s = t at *
 obtain ⟨l, e, n⟩ := t
 simp [zHa, toks] at a1 a2 a3
 (simp [*, F3]) <;> (repeat' ((first | refine sP _ ?_ ?_ | refine gP _ ?_ ?_ | refine sN _ ?_ ?_ | refine gN _ ?_ ?_ | refine sM _ ?_ ?_ | refine gM _ ?_ ?_ | refine sB _ ?_ ?_ | refine gB _ ?_ ?_) <;> intro hc <;> simp [*, F3]))
set_option maxHeartbeats 1000000 in
theorem tokenSmall_spec (l : List UInt8) (hl : l.length <= 9223372036854775807) : zz E 4 [u8s l] [] = some (.ret (.bool true), []) := by
 refine zr rfl rfl rfl (by simp) ?_
 have a0 := zVa
 have p0 := zlb zQb (by decide) (by decide) signs02_len l hl
 have p1 := signs_x
 generalize pq zQb l 14 = s at *
 have a1 := zM s
 have a2 := tokens_spec s
 have a3 := zjb (ze s).1 (tokens_many s)
 generalize ze s = t at *
 obtain ⟨l, e, n⟩ := t
 simp [zHa, toks] at a1 a2 a3
 (simp [*, F4]) <;> (repeat' ((first | refine sP _ ?_ ?_ | refine gP _ ?_ ?_ | refine sN _ ?_ ?_ | refine gN _ ?_ ?_ | refine sM _ ?_ ?_ | refine gM _ ?_ ?_ | refine sB _ ?_ ?_ | refine gB _ ?_ ?_) <;> intro hc <;> simp [*, F4]))
def names02 : List (List UInt8) := [[97], [49], [95], [90], [105, 110, 116], [105], [56], [105, 102], [45]]
set_option maxHeartbeats 1000000 in
theorem tokenNames_spec (s l : List UInt8) (hs : s.length <= 9223372036854775807) (hl : l.length <= 9223372036854775807) : zz E 5 [.str s, u8s l] [] = some (.ret (.bool true), []) := by
 refine zr rfl rfl rfl (by simp) ?_
 have a0 := zVa
 have p0 := zlb names02 (by decide) (by decide) (by decide) l hl
 generalize pq names02 l 14 = t at *
 have b1 := name_spec s []
 have b2 := rname_spec s []
 have b3 := zDb s []
 have b4 := zGb s []
 have c1 := name_spec t []
 have c2 := rname_spec t []
 have c3 := zDb t []
 have c4 := zGb t []
 simp [names02] at p0
 (simp [*, F5]) <;> (repeat' ((first | refine sP _ ?_ ?_ | refine gP _ ?_ ?_ | refine sN _ ?_ ?_ | refine gN _ ?_ ?_ | refine sM _ ?_ ?_ | refine gM _ ?_ ?_ | refine sB _ ?_ ?_ | refine gB _ ?_ ?_) <;> intro hc <;> simp [*, F5]))
end PE.U

namespace PE.U
open Go PE
theorem take_bl (s t : List UInt8) : (s ++ 32 :: t).takeWhile zd = s.takeWhile zd := by
 induction s with
 | nil => rfl
 | cons b r ih =>
  rw [List.cons_append, List.takeWhile_cons, List.takeWhile_cons, ih]
theorem prefix_bl : ∀ (x s t : List UInt8), (32 : UInt8) ∉ x -> x.isPrefixOf (s ++ 32 :: t) = x.isPrefixOf s
 | [], s, t, _ => by simp
 | a :: x, [], t, h => by
  have : ¬ a = 32 := fun e => h (by rw [e]; simp)
  simp [List.isPrefixOf, this]
 | a :: x, b :: s, t, h => by
  have h' : (32 : UInt8) ∉ x := fun e => h (by simp [e])
  simp [List.isPrefixOf, prefix_bl x s t h']
theorem sign_bl (s t : List UInt8) : zG (s ++ 32 :: t) = zG s := by
 have h : ∀ x ∈ zta, (32 : UInt8) ∉ x := by decide
 unfold zG
 have e : zta.find? (fun x => x.isPrefixOf (s ++ 32 :: t)) = zta.find? (fun x => x.isPrefixOf s) := by
  have : ∀ l : List (List UInt8), (∀ x ∈ l, (32 : UInt8) ∉ x) -> l.find? (fun x => x.isPrefixOf (s ++ 32 :: t)) = l.find? (fun x => x.isPrefixOf s) := by
   intro l
   induction l with
   | nil => intro _; rfl
   | cons x r ih =>
    intro hl
    rw [List.find?_cons, List.find?_cons, prefix_bl x s t (hl x (by simp)), ih (fun y hy => hl y (by simp [hy]))]
  exact this _ h
 rw [e]
theorem sign_mem {s : List UInt8} (h : ¬ zG s = []) : zG s ∈ zta := by
 unfold zG at h ⊢
 cases e : zta.find? fun x => x.isPrefixOf s with
 | none => rw [e] at h; exact absurd rfl h
 | some x => exact List.mem_of_find?_eq_some e
theorem tokS_blank {b : UInt8} (r : List UInt8) (h : blank b = true) : tokS (b :: r) = tokS r := by
 have hn : ¬ b = 10 := by rintro rfl; exact absurd h (by decide)
 unfold tokS
 rw [List.length_cons, tokK, if_neg hn, if_pos h]
def TokG (x : KT) : Prop := (x.2.all zd = true /\ x.2 ≠ [] /\ tokBad x.2 (x.2.head?.getD 0) = false /\ x.1 = zfa x.2 (x.2.head?.getD 0)) \/ (x.1 = 2 /\ x.2 ∈ zta)
theorem name_not {b : UInt8} (h : zd b = true) : ¬ b = 10 /\ ¬ blank b = true /\ ¬ b = 47 := by
 refine ⟨?_, ?_, ?_⟩
 ·rintro rfl; exact absurd h (by decide)
 ·intro hb
  simp only [blank, Bool.or_eq_true, beq_iff_eq] at hb
  rcases hb with (rfl | rfl) | rfl <;> exact absurd h (by decide)
 ·rintro rfl; exact absurd h (by decide)
theorem tokG_step {x : KT} (hx : TokG x) (r : List UInt8) : tokS (x.2 ++ 32 :: r) = (tokS r).map (x :: ·) := by
 obtain ⟨k, w⟩ := x
 rcases hx with ⟨h1, h2, h3, h4⟩ | ⟨h1, h2⟩
 ·simp only at h1 h2 h3 h4
  obtain ⟨b, q, rfl⟩ := List.exists_cons_of_ne_nil h2
  have hh : ((b :: q).head?.getD 0) = b := rfl
  rw [hh] at h3 h4
  have htw : (b :: (q ++ 32 :: r)).takeWhile zd = b :: q := by
   rw [<- List.cons_append, take_bl]; exact zsa.2 h1
  have hb : zd b = true := by rw [List.all_cons, Bool.and_eq_true] at h1; exact h1.1
  obtain ⟨n1, n2, n3⟩ := name_not hb
  have e : tokS ((b :: q) ++ 32 :: r) = tokK ((q ++ 32 :: r).length + 1 + 1) (b :: (q ++ 32 :: r)) := rfl
  simp only
  rw [e, tokK, if_neg n1, if_neg n2, if_neg (fun h => n3 h.1), if_pos hb, htw, if_neg (by rw [h3]; decide)]
  have hd : (b :: (q ++ 32 :: r)).drop (b :: q).length = 32 :: r := by
   rw [<- List.cons_append, List.drop_left]
  rw [hd, zoa (by simp; omega), tokS_blank r (by decide), <- h4]
 ·simp only at h1 h2
  subst h1
  have hall : ∀ w ∈ zta, zG w = w /\ w ≠ [] /\ zd (w.head?.getD 0) = false /\ blank (w.head?.getD 0) = false /\ ¬ w.head?.getD 0 = 10 /\ ¬ (w.head?.getD 0 = 47 /\ w.tail.head? = some 47) := by decide
  obtain ⟨a1, a2, a3, a4, a5, a6⟩ := hall w h2
  obtain ⟨b, q, rfl⟩ := List.exists_cons_of_ne_nil a2
  have hh : ((b :: q).head?.getD 0) = b := rfl
  rw [hh] at a3 a4 a5 a6
  have hs : zG (b :: (q ++ 32 :: r)) = b :: q := by rw [<- List.cons_append, sign_bl, a1]
  have hc : ¬ (b = 47 /\ (q ++ 32 :: r).head? = some 47) := by
   rintro ⟨c1, c2⟩
   cases q with
   | nil => simp at c2
   | cons c q => exact a6 ⟨c1, by simpa using c2⟩
  have e : tokS ((b :: q) ++ 32 :: r) = tokK ((q ++ 32 :: r).length + 1 + 1) (b :: (q ++ 32 :: r)) := rfl
  simp only
  rw [e, tokK, if_neg a5, if_neg (by rw [a4]; decide), if_neg hc, if_neg (by rw [a3]; decide), hs, if_neg a2]
  have hd : (b :: (q ++ 32 :: r)).drop (b :: q).length = 32 :: r := by
   rw [<- List.cons_append, List.drop_left]
  rw [hd, zoa (by simp; omega), tokS_blank r (by decide)]
theorem tokK_good : ∀ n (s : List UInt8) (L : List KT), tokK n s = some L -> (∀ x ∈ L, TokG x) /\ (L.flatMap fun x => x.2 ++ [32]).length <= 2 * s.length := by
 intro n
 induction n with
 | zero => intro s L h; cases h
 | succ n ih =>
  intro s L h
  cases s with
  | nil =>
   simp only [tokK, Option.some.injEq] at h
   subst h
   exact ⟨fun x hx => (by cases hx), by simp⟩
  | cons b r =>
   simp only [tokK] at h
   split at h
   ·obtain ⟨i1, i2⟩ := ih r L h
    exact ⟨i1, by rw [List.length_cons]; omega⟩
   split at h
   ·obtain ⟨i1, i2⟩ := ih r L h
    exact ⟨i1, by rw [List.length_cons]; omega⟩
   split at h
   ·rename_i hc
    have hd := zZa (r := r) hc.1
    obtain ⟨i1, i2⟩ := ih _ L h
    exact ⟨i1, by rw [List.length_cons]; omega⟩
   split at h
   ·rename_i hb
    split at h
    ·cases h
    rename_i hbad
    rw [Option.map_eq_some_iff] at h
    obtain ⟨L', h1, rfl⟩ := h
    obtain ⟨i1, i2⟩ := ih _ L' h1
    have hne : (b :: r).takeWhile zd ≠ [] := by rw [List.takeWhile_cons, hb]; simp
    have hhd : ((b :: r).takeWhile zd).head?.getD 0 = b := by rw [List.takeWhile_cons, hb]; rfl
    have hle : ((b :: r).takeWhile zd).length <= (b :: r).length := (List.takeWhile_prefix _).length_le
    have hpos := List.length_pos_iff.2 hne
    refine ⟨fun x hx => ?_, ?_⟩
    ·rcases List.mem_cons.1 hx with rfl | hx
     ·refine .inl ⟨List.all_takeWhile, hne, ?_, ?_⟩
      ·simp only [hhd]; simpa using hbad
      ·simp only [hhd]
     ·exact i1 x hx
    ·rw [List.flatMap_cons, List.length_append, List.length_append]
     rw [List.length_drop] at i2
     simp only [List.length_singleton]
     omega
   split at h
   ·cases h
   ·rename_i hs
    rw [Option.map_eq_some_iff] at h
    obtain ⟨L', h1, rfl⟩ := h
    obtain ⟨i1, i2⟩ := ih _ L' h1
    have hle := sign_le (b :: r)
    have hpos := List.length_pos_iff.2 hs
    refine ⟨fun x hx => ?_, ?_⟩
    ·rcases List.mem_cons.1 hx with rfl | hx
     ·exact .inr ⟨rfl, sign_mem hs⟩
     ·exact i1 x hx
    ·rw [List.flatMap_cons, List.length_append, List.length_append]
     rw [List.length_drop] at i2
     simp only [List.length_singleton]
     omega
theorem tokS_again : ∀ (L : List KT) (r : List UInt8), (∀ x ∈ L, TokG x) -> tokS ((L.flatMap fun x => x.2 ++ [32]) ++ r) = (tokS r).map (L ++ ·)
 | [], r, _ => by simp
 | x :: L, r, h => by
  rw [List.flatMap_cons, List.append_assoc, List.append_assoc]
  have e : x.2 ++ ([32] ++ ((L.flatMap fun x => x.2 ++ [32]) ++ r)) = x.2 ++ 32 :: ((L.flatMap fun x => x.2 ++ [32]) ++ r) := rfl
  rw [e, tokG_step (h x (by simp)), tokS_again L r (fun y hy => h y (by simp [hy])), Option.map_map]
  rfl
theorem tokens_of_K (s : List UInt8) (h : s.length <= 100000) {L : List KT} (hL : tokS s = some L) : (ze s).2 = (0, 0) /\ (ze s).1.map kt = L ++ [(3, [])] := by
 unfold ze
 rw [if_neg (by omega)]
 obtain ⟨h1, h2⟩ := (tokGo_K (s.length + 1) s 1 [] (by omega)).2 L hL
 exact ⟨h1, by rw [h2]; simp⟩
theorem flat_kt {a b : List Tok} (h : a.map kt = b.map kt) : a.map zXb = b.map zXb := by
 have e : zXb = (fun x : KT => (⟨x.1, x.2, 0⟩ : Tok)) ∘ kt := rfl
 rw [e, <- List.map_map, <- List.map_map, h]
theorem again_tokens (s : List UInt8) (hs : s.length <= 1000) (h0 : (ze s).2.1 = 0) :
  ((ze s).1.flatMap fun t => t.text ++ [32]).length <= 2001 ∧
  (ze ((ze s).1.flatMap fun t => t.text ++ [32])).2.1 = 0 ∧
  (ze ((ze s).1.flatMap fun t => t.text ++ [32])).1.map zXb = (ze s).1.map zXb := by
 obtain ⟨L, hL, hk⟩ := tokens_K s (by omega) h0
 obtain ⟨hg, hlen⟩ := tokK_good _ _ _ hL
 have e : ((ze s).1.flatMap fun t => t.text ++ [32]) = (L.flatMap fun x => x.2 ++ [32]) ++ [32] := by
  have : ((ze s).1.flatMap fun t => t.text ++ [32]) = ((ze s).1.map kt).flatMap fun x : KT => x.2 ++ [32] := by
   rw [List.flatMap_map]; rfl
  rw [this, hk, List.flatMap_append]; rfl
 have hS : tokS ((L.flatMap fun x => x.2 ++ [32]) ++ [32]) = some L := by
  rw [tokS_again L [32] hg]
  have : tokS [32] = some [] := by decide
  rw [this]; simp
 rw [e]
 have hl : ((L.flatMap fun x : KT => x.2 ++ [32]) ++ [32]).length <= 2001 := by
  rw [List.length_append, List.length_singleton]; omega
 obtain ⟨k1, k2⟩ := tokens_of_K _ (by omega) hS
 exact ⟨hl, by rw [k1], flat_kt (k2.trans hk.symm)⟩
theorem take_end (s : List UInt8) : (s ++ [32]).takeWhile zd = s.takeWhile zd := take_bl s []
theorem dropW_nil : ∀ q : List UInt8, q.dropWhile (· != 10) = [] <-> (10 : UInt8) ∉ q
 | [] => by simp
 | b :: q => by
  rw [List.dropWhile_cons]
  by_cases h : b = 10
  ·subst h; simp
  ·have h' : ¬ (10 : UInt8) = b := fun e => h e.symm
   simp [h, h', dropW_nil q]
theorem tokS_end' : ∀ n (s : List UInt8), s.length < n -> tokS (s ++ [32]) = tokS s := by
 intro n
 induction n with
 | zero => intro s h; omega
 | succ n ih =>
  intro s hn
  cases s with
  | nil => decide
  | cons b r =>
   simp only [List.length_cons] at hn
   have hlen : (r ++ [32]).length = r.length + 1 := by simp
   have hh : (r ++ [32]).head? = some 47 <-> r.head? = some 47 := by
    cases r with
    | nil => simp
    | cons c q => simp
   have hnl := take_end (b :: r)
   have hsl := sign_bl (b :: r) []
   have e1 : tokS ((b :: r) ++ [32]) = tokK (r.length + 1 + 1 + 1) (b :: (r ++ [32])) := by
    unfold tokS
    rw [show ((b :: r : List UInt8) ++ ([32] : List UInt8)).length = r.length + 1 + 1 from by simp]; rfl
   have e2 : tokS (b :: r) = tokK (r.length + 1 + 1) (b :: r) := rfl
   rw [e1, e2]
   rw [List.cons_append] at hnl hsl
   simp only [tokK, hnl, hsl, hh]
   split
   ·rw [zoa (by rw [hlen]; omega), zoa (by omega)]; exact ih r (by omega)
   split
   ·rw [zoa (by rw [hlen]; omega), zoa (by omega)]; exact ih r (by omega)
   split
   ·rename_i h
    have hd := zZa (r := r) h.1
    by_cases hm : (10 : UInt8) ∈ b :: r
    ·have hdl : (b :: (r ++ [32])).dropWhile (· != 10) = (b :: r).dropWhile (· != 10) ++ [32] := by
      rw [<- List.cons_append, List.dropWhile_append, if_neg]
      intro h
      have h' : (b :: r).dropWhile (· != 10) = [] := List.isEmpty_iff.1 h
      exact (dropW_nil _).1 h' hm
     rw [hdl, zoa (by simp at hd ⊢; omega), zoa (by omega)]
     exact ih _ (by omega)
    ·have hz : ∀ q : List UInt8, (10 : UInt8) ∉ q -> q.dropWhile (· != 10) = [] := fun q => (dropW_nil q).2
     rw [hz _ hm, hz (b :: (r ++ [32])) (by rw [<- List.cons_append, List.mem_append]; rintro (h | h); exact hm h; simp at h)]
     rfl
   split
   ·rename_i h
    have hd := zUa (r := r) h
    have hle := (List.takeWhile_prefix (l := b :: r) (p := zd)).length_le
    split
    ·rfl
    ·rw [<- List.cons_append, List.drop_append_of_le_length hle, zoa (by simp at hd ⊢; omega), zoa (by omega), ih _ (by omega)]
   split
   ·rfl
   ·rename_i h
    have hd := zTa h
    have hle := sign_le (b :: r)
    rw [<- List.cons_append, List.drop_append_of_le_length hle, zoa (by simp at hd ⊢; omega), zoa (by omega), ih _ (by omega)]
theorem tokS_end (s : List UInt8) : tokS (s ++ [32]) = tokS s := tokS_end' _ s (Nat.lt_succ_self _)
def betP : List UInt8 := [9, 47, 47, 32, 120, 32, 39, 32, 195, 169]
theorem between_tokens (s t : List UInt8) (hs : s.length <= 500) (ht : t.length <= 500) (h1 : (ze s).2.1 = 0) (h2 : (ze t).2.1 = 0) :
  (ze s).1 ≠ [] ∧
  (ze (betP ++ 10 :: (s ++ 10 :: ([47, 47] ++ 10 :: (t ++ [32]))))).2.1 = 0 ∧
  (ze (betP ++ 10 :: (s ++ 10 :: ([47, 47] ++ 10 :: (t ++ [32]))))).1.map zXb = ((ze s).1.take ((ze s).1.length - 1) ++ (ze t).1).map zXb := by
 obtain ⟨L, hL, hk⟩ := tokens_K s (by omega) h1
 obtain ⟨M, hM, hm⟩ := tokens_K t (by omega) h2
 have hS : tokS (betP ++ 10 :: (s ++ 10 :: ([47, 47] ++ 10 :: (t ++ [32])))) = some (L ++ M) := by
  rw [tokS_nl, tokS_nl, tokS_nl, tokS_end, hL, hM, show tokS betP = some [] from by decide +kernel, show tokS [47, 47] = some [] from by decide]
  simp
 have hl : (betP ++ 10 :: (s ++ 10 :: ([47, 47] ++ 10 :: (t ++ [32])))).length <= 100000 := by
  simp [betP]; omega
 obtain ⟨k1, k2⟩ := tokens_of_K _ hl hS
 have hlen := congrArg List.length hk
 rw [List.length_map, List.length_append, List.length_singleton] at hlen
 refine ⟨?_, by rw [k1], flat_kt ?_⟩
 ·intro h; rw [h] at hlen; simp at hlen
 ·rw [k2, List.map_append, List.map_take, hk, hm, hlen]
  simp
end PE.U

namespace PE.U
open Go PE
theorem aI {cf : zi} {s0 s : St} {r : List GOp} {Q : Ex -> St -> Prop} {a : _} {b : _} {o : _} {x : _} {c : Prop} [Decidable c] (hc : c) (h : after cf s0 r Q (doOp a b o s (some x))) : after cf s0 r Q (doOp a b o s (if c then some x else none)) := by rw [if_pos hc]; exact h
theorem bl_take (n k : Nat) (f : Tok -> PV) (h : ∀ x, zm n (f x) = true) (l : List Tok) : zF n ((l.map f).take k) = true := by
 rw [<- List.map_take]; exact belowL_map _ _ _ h
def zJa (d : List Tok) : List UInt8 := d.flatMap fun t => t.text ++ [32]
def bet02 : List (List UInt8) := [[98], [32], [61, 61], [55], [119, 104, 105, 108, 101]]
theorem againB_add (d : List Tok) (x : Tok) : zJa (d ++ [x]) = zJa d ++ (x.text ++ [32]) := by
 unfold zJa
 rw [List.flatMap_append, List.flatMap_singleton]
theorem againB_le {l d : List Tok} {x : Tok} {r : List Tok} (h : l = d ++ x :: r) : (zJa d).length + x.text.length + 1 <= (zJa l).length := by
 subst h
 unfold zJa
 rw [List.flatMap_append, List.flatMap_cons, List.length_append, List.length_append, List.length_append, List.length_singleton]
 omega
theorem tokens_err (s : List UInt8) (h : ¬ (ze s).2.1 = 0) : (ze s).1 = [] := by
 have hg : ∀ n (s : List UInt8) line acc, s.length < n -> ¬ (zR n s line acc).2.1 = 0 -> (zR n s line acc).1 = [] := by
  intro n
  induction n with
  | zero => intro s line acc h; omega
  | succ n ih =>
   intro s line acc hn
   cases s with
   | nil => intro h; simp [zR] at h
   | cons b r =>
    simp only [List.length_cons] at hn
    simp only [zR]
    split
    ·exact ih r _ _ (by omega)
    split
    ·exact ih r _ _ (by omega)
    split
    ·rename_i h
     have h1 := zZa (r := r) h.1
     exact ih _ _ _ (Nat.lt_of_le_of_lt h1 (by omega))
    split
    ·rename_i h
     have h1 := zUa (r := r) h
     split
     ·exact fun _ => rfl
     ·exact ih _ _ _ (Nat.lt_of_le_of_lt h1 (by omega))
    split
    ·exact fun _ => rfl
    ·rename_i h
     have h1 := zTa h
     exact ih _ _ _ (Nat.lt_of_le_of_lt h1 (by omega))
 unfold ze at h ⊢
 split
 ·rfl
 ·rename_i hl
  rw [if_neg hl] at h
  exact hg _ _ _ _ (Nat.lt_succ_self _) h
set_option maxHeartbeats 4000000 in
theorem again_run (s : List UInt8) : ∀ (raw l : List UInt8) (small : Bool), raw.length <= 9223372036854775807 -> l.length <= 9223372036854775807 -> s = (if small then pq zQb l 14 else raw) →
  zz E 6 [.str raw, u8s l, .bool small] [] = some (.ret (.bool true), []) := by
 intro raw l small hr hl hs
 refine zr rfl rfl rfl (by simp) ?_
 have a0 := zVa
 have p0 := zlb zQb (by decide) (by decide) signs02_len l hl
 have p1 := signs_x
 have a1 := zM s
 have hag := again_tokens s
 have hsz := tokens_many s
 have hfew := tokens_few s
 have herr : ¬ (ze s).2.1 = 0 -> s.length <= 1000 -> (ze s).1 = [] := fun h _ => tokens_err s h
 by_cases hlong : (1000 : Int) < s.length
 ·clear a1 hag hsz hfew herr
  cases small
  ·simp only [Bool.false_eq_true, if_false] at hs
   subst hs
   (simp [*, F6]) <;> (repeat' (first | ((first | refine sP _ ?_ ?_ | refine gP _ ?_ ?_ | refine sN _ ?_ ?_ | refine gN _ ?_ ?_) <;> intro hc <;> (first | replace hc := eqn hc | replace hc := eqp hc) <;> simp [*, F6]) | ((first | refine sM _ ?_ ?_ | refine gM _ ?_ ?_ | refine sB _ ?_ ?_ | refine gB _ ?_ ?_) <;> intro hc <;> simp [*, F6])))
  ·simp only [if_true] at hs
   subst hs
   (simp [*, F6]) <;> (repeat' (first | ((first | refine sP _ ?_ ?_ | refine gP _ ?_ ?_ | refine sN _ ?_ ?_ | refine gN _ ?_ ?_) <;> intro hc <;> (first | replace hc := eqn hc | replace hc := eqp hc) <;> simp [*, F6]) | ((first | refine sM _ ?_ ?_ | refine gM _ ?_ ?_ | refine sB _ ?_ ?_ | refine gB _ ?_ ?_) <;> intro hc <;> simp [*, F6])))
 have hag := hag (by omega)
 have hfew := hfew (by omega)
 have herr := fun h => herr h (by omega)
 by_cases h0 : ¬ (ze s).2.1 = 0
 ·have herr := herr h0
  clear hag hsz hfew
  generalize ze s = t at *
  obtain ⟨T, e, n⟩ := t
  simp only at herr h0
  subst herr
  simp [zHa, toks] at a1
  cases small
  ·simp only [Bool.false_eq_true, if_false] at hs
   subst hs
   (simp [*, F6]) <;> (repeat' (first | ((first | refine sP _ ?_ ?_ | refine gP _ ?_ ?_ | refine sN _ ?_ ?_ | refine gN _ ?_ ?_) <;> intro hc <;> (first | replace hc := eqn hc | replace hc := eqp hc) <;> simp [*, F6]) | ((first | refine sM _ ?_ ?_ | refine gM _ ?_ ?_ | refine sB _ ?_ ?_ | refine gB _ ?_ ?_) <;> intro hc <;> simp [*, F6])))
  ·simp only [if_true] at hs
   subst hs
   (simp [*, F6]) <;> (repeat' (first | ((first | refine sP _ ?_ ?_ | refine gP _ ?_ ?_ | refine sN _ ?_ ?_ | refine gN _ ?_ ?_) <;> intro hc <;> (first | replace hc := eqn hc | replace hc := eqp hc) <;> simp [*, F6]) | ((first | refine sM _ ?_ ?_ | refine gM _ ?_ ?_ | refine sB _ ?_ ?_ | refine gB _ ?_ ?_) <;> intro hc <;> simp [*, F6])))
 have h0 := Decidable.of_not_not h0
 obtain ⟨g1, g2, g3⟩ := hag h0
 clear hag herr
 rw [show ((ze s).1.flatMap fun t => t.text ++ [32]) = zJa (ze s).1 from rfl] at g1 g2 g3
 have b1 := zM (zJa (ze s).1)
 have bf := tokens_few (zJa (ze s).1) (by omega)
 have f1 := flat_spec (ze s).1 hfew
 have f2 := flat_spec (ze (zJa (ze s).1)).1 bf
 rw [g3] at f2
 have f3 := zjb ((ze s).1.map zXb) (by rw [List.length_map]; omega)
 clear g3 bf hsz
 generalize ze s = t at *
 obtain ⟨T, e, n⟩ := t
 simp only at h0 g1 g2 b1 f1 f2 f3 hfew
 subst h0
 obtain ⟨t2, ht2⟩ : ∃ c, ze (zJa T) = c := ⟨_, rfl⟩
 rw [ht2] at b1 g2 f2
 clear ht2
 obtain ⟨T2, e2, n2⟩ := t2
 simp only at g2 b1 f2
 subst g2
 simp [zHa, toks] at a1 b1 f1 f2 f3
 cases small
 ·simp only [Bool.false_eq_true, if_false] at hs
  subst hs
  (simp [*, F6]) <;> (repeat' (first | ((first | refine sP _ ?_ ?_ | refine gP _ ?_ ?_ | refine sN _ ?_ ?_ | refine gN _ ?_ ?_) <;> intro hc <;> (first | replace hc := eqn hc | replace hc := eqp hc) <;> simp [*, F6]) | ((first | refine sM _ ?_ ?_ | refine gM _ ?_ ?_ | refine sB _ ?_ ?_ | refine gB _ ?_ ?_) <;> intro hc <;> simp [*, F6])))
  refine zgb T K6_0 B6_0 (fun d => [(12, .str (zJa d)), (13, .int .i64 d.length)]) (fun _ => []) (fun d => True) (by omega) (by simp [zJa]) ?_ ?_
  ·intros d x r s1 hl' hlt hget hget' hw1 hp h1 h2 h3 h4
   have hadd := againB_add d x
   have hle := againB_le hl'
   simp at h1 h2 h3 hadd
   have hdec : decide (d.length < T.length) = true := decide_eq_true hlt
   clear h2 a0 p0 p1 a1 b1 f1 f2 f3 hl'
   generalize zJa T = bT at *
   generalize zJa d = q at *
   have m1 : q.length + x.text.length <= 9223372036854775807 := by omega
   have m2 : q.length + x.text.length + 1 <= 9223372036854775807 := by omega
   have m3 : q.length + (x.text.length + 1) <= 9223372036854775807 := by omega
   simp [*, zf]
  ·intros s1 hp h1 h2 h3 h4
   simp at h1 h2 h3
   (simp [*]) <;> (repeat' (first | ((first | refine sP _ ?_ ?_ | refine gP _ ?_ ?_ | refine sN _ ?_ ?_ | refine gN _ ?_ ?_) <;> intro hc <;> (first | replace hc := eqn hc | replace hc := eqp hc) <;> simp [*]) | ((first | refine sM _ ?_ ?_ | refine gM _ ?_ ?_ | refine sB _ ?_ ?_ | refine gB _ ?_ ?_) <;> intro hc <;> simp [*])))
 ·simp only [if_true] at hs
  rw [<- hs] at p0
  clear hs
  (simp [*, F6]) <;> (repeat' (first | ((first | refine sP _ ?_ ?_ | refine gP _ ?_ ?_ | refine sN _ ?_ ?_ | refine gN _ ?_ ?_) <;> intro hc <;> (first | replace hc := eqn hc | replace hc := eqp hc) <;> simp [*, F6]) | ((first | refine sM _ ?_ ?_ | refine gM _ ?_ ?_ | refine sB _ ?_ ?_ | refine gB _ ?_ ?_) <;> intro hc <;> simp [*, F6])))
  refine zgb T K6_0 B6_0 (fun d => [(12, .str (zJa d)), (13, .int .i64 d.length)]) (fun _ => []) (fun d => True) (by omega) (by simp [zJa]) ?_ ?_
  ·intros d x r s1 hl' hlt hget hget' hw1 hp h1 h2 h3 h4
   have hadd := againB_add d x
   have hle := againB_le hl'
   simp at h1 h2 h3 hadd
   have hdec : decide (d.length < T.length) = true := decide_eq_true hlt
   clear h2 a0 p0 p1 a1 b1 f1 f2 f3 hl'
   generalize zJa T = bT at *
   generalize zJa d = q at *
   have m1 : q.length + x.text.length <= 9223372036854775807 := by omega
   have m2 : q.length + x.text.length + 1 <= 9223372036854775807 := by omega
   have m3 : q.length + (x.text.length + 1) <= 9223372036854775807 := by omega
   simp [*, zf]
  ·intros s1 hp h1 h2 h3 h4
   simp at h1 h2 h3
   (simp [*]) <;> (repeat' (first | ((first | refine sP _ ?_ ?_ | refine gP _ ?_ ?_ | refine sN _ ?_ ?_ | refine gN _ ?_ ?_) <;> intro hc <;> (first | replace hc := eqn hc | replace hc := eqp hc) <;> simp [*]) | ((first | refine sM _ ?_ ?_ | refine gM _ ?_ ?_ | refine sB _ ?_ ?_ | refine gB _ ?_ ?_) <;> intro hc <;> simp [*])))
set_option maxHeartbeats 4000000 in
theorem between_run (s t : List UInt8) : ∀ (raw raw2 l : List UInt8) (small : Bool), raw.length <= 9223372036854775807 -> raw2.length <= 9223372036854775807 -> l.length <= 9223372036854775807 -> s = (if small then pq zQb l 14 else raw) -> t = (if small then pq bet02 l 14 else raw2) →
  zz E 7 [.str raw, .str raw2, u8s l, .bool small] [] = some (.ret (.bool true), []) := by
 intro raw raw2 l small hr hr2 hl hs ht
 refine zr rfl rfl rfl (by simp) ?_
 have a0 := zVa
 have p0 := zlb zQb (by decide) (by decide) signs02_len l hl
 have p2 := zlb bet02 (by decide) (by decide) (by decide) l hl
 have p1 := signs_x
 have a1 := zM s
 have a2 := zM t
 have hbt := between_tokens s t
 have hz1 := tokens_le s
 have hz2 := tokens_le t
 have hz := tokens_few (betP ++ 10 :: (s ++ 10 :: ([47, 47] ++ 10 :: (t ++ [32]))))
 have a3 := zM (betP ++ 10 :: (s ++ 10 :: ([47, 47] ++ 10 :: (t ++ [32]))))
 by_cases hl1 : (500 : Int) < s.length
 ·clear a1 a2 a3 hbt hz hz1 hz2
  cases small
  ·simp only [Bool.false_eq_true, if_false] at hs ht
   subst hs ht
   (simp [*, F7]) <;> (repeat' (first | ((first | refine sP _ ?_ ?_ | refine gP _ ?_ ?_ | refine sN _ ?_ ?_ | refine gN _ ?_ ?_) <;> intro hc <;> (first | replace hc := eqn hc | replace hc := eqp hc) <;> simp [*, F7]) | ((first | refine sM _ ?_ ?_ | refine gM _ ?_ ?_ | refine sB _ ?_ ?_ | refine gB _ ?_ ?_) <;> intro hc <;> simp [*, F7])))
  ·simp only [if_true] at hs ht
   rw [<- hs] at p0
   rw [<- ht] at p2
   simp [bet02] at p2
   clear hs ht
   (simp [*, F7]) <;> (repeat' (first | ((first | refine sP _ ?_ ?_ | refine gP _ ?_ ?_ | refine sN _ ?_ ?_ | refine gN _ ?_ ?_) <;> intro hc <;> (first | replace hc := eqn hc | replace hc := eqp hc) <;> simp [*, F7]) | ((first | refine sM _ ?_ ?_ | refine gM _ ?_ ?_ | refine sB _ ?_ ?_ | refine gB _ ?_ ?_) <;> intro hc <;> simp [*, F7])))
 by_cases hl2 : (500 : Int) < t.length
 ·clear a1 a2 a3 hbt hz hz1 hz2
  cases small
  ·simp only [Bool.false_eq_true, if_false] at hs ht
   subst hs ht
   (simp [*, F7]) <;> (repeat' (first | ((first | refine sP _ ?_ ?_ | refine gP _ ?_ ?_ | refine sN _ ?_ ?_ | refine gN _ ?_ ?_) <;> intro hc <;> (first | replace hc := eqn hc | replace hc := eqp hc) <;> simp [*, F7]) | ((first | refine sM _ ?_ ?_ | refine gM _ ?_ ?_ | refine sB _ ?_ ?_ | refine gB _ ?_ ?_) <;> intro hc <;> simp [*, F7])))
  ·simp only [if_true] at hs ht
   rw [<- hs] at p0
   rw [<- ht] at p2
   simp [bet02] at p2
   clear hs ht
   (simp [*, F7]) <;> (repeat' (first | ((first | refine sP _ ?_ ?_ | refine gP _ ?_ ?_ | refine sN _ ?_ ?_ | refine gN _ ?_ ?_) <;> intro hc <;> (first | replace hc := eqn hc | replace hc := eqp hc) <;> simp [*, F7]) | ((first | refine sM _ ?_ ?_ | refine gM _ ?_ ?_ | refine sB _ ?_ ?_ | refine gB _ ?_ ?_) <;> intro hc <;> simp [*, F7])))
 have hz1 := hz1 (by omega)
 have hz2 := hz2 (by omega)
 have hbt := hbt (by omega) (by omega)
 have hz := hz (by simp [betP]; omega)
 obtain ⟨⟨A, e, n⟩, hA⟩ : ∃ c, ze s = c := ⟨_, rfl⟩
 obtain ⟨⟨B, f, m⟩, hB⟩ : ∃ c, ze t = c := ⟨_, rfl⟩
 rw [hA] at a1 hz1 hbt
 rw [hB] at a2 hz2 hbt
 clear hA hB
 simp only at hz1 hz2 hbt
 by_cases he : ¬ e = 0
 ·clear a3 hbt hz
  simp [zHa, toks] at a1 a2
  cases small
  ·simp only [Bool.false_eq_true, if_false] at hs ht
   subst hs ht
   (simp [*, F7]) <;> (repeat' (first | ((first | refine sP _ ?_ ?_ | refine gP _ ?_ ?_ | refine sN _ ?_ ?_ | refine gN _ ?_ ?_) <;> intro hc <;> (first | replace hc := eqn hc | replace hc := eqp hc) <;> simp [*, F7]) | ((first | refine sM _ ?_ ?_ | refine gM _ ?_ ?_ | refine sB _ ?_ ?_ | refine gB _ ?_ ?_) <;> intro hc <;> simp [*, F7])))
  ·simp only [if_true] at hs ht
   rw [<- hs] at p0
   rw [<- ht] at p2
   simp [bet02] at p2
   clear hs ht
   (simp [*, F7]) <;> (repeat' (first | ((first | refine sP _ ?_ ?_ | refine gP _ ?_ ?_ | refine sN _ ?_ ?_ | refine gN _ ?_ ?_) <;> intro hc <;> (first | replace hc := eqn hc | replace hc := eqp hc) <;> simp [*, F7]) | ((first | refine sM _ ?_ ?_ | refine gM _ ?_ ?_ | refine sB _ ?_ ?_ | refine gB _ ?_ ?_) <;> intro hc <;> simp [*, F7])))
 have he := Decidable.of_not_not he
 subst he
 by_cases hf : ¬ f = 0
 ·clear a3 hbt hz
  simp [zHa, toks] at a1 a2
  cases small
  ·simp only [Bool.false_eq_true, if_false] at hs ht
   subst hs ht
   (simp [*, F7]) <;> (repeat' (first | ((first | refine sP _ ?_ ?_ | refine gP _ ?_ ?_ | refine sN _ ?_ ?_ | refine gN _ ?_ ?_) <;> intro hc <;> (first | replace hc := eqn hc | replace hc := eqp hc) <;> simp [*, F7]) | ((first | refine sM _ ?_ ?_ | refine gM _ ?_ ?_ | refine sB _ ?_ ?_ | refine gB _ ?_ ?_) <;> intro hc <;> simp [*, F7])))
  ·simp only [if_true] at hs ht
   rw [<- hs] at p0
   rw [<- ht] at p2
   simp [bet02] at p2
   clear hs ht
   (simp [*, F7]) <;> (repeat' (first | ((first | refine sP _ ?_ ?_ | refine gP _ ?_ ?_ | refine sN _ ?_ ?_ | refine gN _ ?_ ?_) <;> intro hc <;> (first | replace hc := eqn hc | replace hc := eqp hc) <;> simp [*, F7]) | ((first | refine sM _ ?_ ?_ | refine gM _ ?_ ?_ | refine sB _ ?_ ?_ | refine gB _ ?_ ?_) <;> intro hc <;> simp [*, F7])))
 have hf := Decidable.of_not_not hf
 subst hf
 obtain ⟨g1, g2, g3⟩ := hbt rfl rfl
 clear hbt
 obtain ⟨⟨C, g, o⟩, hC⟩ : ∃ c, ze (betP ++ 10 :: (s ++ 10 :: ([47, 47] ++ 10 :: (t ++ [32])))) = c := ⟨_, rfl⟩
 rw [hC] at a3 hz g2 g3
 clear hC
 simp only at g2 g3 hz
 subst g2
 have hA1 : 0 < A.length := List.length_pos_iff.2 g1
 have hWl : (A.take (A.length - 1) ++ B).length < 1000000 := by rw [List.length_append, List.length_take]; omega
 have f1 := flat_spec C hz
 have f2 := flat_spec (A.take (A.length - 1) ++ B) hWl
 rw [g3] at f1
 have f3 := zjb ((A.take (A.length - 1) ++ B).map zXb) (by rw [List.length_map]; omega)
 clear g3
 have w1 : zca .i64 ((A.length : Int) - 1) = ((A.length - 1 : Nat) : Int) := by
  rw [zu (by omega) (by omega)]; omega
 have w2 : ((A.length : Int) = 0) = False := eqn (by omega)
 have q1 : (A.length - 1) * 32 <= zH := by simp only [zH]; omega
 have q2 : (A.length - 1 + B.length) * 32 <= zH := by simp only [zH]; omega
 have m1 : ((A.length - 1 : Nat) : Int) <= A.length := by omega
 simp [zHa, toks, betP] at a1 a2 a3 f1 f2 f3
 have bl1 := bl_take 0 (A.length - 1) (zf ∘ zXb) (fun _ => rfl) A
 have bl2 := bl_take 0 (A.length - 1) zf (fun _ => rfl) A
 have hs0 : s.length <= 500 := by omega
 have ht0 : t.length <= 500 := by omega
 have c1 : 11 + s.length <= 9223372036854775807 := by omega
 have c2 : 11 + s.length + 4 <= 9223372036854775807 := by omega
 have c2' : 11 + (s.length + 4) <= 9223372036854775807 := by omega
 have c3 : 11 + s.length + 4 + t.length <= 9223372036854775807 := by omega
 have c3' : 11 + (s.length + (4 + t.length)) <= 9223372036854775807 := by omega
 have c4 : 11 + s.length + 4 + t.length + 1 <= 9223372036854775807 := by omega
 have c4' : 11 + (s.length + (4 + (t.length + 1))) <= 9223372036854775807 := by omega
 cases small
 ·simp only [Bool.false_eq_true, if_false] at hs ht
  subst hs ht
  (simp [*, F7]) <;> (repeat' (refine aI (by omega) ?_ <;> simp [*, F7])) <;> (try omega)
 ·simp only [if_true] at hs ht
  rw [<- hs] at p0
  rw [<- ht] at p2
  simp [bet02] at p2
  clear hs ht
  (simp [*, F7]) <;> (repeat' (refine aI (by omega) ?_ <;> simp [*, F7])) <;> (try omega)
theorem tokenAgain_spec (raw l : List UInt8) (small : Bool) (hr : raw.length <= 9223372036854775807) (hl : l.length <= 9223372036854775807) : zz E 6 [.str raw, u8s l, .bool small] [] = some (.ret (.bool true), []) :=
 again_run _ raw l small hr hl rfl
theorem tokenBetween_spec (raw raw2 l : List UInt8) (small : Bool) (hr : raw.length <= 9223372036854775807) (hr2 : raw2.length <= 9223372036854775807) (hl : l.length <= 9223372036854775807) : zz E 7 [.str raw, .str raw2, u8s l, .bool small] [] = some (.ret (.bool true), []) :=
 between_run _ _ raw raw2 l small hr hr2 hl rfl rfl
end PE.U

namespace PE.U
open Go PE Go.Proofs
theorem cells_of {w : World} {b : Nat} {v : Value} (h : w.cell? ⟨b, 0, none⟩ = some v) : ∃ cs e fr, w.heap[b]? = some (.cells cs e fr) /\ cs[0]? = some v /\ b < w.heap.size := by
 unfold World.cell? at h
 simp only at h
 split at h
 ·rename_i cs e fr hc
  refine ⟨cs, e, fr, hc, by simpa using h, ?_⟩
  rcases Nat.lt_or_ge b w.heap.size with h' | h'
  ·exact h'
  ·rw [Array.getElem?_eq_none h'] at hc; cases hc
 ·cases h
theorem start_tab {w : World} (hm : ∃ m, w.cell? ⟨0, 0, none⟩ = some (.int .i64 m)) (hs : ∃ ev, w.cell? ⟨1, 0, none⟩ = some ev /\ (ev = .nilIface \/ ∃ te pe, ev = .iface te pe)) (hr : ∃ ev, w.cell? ⟨2, 0, none⟩ = some ev /\ (ev = .nilIface \/ ∃ te pe, ev = .iface te pe))
  (h : Lib.TabIs Tryd.prog w "internal/strconv.uint64pow10" .u64 Lib.pow10Tab) : ∃ c0 c1 c2, TabsOk c0 c1 c2 /\ (tabs c0 c1 c2).In (gh0 w) w := by
 obtain ⟨m, hm⟩ := hm
 obtain ⟨es, hs, hs2⟩ := hs
 obtain ⟨er, hr, hr2⟩ := hr
 obtain ⟨c0, t0, f0, a0, b0, l0⟩ := cells_of hm
 obtain ⟨c1, t1, f1, a1, b1, l1⟩ := cells_of hs
 obtain ⟨c2, t2, f2, a2, b2, l2⟩ := cells_of hr
 have hg : Tryd.prog.globalNamed "internal/strconv.uint64pow10" = some 3 := by kernel_rfl
 unfold Lib.TabIs World.var? at h
 rw [hg] at h
 simp only [Option.bind_some] at h
 refine ⟨c0, c1, c2, ⟨⟨m, b0⟩, ⟨es, b1, hs2⟩, ⟨er, b2, hr2⟩⟩, ?_⟩
 intro x hx
 rw [show tabs c0 c1 c2 = [(0, c0), (1, c1), (2, c2), (3, tab10)] from rfl] at hx
 simp only [List.mem_cons, List.not_mem_nil, or_false] at hx
 rcases hx with rfl | rfl | rfl | rfl
 ·exact ⟨by simp [gh0, l0], t0, f0, a0⟩
 ·exact ⟨by simp [gh0, l1], t1, f1, a1⟩
 ·exact ⟨by simp [gh0, l2], t2, f2, a2⟩
 ·split at h
  ·rename_i cs e fr hc
   have hcs : cs = tab10 := Option.some.inj h
   subst hcs
   refine ⟨?_, e, fr, hc⟩
   have hlt : 3 < w.heap.size := by
    rcases Nat.lt_or_ge 3 w.heap.size with h' | h'
    ·exact h'
    ·rw [Array.getElem?_eq_none h'] at hc; cases hc
   simp [gh0, hlt]
  ·cases h
end PE.U

namespace PE
open Go Go.RowKit
def Kept (w w' : World) : Prop := w.keptBut w' (fun _ => False) /\ ∀ k, k < w.heap.size -> w'.heap[k]? = w.heap[k]?
theorem Kept.frame {w w' : World} (h : Kept w w') (X : MemPlace -> Prop) : w.keptBut w' X := World.keptBut_mono (fun p hp => hp.elim) h.1
theorem kept_of_ext {w w' : World} {G' : Gh} {st' : zb} (h : Ext (gh0 w) [] w G' st' w') : Kept w w' :=
 ⟨by
  refine ⟨h.os, h.output, fun i hi => ?_⟩
  have hb := (h.prot i (by simp [gh0, hi])).2.2
  rw [hb]
  cases w.heap[i]? with
  | none => rfl
  | some o => cases o <;> first | exact ⟨rfl, rfl, rfl, fun _ _ => rfl⟩ | exact .inr ⟨rfl, rfl⟩ | rfl, fun k hk => (h.prot k (by simp [gh0, hk])).2.2⟩
theorem Kept.same {W w' : World} (h : Kept W w') {p : MemPlace} (hp : p.block < W.heap.size) : W.sameAt w' p := by
 cases p with
 | cell b o => exact World.cell?_of_block (w := W) (h.2 b hp)
 | map b => exact h.2 b hp
theorem Kept.trod {H : Type} {enc : TypeId × Value -> H} {P : Program} {t : TypeId} (hl : laidOutB P = true) (hr : P.readableRec t = true) (hrow : t < P.types.size) {W W' : World} {v : Value} {d : DataW H} {ps : List MemPlace}
  (h : DataW.Trod enc P W 0 (fun _ => true) true t v d ps) (hb : Kept W W') (hlt : ∀ x ∈ ps, x.block < W.heap.size) :
  DataW.Trod enc P W' 0 (fun b => decide (b < W.heap.size)) true t v d ps :=
 WideElems.Trod_stays hl hr hrow h (fun x hx => hb.same (hlt x hx)) (fun x hx => by simpa using hlt x hx)
theorem walk_kept {P : Program} {T : Tabs} {E : Env} (hE : EnvOk P T E) {f : Nat} {args : List PV} {margs : Array Value} {w : World} {st' : zb} (hT : T.In (gh0 w) w)
  (h : zz E f args [] = some (.ret (.bool true), st')) (hsz : margs.size = args.length)
  (hv : ∀ (j : Nat) c x, args[j]? = some c -> margs[j]? = some x -> VR ((gh0 w).im w) (fun _ => none) c x) :
  Calls P f margs w fun e w' => e = .returned (.bool true) /\ Kept w w' := by
 obtain ⟨n, hn⟩ := zmb.1 h
 have hloc : zc (gh0 w).lc [] = fun _ => none := by funext l; simp [zc]
 refine ((callF_good hE n _ _ _ _ _ hn (gh0 w) w margs rfl hT (gh0_sim w) hsz (by rw [hloc]; exact hv)).2).mono ?_
 intro e w' he
 cases e with
 | returned mv =>
  obtain ⟨G', q1, q2, q3⟩ := he
  exact ⟨by rw [VR.bool_inv q3], kept_of_ext q2⟩
 | panicked ch => exact he.elim
 | outgrown => exact he.elim
def IsRow (k : IntKind) (w : World) (a : Option Addr) (len cap : Nat) (zs : List Int) : Prop :=
 (a = none /\ len = 0 /\ cap = 0 /\ zs = []) ∨
 ∃ x, a = some x /\ len <= cap /\ cap <= maxLen /\ zs.length = cap /\ (∀ i, i < zs.length -> w.cell? (x.add i) = some (.int k (zs.getD i 0))) /\ ∀ n ∈ zs, (Lit.int k n).wf = true
theorem row_vr {k : IntKind} {w : World} {a : Option Addr} {len cap : Nat} {zs : List Int} (h : IsRow k w a len cap zs) : VR ((gh0 w).im w) (fun _ => none) (.slice .plain 1 ((zs.take len).map (PV.int k))) (.slice a len cap) := by
 rcases h with ⟨rfl, rfl, rfl, rfl⟩ | ⟨x, rfl, hl, hm, hz, hcell, hwz⟩
 ·exact .slice0 _ _ _ _ (by simp) (by simp)
 ·by_cases h0 : len = 0
  ·subst h0
   exact .slice0 _ _ _ _ (by simp) (by simp)
  ·obtain ⟨b, off, spot⟩ := x
   have hc := hcell 0 (by omega)
   have hspot : spot = none := by simpa [Addr.add] using World.cell?_spot hc
   subst hspot
   have hlen : ((zs.take len).map (PV.int k)).length = len := by simp; omega
   have hget : ∀ (i : Nat) e, ((zs.take len).map (PV.int k))[i]? = some e -> i < len /\ e = .int k (zs.getD i 0) := by
    intro i e he
    rw [List.getElem?_map, Option.map_eq_some_iff] at he
    obtain ⟨n, hn, rfl⟩ := he
    rw [List.getElem?_take] at hn
    split at hn
    ·rename_i hi
     refine ⟨hi, ?_⟩
     rw [List.getD_eq_getElem?_getD, hn]; rfl
    ·cases hn
   have := VR.slice (I := (gh0 w).im w) (L := fun _ => none) (k := .plain) (sz := 1) (l := (zs.take len).map (PV.int k)) (b := b) (o := off) (cap := cap)
    (by simp) (by simp) (by rw [hlen]; exact hl) (fun i _ => .int k (zs.getD i 0)) ?_ ?_ ?_
   ·rw [hlen] at this; exact this
   ·intro i e he
    obtain ⟨_, rfl⟩ := hget i e he
    exact ⟨rfl, rfl⟩
   ·intro i e j c he hc
    obtain ⟨hi, rfl⟩ := hget i e he
    cases j with
    | zero =>
     refine ⟨gh0_im ?_, rfl⟩
     have := hcell i (by omega)
     have e : (⟨b, off, none⟩ : Addr).add i = ⟨b, off + i * 1 + 0, none⟩ := by
      unfold Addr.add
      by_cases hi0 : i = 0 <;> simp [hi0]
     rw [<- e]; exact this
    | succ j => simp [cellsOf] at hc
   ·intro i e j c he hc
    obtain ⟨hi, rfl⟩ := hget i e he
    cases j with
    | zero => simp [cellsOf] at hc; subst hc; exact .int _ _
    | succ j => simp [cellsOf] at hc
theorem row_len {k : IntKind} {w : World} {a : Option Addr} {len cap : Nat} {zs : List Int} (h : IsRow k w a len cap zs) : (zs.take len).length <= maxLen := by
 rcases h with ⟨rfl, rfl, rfl, rfl⟩ | ⟨x, rfl, hl, hm, hz, hcell, hwz⟩
 ·simp
 ·rw [List.length_take]; omega
def bytesOf (zs : List Int) : List UInt8 := zs.map fun n => UInt8.ofNat n.toNat
theorem row_u8 {w : World} {a : Option Addr} {len cap : Nat} {zs : List Int} (h : IsRow .u8 w a len cap zs) : VR ((gh0 w).im w) (fun _ => none) (.slice .plain 1 ((bytesOf (zs.take len)).map fun b => .int .u8 b.toNat)) (.slice a len cap) := by
 have hv := row_vr h
 have : (bytesOf (zs.take len)).map (fun b => PV.int .u8 b.toNat) = (zs.take len).map (PV.int .u8) := by
  unfold bytesOf
  rw [List.map_map]
  apply List.map_congr_left
  intro n hn
  have hwf : (Lit.int .u8 n).wf = true := by
   rcases h with ⟨rfl, rfl, rfl, rfl⟩ | ⟨x, rfl, hl, hm, hz, hcell, hwz⟩
   ·simp at hn
   ·exact hwz n (List.mem_of_mem_take hn)
  have hb : 0 <= n /\ n <= 255 := by
   simp only [Lit.wf, Bool.and_eq_true, decide_eq_true_eq] at hwf
   exact hwf
  simp only [Function.comp_apply, PV.int.injEq, true_and]
  have : (UInt8.ofNat n.toNat).toNat = n.toNat := by
   rw [UInt8.toNat_ofNat']; omega
  omega
 rw [this]; exact hv
theorem bytes_len {w : World} {a : Option Addr} {len cap : Nat} {zs : List Int} (h : IsRow .u8 w a len cap zs) : (bytesOf (zs.take len)).length <= maxLen := by
 unfold bytesOf; rw [List.length_map]; exact row_len h
theorem str_vr (I : Im) (L : Loc) {b : ByteArray} : VR I L (.str b.data.toList) (.string b) := VR.str b.data.toList
theorem str_len {b : ByteArray} (h : b.size <= maxLen) : b.data.toList.length <= maxLen := by
 rw [Array.length_toList]; exact h
theorem maxLen_eq : maxLen = 9223372036854775807 := by decide
end PE
