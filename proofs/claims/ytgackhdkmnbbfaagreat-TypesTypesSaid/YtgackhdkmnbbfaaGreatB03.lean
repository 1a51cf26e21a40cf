/-
  Texts joined by program: PeWp, AZP0, AZU0, PeOps, T05zFns, AZU1.
-/
import Derived.Test.YtgackhdkmnbbfaaGreatB02
import Derived.Test.YtgackhdkmnbbfaaGreatProg
set_option linter.unusedVariables false
set_option linter.unusedSectionVars false
set_option linter.unusedSimpArgs false
/-
  What a run comes to, as a condition on its end: rules for code, for loops, for calls.
-/
namespace PE
open Go

/-- It ends, and so. -/
def holds (x : Option (Ex × St)) (Q : Ex → St → Prop) : Prop := match x with
  | some (e, s) => Q e s
  | none => False

@[simp] theorem holds_some (e : Ex) (s : St) (Q : Ex → St → Prop) : holds (some (e, s)) Q = Q e s := Eq.trans rfl rfl
@[simp] theorem holds_none (Q : Ex → St → Prop) : holds none Q = False := Eq.trans rfl rfl

theorem holds_iff {x : Option (Ex × St)} {Q : Ex → St → Prop} : holds x Q ↔ ∃ e s, x = some (e, s) ∧ Q e s := by
  cases x with
  | none => exact ⟨fun h => h.elim, fun ⟨_, _, h, _⟩ => by cases h⟩
  | some q => obtain ⟨e, s⟩ := q; exact ⟨fun h => ⟨e, s, rfl, h⟩, fun ⟨_, _, h, h'⟩ => by cases h; exact h'⟩

theorem holds.mono {x : Option (Ex × St)} {Q R : Ex → St → Prop} (h : holds x Q) (hq : ∀ e s, Q e s → R e s) : holds x R := by
  cases x with
  | none => exact h
  | some q => obtain ⟨e, s⟩ := q; exact hq e s h

def seqQ (k : St → Option (Ex × St)) (Q : Ex → St → Prop) : Ex → St → Prop
  | .normal, s => holds (k s) Q
  | e, s => Q e s
@[simp] theorem seqQ_normal (k : St → Option (Ex × St)) (Q : Ex → St → Prop) (s : St) : seqQ k Q .normal s = holds (k s) Q := Eq.trans rfl rfl
@[simp] theorem seqQ_exit (k : St → Option (Ex × St)) (Q : Ex → St → Prop) (s : St) (i : Nat) : seqQ k Q (.exit i) s = Q (.exit i) s := Eq.trans rfl rfl
@[simp] theorem seqQ_ret (k : St → Option (Ex × St)) (Q : Ex → St → Prop) (s : St) : seqQ k Q .ret s = Q .ret s := Eq.trans rfl rfl
@[simp] theorem seqQ_pan (k : St → Option (Ex × St)) (Q : Ex → St → Prop) (s : St) (v : PV) : seqQ k Q (.pan v) s = Q (.pan v) s := Eq.trans rfl rfl

@[simp] theorem holds_thenSeq (k : St → Option (Ex × St)) (x : Option (Ex × St)) (Q : Ex → St → Prop) : holds (thenSeq k x) Q = holds x (seqQ k Q) := by
  cases x with
  | none => rfl
  | some q => obtain ⟨e, s⟩ := q; cases e <;> rfl

def blkQ (id : Nat) (Q : Ex → St → Prop) : Ex → St → Prop
  | .exit i, s => if i = id then Q .normal s else Q (.exit i) s
  | e, s => Q e s
@[simp] theorem blkQ_normal (id : Nat) (Q : Ex → St → Prop) (s : St) : blkQ id Q .normal s = Q .normal s := Eq.trans rfl rfl
@[simp] theorem blkQ_exit (id i : Nat) (Q : Ex → St → Prop) (s : St) : blkQ id Q (.exit i) s = if i = id then Q .normal s else Q (.exit i) s := Eq.trans rfl rfl
@[simp] theorem blkQ_ret (id : Nat) (Q : Ex → St → Prop) (s : St) : blkQ id Q .ret s = Q .ret s := Eq.trans rfl rfl
@[simp] theorem blkQ_pan (id : Nat) (Q : Ex → St → Prop) (s : St) (v : PV) : blkQ id Q (.pan v) s = Q (.pan v) s := Eq.trans rfl rfl

@[simp] theorem holds_leaveBlock (id : Nat) (x : Option (Ex × St)) (Q : Ex → St → Prop) : holds (leaveBlock id x) Q = holds x (blkQ id Q) := by
  cases x with
  | none => rfl
  | some q =>
    obtain ⟨e, s⟩ := q
    cases e <;> try rfl
    rename_i i
    by_cases h : i = id <;> simp [leaveBlock, h]

/-! ### A region's steps -/

noncomputable def wpS (cf : CallF) (s0 : St) (ops : List GOp) (s : St) (Q : Ex → St → Prop) : Prop := holds (regionEnd s0 (steps cf ops s)) Q

def after (cf : CallF) (s0 : St) (r : List GOp) (Q : Ex → St → Prop) : Option SR → Prop
  | some (.ok s') => wpS cf s0 r s' Q
  | some (.pan v st) => Q (.pan v) { s0 with st := st }
  | none => False

@[simp] theorem after_ok (cf : CallF) (s0 : St) (r : List GOp) (Q : Ex → St → Prop) (s : St) : after cf s0 r Q (some (.ok s)) = wpS cf s0 r s Q := Eq.trans rfl rfl
@[simp] theorem after_pan (cf : CallF) (s0 : St) (r : List GOp) (Q : Ex → St → Prop) (v : PV) (st : Store) : after cf s0 r Q (some (.pan v st)) = Q (.pan v) { s0 with st := st } := Eq.trans rfl rfl
@[simp] theorem after_none (cf : CallF) (s0 : St) (r : List GOp) (Q : Ex → St → Prop) : after cf s0 r Q none = False := Eq.trans rfl rfl

@[simp] theorem wpS_nil (cf : CallF) (s0 s : St) (Q : Ex → St → Prop) : wpS cf s0 [] s Q = Q .normal s := Eq.trans rfl rfl

/-- A guarded step, by the guard's value. -/
noncomputable def guarded (cf : CallF) (w : Bool) (d : Option Nat) (o : IOp) (s : St) : PV → Option SR
  | .bool b => if b = w then runOp cf d o s else some (.ok { s with fr := setDst s.fr d (.tup []) })
  | .tup [] => some (.ok { s with fr := setDst s.fr d (.tup []) })
  | _ => none

theorem step_guarded (cf : CallF) (g : Nat) (w : Bool) (d : Option Nat) (o : IOp) (s : St) : step cf ⟨some (g, w), d, o⟩ s = guarded cf w d o s (s.fr g) := by
  simp only [step]
  generalize s.fr g = v
  cases v <;> try rfl
  · rename_i b; cases b <;> cases w <;> rfl
  · rename_i l; cases l <;> rfl

@[simp] theorem wpS_free (cf : CallF) (s0 : St) (d : Option Nat) (o : IOp) (r : List GOp) (s : St) (Q : Ex → St → Prop) : wpS cf s0 (⟨none, d, o⟩ :: r) s Q = after cf s0 r Q (runOp cf d o s) := by
  have : step cf ⟨none, d, o⟩ s = runOp cf d o s := rfl
  simp only [wpS, steps, this]
  cases runOp cf d o s with
  | none => rfl
  | some q => cases q <;> rfl

@[simp] theorem wpS_guard (cf : CallF) (s0 : St) (g : Nat) (w : Bool) (d : Option Nat) (o : IOp) (r : List GOp) (s : St) (Q : Ex → St → Prop) : wpS cf s0 (⟨some (g, w), d, o⟩ :: r) s Q = after cf s0 r Q (guarded cf w d o s (s.fr g)) := by
  simp only [wpS, steps, step_guarded]
  cases guarded cf w d o s (s.fr g) with
  | none => rfl
  | some q => cases q <;> rfl

@[simp] theorem guarded_tt (cf : CallF) (d : Option Nat) (o : IOp) (s : St) : guarded cf true d o s (.bool true) = runOp cf d o s := Eq.trans rfl rfl
@[simp] theorem guarded_ff (cf : CallF) (d : Option Nat) (o : IOp) (s : St) : guarded cf false d o s (.bool false) = runOp cf d o s := Eq.trans rfl rfl
@[simp] theorem guarded_tf (cf : CallF) (d : Option Nat) (o : IOp) (s : St) : guarded cf true d o s (.bool false) = some (.ok { s with fr := setDst s.fr d (.tup []) }) := Eq.trans rfl rfl
@[simp] theorem guarded_ft (cf : CallF) (d : Option Nat) (o : IOp) (s : St) : guarded cf false d o s (.bool true) = some (.ok { s with fr := setDst s.fr d (.tup []) }) := Eq.trans rfl rfl
@[simp] theorem guarded_nil (cf : CallF) (w : Bool) (d : Option Nat) (o : IOp) (s : St) : guarded cf w d o s (.tup []) = some (.ok { s with fr := setDst s.fr d (.tup []) }) := Eq.trans rfl rfl

theorem wp_region (cf : CallF) (ops : List GOp) (s : St) (Q : Ex → St → Prop) : holds (exec cf (.region ops) s) Q = wpS cf s ops s Q := by
  rw [exec_region]; rfl

/-! ### Cases -/

theorem guard_split {cf : CallF} {s0 : St} {r : List GOp} {Q : Ex → St → Prop} {w : Bool} {d : Option Nat} {o : IOp} {s : St} (b : Bool)
    (h1 : b = true → after cf s0 r Q (guarded cf w d o s (.bool true))) (h2 : b = false → after cf s0 r Q (guarded cf w d o s (.bool false))) : after cf s0 r Q (guarded cf w d o s (.bool b)) := by
  cases b
  · exact h2 rfl
  · exact h1 rfl
theorem guard_splitP {cf : CallF} {s0 : St} {r : List GOp} {Q : Ex → St → Prop} {w : Bool} {d : Option Nat} {o : IOp} {s : St} (p : Prop) [Decidable p]
    (h1 : p → after cf s0 r Q (guarded cf w d o s (.bool true))) (h2 : ¬ p → after cf s0 r Q (guarded cf w d o s (.bool false))) : after cf s0 r Q (guarded cf w d o s (.bool (decide p))) := by
  by_cases h : p
  · simpa [h] using h1 h
  · simpa [h] using h2 h
/-- Code by a condition's value. -/
noncomputable def condX (cf : CallF) (a b : ICode) (s : St) : PV → Option (Ex × St)
  | .bool true => exec cf a s
  | .bool false => exec cf b s
  | _ => none
@[simp] theorem condX_true (cf : CallF) (a b : ICode) (s : St) : condX cf a b s (.bool true) = exec cf a s := Eq.trans rfl rfl
@[simp] theorem condX_false (cf : CallF) (a b : ICode) (s : St) : condX cf a b s (.bool false) = exec cf b s := Eq.trans rfl rfl
@[simp] theorem wp_cond (cf : CallF) (c : Arg) (a b : ICode) (s : St) : exec cf (.cond c a b) s = condX cf a b s (c.val s.fr) := by
  rw [exec_cond]
  generalize c.val s.fr = v
  cases v with
  | bool x => cases x <;> rfl
  | _ => rfl

theorem cond_split {cf : CallF} {x y : ICode} {s : St} {Q : Ex → St → Prop} (b : Bool) (h1 : b = true → holds (exec cf x s) Q) (h2 : b = false → holds (exec cf y s) Q) : holds (condX cf x y s (.bool b)) Q := by
  cases b
  · exact h2 rfl
  · exact h1 rfl
theorem cond_splitP {cf : CallF} {x y : ICode} {s : St} {Q : Ex → St → Prop} (p : Prop) [Decidable p] (h1 : p → holds (exec cf x s) Q) (h2 : ¬ p → holds (exec cf y s) Q) : holds (condX cf x y s (.bool (decide p))) Q := by
  by_cases h : p
  · have : decide p = true := decide_eq_true h
    rw [this]; exact h1 h
  · have : decide p = false := decide_eq_false h
    rw [this]; exact h2 h

theorem guard_splitN {cf : CallF} {s0 : St} {r : List GOp} {Q : Ex → St → Prop} {w : Bool} {d : Option Nat} {o : IOp} {s : St} (p : Prop) [Decidable p]
    (h1 : ¬ p → after cf s0 r Q (guarded cf w d o s (.bool true))) (h2 : p → after cf s0 r Q (guarded cf w d o s (.bool false))) : after cf s0 r Q (guarded cf w d o s (.bool (!decide p))) := by
  by_cases h : p
  · simpa [h] using h2 h
  · simpa [h] using h1 h
theorem guard_splitM {cf : CallF} {s0 : St} {r : List GOp} {Q : Ex → St → Prop} {w : Bool} {d : Option Nat} {o : IOp} {s : St} (b : Bool)
    (h1 : b = false → after cf s0 r Q (guarded cf w d o s (.bool true))) (h2 : b = true → after cf s0 r Q (guarded cf w d o s (.bool false))) : after cf s0 r Q (guarded cf w d o s (.bool (!b))) := by
  cases b
  · exact h1 rfl
  · exact h2 rfl
theorem cond_splitN {cf : CallF} {x y : ICode} {s : St} {Q : Ex → St → Prop} (p : Prop) [Decidable p] (h1 : ¬ p → holds (exec cf x s) Q) (h2 : p → holds (exec cf y s) Q) : holds (condX cf x y s (.bool (!decide p))) Q := by
  by_cases h : p
  · have : decide p = true := decide_eq_true h
    rw [this]; exact h2 h
  · have : decide p = false := decide_eq_false h
    rw [this]; exact h1 h
theorem cond_splitM {cf : CallF} {x y : ICode} {s : St} {Q : Ex → St → Prop} (b : Bool) (h1 : b = false → holds (exec cf x s) Q) (h2 : b = true → holds (exec cf y s) Q) : holds (condX cf x y s (.bool (!b))) Q := by
  cases b
  · exact h1 rfl
  · exact h2 rfl

/-- What holds, as an equation: its sides are not rewritten by it. -/
theorem sP {cf : CallF} {x y : ICode} {s : St} {Q : Ex → St → Prop} (p : Prop) [Decidable p] (h1 : p → holds (exec cf x s) Q) (h2 : ¬ p → holds (exec cf y s) Q) : holds (condX cf x y s (.bool (decide p))) Q := cond_splitP p h1 h2
theorem gP {cf : CallF} {s0 : St} {r : List GOp} {Q : Ex → St → Prop} {w : Bool} {d : Option Nat} {o : IOp} {s : St} (p : Prop) [Decidable p]
    (h1 : p → after cf s0 r Q (guarded cf w d o s (.bool true))) (h2 : ¬ p → after cf s0 r Q (guarded cf w d o s (.bool false))) : after cf s0 r Q (guarded cf w d o s (.bool (decide p))) := guard_splitP p h1 h2
theorem sN {cf : CallF} {x y : ICode} {s : St} {Q : Ex → St → Prop} (p : Prop) [Decidable p] (h1 : ¬ p → holds (exec cf x s) Q) (h2 : p → holds (exec cf y s) Q) : holds (condX cf x y s (.bool (!decide p))) Q := cond_splitN p h1 h2
theorem gN {cf : CallF} {s0 : St} {r : List GOp} {Q : Ex → St → Prop} {w : Bool} {d : Option Nat} {o : IOp} {s : St} (p : Prop) [Decidable p]
    (h1 : ¬ p → after cf s0 r Q (guarded cf w d o s (.bool true))) (h2 : p → after cf s0 r Q (guarded cf w d o s (.bool false))) : after cf s0 r Q (guarded cf w d o s (.bool (!decide p))) := guard_splitN p h1 h2
theorem sM {cf : CallF} {x y : ICode} {s : St} {Q : Ex → St → Prop} (b : Bool) (h1 : b = false → holds (exec cf x s) Q) (h2 : b = true → holds (exec cf y s) Q) : holds (condX cf x y s (.bool (!b))) Q := cond_splitM b h1 h2
theorem gM {cf : CallF} {s0 : St} {r : List GOp} {Q : Ex → St → Prop} {w : Bool} {d : Option Nat} {o : IOp} {s : St} (b : Bool)
    (h1 : b = false → after cf s0 r Q (guarded cf w d o s (.bool true))) (h2 : b = true → after cf s0 r Q (guarded cf w d o s (.bool false))) : after cf s0 r Q (guarded cf w d o s (.bool (!b))) := guard_splitM b h1 h2
theorem sB {cf : CallF} {x y : ICode} {s : St} {Q : Ex → St → Prop} (b : Bool) (h1 : b = true → holds (exec cf x s) Q) (h2 : b = false → holds (exec cf y s) Q) : holds (condX cf x y s (.bool b)) Q := cond_split b h1 h2
theorem gB {cf : CallF} {s0 : St} {r : List GOp} {Q : Ex → St → Prop} {w : Bool} {d : Option Nat} {o : IOp} {s : St} (b : Bool)
    (h1 : b = true → after cf s0 r Q (guarded cf w d o s (.bool true))) (h2 : b = false → after cf s0 r Q (guarded cf w d o s (.bool false))) : after cf s0 r Q (guarded cf w d o s (.bool b)) := guard_split b h1 h2

theorem eqp {p : Prop} (h : p) : p = True := eq_true h
theorem eqn {p : Prop} (h : ¬ p) : p = False := eq_false h

/-! ### Loops -/

def loopQ (I : St → Prop) (Q : Ex → St → Prop) : Ex → St → Prop
  | .normal, s => I s
  | e, s => Q e s
@[simp] theorem loopQ_normal (I : St → Prop) (Q : Ex → St → Prop) (s : St) : loopQ I Q .normal s = I s := Eq.trans rfl rfl
@[simp] theorem loopQ_exit (I : St → Prop) (Q : Ex → St → Prop) (s : St) (i : Nat) : loopQ I Q (.exit i) s = Q (.exit i) s := Eq.trans rfl rfl
@[simp] theorem loopQ_ret (I : St → Prop) (Q : Ex → St → Prop) (s : St) : loopQ I Q .ret s = Q .ret s := Eq.trans rfl rfl
@[simp] theorem loopQ_pan (I : St → Prop) (Q : Ex → St → Prop) (s : St) (v : PV) : loopQ I Q (.pan v) s = Q (.pan v) s := Eq.trans rfl rfl

/-- A round: from the state as the loop's head makes it. -/
def round (cf : CallF) (keep dead : List Nat) (b : ICode) (s : St) (Q : Ex → St → Prop) : Prop := match havoc keep dead s with
  | some s0 => holds (exec cf b s0) Q
  | none => False

theorem round_eq (cf : CallF) (keep dead : List Nat) (b : ICode) (s : St) (Q : Ex → St → Prop) :
    round cf keep dead b s Q = (keep.all (fun t => avoids dead (s.fr t)) = true ∧ holds (exec cf b { fr := keepFr s.fr keep, bx := dropBx s.bx dead, st := s.st }) Q) := by
  unfold round havoc
  generalize keep.all (fun t => avoids dead (s.fr t)) = c
  cases c <;> simp

theorem holds_loop (cf : CallF) (keep dead : List Nat) (b : ICode) (s : St) (Q : Ex → St → Prop) :
    holds (exec cf (.loop keep dead b) s) Q = round cf keep dead b s (seqQ (exec cf (.loop keep dead b)) Q) := by
  rw [exec_loop]
  unfold round
  cases havoc keep dead s with
  | none => rfl
  | some s0 => exact holds_thenSeq _ _ _

/-- A loop, by a measure. -/
theorem wp_loop {cf : CallF} {keep dead : List Nat} {b : ICode} {Q : Ex → St → Prop} (I : Nat → St → Prop)
    (hstep : ∀ n s, I n s → round cf keep dead b s (loopQ (fun s' => ∃ m, m < n ∧ I m s') Q)) : ∀ n s, I n s → holds (exec cf (.loop keep dead b) s) Q := by
  intro n
  induction n using Nat.strongRecOn with
  | ind n ih =>
    intro s hI
    rw [holds_loop]
    have h := hstep n s hI
    unfold round at h ⊢
    cases hh : havoc keep dead s with
    | none => rw [hh] at h; exact h
    | some s0 =>
      rw [hh] at h
      refine holds.mono h ?_
      intro e s' h'
      cases e with
      | normal => obtain ⟨m, hm, hI'⟩ := h'; exact ih m hm s' hI'
      | exit i => exact h'
      | ret => exact h'
      | pan v => exact h'

theorem wrapK_small {n : Int} (h0 : -9223372036854775808 ≤ n) (h1 : n ≤ 9223372036854775807) : wrapK .i64 n = n := by
  rw [wrapK_eq]
  simp only [IntKind.wrap, IntKind.bits, IntKind.signed, Bool.true_and]
  split
  · rename_i h
    have := of_decide_eq_true h
    omega
  · rename_i h
    have : ¬ (n % 2 ^ 64 ≥ 2 ^ (64 - 1)) := fun hh => h (decide_eq_true hh)
    omega

/-- A loop through a list: what is done, and what is left. -/
theorem wp_list {α : Type} {cf : CallF} {keep dead : List Nat} {b : ICode} {Q : Ex → St → Prop} {s : St} (l : List α) (I : List α → St → Prop) (hb : l.length < 2 ^ 62) (h0 : I [] s)
    (hstep : ∀ d x r s, l = d ++ x :: r → (hlt : d.length < l.length) → l[d.length]? = some x → l[d.length]'hlt = x → wrapK .i64 ((d.length : Int) + 1) = (d.length : Int) + 1 → I d s → round cf keep dead b s (loopQ (I (d ++ [x])) Q))
    (hend : ∀ s, I l s → round cf keep dead b s (loopQ (fun _ => False) Q)) : holds (exec cf (.loop keep dead b) s) Q := by
  have key : ∀ (r d : List α) (s : St), l = d ++ r → I d s → holds (exec cf (.loop keep dead b) s) Q := by
    intro r
    induction r with
    | nil =>
      intro d s hl hI
      rw [List.append_nil] at hl
      subst hl
      rw [holds_loop]
      have h := hend s hI
      unfold round at h ⊢
      cases hh : havoc keep dead s with
      | none => rw [hh] at h; exact h
      | some s0 =>
        rw [hh] at h
        refine holds.mono h ?_
        intro e s' h'
        cases e with
        | normal => exact h'.elim
        | exit i => exact h'
        | ret => exact h'
        | pan v => exact h'
    | cons x r ih =>
      intro d s hl hI
      rw [holds_loop]
      have h := hstep d x r s hl (by rw [hl]; simp) (by rw [hl]; simp) (by simp [hl]) (wrapK_small (by omega) (by have := congrArg List.length hl; simp at this; omega)) hI
      unfold round at h ⊢
      cases hh : havoc keep dead s with
      | none => rw [hh] at h; exact h
      | some s0 =>
        rw [hh] at h
        refine holds.mono h ?_
        intro e s' h'
        cases e with
        | normal => exact ih (d ++ [x]) s' (by simpa using hl) h'
        | exit i => exact h'
        | ret => exact h'
        | pan v => exact h'
  exact key l [] s rfl h0

/-- What a loop leaves as it was, and what it has. -/
def Split {α : Type} (l d : List α) (x : α) (r : List α) : Prop := l = d ++ x :: r

def kept (K B : List Nat) (s0 s : St) : Prop := (∀ t ∈ K, s.fr t = s0.fr t) ∧ (∀ k ∈ B, s.bx k = s0.bx k)

def has (V : List (Nat × PV)) (s : St) : Prop := ∀ p ∈ V, s.fr p.1 = p.2

@[simp] theorem kept_eq (K B : List Nat) (s0 s : St) : kept K B s0 s = ((∀ t ∈ K, s.fr t = s0.fr t) ∧ (∀ k ∈ B, s.bx k = s0.bx k)) := Eq.trans rfl rfl
@[simp] theorem has_nil (s : St) : has [] s = True := by simp [has]
@[simp] theorem has_cons (t : Nat) (v : PV) (V : List (Nat × PV)) (s : St) : has ((t, v) :: V) s = (s.fr t = v ∧ has V s) := by simp [has]

def hasB (W : List (Nat × Bx)) (s : St) : Prop := ∀ p ∈ W, s.bx p.1 = p.2
@[simp] theorem hasB_nil (s : St) : hasB [] s = True := by simp [hasB]
@[simp] theorem hasB_cons (t : Nat) (v : Bx) (W : List (Nat × Bx)) (s : St) : hasB ((t, v) :: W) s = (s.bx t = v ∧ hasB W s) := by simp [hasB]

def Inv (K B : List Nat) (s0 : St) (V : List (Nat × PV)) (W : List (Nat × Bx)) (σ : Store) (P : Prop) (s : St) : Prop := kept K B s0 s ∧ has V s ∧ hasB W s ∧ s.st = σ ∧ P
@[simp] theorem Inv_eq (K B : List Nat) (s0 : St) (V : List (Nat × PV)) (W : List (Nat × Bx)) (σ : Store) (P : Prop) (s : St) : Inv K B s0 V W σ P s = (kept K B s0 s ∧ has V s ∧ hasB W s ∧ s.st = σ ∧ P) := Eq.trans rfl rfl

/-- A loop through a list: what stays, what goes along, the store, and what is known. -/
theorem wp_eachB {α : Type} {cf : CallF} {keep dead : List Nat} {b : ICode} {Q : Ex → St → Prop} {s0 : St} (l : List α) (K B : List Nat) (V : List α → List (Nat × PV)) (W : List α → List (Nat × Bx)) (σ : List α → Store) (P : List α → Prop)
    (hb : l.length < 2 ^ 62) (h0 : has (V []) s0 ∧ hasB (W []) s0 ∧ s0.st = σ [] ∧ P [])
    (hstep : ∀ d x r s, Split l d x r → (hlt : d.length < l.length) → l[d.length]? = some x → l[d.length]'hlt = x → wrapK .i64 ((d.length : Int) + 1) = (d.length : Int) + 1 → P d →
      (∀ t ∈ K, s.fr t = s0.fr t) → (∀ k ∈ B, s.bx k = s0.bx k) → has (V d) s → hasB (W d) s → s.st = σ d → round cf keep dead b s (loopQ (Inv K B s0 (V (d ++ [x])) (W (d ++ [x])) (σ (d ++ [x])) (P (d ++ [x]))) Q))
    (hend : ∀ s, P l → (∀ t ∈ K, s.fr t = s0.fr t) → (∀ k ∈ B, s.bx k = s0.bx k) → has (V l) s → hasB (W l) s → s.st = σ l → round cf keep dead b s (loopQ (fun _ => False) Q)) : holds (exec cf (.loop keep dead b) s0) Q := by
  refine wp_list l (fun d s => Inv K B s0 (V d) (W d) (σ d) (P d) s) hb ?_ ?_ ?_
  · exact ⟨⟨fun _ _ => rfl, fun _ _ => rfl⟩, h0⟩
  · rintro d x r s hl hlt hg hg' hw ⟨⟨h1, h2⟩, h3, h3', h4, h5⟩
    exact hstep d x r s hl hlt hg hg' hw h5 h1 h2 h3 h3' h4
  · rintro s ⟨⟨h1, h2⟩, h3, h3', h4, h5⟩
    exact hend s h5 h1 h2 h3 h3' h4

theorem wp_each {α : Type} {cf : CallF} {keep dead : List Nat} {b : ICode} {Q : Ex → St → Prop} {s0 : St} (l : List α) (K B : List Nat) (V : List α → List (Nat × PV)) (σ : List α → Store) (P : List α → Prop)
    (hb : l.length < 2 ^ 62) (h0 : has (V []) s0 ∧ s0.st = σ [] ∧ P [])
    (hstep : ∀ d x r s, Split l d x r → (hlt : d.length < l.length) → l[d.length]? = some x → l[d.length]'hlt = x → wrapK .i64 ((d.length : Int) + 1) = (d.length : Int) + 1 → P d →
      (∀ t ∈ K, s.fr t = s0.fr t) → (∀ k ∈ B, s.bx k = s0.bx k) → has (V d) s → s.st = σ d → round cf keep dead b s (loopQ (Inv K B s0 (V (d ++ [x])) [] (σ (d ++ [x])) (P (d ++ [x]))) Q))
    (hend : ∀ s, P l → (∀ t ∈ K, s.fr t = s0.fr t) → (∀ k ∈ B, s.bx k = s0.bx k) → has (V l) s → s.st = σ l → round cf keep dead b s (loopQ (fun _ => False) Q)) : holds (exec cf (.loop keep dead b) s0) Q :=
  wp_eachB l K B V (fun _ => []) σ P hb ⟨h0.1, by simp, h0.2⟩ (fun d x r s a1 a2 a3 a4 a5 a6 a7 a8 a9 _ a10 => hstep d x r s a1 a2 a3 a4 a5 a6 a7 a8 a9 a10) (fun s a1 a2 a3 a4 _ a5 => hend s a1 a2 a3 a4 a5)

/-- A loop, by a measure of what goes along. -/
theorem wp_while {β : Type} {cf : CallF} {keep dead : List Nat} {b : ICode} {Q : Ex → St → Prop} {s0 : St} (K B : List Nat) (μ : β → Nat) (V : β → List (Nat × PV)) (W : β → List (Nat × Bx)) (σ : β → Store) (P : β → Prop) (c0 : β)
    (h0 : has (V c0) s0 ∧ hasB (W c0) s0 ∧ s0.st = σ c0 ∧ P c0)
    (hstep : ∀ c s, P c → (∀ t ∈ K, s.fr t = s0.fr t) → (∀ k ∈ B, s.bx k = s0.bx k) → has (V c) s → hasB (W c) s → s.st = σ c →
      round cf keep dead b s (loopQ (fun s' => ∃ c', μ c' < μ c ∧ Inv K B s0 (V c') (W c') (σ c') (P c') s') Q)) : holds (exec cf (.loop keep dead b) s0) Q := by
  refine wp_loop (fun n s => ∃ c, μ c = n ∧ Inv K B s0 (V c) (W c) (σ c) (P c) s) ?_ (μ c0) s0 ⟨c0, rfl, ⟨fun _ _ => rfl, fun _ _ => rfl⟩, h0⟩
  rintro n s ⟨c, rfl, ⟨h1, h2⟩, h3, h3', h4, h5⟩
  have h := hstep c s h5 h1 h2 h3 h3' h4
  unfold round at h ⊢
  cases hh : havoc keep dead s with
  | none => rw [hh] at h; exact h
  | some s1 =>
    rw [hh] at h
    refine holds.mono h ?_
    intro e s' h'
    cases e with
    | normal => obtain ⟨c', q1, q2⟩ := h'; exact ⟨μ c', q1, c', rfl, q2⟩
    | exit i => exact h'
    | ret => exact h'
    | pan v => exact h'

/-! ### Calls -/

/-- A call comes to this. -/
def PC (x : Option (CRes × Store)) (R : CRes → Store → Prop) : Prop := match x with
  | some (r, st) => R r st
  | none => False

theorem PC_iff {x : Option (CRes × Store)} {R : CRes → Store → Prop} : PC x R ↔ ∃ r st, x = some (r, st) ∧ R r st := by
  cases x with
  | none => exact ⟨fun h => h.elim, fun ⟨_, _, h, _⟩ => by cases h⟩
  | some q => obtain ⟨e, s⟩ := q; exact ⟨fun h => ⟨e, s, rfl, h⟩, fun ⟨_, _, h, h'⟩ => by cases h; exact h'⟩

/-- A function's end: its results, read where they lie. -/
def fin (res : List IRes) (fz : Bool) (n : Nat) (s : St) : Option (CRes × Store) :=
  match getAll s res with
  | none => none
  | some vs => if vs.all isVar then
      if fz then
        if belowL n (vs.map (freezeA n s.st)) && Store.wf n (s.st.take n) && decide (n ≤ s.st.length) then some (.ret (resVal (vs.map (freezeA n s.st))), s.st.take n) else none
      else some (.ret (resVal vs), s.st)
    else none

def finPan (fz : Bool) (n : Nat) (v : PV) (s : St) : Option (CRes × Store) :=
  if fz then
    if belowV n v && Store.wf n (s.st.take n) && decide (n ≤ s.st.length) then some (.pan v, s.st.take n) else none
  else some (.pan v, s.st)

def leaveQ (res : List IRes) (fz : Bool) (n : Nat) (R : CRes → Store → Prop) : Ex → St → Prop
  | .normal, s => PC (fin res fz n s) R
  | .ret, s => PC (fin res fz n s) R
  | .pan v, s => PC (finPan fz n v s) R
  | _, _ => False
section
variable (res : List IRes) (fz : Bool) (n : Nat) (R : CRes → Store → Prop) (s : St)
@[simp] theorem leaveQ_normal : leaveQ res fz n R .normal s = PC (fin res fz n s) R := Eq.trans rfl rfl
@[simp] theorem leaveQ_ret : leaveQ res fz n R .ret s = PC (fin res fz n s) R := Eq.trans rfl rfl
@[simp] theorem leaveQ_pan (v : PV) : leaveQ res fz n R (.pan v) s = PC (finPan fz n v s) R := Eq.trans rfl rfl
@[simp] theorem fin_false : fin res false n s = match getAll s res with
  | none => none
  | some vs => if vs.all isVar then some (.ret (resVal vs), s.st) else none := Eq.trans rfl rfl
@[simp] theorem finPan_false (v : PV) : finPan false n v s = some (.pan v, s.st) := Eq.trans rfl rfl
@[simp] theorem PC_some (r : CRes) (st : Store) : PC (some (r, st)) R = R r st := Eq.trans rfl rfl
end

/-- A function's call, by its body's end. -/
theorem pcall_wpP {E : Env} {f : Nat} {F : IFn} {args : List PV} {st : Store} {R : CRes → Store → Prop} (hx : E.ext f = none) (hf : E.fn f = some F) (hl : args.length = F.nargs) (hv : args.all isVar = true)
    (h : holds (exec (pcall E) F.body { fr := frOf args 0, bx := fun _ => .no, st := st }) (leaveQ F.res F.freeze st.length R)) : PC (pcall E f args st) R := by
  rw [holds_iff] at h
  obtain ⟨e, s, h1, h2⟩ := h
  have h3 : PC (leave F st.length (some (e, s))) R := by
    cases e with
    | normal => exact h2
    | ret => exact h2
    | pan v => exact h2
    | exit i => exact h2.elim
  rw [PC_iff] at h3
  obtain ⟨r, st', h4, h5⟩ := h3
  rw [pcall_body hx hf hl hv (by rw [h1]; exact h4)]
  exact h5

/-- What a call is known to come to. -/
def isR (r : CRes × Store) : CRes → Store → Prop := fun r' st' => r' = r.1 ∧ st' = r.2

theorem pcall_wp {E : Env} {f : Nat} {F : IFn} {args : List PV} {st : Store} {r : CRes × Store} (hx : E.ext f = none) (hf : E.fn f = some F) (hl : args.length = F.nargs) (hv : args.all isVar = true)
    (h : holds (exec (pcall E) F.body { fr := frOf args 0, bx := fun _ => .no, st := st }) (leaveQ F.res F.freeze st.length (isR r))) : pcall E f args st = some r := by
  have h1 := pcall_wpP (R := isR r) hx hf hl hv h
  rw [PC_iff] at h1
  obtain ⟨r', st', e, q1, q2⟩ := h1
  rw [e, q1, q2]

@[simp] theorem isR_mk (r r' : CRes) (st st' : Store) : isR (r, st) r' st' = (r' = r ∧ st' = st) := Eq.trans rfl rfl


attribute [simp] wp_region round_eq

section
variable (n : Nat)
@[simp] theorem below_undef : belowV n .undef = true := Eq.trans rfl rfl
@[simp] theorem below_bool (b : Bool) : belowV n (.bool b) = true := Eq.trans rfl rfl
@[simp] theorem below_int (k : IntKind) (m : Int) : belowV n (.int k m) = true := Eq.trans rfl rfl
@[simp] theorem below_str (m : List UInt8) : belowV n (.str m) = true := Eq.trans rfl rfl
@[simp] theorem below_nilp : belowV n .nilp = true := Eq.trans rfl rfl
@[simp] theorem below_ptr (l i o : Nat) : belowV n (.ptr l i o) = decide (l < n) := Eq.trans rfl rfl
@[simp] theorem below_mslice (l i o z : Nat) : belowV n (.mslice l i o z) = decide (l < n) := Eq.trans rfl rfl
@[simp] theorem below_mp (l : Nat) : belowV n (.mp l) = decide (l < n) := Eq.trans rfl rfl
@[simp] theorem below_iptr (l : List PV) (o : Nat) : belowV n (.iptr l o) = belowL n l := Eq.trans rfl rfl
@[simp] theorem below_slice (k : SK) (z : Nat) (l : List PV) : belowV n (.slice k z l) = belowL n l := Eq.trans rfl rfl
@[simp] theorem below_agg (l : List PV) : belowV n (.agg l) = belowL n l := Eq.trans rfl rfl
@[simp] theorem below_tup (l : List PV) : belowV n (.tup l) = belowL n l := Eq.trans rfl rfl
@[simp] theorem below_fn (f : Nat) (a b : List PV) : belowV n (.fn f a b) = (belowL n a && belowL n b) := Eq.trans rfl rfl
@[simp] theorem below_nilfn : belowV n .nilfn = true := Eq.trans rfl rfl
@[simp] theorem below_nilmap : belowV n .nilmap = true := Eq.trans rfl rfl
@[simp] theorem below_nilif : belowV n .nilif = true := Eq.trans rfl rfl
@[simp] theorem below_iface (t : Nat) (v : PV) : belowV n (.iface t v) = belowV n v := Eq.trans rfl rfl
@[simp] theorem belowL_nil : belowL n [] = true := Eq.trans rfl rfl
@[simp] theorem belowL_cons (v : PV) (l : List PV) : belowL n (v :: l) = (belowV n v && belowL n l) := Eq.trans rfl rfl
end
@[simp] theorem belowL_map {α : Type} (n : Nat) (f : α → PV) (l : List α) (h : ∀ x, belowV n (f x) = true) : belowL n (l.map f) = true := by
  induction l with
  | nil => rfl
  | cons x r ih => simp [h, ih]
@[simp] theorem belowL_append (n : Nat) (a b : List PV) : belowL n (a ++ b) = (belowL n a && belowL n b) := by
  induction a with
  | nil => simp
  | cons x r ih => simp [ih, Bool.and_assoc]
@[simp] theorem belowL_replicate (n k : Nat) (v : PV) (h : belowV n v = true) : belowL n (List.replicate k v) = true := by
  induction k with
  | zero => rfl
  | succ k ih => simp [List.replicate_succ, h, ih]
theorem Split.mem {α : Type} {l d : List α} {x : α} {r : List α} (h : Split l d x r) : x ∈ l := by
  have h : l = d ++ x :: r := h
  rw [h]; simp
theorem Split.eq {α : Type} {l d : List α} {x : α} {r : List α} (h : Split l d x r) : l = d ++ x :: r := h

theorem byte_lt (b : UInt8) : (b.toNat : Int) < 256 := by
  have := b.toNat_lt; omega
@[simp] theorem wrapK_byte (k : IntKind) (h : k ≠ .i8) (b : UInt8) : wrapK k b.toNat = b.toNat := by
  have := byte_lt b
  have h0 : (0 : Int) ≤ b.toNat := by omega
  rw [wrapK_eq]
  cases k <;> first | exact absurd rfl h | (simp only [IntKind.wrap, IntKind.bits, IntKind.signed, Bool.true_and, Bool.false_and]; split <;> rename_i h <;> first | omega | (have := of_decide_eq_true h; omega) | (exact absurd h (by simp)))

/-! ### What is let go of at a call's end -/

section
variable (n : Nat) (st : Store)
@[simp] theorem fr1_undef  : freeze1 n st (.undef) = (.undef) := Eq.trans rfl rfl
@[simp] theorem frA_undef  : freezeA n st (.undef) = (.undef) := Eq.trans rfl rfl
@[simp] theorem fr1_bool (b : Bool) : freeze1 n st (.bool b) = (.bool b) := Eq.trans rfl rfl
@[simp] theorem frA_bool (b : Bool) : freezeA n st (.bool b) = (.bool b) := Eq.trans rfl rfl
@[simp] theorem fr1_int (k : IntKind) (m : Int) : freeze1 n st (.int k m) = (.int k m) := Eq.trans rfl rfl
@[simp] theorem frA_int (k : IntKind) (m : Int) : freezeA n st (.int k m) = (.int k m) := Eq.trans rfl rfl
@[simp] theorem fr1_str (s : List UInt8) : freeze1 n st (.str s) = (.str s) := Eq.trans rfl rfl
@[simp] theorem frA_str (s : List UInt8) : freezeA n st (.str s) = (.str s) := Eq.trans rfl rfl
@[simp] theorem fr1_nilp  : freeze1 n st (.nilp) = (.nilp) := Eq.trans rfl rfl
@[simp] theorem frA_nilp  : freezeA n st (.nilp) = (.nilp) := Eq.trans rfl rfl
@[simp] theorem fr1_ptr (l i o : Nat) : freeze1 n st (.ptr l i o) = (.ptr l i o) := Eq.trans rfl rfl
@[simp] theorem frA_ptr (l i o : Nat) : freezeA n st (.ptr l i o) = (.ptr l i o) := Eq.trans rfl rfl
@[simp] theorem fr1_lptr (k o : Nat) : freeze1 n st (.lptr k o) = (.lptr k o) := Eq.trans rfl rfl
@[simp] theorem frA_lptr (k o : Nat) : freezeA n st (.lptr k o) = (.lptr k o) := Eq.trans rfl rfl
@[simp] theorem fr1_iptr (l : List PV) (o : Nat) : freeze1 n st (.iptr l o) = (.iptr l o) := Eq.trans rfl rfl
@[simp] theorem frA_iptr (l : List PV) (o : Nat) : freezeA n st (.iptr l o) = (.iptr l o) := Eq.trans rfl rfl
@[simp] theorem fr1_slice (k : SK) (z : Nat) (l : List PV) : freeze1 n st (.slice k z l) = (.slice k z l) := Eq.trans rfl rfl
@[simp] theorem frA_slice (k : SK) (z : Nat) (l : List PV) : freezeA n st (.slice k z l) = (.slice k z l) := Eq.trans rfl rfl
@[simp] theorem fr1_tup (l : List PV) : freeze1 n st (.tup l) = (.tup l) := Eq.trans rfl rfl
@[simp] theorem frA_tup (l : List PV) : freezeA n st (.tup l) = (.tup l) := Eq.trans rfl rfl
@[simp] theorem fr1_fn (f : Nat) (a b : List PV) : freeze1 n st (.fn f a b) = (.fn f a b) := Eq.trans rfl rfl
@[simp] theorem frA_fn (f : Nat) (a b : List PV) : freezeA n st (.fn f a b) = (.fn f a b) := Eq.trans rfl rfl
@[simp] theorem fr1_nilfn  : freeze1 n st (.nilfn) = (.nilfn) := Eq.trans rfl rfl
@[simp] theorem frA_nilfn  : freezeA n st (.nilfn) = (.nilfn) := Eq.trans rfl rfl
@[simp] theorem fr1_mp (r : Nat) : freeze1 n st (.mp r) = (.mp r) := Eq.trans rfl rfl
@[simp] theorem frA_mp (r : Nat) : freezeA n st (.mp r) = (.mp r) := Eq.trans rfl rfl
@[simp] theorem fr1_nilmap  : freeze1 n st (.nilmap) = (.nilmap) := Eq.trans rfl rfl
@[simp] theorem frA_nilmap  : freezeA n st (.nilmap) = (.nilmap) := Eq.trans rfl rfl
@[simp] theorem fr1_iface (t : Nat) (v : PV) : freeze1 n st (.iface t v) = (.iface t v) := Eq.trans rfl rfl
@[simp] theorem frA_iface (t : Nat) (v : PV) : freezeA n st (.iface t v) = (.iface t v) := Eq.trans rfl rfl
@[simp] theorem fr1_nilif  : freeze1 n st (.nilif) = (.nilif) := Eq.trans rfl rfl
@[simp] theorem frA_nilif  : freezeA n st (.nilif) = (.nilif) := Eq.trans rfl rfl
@[simp] theorem fr1_agg (l : List PV) : freeze1 n st (.agg l) = .agg l := Eq.trans rfl rfl
@[simp] theorem frA_agg (l : List PV) : freezeA n st (.agg l) = .agg (l.map (freeze1 n st)) := Eq.trans rfl rfl
theorem frA_mslice (l o k z : Nat) : freezeA n st (.mslice l o k z) = freeze1 n st (.mslice l o k z) := Eq.trans rfl rfl
theorem fr1_mslice (l o k z : Nat) : freeze1 n st (.mslice l o k z) = if n ≤ l then
      match st[l]? with
      | some (.arr s es) => if s = z ∧ o + k ≤ es.length then .slice .plain z (((es.drop o).take k).map stripA) else .mslice l o k z
      | _ => .mslice l o k z
    else .mslice l o k z := Eq.trans rfl rfl
end

@[simp] theorem fin_true0 (res : List IRes) (s : St) : fin res true 0 s = match getAll s res with
  | none => none
  | some vs => if vs.all isVar then if belowL 0 (vs.map (freezeA 0 s.st)) then some (.ret (resVal (vs.map (freezeA 0 s.st))), []) else none else none := by
  unfold fin
  cases getAll s res with
  | none => rfl
  | some vs => simp [Store.wf]
@[simp] theorem finPan_true0 (v : PV) (s : St) : finPan true 0 v s = if belowV 0 v then some (.pan v, []) else none := by
  simp [finPan, Store.wf]

/-- A row that grows, from nothing. -/
def acc (sz : Nat) (l : List PV) : PV := match l with
  | [] => .slice .fit sz []
  | x :: r => .slice .own sz (x :: r)
@[simp] theorem acc_nil (sz : Nat) : acc sz [] = .slice .fit sz [] := Eq.trans rfl rfl
@[simp] theorem acc_cons (sz : Nat) (x : PV) (r : List PV) : acc sz (x :: r) = .slice .own sz (x :: r) := Eq.trans rfl rfl
theorem acc_ne {sz : Nat} {l : List PV} (h : l ≠ []) : acc sz l = .slice .own sz l := by cases l <;> first | exact absurd rfl h | rfl
@[simp] theorem canon1_acc (sz : Nat) (l : List PV) : canon1 (acc sz l) = .slice .plain sz l := by cases l <;> rfl
@[simp] theorem stripA_acc (sz : Nat) (l : List PV) : stripA (acc sz l) = .slice .plain sz l := by cases l <;> rfl
@[simp] theorem isVar_acc (sz : Nat) (l : List PV) : isVar (acc sz l) = true := by cases l <;> rfl
@[simp] theorem isCell_acc (sz : Nat) (l : List PV) : isCell (acc sz l) = true := by cases l <;> rfl
@[simp] theorem avoids_acc (dead : List Nat) (sz : Nat) (l : List PV) : avoids dead (acc sz l) = true := by cases l <;> rfl
@[simp] theorem isOwn_acc (sz : Nat) (x : PV) (l : List PV) : isOwn (acc sz (x :: l)) = some (sz, x :: l) := Eq.trans rfl rfl
@[simp] theorem lenSem_acc (st : Store) (sz : Nat) (l : List PV) : lenSem st 1 (acc sz l) = some (.int .i64 l.length) := by cases l <;> rfl
@[simp] theorem src_acc (st : Store) (sz z : Nat) (l : List PV) : srcElems st sz (acc z l) = if sz = z then some l else none := by cases l <;> rfl
/-- A row that grows, with more. -/
@[simp] theorem appendS_acc (sz bytes : Nat) (b : Bx) (st : Store) (l l' : List PV) (h : (l.length + l'.length) * bytes ≤ roomMax) : appendS sz bytes b st (some l') (acc sz l) = some (acc sz (l ++ l'), b, st) := by
  cases l with
  | nil =>
    cases l' with
    | nil => simp
    | cons y r =>
      simp at h
      simp; exact h
  | cons x r => simp at h; simp; exact h
@[simp high] theorem appendS_nil (sz bytes : Nat) (b : Bx) (st : Store) (l' : List PV) (h : l'.length * bytes ≤ roomMax) : appendS sz bytes b st (some l') (.slice .fit sz []) = some (acc sz l', b, st) := by
  have := appendS_acc sz bytes b st [] l' (by simpa using h)
  simpa using this
@[simp] theorem canon1_sacc (sz : Nat) (l : List PV) : canon1 (strip (acc sz l)) = .slice .plain sz l := by cases l <;> rfl
@[simp] theorem stripA_sacc (sz : Nat) (l : List PV) : stripA (strip (acc sz l)) = .slice .plain sz l := by cases l <;> rfl
@[simp] theorem isVar_sacc (sz : Nat) (l : List PV) : isVar (strip (acc sz l)) = true := by cases l <;> rfl
@[simp] theorem isCell_sacc (sz : Nat) (l : List PV) : isCell (strip (acc sz l)) = true := by cases l <;> rfl
@[simp] theorem cellsOf_sacc (sz : Nat) (l : List PV) : cellsOf (strip (acc sz l)) = [strip (acc sz l)] := by cases l <;> rfl
@[simp] theorem strip_sacc (sz : Nat) (l : List PV) : strip (strip (acc sz l)) = strip (acc sz l) := by cases l <;> rfl
@[simp] theorem avoids_sacc (dead : List Nat) (sz : Nat) (l : List PV) : avoids dead (strip (acc sz l)) = true := by cases l <;> rfl
@[simp] theorem lenSem_sacc (st : Store) (sz : Nat) (l : List PV) : lenSem st 1 (strip (acc sz l)) = some (.int .i64 l.length) := by cases l <;> rfl
@[simp] theorem src_sacc (st : Store) (sz z : Nat) (l : List PV) : srcElems st sz (strip (acc z l)) = if sz = z then some l else none := by cases l <;> rfl
@[simp] theorem cellsOf_acc (sz : Nat) (l : List PV) : cellsOf (acc sz l) = [acc sz l] := by cases l <;> rfl

end PE

/-
  Programs: what they are in plain Lean, and as plain values.
-/
namespace PE.U
open Go PE

structure Tok where
  kind : Int
  text : List UInt8
  line : Int
  deriving DecidableEq

structure Expr where
  kind : Int
  op : Int
  n : Int
  name : List UInt8
  args : List Expr

structure Stmt where
  kind : Int
  type : Int
  name : List UInt8
  args : List Expr
  thn : List Stmt
  els : List Stmt

structure Par where
  name : List UInt8
  type : Int

structure Func where
  name : List UInt8
  type : Int
  params : List Par
  body : List Stmt

structure PArr where
  name : List UInt8
  size : Int

structure Prog where
  arrays : List PArr
  funcs : List Func

def encTok (t : Tok) : PV := .agg [.int .i64 t.kind, .str t.text, .int .i64 t.line]
def toks (l : List Tok) : PV := .slice .plain 3 (l.map encTok)

mutual
def encExpr : Expr → PV
  | ⟨k, o, n, s, a⟩ => .agg [.int .i64 k, .int .i64 o, .int .i64 n, .str s, .slice .plain 5 (encEs a)]
def encEs : List Expr → List PV
  | [] => []
  | x :: r => encExpr x :: encEs r
end
theorem encEs_eq (l : List Expr) : encEs l = l.map encExpr := by
  induction l with
  | nil => rfl
  | cons x r ih => rw [encEs, ih]; rfl
def exprs (l : List Expr) : PV := .slice .plain 5 (l.map encExpr)
theorem encExpr_eq (x : Expr) : encExpr x = .agg [.int .i64 x.kind, .int .i64 x.op, .int .i64 x.n, .str x.name, exprs x.args] := by
  cases x; simp [encExpr, encEs_eq, exprs]

mutual
def encStmt : Stmt → PV
  | ⟨k, t, s, a, th, el⟩ => .agg [.int .i64 k, .int .i64 t, .str s, exprs a, .slice .plain 6 (encSs th), .slice .plain 6 (encSs el)]
def encSs : List Stmt → List PV
  | [] => []
  | x :: r => encStmt x :: encSs r
end
theorem encSs_eq (l : List Stmt) : encSs l = l.map encStmt := by
  induction l with
  | nil => rfl
  | cons x r ih => rw [encSs, ih]; rfl
def stmts (l : List Stmt) : PV := .slice .plain 6 (l.map encStmt)
theorem encStmt_eq (x : Stmt) : encStmt x = .agg [.int .i64 x.kind, .int .i64 x.type, .str x.name, exprs x.args, stmts x.thn, stmts x.els] := by
  cases x; simp [encStmt, encSs_eq, stmts]

def encPar (p : Par) : PV := .agg [.str p.name, .int .i64 p.type]
def parsV (l : List Par) : PV := .slice .plain 2 (l.map encPar)
def encFunc (f : Func) : PV := .agg [.str f.name, .int .i64 f.type, parsV f.params, stmts f.body]
def funcs (l : List Func) : PV := .slice .plain 4 (l.map encFunc)
def encPArr (a : PArr) : PV := .agg [.str a.name, .int .i64 a.size]
def parrs (l : List PArr) : PV := .slice .plain 2 (l.map encPArr)
def encProg (p : Prog) : PV := .agg [parrs p.arrays, funcs p.funcs]

mutual
theorem flatE (k : Nat) : ∀ x : Expr, belowV k (encExpr x) = true
  | ⟨_, _, _, _, a⟩ => by simp [encExpr, flatEs k a]
theorem flatEs (k : Nat) : ∀ l : List Expr, belowL k (encEs l) = true
  | [] => rfl
  | x :: r => by simp [encEs, flatE k x, flatEs k r]
end
theorem flat_exprs (k : Nat) (l : List Expr) : belowV k (exprs l) = true := by
  have := flatEs k l; rw [encEs_eq] at this; simpa [exprs] using this
mutual
theorem flatS (k : Nat) : ∀ x : Stmt, belowV k (encStmt x) = true
  | ⟨_, _, _, a, th, el⟩ => by simp [encStmt, flat_exprs, flatSs k th, flatSs k el]
theorem flatSs (k : Nat) : ∀ l : List Stmt, belowL k (encSs l) = true
  | [] => rfl
  | x :: r => by simp [encSs, flatS k x, flatSs k r]
end
section
variable (k : Nat)
@[simp high] theorem pl_tok (l : List Tok) : belowL k (l.map encTok) = true := belowL_map _ _ _ (fun x => by simp [encTok])
@[simp high] theorem pl_expr (l : List Expr) : belowL k (l.map encExpr) = true := belowL_map _ _ _ (flatE k)
@[simp high] theorem pl_stmt (l : List Stmt) : belowL k (l.map encStmt) = true := belowL_map _ _ _ (flatS k)
@[simp high] theorem pl_par (l : List Par) : belowL k (l.map encPar) = true := belowL_map _ _ _ (fun x => by simp [encPar])
@[simp high] theorem pl_parr (l : List PArr) : belowL k (l.map encPArr) = true := belowL_map _ _ _ (fun x => by simp [encPArr])
@[simp] theorem fl_tok (x : Tok) : belowV k (encTok x) = true := by simp [encTok]
@[simp] theorem fl_toks (l : List Tok) : belowV k (toks l) = true := by simp [toks]
@[simp] theorem fl_expr (x : Expr) : belowV k (encExpr x) = true := flatE k x
@[simp] theorem fl_exprs (l : List Expr) : belowV k (exprs l) = true := flat_exprs k l
@[simp] theorem fl_stmt (x : Stmt) : belowV k (encStmt x) = true := flatS k x
@[simp] theorem fl_stmts (l : List Stmt) : belowV k (stmts l) = true := by simp [stmts]
@[simp] theorem fl_par (x : Par) : belowV k (encPar x) = true := by simp [encPar]
@[simp] theorem fl_pars (l : List Par) : belowV k (parsV l) = true := by simp [parsV]
@[simp] theorem fl_func (x : Func) : belowV k (encFunc x) = true := by simp [encFunc]
@[simp high] theorem pl_func (l : List Func) : belowL k (l.map encFunc) = true := belowL_map _ _ _ (fl_func k)
@[simp] theorem fl_funcs (l : List Func) : belowV k (funcs l) = true := by simp [funcs]
@[simp] theorem fl_parr (x : PArr) : belowV k (encPArr x) = true := by simp [encPArr]
@[simp] theorem fl_parrs (l : List PArr) : belowV k (parrs l) = true := by simp [parrs]
@[simp] theorem fl_prog (p : Prog) : belowV k (encProg p) = true := by simp [encProg]
end
section
@[simp high] theorem isCell_toks (l : List Tok) : isCell (toks l) = true := Eq.trans rfl rfl
@[simp high] theorem isVar_toks (l : List Tok) : isVar (toks l) = true := Eq.trans rfl rfl
@[simp high] theorem canon1_toks (l : List Tok) : canon1 (toks l) = toks l := Eq.trans rfl rfl
@[simp high] theorem strip_toks (l : List Tok) : strip (toks l) = toks l := Eq.trans rfl rfl
@[simp high] theorem stripA_toks (l : List Tok) : stripA (toks l) = toks l := Eq.trans rfl rfl
@[simp high] theorem isOwn_toks (l : List Tok) : isOwn (toks l) = none := Eq.trans rfl rfl
@[simp high] theorem cellsOf_toks (l : List Tok) : cellsOf (toks l) = [toks l] := Eq.trans rfl rfl
@[simp high] theorem avoids_toks (dead : List Nat) (l : List Tok) : avoids dead (toks l) = true := Eq.trans rfl rfl
end
section
@[simp high] theorem isCell_exprs (l : List Expr) : isCell (exprs l) = true := Eq.trans rfl rfl
@[simp high] theorem isVar_exprs (l : List Expr) : isVar (exprs l) = true := Eq.trans rfl rfl
@[simp high] theorem canon1_exprs (l : List Expr) : canon1 (exprs l) = exprs l := Eq.trans rfl rfl
@[simp high] theorem strip_exprs (l : List Expr) : strip (exprs l) = exprs l := Eq.trans rfl rfl
@[simp high] theorem stripA_exprs (l : List Expr) : stripA (exprs l) = exprs l := Eq.trans rfl rfl
@[simp high] theorem isOwn_exprs (l : List Expr) : isOwn (exprs l) = none := Eq.trans rfl rfl
@[simp high] theorem cellsOf_exprs (l : List Expr) : cellsOf (exprs l) = [exprs l] := Eq.trans rfl rfl
@[simp high] theorem avoids_exprs (dead : List Nat) (l : List Expr) : avoids dead (exprs l) = true := Eq.trans rfl rfl
end
section
@[simp high] theorem isCell_stmts (l : List Stmt) : isCell (stmts l) = true := Eq.trans rfl rfl
@[simp high] theorem isVar_stmts (l : List Stmt) : isVar (stmts l) = true := Eq.trans rfl rfl
@[simp high] theorem canon1_stmts (l : List Stmt) : canon1 (stmts l) = stmts l := Eq.trans rfl rfl
@[simp high] theorem strip_stmts (l : List Stmt) : strip (stmts l) = stmts l := Eq.trans rfl rfl
@[simp high] theorem stripA_stmts (l : List Stmt) : stripA (stmts l) = stmts l := Eq.trans rfl rfl
@[simp high] theorem isOwn_stmts (l : List Stmt) : isOwn (stmts l) = none := Eq.trans rfl rfl
@[simp high] theorem cellsOf_stmts (l : List Stmt) : cellsOf (stmts l) = [stmts l] := Eq.trans rfl rfl
@[simp high] theorem avoids_stmts (dead : List Nat) (l : List Stmt) : avoids dead (stmts l) = true := Eq.trans rfl rfl
end
section
@[simp high] theorem isCell_parsV (l : List Par) : isCell (parsV l) = true := Eq.trans rfl rfl
@[simp high] theorem isVar_parsV (l : List Par) : isVar (parsV l) = true := Eq.trans rfl rfl
@[simp high] theorem canon1_parsV (l : List Par) : canon1 (parsV l) = parsV l := Eq.trans rfl rfl
@[simp high] theorem strip_parsV (l : List Par) : strip (parsV l) = parsV l := Eq.trans rfl rfl
@[simp high] theorem stripA_parsV (l : List Par) : stripA (parsV l) = parsV l := Eq.trans rfl rfl
@[simp high] theorem isOwn_parsV (l : List Par) : isOwn (parsV l) = none := Eq.trans rfl rfl
@[simp high] theorem cellsOf_parsV (l : List Par) : cellsOf (parsV l) = [parsV l] := Eq.trans rfl rfl
@[simp high] theorem avoids_parsV (dead : List Nat) (l : List Par) : avoids dead (parsV l) = true := Eq.trans rfl rfl
end
section
@[simp high] theorem isCell_funcs (l : List Func) : isCell (funcs l) = true := Eq.trans rfl rfl
@[simp high] theorem isVar_funcs (l : List Func) : isVar (funcs l) = true := Eq.trans rfl rfl
@[simp high] theorem canon1_funcs (l : List Func) : canon1 (funcs l) = funcs l := Eq.trans rfl rfl
@[simp high] theorem strip_funcs (l : List Func) : strip (funcs l) = funcs l := Eq.trans rfl rfl
@[simp high] theorem stripA_funcs (l : List Func) : stripA (funcs l) = funcs l := Eq.trans rfl rfl
@[simp high] theorem isOwn_funcs (l : List Func) : isOwn (funcs l) = none := Eq.trans rfl rfl
@[simp high] theorem cellsOf_funcs (l : List Func) : cellsOf (funcs l) = [funcs l] := Eq.trans rfl rfl
@[simp high] theorem avoids_funcs (dead : List Nat) (l : List Func) : avoids dead (funcs l) = true := Eq.trans rfl rfl
end
section
@[simp high] theorem isCell_parrs (l : List PArr) : isCell (parrs l) = true := Eq.trans rfl rfl
@[simp high] theorem isVar_parrs (l : List PArr) : isVar (parrs l) = true := Eq.trans rfl rfl
@[simp high] theorem canon1_parrs (l : List PArr) : canon1 (parrs l) = parrs l := Eq.trans rfl rfl
@[simp high] theorem strip_parrs (l : List PArr) : strip (parrs l) = parrs l := Eq.trans rfl rfl
@[simp high] theorem stripA_parrs (l : List PArr) : stripA (parrs l) = parrs l := Eq.trans rfl rfl
@[simp high] theorem isOwn_parrs (l : List PArr) : isOwn (parrs l) = none := Eq.trans rfl rfl
@[simp high] theorem cellsOf_parrs (l : List PArr) : cellsOf (parrs l) = [parrs l] := Eq.trans rfl rfl
@[simp high] theorem avoids_parrs (dead : List Nat) (l : List PArr) : avoids dead (parrs l) = true := Eq.trans rfl rfl
end

mutual
def wtE : Expr → Nat
  | ⟨_, _, _, s, a⟩ => 1 + s.length + wtEs a
def wtEs : List Expr → Nat
  | [] => 0
  | x :: r => 1 + wtE x + wtEs r
end
mutual
def wtS : Stmt → Nat
  | ⟨_, _, s, a, th, el⟩ => 1 + s.length + wtEs a + wtSs th + wtSs el
def wtSs : List Stmt → Nat
  | [] => 0
  | x :: r => 1 + wtS x + wtSs r
end
theorem wtE_eq (x : Expr) : wtE x = 1 + x.name.length + wtEs x.args := by cases x; rfl
theorem wtS_eq (x : Stmt) : wtS x = 1 + x.name.length + wtEs x.args + wtSs x.thn + wtSs x.els := by cases x; rfl
theorem wtEs_append (a b : List Expr) : wtEs (a ++ b) = wtEs a + wtEs b := by
  induction a with
  | nil => simp [wtEs]
  | cons x r ih => simp [wtEs, ih]; omega
theorem wtSs_append (a b : List Stmt) : wtSs (a ++ b) = wtSs a + wtSs b := by
  induction a with
  | nil => simp [wtSs]
  | cons x r ih => simp [wtSs, ih]; omega
theorem len_wtEs (l : List Expr) : l.length ≤ wtEs l := by
  induction l with
  | nil => simp
  | cons x r ih => simp [wtEs]; omega
theorem len_wtSs (l : List Stmt) : l.length ≤ wtSs l := by
  induction l with
  | nil => simp
  | cons x r ih => simp [wtSs]; omega
theorem wtE_mem {x : Expr} {l : List Expr} (h : x ∈ l) : wtE x + 1 ≤ wtEs l := by
  induction l with
  | nil => cases h
  | cons y r ih =>
    simp only [wtEs]
    rcases List.mem_cons.1 h with rfl | h
    · omega
    · have := ih h; omega
theorem wtS_mem {x : Stmt} {l : List Stmt} (h : x ∈ l) : wtS x + 1 ≤ wtSs l := by
  induction l with
  | nil => cases h
  | cons y r ih =>
    simp only [wtSs]
    rcases List.mem_cons.1 h with rfl | h
    · omega
    · have := ih h; omega

end PE.U

/-
  Units: what they are in plain Lean, and as plain values.
-/
namespace PE.U
open Go PE

structure Node where
  kind : Int
  op : Int
  n : Int
  name : List UInt8
  args : List Int
  outs : List Int
  params : List Int
  kids : List (List Node)

structure Flow where
  name : List UInt8
  type : Int
  params : Int
  types : List Int
  body : List Node

structure Arr where
  name : List UInt8
  size : Int

structure Unt where
  arrays : List Arr
  flows : List Flow

abbrev int (n : Int) : PV := .int .i64 n
def ints (l : List Int) : PV := .slice .plain 1 (l.map (PV.int .i64))

mutual
def encNode : Node → PV
  | ⟨k, o, n, s, a, u, p, ks⟩ => .agg [.int .i64 k, .int .i64 o, .int .i64 n, .str s, ints a, ints u, ints p, .slice .plain 1 (encK ks)]
def encL : List Node → List PV
  | [] => []
  | x :: r => encNode x :: encL r
def encK : List (List Node) → List PV
  | [] => []
  | l :: r => .slice .plain 8 (encL l) :: encK r
end

theorem encL_eq (l : List Node) : encL l = l.map encNode := by
  induction l with
  | nil => rfl
  | cons x r ih => rw [encL, ih]; rfl
def nodes (l : List Node) : PV := .slice .plain 8 (l.map encNode)
def kids (l : List (List Node)) : PV := .slice .plain 1 (l.map nodes)
theorem encK_eq (l : List (List Node)) : encK l = l.map nodes := by
  induction l with
  | nil => rfl
  | cons x r ih => rw [encK, ih, encL_eq]; rfl
theorem encNode_eq (x : Node) : encNode x = .agg [.int .i64 x.kind, .int .i64 x.op, .int .i64 x.n, .str x.name, ints x.args, ints x.outs, ints x.params, kids x.kids] := by
  cases x; simp [encNode, encK_eq, kids]

mutual
theorem flatN (k : Nat) : ∀ x : Node, belowV k (encNode x) = true
  | ⟨_, _, _, _, a, u, p, ks⟩ => by simp [encNode, ints, flatK k ks]
theorem flatL (k : Nat) : ∀ l : List Node, belowL k (encL l) = true
  | [] => rfl
  | x :: r => by simp [encL, flatN k x, flatL k r]
theorem flatK (k : Nat) : ∀ l : List (List Node), belowL k (encK l) = true
  | [] => rfl
  | x :: r => by simp [encK, flatL k x, flatK k r]
end

def encFlow (f : Flow) : PV := .agg [.str f.name, .int .i64 f.type, .int .i64 f.params, ints f.types, nodes f.body]
def encArr (a : Arr) : PV := .agg [.str a.name, .int .i64 a.size]
def flows (l : List Flow) : PV := .slice .plain 5 (l.map encFlow)
def arrs (l : List Arr) : PV := .slice .plain 2 (l.map encArr)
def encUnt (u : Unt) : PV := .agg [arrs u.arrays, flows u.flows]

section
variable (k : Nat)
@[simp] theorem flat_ints (l : List Int) : belowV k (ints l) = true := by simp [ints]
@[simp] theorem flat_node (x : Node) : belowV k (encNode x) = true := flatN k x
@[simp] theorem flat_nodes (l : List Node) : belowV k (nodes l) = true := by simp [nodes]
@[simp] theorem flat_kids (l : List (List Node)) : belowV k (kids l) = true := by simp [kids]
@[simp] theorem flat_flow (f : Flow) : belowV k (encFlow f) = true := by simp [encFlow]
@[simp] theorem flat_arr (f : Arr) : belowV k (encArr f) = true := by simp [encArr]
@[simp] theorem flat_flows (f : List Flow) : belowV k (flows f) = true := by simp [flows]
@[simp] theorem flat_arrs (f : List Arr) : belowV k (arrs f) = true := by simp [arrs]
@[simp] theorem flat_unt (f : Unt) : belowV k (encUnt f) = true := by simp [encUnt]
end

section
variable (n : Nat)
@[simp high] theorem bl_int (l : List Int) : belowL n (l.map (PV.int .i64)) = true := belowL_map _ _ _ (fun _ => rfl)
@[simp high] theorem bl_node (l : List Node) : belowL n (l.map encNode) = true := belowL_map _ _ _ (flat_node n)
@[simp high] theorem bl_nodes (l : List (List Node)) : belowL n (l.map nodes) = true := belowL_map _ _ _ (flat_nodes n)
@[simp high] theorem bl_flow (l : List Flow) : belowL n (l.map encFlow) = true := belowL_map _ _ _ (flat_flow n)
@[simp high] theorem bl_arr (l : List Arr) : belowL n (l.map encArr) = true := belowL_map _ _ _ (flat_arr n)
end
section
@[simp high] theorem isCell_ints (l : List Int) : isCell (ints l) = true := Eq.trans rfl rfl
@[simp high] theorem isVar_ints (l : List Int) : isVar (ints l) = true := Eq.trans rfl rfl
@[simp high] theorem canon1_ints (l : List Int) : canon1 (ints l) = ints l := Eq.trans rfl rfl
@[simp high] theorem strip_ints (l : List Int) : strip (ints l) = ints l := Eq.trans rfl rfl
@[simp high] theorem stripA_ints (l : List Int) : stripA (ints l) = ints l := Eq.trans rfl rfl
@[simp high] theorem isOwn_ints (l : List Int) : isOwn (ints l) = none := Eq.trans rfl rfl
@[simp high] theorem cellsOf_ints (l : List Int) : cellsOf (ints l) = [ints l] := Eq.trans rfl rfl
@[simp high] theorem isCell_nodes (l : List Node) : isCell (nodes l) = true := Eq.trans rfl rfl
@[simp high] theorem isVar_nodes (l : List Node) : isVar (nodes l) = true := Eq.trans rfl rfl
@[simp high] theorem canon1_nodes (l : List Node) : canon1 (nodes l) = nodes l := Eq.trans rfl rfl
@[simp high] theorem strip_nodes (l : List Node) : strip (nodes l) = nodes l := Eq.trans rfl rfl
@[simp high] theorem stripA_nodes (l : List Node) : stripA (nodes l) = nodes l := Eq.trans rfl rfl
@[simp high] theorem isOwn_nodes (l : List Node) : isOwn (nodes l) = none := Eq.trans rfl rfl
@[simp high] theorem cellsOf_nodes (l : List Node) : cellsOf (nodes l) = [nodes l] := Eq.trans rfl rfl
@[simp high] theorem isCell_kids (l : List (List Node)) : isCell (kids l) = true := Eq.trans rfl rfl
@[simp high] theorem isVar_kids (l : List (List Node)) : isVar (kids l) = true := Eq.trans rfl rfl
@[simp high] theorem canon1_kids (l : List (List Node)) : canon1 (kids l) = kids l := Eq.trans rfl rfl
@[simp high] theorem strip_kids (l : List (List Node)) : strip (kids l) = kids l := Eq.trans rfl rfl
@[simp high] theorem stripA_kids (l : List (List Node)) : stripA (kids l) = kids l := Eq.trans rfl rfl
@[simp high] theorem isOwn_kids (l : List (List Node)) : isOwn (kids l) = none := Eq.trans rfl rfl
@[simp high] theorem cellsOf_kids (l : List (List Node)) : cellsOf (kids l) = [kids l] := Eq.trans rfl rfl
@[simp high] theorem isCell_flows (l : List Flow) : isCell (flows l) = true := Eq.trans rfl rfl
@[simp high] theorem isVar_flows (l : List Flow) : isVar (flows l) = true := Eq.trans rfl rfl
@[simp high] theorem canon1_flows (l : List Flow) : canon1 (flows l) = flows l := Eq.trans rfl rfl
@[simp high] theorem strip_flows (l : List Flow) : strip (flows l) = flows l := Eq.trans rfl rfl
@[simp high] theorem stripA_flows (l : List Flow) : stripA (flows l) = flows l := Eq.trans rfl rfl
@[simp high] theorem isOwn_flows (l : List Flow) : isOwn (flows l) = none := Eq.trans rfl rfl
@[simp high] theorem cellsOf_flows (l : List Flow) : cellsOf (flows l) = [flows l] := Eq.trans rfl rfl
@[simp high] theorem isCell_arrs (l : List Arr) : isCell (arrs l) = true := Eq.trans rfl rfl
@[simp high] theorem isVar_arrs (l : List Arr) : isVar (arrs l) = true := Eq.trans rfl rfl
@[simp high] theorem canon1_arrs (l : List Arr) : canon1 (arrs l) = arrs l := Eq.trans rfl rfl
@[simp high] theorem strip_arrs (l : List Arr) : strip (arrs l) = arrs l := Eq.trans rfl rfl
@[simp high] theorem stripA_arrs (l : List Arr) : stripA (arrs l) = arrs l := Eq.trans rfl rfl
@[simp high] theorem isOwn_arrs (l : List Arr) : isOwn (arrs l) = none := Eq.trans rfl rfl
@[simp high] theorem cellsOf_arrs (l : List Arr) : cellsOf (arrs l) = [arrs l] := Eq.trans rfl rfl
end

mutual
def wtN : Node → Nat
  | ⟨_, _, _, s, a, u, p, ks⟩ => 1 + s.length + a.length + u.length + p.length + wtK ks
def wtL : List Node → Nat
  | [] => 0
  | x :: r => 1 + wtN x + wtL r
def wtK : List (List Node) → Nat
  | [] => 0
  | l :: r => 1 + wtL l + wtK r
end
theorem wtN_eq (x : Node) : wtN x = 1 + x.name.length + x.args.length + x.outs.length + x.params.length + wtK x.kids := by cases x; rfl
theorem wtL_append (a b : List Node) : wtL (a ++ b) = wtL a + wtL b := by
  induction a with
  | nil => simp [wtL]
  | cons x r ih => simp [wtL, ih]; omega
theorem wtK_append (a b : List (List Node)) : wtK (a ++ b) = wtK a + wtK b := by
  induction a with
  | nil => simp [wtK]
  | cons x r ih => simp [wtK, ih]; omega
theorem len_wtL (l : List Node) : l.length ≤ wtL l := by
  induction l with
  | nil => simp
  | cons x r ih => simp [wtL]; omega
theorem len_wtK (l : List (List Node)) : l.length ≤ wtK l := by
  induction l with
  | nil => simp
  | cons x r ih => simp [wtK]; omega
theorem wt_kid {x : Node} {l : List Node} (h : l ∈ x.kids) : wtL l + 2 ≤ wtN x := by
  rw [wtN_eq]
  have : ∀ ks : List (List Node), l ∈ ks → wtL l + 1 ≤ wtK ks := by
    intro ks
    induction ks with
    | nil => intro h; cases h
    | cons y r ih =>
      intro h
      simp only [wtK]
      rcases List.mem_cons.1 h with rfl | h
      · omega
      · have := ih h; omega
  have := this _ h
  omega
theorem wt_mem {x : Node} {l : List Node} (h : x ∈ l) : wtN x + 1 ≤ wtL l := by
  induction l with
  | nil => cases h
  | cons y r ih =>
    simp only [wtL]
    rcases List.mem_cons.1 h with rfl | h
    · omega
    · have := ih h; omega

end PE.U

/-
  Short words for operations.
-/
namespace PE
open Go

@[simp] def cI (n : Int) : Arg := .c (.int .i64 n)
@[simp] def oM (a b : Nat) : GOp := ⟨none, some a, .mv (.t b)⟩
@[simp] def oC (a : Nat) (v : PV) : GOp := ⟨none, some a, .mv (.c v)⟩
@[simp] def oO (a : Nat) (x : IOp) : GOp := ⟨none, some a, x⟩
@[simp] def oN (x : IOp) : GOp := ⟨none, none, x⟩
@[simp] def oT (g a : Nat) (x : IOp) : GOp := ⟨some (g, true), some a, x⟩
@[simp] def oF (g a : Nat) (x : IOp) : GOp := ⟨some (g, false), some a, x⟩
@[simp] def oA (a off t : Nat) : GOp := ⟨none, some a, .faddr off (.t t)⟩
@[simp] def oX (a t i : Nat) : GOp := ⟨none, some a, .ext (.t t) i⟩
@[simp] def oL (a k t : Nat) : GOp := ⟨none, some a, .load (.box k) false 1 (.t t)⟩
@[simp] def oLa (a k sz t : Nat) : GOp := ⟨none, some a, .load (.box k) true sz (.t t)⟩
@[simp] def oG (a t : Nat) : GOp := ⟨none, some a, .load .any false 1 (.t t)⟩
@[simp] def oS (k sz t v : Nat) : GOp := ⟨none, none, .store (.box k) sz (.t t) (.t v)⟩
@[simp] def oB (a : Nat) (op : BinOp) (x y : Arg) : GOp := ⟨none, some a, .bin 0 [] op x y⟩
end PE

/-
  The plain reading of the functions, printed by program off their region code; and the look that holds each against the other.
-/
namespace PE.U
open Go PE Go.Proofs

/-- boxhedge/boxhedgeref02.letter -/
def F34 : IFn where
  ntmps := 21
  nargs := 1
  res := [.tmp 2]
  freeze := false
  body :=
 (.seq
 (.region [
 oC 2 (.bool false)])
 (.seq
 (.region [
 oM 3 0,
 oB 4 .geq (.t 3) (.c (.int .u8 97)),
 oM 5 4,
 oT 5 6 (.mv (.t 0)),
 oT 5 7 (.bin 0 [] .leq (.t 6) (.c (.int .u8 122))),
 oO 8 (.pick (.t 5) (.t 7) (.c (.bool false))),
 oM 9 8,
 oF 9 10 (.mv (.t 0)),
 oF 9 11 (.bin 0 [] .geq (.t 10) (.c (.int .u8 65))),
 oF 9 12 (.mv (.t 11)),
 oT 12 13 (.mv (.t 0)),
 oT 12 14 (.bin 0 [] .leq (.t 13) (.c (.int .u8 90))),
 oF 9 15 (.pick (.t 12) (.t 14) (.c (.bool false))),
 oO 16 (.pick (.t 9) (.c (.bool true)) (.t 15)),
 oM 17 16,
 oF 17 18 (.mv (.t 0)),
 oF 17 19 (.bin 0 [] .eql (.t 18) (.c (.int .u8 95))),
 oO 20 (.pick (.t 17) (.c (.bool true)) (.t 19)),
 oM 2 20])
 .ret))

/-- boxhedge/boxhedgeref02.digit -/
def F35 : IFn where
  ntmps := 9
  nargs := 1
  res := [.tmp 2]
  freeze := false
  body :=
 (.seq
 (.region [
 oC 2 (.bool false)])
 (.seq
 (.region [
 oM 3 0,
 oB 4 .geq (.t 3) (.c (.int .u8 48)),
 oM 5 4,
 oT 5 6 (.mv (.t 0)),
 oT 5 7 (.bin 0 [] .leq (.t 6) (.c (.int .u8 57))),
 oO 8 (.pick (.t 5) (.t 7) (.c (.bool false))),
 oM 2 8])
 .ret))

/-- boxhedge/boxhedgeref02.Word -/
def F36 : IFn where
  ntmps := 23
  nargs := 1
  res := [.tmp 2]
  freeze := false
  body :=
 (.seq
 (.region [
 oC 2 (.bool false)])
 (.seq
 (.seq
 (.region [
 oM 3 0])
 (.block 0
 (.seq
 (.seq
 (.region [
 oB 5 .eql (.t 3) (.c (.str [105, 110, 116])),
 oM 4 5])
 (.cond (.t 4)
 .skip
 (.seq
 (.region [
 oB 6 .eql (.t 3) (.c (.str [98, 111, 111, 108])),
 oM 4 6])
 (.cond (.t 4)
 .skip
 (.seq
 (.region [
 oB 7 .eql (.t 3) (.c (.str [105, 102])),
 oM 4 7])
 (.cond (.t 4)
 .skip
 (.seq
 (.region [
 oB 8 .eql (.t 3) (.c (.str [101, 108, 115, 101])),
 oM 4 8])
 (.cond (.t 4)
 .skip
 (.seq
 (.region [
 oB 9 .eql (.t 3) (.c (.str [119, 104, 105, 108, 101])),
 oM 4 9])
 (.cond (.t 4)
 .skip
 (.seq
 (.region [
 oB 10 .eql (.t 3) (.c (.str [98, 114, 101, 97, 107])),
 oM 4 10])
 (.cond (.t 4)
 .skip
 (.seq
 (.region [
 oB 11 .eql (.t 3) (.c (.str [99, 111, 110, 116, 105, 110, 117, 101])),
 oM 4 11])
 (.cond (.t 4)
 .skip
 (.seq
 (.region [
 oB 12 .eql (.t 3) (.c (.str [114, 101, 116, 117, 114, 110])),
 oM 4 12])
 (.cond (.t 4)
 .skip
 (.seq
 (.region [
 oB 13 .eql (.t 3) (.c (.str [112, 114, 105, 110, 116])),
 oM 4 13])
 (.cond (.t 4)
 .skip
 (.seq
 (.region [
 oB 14 .eql (.t 3) (.c (.str [114, 101, 97, 100])),
 oM 4 14])
 (.cond (.t 4)
 .skip
 (.seq
 (.region [
 oB 15 .eql (.t 3) (.c (.str [116, 114, 117, 101])),
 oM 4 15])
 (.cond (.t 4)
 .skip
 (.seq
 (.region [
 oB 16 .eql (.t 3) (.c (.str [102, 97, 108, 115, 101])),
 oM 4 16])
 (.cond (.t 4)
 .skip
 (.seq
 (.region [
 oB 17 .eql (.t 3) (.c (.str [105, 56])),
 oM 4 17])
 (.cond (.t 4)
 .skip
 (.seq
 (.region [
 oB 18 .eql (.t 3) (.c (.str [105, 49, 54])),
 oM 4 18])
 (.cond (.t 4)
 .skip
 (.seq
 (.region [
 oB 19 .eql (.t 3) (.c (.str [105, 51, 50])),
 oM 4 19])
 (.cond (.t 4)
 .skip
 (.seq
 (.region [
 oB 20 .eql (.t 3) (.c (.str [117, 56])),
 oM 4 20])
 (.cond (.t 4)
 .skip
 (.seq
 (.region [
 oB 21 .eql (.t 3) (.c (.str [117, 49, 54])),
 oM 4 21])
 (.cond (.t 4)
 .skip
 (.region [
 oB 22 .eql (.t 3) (.c (.str [117, 51, 50])),
 oM 4 22])))))))))))))))))))))))))))))))))))
 (.cond (.t 4)
 (.seq
 (.region [
 oC 2 (.bool true)])
 .ret)
 .skip))))
 (.seq
 (.region [
 oC 2 (.bool false)])
 .ret)))

def L37_0 : ICode := .loop [0, 3] []
 (.seq
 (.seq
 (.region [
 oM 21 3,
 oM 22 0,
 oO 23 (.len 0 (.t 22)),
 oB 24 .lss (.t 21) (.t 23)])
 (.cond (.t 24)
 .skip
 (.exit 0)))
 (.seq
 (.block 1
 (.seq
 (.region [
 oM 27 0,
 oM 28 3,
 oO 29 (.idxS (.t 27) (.t 28)),
 oO 30 (.callP false (.c (.fn 34 [] [])) [(.t 29)]),
 oO 31 (.un .not (.t 30)),
 oM 32 31,
 oT 32 33 (.mv (.t 0)),
 oT 32 34 (.mv (.t 3)),
 oT 32 35 (.idxS (.t 33) (.t 34)),
 oT 32 36 (.callP false (.c (.fn 35 [] [])) [(.t 35)]),
 oT 32 37 (.un .not (.t 36)),
 oO 38 (.pick (.t 32) (.t 37) (.c (.bool false)))])
 (.cond (.t 38)
 (.seq
 (.region [
 oC 2 (.bool false)])
 .ret)
 .skip)))
 (.region [
 oM 25 3,
 oB 26 .add (.t 25) (cI 1),
 oM 3 26])))
abbrev K37_0 : List Nat := [0]
abbrev B37_0 : List Nat := []
/-- boxhedge/boxhedgeref02.Name -/
def F37 : IFn where
  ntmps := 39
  nargs := 1
  res := [.tmp 2]
  freeze := false
  body :=
 (.seq
 (.region [
 oC 2 (.bool false)])
 (.seq
 (.seq
 (.region [
 oM 4 0,
 oB 5 .eql (.t 4) (.c (.str [])),
 oM 6 5,
 oF 6 7 (.mv (.t 0)),
 oF 6 8 (.len 0 (.t 7)),
 oF 6 9 (.bin 0 [] .gtr (.t 8) (cI 20)),
 oO 10 (.pick (.t 6) (.c (.bool true)) (.t 9)),
 oM 11 10,
 oF 11 12 (.mv (.t 0)),
 oF 11 13 (.idxS (.t 12) (cI 0)),
 oF 11 14 (.callP false (.c (.fn 34 [] [])) [(.t 13)]),
 oF 11 15 (.un .not (.t 14)),
 oO 16 (.pick (.t 11) (.c (.bool true)) (.t 15)),
 oM 17 16,
 oF 17 18 (.mv (.t 0)),
 oF 17 19 (.callP false (.c (.fn 36 [] [])) [(.t 18)]),
 oO 20 (.pick (.t 17) (.c (.bool true)) (.t 19))])
 (.cond (.t 20)
 (.seq
 (.region [
 oC 2 (.bool false)])
 .ret)
 .skip))
 (.seq
 (.seq
 (.region [
 oO 3 (.mv (cI 0))])
 (.block 0
 L37_0))
 (.seq
 (.region [
 oC 2 (.bool true)])
 .ret))))

def L44_0 : ICode := .loop [0, 3, 4] []
 (.seq
 (.seq
 (.region [
 oM 6 4,
 oM 7 0,
 oO 8 (.len 0 (.t 7)),
 oB 9 .lss (.t 6) (.t 8)])
 (.cond (.t 9)
 .skip
 (.exit 0)))
 (.seq
 (.block 1
 (.seq
 (.region [
 oM 12 0,
 oM 13 4,
 oO 14 (.idxS (.t 12) (.t 13)),
 oO 15 (.conv .i64 (.t 14)),
 oB 16 .sub (.t 15) (cI 48),
 oM 5 16])
 (.seq
 (.seq
 (.region [
 oM 17 3,
 oM 18 5,
 oB 19 .sub (cI 9223372036854775807) (.t 18),
 oB 20 .quo (.t 19) (cI 10),
 oB 21 .gtr (.t 17) (.t 20)])
 (.cond (.t 21)
 (.seq
 (.region [
 oO 2 (.mv (cI (-1)))])
 .ret)
 .skip))
 (.region [
 oM 22 3,
 oB 23 .mul (.t 22) (cI 10),
 oM 24 5,
 oB 25 .add (.t 23) (.t 24),
 oM 3 25]))))
 (.region [
 oM 10 4,
 oB 11 .add (.t 10) (cI 1),
 oM 4 11])))
abbrev K44_0 : List Nat := [0]
abbrev B44_0 : List Nat := []
/-- boxhedge/boxhedgeref02.Value -/
def F44 : IFn where
  ntmps := 39
  nargs := 1
  res := [.tmp 2]
  freeze := false
  body :=
 (.seq
 (.region [
 oO 2 (.mv (cI 0))])
 (.seq
 (.region [
 oO 3 (.mv (cI 0))])
 (.seq
 (.seq
 (.region [
 oO 4 (.mv (cI 0))])
 (.block 0
 L44_0))
 (.seq
 (.seq
 (.region [
 oM 26 0,
 oB 27 .eql (.t 26) (.c (.str [])),
 oM 28 27,
 oF 28 29 (.mv (.t 0)),
 oF 28 30 (.len 0 (.t 29)),
 oF 28 31 (.bin 0 [] .gtr (.t 30) (cI 1)),
 oF 28 32 (.mv (.t 31)),
 oT 32 33 (.mv (.t 0)),
 oT 32 34 (.idxS (.t 33) (cI 0)),
 oT 32 35 (.bin 0 [] .eql (.t 34) (.c (.int .u8 48))),
 oF 28 36 (.pick (.t 32) (.t 35) (.c (.bool false))),
 oO 37 (.pick (.t 28) (.c (.bool true)) (.t 36))])
 (.cond (.t 37)
 (.seq
 (.region [
 oO 2 (.mv (cI (-1)))])
 .ret)
 .skip))
 (.seq
 (.region [
 oM 38 3,
 oM 2 38])
 .ret)))))

def L38_0 : ICode := .loop [0, 3] []
 (.seq
 (.seq
 (.region [
 oM 4 3,
 oM 5 0,
 oO 6 (.len 0 (.t 5)),
 oB 7 .lss (.t 4) (.t 6)])
 (.cond (.t 7)
 .skip
 (.exit 0)))
 (.seq
 (.block 1
 (.seq
 (.region [
 oM 10 0,
 oM 11 3,
 oO 12 (.idxS (.t 10) (.t 11)),
 oO 13 (.callP false (.c (.fn 35 [] [])) [(.t 12)]),
 oO 14 (.un .not (.t 13))])
 (.cond (.t 14)
 (.seq
 (.region [
 oC 2 (.bool false)])
 .ret)
 .skip)))
 (.region [
 oM 8 3,
 oB 9 .add (.t 8) (cI 1),
 oM 3 9])))
abbrev K38_0 : List Nat := [0]
abbrev B38_0 : List Nat := []
/-- boxhedge/boxhedgeref02.number -/
def F38 : IFn where
  ntmps := 18
  nargs := 1
  res := [.tmp 2]
  freeze := false
  body :=
 (.seq
 (.region [
 oC 2 (.bool false)])
 (.seq
 (.seq
 (.region [
 oO 3 (.mv (cI 0))])
 (.block 0
 L38_0))
 (.seq
 (.region [
 oM 15 0,
 oO 16 (.callP false (.c (.fn 44 [] [])) [(.t 15)]),
 oB 17 .geq (.t 16) (cI 0),
 oM 2 17])
 .ret)))

def L39_0 : ICode := .loop [0, 3, 4] []
 (.seq
 (.seq
 (.region [
 oM 6 4,
 oM 7 3,
 oO 8 (.len 1 (.t 7)),
 oB 9 .lss (.t 6) (.t 8)])
 (.cond (.t 9)
 .skip
 (.exit 0)))
 (.seq
 (.block 1
 (.seq
 (.region [
 oM 12 3,
 oM 13 4,
 oO 14 (.iaddr 1 (.t 12) (.t 13)),
 oO 15 (.load .imm false 1 (.t 14)),
 oO 16 (.len 0 (.t 15)),
 oM 17 0,
 oO 18 (.len 0 (.t 17)),
 oB 19 .leq (.t 16) (.t 18),
 oM 20 19,
 oT 20 21 (.mv (.t 0)),
 oT 20 22 (.mv (.t 3)),
 oT 20 23 (.mv (.t 4)),
 oT 20 24 (.iaddr 1 (.t 22) (.t 23)),
 oT 20 25 (.load .imm false 1 (.t 24)),
 oT 20 26 (.len 0 (.t 25)),
 oT 20 27 (.slc true 0 (.t 21) none (some (.t 26)) none),
 oT 20 28 (.mv (.t 3)),
 oT 20 29 (.mv (.t 4)),
 oT 20 30 (.iaddr 1 (.t 28) (.t 29)),
 oT 20 31 (.load .imm false 1 (.t 30)),
 oT 20 32 (.bin 0 [] .eql (.t 27) (.t 31)),
 oO 33 (.pick (.t 20) (.t 32) (.c (.bool false)))])
 (.cond (.t 33)
 (.seq
 (.region [
 oO 34 (.take 3),
 oM 35 4,
 oO 36 (.iaddr 1 (.t 34) (.t 35)),
 oG 37 36,
 oM 2 37])
 .ret)
 .skip)))
 (.region [
 oM 10 4,
 oB 11 .add (.t 10) (cI 1),
 oM 4 11])))
abbrev K39_0 : List Nat := [0, 3]
abbrev B39_0 : List Nat := []
/-- boxhedge/boxhedgeref02.sign -/
def F39 : IFn where
  ntmps := 38
  nargs := 1
  res := [.tmp 2]
  freeze := false
  body :=
 (.seq
 (.region [
 oC 2 (.str [])])
 (.seq
 (.region [
 oO 5 (.bslice 1 (.str []) 30 [(0, (.c (.str [62, 62, 62]))), (1, (.c (.str [60, 60]))), (2, (.c (.str [62, 62]))), (3, (.c (.str [60, 61]))), (4, (.c (.str [62, 61]))), (5, (.c (.str [61, 61]))), (6, (.c (.str [33, 61]))), (7, (.c (.str [38, 38]))), (8, (.c (.str [124, 124]))), (9, (.c (.str [40]))), (10, (.c (.str [41]))), (11, (.c (.str [123]))), (12, (.c (.str [125]))), (13, (.c (.str [91]))), (14, (.c (.str [93]))), (15, (.c (.str [44]))), (16, (.c (.str [59]))), (17, (.c (.str [61]))), (18, (.c (.str [60]))), (19, (.c (.str [62]))), (20, (.c (.str [43]))), (21, (.c (.str [45]))), (22, (.c (.str [42]))), (23, (.c (.str [47]))), (24, (.c (.str [37]))), (25, (.c (.str [38]))), (26, (.c (.str [124]))), (27, (.c (.str [94]))), (28, (.c (.str [126]))), (29, (.c (.str [33])))]),
 oO 3 (.take 5)])
 (.seq
 (.seq
 (.region [
 oO 4 (.mv (cI 0))])
 (.block 0
 L39_0))
 (.seq
 (.region [
 oC 2 (.str [])])
 .ret))))

def L14_0 : ICode := .loop [0, 5, 6, 7, 8, 9] []
 (.seq
 (.seq
 (.region [
 oM 19 7,
 oM 20 9,
 oB 21 .add (.t 19) (.t 20),
 oM 22 0,
 oO 23 (.len 0 (.t 22)),
 oB 24 .lss (.t 21) (.t 23),
 oM 25 24,
 oT 25 26 (.mv (.t 0)),
 oT 25 27 (.mv (.t 7)),
 oT 25 28 (.mv (.t 9)),
 oT 25 29 (.bin 0 [] .add (.t 27) (.t 28)),
 oT 25 30 (.idxS (.t 26) (.t 29)),
 oT 25 31 (.callP false (.c (.fn 34 [] [])) [(.t 30)]),
 oT 25 32 (.mv (.t 31)),
 oF 32 33 (.mv (.t 0)),
 oF 32 34 (.mv (.t 7)),
 oF 32 35 (.mv (.t 9)),
 oF 32 36 (.bin 0 [] .add (.t 34) (.t 35)),
 oF 32 37 (.idxS (.t 33) (.t 36)),
 oF 32 38 (.callP false (.c (.fn 35 [] [])) [(.t 37)]),
 oT 25 39 (.pick (.t 32) (.c (.bool true)) (.t 38)),
 oO 40 (.pick (.t 25) (.t 39) (.c (.bool false)))])
 (.cond (.t 40)
 .skip
 (.exit 2)))
 (.block 3
 (.region [
 oM 41 9,
 oB 42 .add (.t 41) (cI 1),
 oM 9 42])))
def L14_1 : ICode := .loop [0, 5, 6, 7] []
 (.seq
 (.seq
 (.region [
 oM 100 7,
 oM 101 0,
 oO 102 (.len 0 (.t 101)),
 oB 103 .lss (.t 100) (.t 102),
 oM 104 103,
 oT 104 105 (.mv (.t 0)),
 oT 104 106 (.mv (.t 7)),
 oT 104 107 (.idxS (.t 105) (.t 106)),
 oT 104 108 (.bin 0 [] .neq (.t 107) (.c (.int .u8 10))),
 oO 109 (.pick (.t 104) (.t 108) (.c (.bool false)))])
 (.cond (.t 109)
 .skip
 (.exit 5)))
 (.block 6
 (.region [
 oM 110 7,
 oB 111 .add (.t 110) (cI 1),
 oM 7 111])))
def L14_2 : ICode := .loop [0, 5, 6, 7] [8]
 (.seq
 (.seq
 (.region [
 oM 13 7,
 oM 14 0,
 oO 15 (.len 0 (.t 14)),
 oB 16 .lss (.t 13) (.t 15)])
 (.cond (.t 16)
 .skip
 (.exit 0)))
 (.block 1
 (.seq
 (.region [
 oM 17 6,
 oO 18 (.build [.int .i64 0, .str [], .int .i64 0] [(2, 1, (.t 17))]),
 oO 8 (.boxL 8 (.c (.agg [.int .i64 0, .str [], .int .i64 0]))),
 oS 8 3 8 18])
 (.seq
 (.region [
 oO 9 (.mv (cI 0))])
 (.seq
 (.block 2
 L14_0)
 (.seq
 (.block 4
 (.seq
 (.region [
 oM 54 0,
 oM 55 7,
 oO 56 (.idxS (.t 54) (.t 55)),
 oB 57 .eql (.t 56) (.c (.int .u8 10)),
 oM 53 57])
 (.cond (.t 53)
 (.seq
 (.region [
 oM 58 6,
 oB 59 .add (.t 58) (cI 1),
 oM 6 59])
 (.seq
 (.region [
 oM 60 7,
 oB 61 .add (.t 60) (cI 1),
 oM 7 61])
 (.exit 1)))
 (.seq
 (.region [
 oM 63 0,
 oM 64 7,
 oO 65 (.idxS (.t 63) (.t 64)),
 oB 66 .eql (.t 65) (.c (.int .u8 32)),
 oM 67 66,
 oF 67 68 (.mv (.t 0)),
 oF 67 69 (.mv (.t 7)),
 oF 67 70 (.idxS (.t 68) (.t 69)),
 oF 67 71 (.bin 0 [] .eql (.t 70) (.c (.int .u8 9))),
 oO 72 (.pick (.t 67) (.c (.bool true)) (.t 71)),
 oM 73 72,
 oF 73 74 (.mv (.t 0)),
 oF 73 75 (.mv (.t 7)),
 oF 73 76 (.idxS (.t 74) (.t 75)),
 oF 73 77 (.bin 0 [] .eql (.t 76) (.c (.int .u8 13))),
 oO 78 (.pick (.t 73) (.c (.bool true)) (.t 77)),
 oM 62 78])
 (.cond (.t 62)
 (.seq
 (.region [
 oM 79 7,
 oB 80 .add (.t 79) (cI 1),
 oM 7 80])
 (.exit 1))
 (.seq
 (.region [
 oM 82 0,
 oM 83 7,
 oO 84 (.idxS (.t 82) (.t 83)),
 oB 85 .eql (.t 84) (.c (.int .u8 47)),
 oM 86 85,
 oT 86 87 (.mv (.t 7)),
 oT 86 88 (.bin 0 [] .add (.t 87) (cI 1)),
 oT 86 89 (.mv (.t 0)),
 oT 86 90 (.len 0 (.t 89)),
 oT 86 91 (.bin 0 [] .lss (.t 88) (.t 90)),
 oO 92 (.pick (.t 86) (.t 91) (.c (.bool false))),
 oM 93 92,
 oT 93 94 (.mv (.t 0)),
 oT 93 95 (.mv (.t 7)),
 oT 93 96 (.bin 0 [] .add (.t 95) (cI 1)),
 oT 93 97 (.idxS (.t 94) (.t 96)),
 oT 93 98 (.bin 0 [] .eql (.t 97) (.c (.int .u8 47))),
 oO 99 (.pick (.t 93) (.t 98) (.c (.bool false))),
 oM 81 99])
 (.cond (.t 81)
 (.seq
 (.block 5
 L14_1)
 (.exit 1))
 (.seq
 (.region [
 oM 113 9,
 oB 114 .gtr (.t 113) (cI 0),
 oM 112 114])
 (.cond (.t 112)
 (.seq
 (.region [
 oM 115 0,
 oM 116 7,
 oM 117 7,
 oM 118 9,
 oB 119 .add (.t 117) (.t 118),
 oO 120 (.slc true 0 (.t 115) (some (.t 116)) (some (.t 119)) none),
 oA 121 1 8,
 oS 8 1 121 120])
 (.seq
 (.region [
 oA 122 0 8,
 oN (.store (.box 8) 1 (.t 122) (cI 0))])
 (.seq
 (.seq
 (.region [
 oM 123 0,
 oM 124 7,
 oO 125 (.idxS (.t 123) (.t 124)),
 oO 126 (.callP false (.c (.fn 34 [] [])) [(.t 125)])])
 (.cond (.t 126)
 (.region [
 oA 127 0 8,
 oN (.store (.box 8) 1 (.t 127) (cI 1))])
 .skip))
 (.seq
 (.seq
 (.region [
 oA 128 1 8,
 oL 129 8 128,
 oO 130 (.callP false (.c (.fn 36 [] [])) [(.t 129)])])
 (.cond (.t 130)
 (.region [
 oA 131 0 8,
 oN (.store (.box 8) 1 (.t 131) (cI 2))])
 .skip))
 (.seq
 (.region [
 oA 132 0 8,
 oL 133 8 132,
 oB 134 .eql (.t 133) (cI 1),
 oM 135 134,
 oT 135 136 (.faddr 1 (.t 8)),
 oT 135 137 (.load (.box 8) false 1 (.t 136)),
 oT 135 138 (.callP false (.c (.fn 37 [] [])) [(.t 137)]),
 oT 135 139 (.un .not (.t 138)),
 oO 140 (.pick (.t 135) (.t 139) (.c (.bool false))),
 oM 141 140,
 oF 141 142 (.faddr 0 (.t 8)),
 oF 141 143 (.load (.box 8) false 1 (.t 142)),
 oF 141 144 (.bin 0 [] .eql (.t 143) (cI 0)),
 oF 141 145 (.mv (.t 144)),
 oT 145 146 (.faddr 1 (.t 8)),
 oT 145 147 (.load (.box 8) false 1 (.t 146)),
 oT 145 148 (.callP false (.c (.fn 38 [] [])) [(.t 147)]),
 oT 145 149 (.un .not (.t 148)),
 oF 141 150 (.pick (.t 145) (.t 149) (.c (.bool false))),
 oO 151 (.pick (.t 141) (.c (.bool true)) (.t 150))])
 (.cond (.t 151)
 (.seq
 (.region [
 oM 152 6,
 oC 2 (.slice .fit 3 []),
 oO 3 (.mv (cI 20)),
 oM 4 152])
 .ret)
 .skip))))))
 (.seq
 (.region [
 oM 43 0,
 oM 44 7,
 oO 45 (.slc true 0 (.t 43) (some (.t 44)) none none),
 oO 46 (.callP false (.c (.fn 39 [] [])) [(.t 45)]),
 oA 47 0 8,
 oN (.store (.box 8) 1 (.t 47) (cI 2)),
 oA 48 1 8,
 oS 8 1 48 46])
 (.seq
 (.region [
 oA 49 1 8,
 oL 50 8 49,
 oB 51 .eql (.t 50) (.c (.str []))])
 (.cond (.t 51)
 (.seq
 (.region [
 oM 52 6,
 oC 2 (.slice .fit 3 []),
 oO 3 (.mv (cI 20)),
 oM 4 52])
 .ret)
 .skip))))))))))))
 (.seq
 (.region [
 oM 153 7,
 oA 154 1 8,
 oL 155 8 154,
 oO 156 (.len 0 (.t 155)),
 oB 157 .add (.t 153) (.t 156),
 oM 7 157])
 (.region [
 oO 158 (.take 5),
 oLa 159 8 3 8,
 oO 160 (.bslice 3 (.agg [.int .i64 0, .str [], .int .i64 0]) 1 [(0, (.t 159))]),
 oO 161 (.append 3 32 (.t 158) (.t 160)),
 oO 5 (.take 161)]))))))))
abbrev K14_0 : List Nat := [0, 5, 6, 7, 8]
abbrev B14_0 : List Nat := [8]
abbrev K14_1 : List Nat := [0, 5, 6]
abbrev B14_1 : List Nat := []
abbrev K14_2 : List Nat := [0]
abbrev B14_2 : List Nat := []
/-- boxhedge/boxhedgeref02.Tokens -/
def F14 : IFn where
  ntmps := 167
  nargs := 1
  res := [.tmp 2, .tmp 3, .tmp 4]
  freeze := false
  body :=
 (.seq
 (.region [
 oC 2 (.slice .fit 3 []),
 oO 3 (.mv (cI 0)),
 oO 4 (.mv (cI 0))])
 (.seq
 (.seq
 (.region [
 oM 10 0,
 oO 11 (.len 0 (.t 10)),
 oB 12 .gtr (.t 11) (cI 100000)])
 (.cond (.t 12)
 (.seq
 (.region [
 oC 2 (.slice .fit 3 []),
 oO 3 (.mv (cI 2)),
 oO 4 (.mv (cI 0))])
 .ret)
 .skip))
 (.seq
 (.region [
 oC 5 (.slice .fit 3 [])])
 (.seq
 (.region [
 oO 6 (.mv (cI 1)),
 oO 7 (.mv (cI 0))])
 (.seq
 (.block 0
 L14_2)
 (.seq
 (.region [
 oO 162 (.take 5),
 oM 163 6,
 oO 164 (.build [.int .i64 0, .str [], .int .i64 0] [(0, 1, (cI 3)), (2, 1, (.t 163))]),
 oO 165 (.bslice 3 (.agg [.int .i64 0, .str [], .int .i64 0]) 1 [(0, (.t 164))]),
 oO 166 (.append 3 32 (.t 162) (.t 165)),
 oO 2 (.take 166),
 oO 3 (.mv (cI 0)),
 oO 4 (.mv (cI 0))])
 .ret))))))

/-- (*boxhedge/boxhedgeref04.parser).over -/
def F40 : IFn where
  ntmps := 13
  nargs := 1
  res := [.tmp 2]
  freeze := false
  body :=
 (.seq
 (.region [
 oC 2 (.bool false)])
 (.seq
 (.region [
 oM 3 0,
 oO 4 (.nilck (.t 3)),
 oA 5 2 4,
 oG 6 5,
 oM 7 6,
 oF 7 8 (.mv (.t 0)),
 oF 7 9 (.nilck (.t 8)),
 oF 7 10 (.faddr 3 (.t 9)),
 oF 7 11 (.load .any false 1 (.t 10)),
 oO 12 (.pick (.t 7) (.c (.bool true)) (.t 11)),
 oM 2 12])
 .ret))

/-- (*boxhedge/boxhedgeref04.parser).is -/
def F68 : IFn where
  ntmps := 37
  nargs := 2
  res := [.tmp 4]
  freeze := false
  body :=
 (.seq
 (.region [
 oC 4 (.bool false)])
 (.seq
 (.region [
 oM 5 0,
 oO 6 (.call false (.c (.fn 40 [] [])) [(.t 5)]),
 oO 7 (.un .not (.t 6)),
 oM 8 7,
 oT 8 9 (.mv (.t 0)),
 oT 8 10 (.nilck (.t 9)),
 oT 8 11 (.faddr 0 (.t 10)),
 oT 8 12 (.load .any false 1 (.t 11)),
 oT 8 13 (.mv (.t 0)),
 oT 8 14 (.nilck (.t 13)),
 oT 8 15 (.faddr 1 (.t 14)),
 oT 8 16 (.load .any false 1 (.t 15)),
 oT 8 17 (.iaddr 3 (.t 12) (.t 16)),
 oT 8 18 (.faddr 0 (.t 17)),
 oT 8 19 (.load .imm false 1 (.t 18)),
 oT 8 20 (.bin 0 [] .eql (.t 19) (cI 2)),
 oO 21 (.pick (.t 8) (.t 20) (.c (.bool false))),
 oM 22 21,
 oT 22 23 (.mv (.t 0)),
 oT 22 24 (.nilck (.t 23)),
 oT 22 25 (.faddr 0 (.t 24)),
 oT 22 26 (.load .any false 1 (.t 25)),
 oT 22 27 (.mv (.t 0)),
 oT 22 28 (.nilck (.t 27)),
 oT 22 29 (.faddr 1 (.t 28)),
 oT 22 30 (.load .any false 1 (.t 29)),
 oT 22 31 (.iaddr 3 (.t 26) (.t 30)),
 oT 22 32 (.faddr 1 (.t 31)),
 oT 22 33 (.load .imm false 1 (.t 32)),
 oT 22 34 (.mv (.t 1)),
 oT 22 35 (.bin 0 [] .eql (.t 33) (.t 34)),
 oO 36 (.pick (.t 22) (.t 35) (.c (.bool false))),
 oM 4 36])
 .ret))

/-- (*boxhedge/boxhedgeref04.parser).take -/
def F43 : IFn where
  ntmps := 18
  nargs := 2
  res := [.tmp 4]
  freeze := false
  body :=
 (.seq
 (.region [
 oC 4 (.bool false)])
 (.seq
 (.region [
 oM 6 0,
 oM 7 1,
 oO 8 (.call false (.c (.fn 68 [] [])) [(.t 6), (.t 7)]),
 oM 5 8])
 (.seq
 (.seq
 (.region [
 oM 9 5])
 (.cond (.t 9)
 (.region [
 oM 10 0,
 oO 11 (.nilck (.t 10)),
 oA 12 1 11,
 oG 13 12,
 oB 14 .add (.t 13) (cI 1),
 oO 15 (.nilck (.t 10)),
 oA 16 1 15,
 oN (.store .any 1 (.t 16) (.t 14))])
 .skip))
 (.seq
 (.region [
 oM 17 5,
 oM 4 17])
 .ret))))

/-- (*boxhedge/boxhedgeref04.parser).must -/
def F45 : IFn where
  ntmps := 18
  nargs := 2
  res := []
  freeze := false
  body :=
 (.seq
 (.region [
 oM 4 0,
 oM 5 1,
 oO 6 (.call false (.c (.fn 43 [] [])) [(.t 4), (.t 5)]),
 oO 7 (.un .not (.t 6)),
 oM 8 7,
 oT 8 9 (.mv (.t 0)),
 oT 8 10 (.nilck (.t 9)),
 oT 8 11 (.faddr 3 (.t 10)),
 oT 8 12 (.load .any false 1 (.t 11)),
 oT 8 13 (.un .not (.t 12)),
 oO 14 (.pick (.t 8) (.t 13) (.c (.bool false)))])
 (.cond (.t 14)
 (.region [
 oM 15 0,
 oO 16 (.nilck (.t 15)),
 oA 17 2 16,
 oN (.store .any 1 (.t 17) (.c (.bool true)))])
 .skip))

/-- (*boxhedge/boxhedgeref04.parser).typed -/
def F41 : IFn where
  ntmps := 7
  nargs := 1
  res := [.tmp 2]
  freeze := false
  body :=
 (.seq
 (.region [
 oO 2 (.mv (cI 0))])
 (.seq
 (.seq
 (.region [
 oM 3 0,
 oO 4 (.call false (.c (.fn 43 [] [])) [(.t 3), (.c (.str [105, 110, 116]))])])
 (.cond (.t 4)
 (.seq
 (.region [
 oO 2 (.mv (cI 1))])
 .ret)
 .skip))
 (.seq
 (.region [
 oM 5 0,
 oO 6 (.call false (.c (.fn 45 [] [])) [(.t 5), (.c (.str [98, 111, 111, 108]))])])
 (.seq
 (.region [
 oO 2 (.mv (cI 2))])
 .ret))))

/-- (*boxhedge/boxhedgeref04.parser).text -/
def F42 : IFn where
  ntmps := 34
  nargs := 2
  res := [.tmp 4]
  freeze := false
  body :=
 (.seq
 (.region [
 oC 4 (.str [])])
 (.seq
 (.seq
 (.region [
 oM 6 0,
 oO 7 (.call false (.c (.fn 40 [] [])) [(.t 6)])])
 (.cond (.t 7)
 (.seq
 (.region [
 oC 4 (.str [])])
 .ret)
 .skip))
 (.seq
 (.region [
 oM 8 0,
 oO 9 (.nilck (.t 8)),
 oA 10 0 9,
 oG 11 10,
 oM 12 0,
 oO 13 (.nilck (.t 12)),
 oA 14 1 13,
 oG 15 14,
 oO 16 (.iaddr 3 (.t 11) (.t 15)),
 oO 17 (.load .imm true 3 (.t 16)),
 oO 5 (.boxL 5 (.c (.agg [.int .i64 0, .str [], .int .i64 0]))),
 oS 5 3 5 17])
 (.seq
 (.seq
 (.region [
 oA 18 0 5,
 oL 19 5 18,
 oM 20 1,
 oB 21 .neq (.t 19) (.t 20)])
 (.cond (.t 21)
 (.seq
 (.region [
 oM 22 0,
 oO 23 (.nilck (.t 22)),
 oA 24 2 23,
 oN (.store .any 1 (.t 24) (.c (.bool true)))])
 (.seq
 (.region [
 oC 4 (.str [])])
 .ret))
 .skip))
 (.seq
 (.region [
 oM 25 0,
 oO 26 (.nilck (.t 25)),
 oA 27 1 26,
 oG 28 27,
 oB 29 .add (.t 28) (cI 1),
 oO 30 (.nilck (.t 25)),
 oA 31 1 30,
 oN (.store .any 1 (.t 31) (.t 29))])
 (.seq
 (.region [
 oA 32 1 5,
 oL 33 5 32,
 oM 4 33])
 .ret))))))

/-- boxhedge/boxhedgeref01.signs -/
def F114 : IFn where
  ntmps := 2
  nargs := 0
  res := [.tmp 0]
  freeze := false
  body :=
 (.seq
 (.region [
 oC 0 (.slice .fit 1 [])])
 (.seq
 (.region [
 oO 1 (.bslice 1 (.str []) 28 [(0, (.c (.str [43]))), (1, (.c (.str [45]))), (2, (.c (.str [42]))), (3, (.c (.str [47]))), (4, (.c (.str [37]))), (5, (.c (.str [38]))), (6, (.c (.str [124]))), (7, (.c (.str [94]))), (8, (.c (.str [60, 60]))), (9, (.c (.str [62, 62]))), (10, (.c (.str [62, 62, 62]))), (11, (.c (.str [60]))), (12, (.c (.str [60, 61]))), (13, (.c (.str [62]))), (14, (.c (.str [62, 61]))), (15, (.c (.str [61, 61]))), (16, (.c (.str [33, 61]))), (17, (.c (.str [38, 38]))), (18, (.c (.str [124, 124]))), (19, (.c (.str [45]))), (20, (.c (.str [126]))), (21, (.c (.str [33]))), (22, (.c (.str [105, 56]))), (23, (.c (.str [105, 49, 54]))), (24, (.c (.str [105, 51, 50]))), (25, (.c (.str [117, 56]))), (26, (.c (.str [117, 49, 54]))), (27, (.c (.str [117, 51, 50])))]),
 oO 0 (.take 1)])
 .ret))

/-- boxhedge/boxhedgeref01.Sign -/
def F110 : IFn where
  ntmps := 14
  nargs := 1
  res := [.tmp 2]
  freeze := false
  body :=
 (.seq
 (.region [
 oC 2 (.str [])])
 (.seq
 (.seq
 (.region [
 oM 3 0,
 oB 4 .lss (.t 3) (cI 1),
 oM 5 4,
 oF 5 6 (.mv (.t 0)),
 oF 5 7 (.bin 0 [] .gtr (.t 6) (cI 28)),
 oO 8 (.pick (.t 5) (.c (.bool true)) (.t 7))])
 (.cond (.t 8)
 (.seq
 (.region [
 oC 2 (.str [])])
 .ret)
 .skip))
 (.seq
 (.region [
 oO 9 (.callP false (.c (.fn 114 [] [])) []),
 oM 10 0,
 oB 11 .sub (.t 10) (cI 1),
 oO 12 (.iaddr 1 (.t 9) (.t 11)),
 oG 13 12,
 oM 2 13])
 .ret)))

def L106_0 : ICode := .loop [0, 1, 5, 6] []
 (.seq
 (.seq
 (.region [
 oM 9 6,
 oM 10 9,
 oF 10 11 (.mv (.t 0)),
 oF 10 12 (.call false (.c (.fn 43 [] [])) [(.t 11), (.c (.str [44]))]),
 oO 13 (.pick (.t 10) (.c (.bool true)) (.t 12)),
 oM 14 13,
 oT 14 15 (.mv (.t 0)),
 oT 14 16 (.call false (.c (.fn 40 [] [])) [(.t 15)]),
 oT 14 17 (.un .not (.t 16)),
 oO 18 (.pick (.t 14) (.t 17) (.c (.bool false)))])
 (.cond (.t 18)
 .skip
 (.exit 0)))
 (.seq
 (.block 1
 (.region [
 oO 19 (.take 5),
 oM 20 0,
 oM 21 1,
 oO 22 (.call false (.c (.fn 97 [] [])) [(.t 20), (cI 1), (.t 21)]),
 oO 23 (.bslice 5 (.agg [.int .i64 0, .int .i64 0, .int .i64 0, .str [], .slice .fit 5 []]) 1 [(0, (.t 22))]),
 oO 24 (.append 5 64 (.t 19) (.t 23)),
 oO 5 (.take 24)]))
 (.region [
 oC 6 (.bool false)])))
abbrev K106_0 : List Nat := [0, 1]
abbrev B106_0 : List Nat := []
/-- (*boxhedge/boxhedgeref04.parser).args -/
def F106 : IFn where
  ntmps := 28
  nargs := 2
  res := [.tmp 4]
  freeze := false
  body :=
 (.seq
 (.region [
 oC 4 (.slice .fit 5 [])])
 (.seq
 (.region [
 oC 5 (.slice .fit 5 [])])
 (.seq
 (.seq
 (.region [
 oM 7 0,
 oO 8 (.call false (.c (.fn 43 [] [])) [(.t 7), (.c (.str [41]))])])
 (.cond (.t 8)
 (.seq
 (.region [
 oC 4 (.slice .fit 5 [])])
 .ret)
 .skip))
 (.seq
 (.seq
 (.region [
 oC 6 (.bool true)])
 (.block 0
 L106_0))
 (.seq
 (.region [
 oM 25 0,
 oO 26 (.call false (.c (.fn 45 [] [])) [(.t 25), (.c (.str [41]))])])
 (.seq
 (.region [
 oO 27 (.take 5),
 oO 4 (.take 27)])
 .ret))))))

/-- (*boxhedge/boxhedgeref04.parser).primary -/
def F111 : IFn where
  ntmps := 79
  nargs := 2
  res := [.cell 4 true 5]
  freeze := false
  body :=
 (.seq
 (.region [
 oO 4 (.boxL 4 (.c (.agg [.int .i64 0, .int .i64 0, .int .i64 0, .str [], .slice .fit 5 []])))])
 (.seq
 (.block 0
 (.seq
 (.region [
 oM 9 0,
 oO 10 (.call false (.c (.fn 40 [] [])) [(.t 9)]),
 oM 8 10])
 (.cond (.t 8)
 (.seq
 (.region [
 oO 11 (.build [.int .i64 0, .int .i64 0, .int .i64 0, .str [], .slice .fit 5 []] []),
 oS 4 5 4 11])
 .ret)
 (.seq
 (.region [
 oM 13 0,
 oO 14 (.call false (.c (.fn 43 [] [])) [(.t 13), (.c (.str [40]))]),
 oM 12 14])
 (.cond (.t 12)
 (.seq
 (.region [
 oM 15 0,
 oM 16 1,
 oB 17 .add (.t 16) (cI 1),
 oO 18 (.call false (.c (.fn 97 [] [])) [(.t 15), (cI 1), (.t 17)]),
 oO 5 (.boxL 5 (.c (.agg [.int .i64 0, .int .i64 0, .int .i64 0, .str [], .slice .fit 5 []]))),
 oS 5 5 5 18])
 (.seq
 (.region [
 oM 19 0,
 oO 20 (.call false (.c (.fn 45 [] [])) [(.t 19), (.c (.str [41]))])])
 (.seq
 (.region [
 oLa 21 5 5 5,
 oS 4 5 4 21])
 .ret)))
 (.seq
 (.region [
 oM 23 0,
 oO 24 (.call false (.c (.fn 43 [] [])) [(.t 23), (.c (.str [116, 114, 117, 101]))]),
 oM 22 24])
 (.cond (.t 22)
 (.seq
 (.region [
 oO 25 (.build [.int .i64 0, .int .i64 0, .int .i64 0, .str [], .slice .fit 5 []] [(0, 1, (cI 2)), (2, 1, (cI 1))]),
 oS 4 5 4 25])
 .ret)
 (.seq
 (.region [
 oM 27 0,
 oO 28 (.call false (.c (.fn 43 [] [])) [(.t 27), (.c (.str [102, 97, 108, 115, 101]))]),
 oM 26 28])
 (.cond (.t 26)
 (.seq
 (.region [
 oO 29 (.build [.int .i64 0, .int .i64 0, .int .i64 0, .str [], .slice .fit 5 []] [(0, 1, (cI 2))]),
 oS 4 5 4 29])
 .ret)
 (.seq
 (.region [
 oM 31 0,
 oO 32 (.call false (.c (.fn 43 [] [])) [(.t 31), (.c (.str [114, 101, 97, 100]))]),
 oM 30 32])
 (.cond (.t 30)
 (.seq
 (.region [
 oM 33 0,
 oO 34 (.call false (.c (.fn 45 [] [])) [(.t 33), (.c (.str [40]))])])
 (.seq
 (.region [
 oM 35 0,
 oO 36 (.call false (.c (.fn 45 [] [])) [(.t 35), (.c (.str [41]))])])
 (.seq
 (.region [
 oO 37 (.build [.int .i64 0, .int .i64 0, .int .i64 0, .str [], .slice .fit 5 []] [(0, 1, (cI 8))]),
 oS 4 5 4 37])
 .ret)))
 (.seq
 (.region [
 oM 39 0,
 oO 40 (.nilck (.t 39)),
 oA 41 0 40,
 oG 42 41,
 oM 43 0,
 oO 44 (.nilck (.t 43)),
 oA 45 1 44,
 oG 46 45,
 oO 47 (.iaddr 3 (.t 42) (.t 46)),
 oA 48 0 47,
 oO 49 (.load .imm false 1 (.t 48)),
 oB 50 .eql (.t 49) (cI 0),
 oM 38 50])
 (.cond (.t 38)
 (.seq
 (.region [
 oM 51 0,
 oO 52 (.call false (.c (.fn 42 [] [])) [(.t 51), (cI 0)]),
 oO 53 (.callP false (.c (.fn 44 [] [])) [(.t 52)]),
 oO 54 (.build [.int .i64 0, .int .i64 0, .int .i64 0, .str [], .slice .fit 5 []] [(0, 1, (cI 1)), (2, 1, (.t 53))]),
 oS 4 5 4 54])
 .ret)
 .skip)))))))))))))
 (.seq
 (.region [
 oM 55 0,
 oO 56 (.call false (.c (.fn 42 [] [])) [(.t 55), (cI 1)]),
 oM 6 56])
 (.seq
 (.seq
 (.region [
 oM 57 0,
 oO 58 (.call false (.c (.fn 43 [] [])) [(.t 57), (.c (.str [40]))])])
 (.cond (.t 58)
 (.seq
 (.region [
 oM 59 6,
 oM 60 0,
 oM 61 1,
 oB 62 .add (.t 61) (cI 1),
 oO 63 (.call false (.c (.fn 106 [] [])) [(.t 60), (.t 62)]),
 oO 64 (.build [.int .i64 0, .int .i64 0, .int .i64 0, .str [], .slice .fit 5 []] [(0, 1, (cI 7)), (3, 1, (.t 59)), (4, 1, (.t 63))]),
 oS 4 5 4 64])
 .ret)
 .skip))
 (.seq
 (.seq
 (.region [
 oM 65 0,
 oO 66 (.call false (.c (.fn 43 [] [])) [(.t 65), (.c (.str [91]))])])
 (.cond (.t 66)
 (.seq
 (.region [
 oM 67 0,
 oM 68 1,
 oB 69 .add (.t 68) (cI 1),
 oO 70 (.call false (.c (.fn 97 [] [])) [(.t 67), (cI 1), (.t 69)]),
 oO 7 (.boxL 7 (.c (.agg [.int .i64 0, .int .i64 0, .int .i64 0, .str [], .slice .fit 5 []]))),
 oS 7 5 7 70])
 (.seq
 (.region [
 oM 71 0,
 oO 72 (.call false (.c (.fn 45 [] [])) [(.t 71), (.c (.str [93]))])])
 (.seq
 (.region [
 oM 73 6,
 oLa 74 7 5 7,
 oO 75 (.bslice 5 (.agg [.int .i64 0, .int .i64 0, .int .i64 0, .str [], .slice .fit 5 []]) 1 [(0, (.t 74))]),
 oO 76 (.build [.int .i64 0, .int .i64 0, .int .i64 0, .str [], .slice .fit 5 []] [(0, 1, (cI 6)), (3, 1, (.t 73)), (4, 1, (.t 75))]),
 oS 4 5 4 76])
 .ret)))
 .skip))
 (.seq
 (.region [
 oM 77 6,
 oO 78 (.build [.int .i64 0, .int .i64 0, .int .i64 0, .str [], .slice .fit 5 []] [(0, 1, (cI 3)), (3, 1, (.t 77))]),
 oS 4 5 4 78])
 .ret))))))

def L104_0 : ICode := .loop [0, 1, 4, 5] [7]
 (.seq
 (.seq
 (.region [
 oM 20 5,
 oB 21 .leq (.t 20) (cI 28)])
 (.cond (.t 21)
 .skip
 (.exit 0)))
 (.seq
 (.block 1
 (.seq
 (.region [
 oM 24 5,
 oO 25 (.callP false (.c (.fn 110 [] [])) [(.t 24)]),
 oM 6 25])
 (.seq
 (.seq
 (.region [
 oM 26 0,
 oM 27 6,
 oO 28 (.call false (.c (.fn 43 [] [])) [(.t 26), (.t 27)]),
 oO 29 (.un .not (.t 28))])
 (.cond (.t 29)
 (.exit 1)
 .skip))
 (.seq
 (.seq
 (.region [
 oM 30 5,
 oB 31 .geq (.t 30) (cI 23)])
 (.cond (.t 31)
 (.region [
 oM 32 0,
 oO 33 (.call false (.c (.fn 45 [] [])) [(.t 32), (.c (.str [40]))])])
 .skip))
 (.seq
 (.region [
 oO 7 (.boxL 7 (.c (.agg [.int .i64 0, .int .i64 0, .int .i64 0, .str [], .slice .fit 5 []])))])
 (.seq
 (.seq
 (.region [
 oM 34 5,
 oB 35 .geq (.t 34) (cI 23)])
 (.cond (.t 35)
 (.seq
 (.region [
 oM 36 0,
 oM 37 1,
 oB 38 .add (.t 37) (cI 1),
 oO 39 (.call false (.c (.fn 97 [] [])) [(.t 36), (cI 1), (.t 38)]),
 oS 7 5 7 39])
 (.region [
 oM 40 0,
 oO 41 (.call false (.c (.fn 45 [] [])) [(.t 40), (.c (.str [41]))])]))
 (.region [
 oM 42 0,
 oM 43 1,
 oB 44 .add (.t 43) (cI 1),
 oO 45 (.call false (.c (.fn 104 [] [])) [(.t 42), (.t 44)]),
 oS 7 5 7 45])))
 (.seq
 (.region [
 oM 46 5,
 oLa 47 7 5 7,
 oO 48 (.bslice 5 (.agg [.int .i64 0, .int .i64 0, .int .i64 0, .str [], .slice .fit 5 []]) 1 [(0, (.t 47))]),
 oO 49 (.build [.int .i64 0, .int .i64 0, .int .i64 0, .str [], .slice .fit 5 []] [(0, 1, (cI 4)), (1, 1, (.t 46)), (4, 1, (.t 48))]),
 oS 4 5 4 49])
 .ret)))))))
 (.region [
 oM 22 5,
 oB 23 .add (.t 22) (cI 1),
 oM 5 23])))
abbrev K104_0 : List Nat := [0, 1, 4]
abbrev B104_0 : List Nat := []
/-- (*boxhedge/boxhedgeref04.parser).unary -/
def F104 : IFn where
  ntmps := 53
  nargs := 2
  res := [.cell 4 true 5]
  freeze := false
  body :=
 (.seq
 (.region [
 oO 4 (.boxL 4 (.c (.agg [.int .i64 0, .int .i64 0, .int .i64 0, .str [], .slice .fit 5 []])))])
 (.seq
 (.seq
 (.region [
 oM 8 1,
 oB 9 .gtr (.t 8) (cI 100),
 oM 10 9,
 oT 10 11 (.mv (.t 0)),
 oT 10 12 (.nilck (.t 11)),
 oT 10 13 (.faddr 2 (.t 12)),
 oT 10 14 (.load .any false 1 (.t 13)),
 oT 10 15 (.un .not (.t 14)),
 oO 16 (.pick (.t 10) (.t 15) (.c (.bool false)))])
 (.cond (.t 16)
 (.region [
 oM 17 0,
 oO 18 (.nilck (.t 17)),
 oA 19 3 18,
 oN (.store .any 1 (.t 19) (.c (.bool true)))])
 .skip))
 (.seq
 (.seq
 (.region [
 oO 5 (.mv (cI 20))])
 (.block 0
 L104_0))
 (.seq
 (.region [
 oM 50 0,
 oM 51 1,
 oO 52 (.call false (.c (.fn 111 [] [])) [(.t 50), (.t 51)]),
 oS 4 5 4 52])
 .ret))))

/-- boxhedge/boxhedgeref01.Level -/
def F88 : IFn where
  ntmps := 33
  nargs := 1
  res := [.tmp 2]
  freeze := false
  body :=
 (.seq
 (.region [
 oO 2 (.mv (cI 0))])
 (.seq
 (.seq
 (.region [
 oM 3 0])
 (.block 0
 (.seq
 (.region [
 oB 5 .eql (.t 3) (cI 19),
 oM 4 5])
 (.cond (.t 4)
 (.seq
 (.region [
 oO 2 (.mv (cI 1))])
 .ret)
 (.seq
 (.region [
 oB 7 .eql (.t 3) (cI 18),
 oM 6 7])
 (.cond (.t 6)
 (.seq
 (.region [
 oO 2 (.mv (cI 2))])
 .ret)
 (.seq
 (.region [
 oB 9 .eql (.t 3) (cI 7),
 oM 8 9])
 (.cond (.t 8)
 (.seq
 (.region [
 oO 2 (.mv (cI 3))])
 .ret)
 (.seq
 (.region [
 oB 11 .eql (.t 3) (cI 8),
 oM 10 11])
 (.cond (.t 10)
 (.seq
 (.region [
 oO 2 (.mv (cI 4))])
 .ret)
 (.seq
 (.region [
 oB 13 .eql (.t 3) (cI 6),
 oM 12 13])
 (.cond (.t 12)
 (.seq
 (.region [
 oO 2 (.mv (cI 5))])
 .ret)
 (.seq
 (.seq
 (.region [
 oB 15 .eql (.t 3) (cI 16),
 oM 14 15])
 (.cond (.t 14)
 .skip
 (.region [
 oB 16 .eql (.t 3) (cI 17),
 oM 14 16])))
 (.cond (.t 14)
 (.seq
 (.region [
 oO 2 (.mv (cI 6))])
 .ret)
 (.seq
 (.seq
 (.region [
 oB 18 .eql (.t 3) (cI 12),
 oM 17 18])
 (.cond (.t 17)
 .skip
 (.seq
 (.region [
 oB 19 .eql (.t 3) (cI 13),
 oM 17 19])
 (.cond (.t 17)
 .skip
 (.seq
 (.region [
 oB 20 .eql (.t 3) (cI 14),
 oM 17 20])
 (.cond (.t 17)
 .skip
 (.region [
 oB 21 .eql (.t 3) (cI 15),
 oM 17 21])))))))
 (.cond (.t 17)
 (.seq
 (.region [
 oO 2 (.mv (cI 7))])
 .ret)
 (.seq
 (.seq
 (.region [
 oB 23 .eql (.t 3) (cI 9),
 oM 22 23])
 (.cond (.t 22)
 .skip
 (.seq
 (.region [
 oB 24 .eql (.t 3) (cI 10),
 oM 22 24])
 (.cond (.t 22)
 .skip
 (.region [
 oB 25 .eql (.t 3) (cI 11),
 oM 22 25])))))
 (.cond (.t 22)
 (.seq
 (.region [
 oO 2 (.mv (cI 8))])
 .ret)
 (.seq
 (.seq
 (.region [
 oB 27 .eql (.t 3) (cI 1),
 oM 26 27])
 (.cond (.t 26)
 .skip
 (.region [
 oB 28 .eql (.t 3) (cI 2),
 oM 26 28])))
 (.cond (.t 26)
 (.seq
 (.region [
 oO 2 (.mv (cI 9))])
 .ret)
 (.seq
 (.seq
 (.region [
 oB 30 .eql (.t 3) (cI 3),
 oM 29 30])
 (.cond (.t 29)
 .skip
 (.seq
 (.region [
 oB 31 .eql (.t 3) (cI 4),
 oM 29 31])
 (.cond (.t 29)
 .skip
 (.region [
 oB 32 .eql (.t 3) (cI 5),
 oM 29 32])))))
 (.cond (.t 29)
 (.seq
 (.region [
 oO 2 (.mv (cI 10))])
 .ret)
 .skip))))))))))))))))))))))
 (.seq
 (.region [
 oO 2 (.mv (cI 0))])
 .ret)))

def L105_0 : ICode := .loop [0, 1, 5] []
 (.seq
 (.seq
 (.region [
 oM 6 5,
 oB 7 .leq (.t 6) (cI 19)])
 (.cond (.t 7)
 .skip
 (.exit 0)))
 (.seq
 (.block 1
 (.seq
 (.region [
 oM 10 5,
 oO 11 (.callP false (.c (.fn 88 [] [])) [(.t 10)]),
 oM 12 1,
 oB 13 .eql (.t 11) (.t 12),
 oM 14 13,
 oT 14 15 (.mv (.t 0)),
 oT 14 16 (.mv (.t 5)),
 oT 14 17 (.callP false (.c (.fn 110 [] [])) [(.t 16)]),
 oT 14 18 (.call false (.c (.fn 68 [] [])) [(.t 15), (.t 17)]),
 oO 19 (.pick (.t 14) (.t 18) (.c (.bool false)))])
 (.cond (.t 19)
 (.seq
 (.region [
 oM 20 5,
 oM 4 20])
 .ret)
 .skip)))
 (.region [
 oM 8 5,
 oB 9 .add (.t 8) (cI 1),
 oM 5 9])))
abbrev K105_0 : List Nat := [0, 1]
abbrev B105_0 : List Nat := []
/-- (*boxhedge/boxhedgeref04.parser).op -/
def F105 : IFn where
  ntmps := 21
  nargs := 2
  res := [.tmp 4]
  freeze := false
  body :=
 (.seq
 (.region [
 oO 4 (.mv (cI 0))])
 (.seq
 (.seq
 (.region [
 oO 5 (.mv (cI 1))])
 (.block 0
 L105_0))
 (.seq
 (.region [
 oO 4 (.mv (cI 0))])
 .ret)))

def L97_0 : ICode := .loop [0, 1, 2, 6, 7] [9]
 (.block 1
 (.seq
 (.region [
 oM 20 0,
 oM 21 1,
 oO 22 (.call false (.c (.fn 105 [] [])) [(.t 20), (.t 21)]),
 oM 8 22])
 (.seq
 (.seq
 (.region [
 oM 23 8,
 oB 24 .eql (.t 23) (cI 0)])
 (.cond (.t 24)
 (.seq
 (.region [
 oLa 25 7 5 7,
 oS 6 5 6 25])
 .ret)
 .skip))
 (.seq
 (.region [
 oM 26 0,
 oO 27 (.nilck (.t 26)),
 oA 28 1 27,
 oG 29 28,
 oB 30 .add (.t 29) (cI 1),
 oO 31 (.nilck (.t 26)),
 oA 32 1 31,
 oN (.store .any 1 (.t 32) (.t 30))])
 (.seq
 (.region [
 oM 33 0,
 oM 34 1,
 oB 35 .add (.t 34) (cI 1),
 oM 36 2,
 oO 37 (.call false (.c (.fn 97 [] [])) [(.t 33), (.t 35), (.t 36)]),
 oO 9 (.boxL 9 (.c (.agg [.int .i64 0, .int .i64 0, .int .i64 0, .str [], .slice .fit 5 []]))),
 oS 9 5 9 37])
 (.region [
 oM 38 8,
 oLa 39 7 5 7,
 oLa 40 9 5 9,
 oO 41 (.bslice 5 (.agg [.int .i64 0, .int .i64 0, .int .i64 0, .str [], .slice .fit 5 []]) 2 [(0, (.t 39)), (1, (.t 40))]),
 oO 42 (.build [.int .i64 0, .int .i64 0, .int .i64 0, .str [], .slice .fit 5 []] [(0, 1, (cI 5)), (1, 1, (.t 38)), (4, 1, (.t 41))]),
 oS 7 5 7 42]))))))
abbrev K97_0 : List Nat := [0, 1, 2, 6, 7]
abbrev B97_0 : List Nat := []
/-- (*boxhedge/boxhedgeref04.parser).expr -/
def F97 : IFn where
  ntmps := 43
  nargs := 3
  res := [.cell 6 true 5]
  freeze := false
  body :=
 (.seq
 (.region [
 oO 6 (.boxL 6 (.c (.agg [.int .i64 0, .int .i64 0, .int .i64 0, .str [], .slice .fit 5 []])))])
 (.seq
 (.seq
 (.region [
 oM 10 1,
 oB 11 .gtr (.t 10) (cI 10)])
 (.cond (.t 11)
 (.seq
 (.region [
 oM 12 0,
 oM 13 2,
 oO 14 (.call false (.c (.fn 104 [] [])) [(.t 12), (.t 13)]),
 oS 6 5 6 14])
 .ret)
 .skip))
 (.seq
 (.region [
 oM 15 0,
 oM 16 1,
 oB 17 .add (.t 16) (cI 1),
 oM 18 2,
 oO 19 (.call false (.c (.fn 97 [] [])) [(.t 15), (.t 17), (.t 18)]),
 oO 7 (.boxL 7 (.c (.agg [.int .i64 0, .int .i64 0, .int .i64 0, .str [], .slice .fit 5 []]))),
 oS 7 5 7 19])
 (.block 0
 L97_0))))

/-- (*boxhedge/boxhedgeref04.parser).inside -/
def F98 : IFn where
  ntmps := 12
  nargs := 1
  res := [.tmp 2]
  freeze := false
  body :=
 (.seq
 (.region [
 oC 2 (.slice .fit 5 [])])
 (.seq
 (.region [
 oM 4 0,
 oO 5 (.call false (.c (.fn 45 [] [])) [(.t 4), (.c (.str [40]))])])
 (.seq
 (.region [
 oM 6 0,
 oO 7 (.call false (.c (.fn 97 [] [])) [(.t 6), (cI 1), (cI 1)]),
 oO 3 (.boxL 3 (.c (.agg [.int .i64 0, .int .i64 0, .int .i64 0, .str [], .slice .fit 5 []]))),
 oS 3 5 3 7])
 (.seq
 (.region [
 oM 8 0,
 oO 9 (.call false (.c (.fn 45 [] [])) [(.t 8), (.c (.str [41]))])])
 (.seq
 (.region [
 oLa 10 3 5 3,
 oO 11 (.bslice 5 (.agg [.int .i64 0, .int .i64 0, .int .i64 0, .str [], .slice .fit 5 []]) 1 [(0, (.t 10))]),
 oO 2 (.take 11)])
 .ret)))))

/-- (*boxhedge/boxhedgeref04.parser).named -/
def F99 : IFn where
  ntmps := 38
  nargs := 1
  res := [.cell 2 true 6]
  freeze := false
  body :=
 (.seq
 (.region [
 oO 2 (.boxL 2 (.c (.agg [.int .i64 0, .int .i64 0, .str [], .slice .fit 5 [], .slice .fit 6 [], .slice .fit 6 []])))])
 (.seq
 (.region [
 oM 5 0,
 oO 6 (.call false (.c (.fn 42 [] [])) [(.t 5), (cI 1)]),
 oM 3 6])
 (.seq
 (.block 0
 (.seq
 (.region [
 oM 8 0,
 oO 9 (.call false (.c (.fn 43 [] [])) [(.t 8), (.c (.str [40]))]),
 oM 7 9])
 (.cond (.t 7)
 (.seq
 (.region [
 oM 10 3,
 oM 11 0,
 oO 12 (.call false (.c (.fn 106 [] [])) [(.t 11), (cI 2)]),
 oO 13 (.build [.int .i64 0, .int .i64 0, .int .i64 0, .str [], .slice .fit 5 []] [(0, 1, (cI 7)), (3, 1, (.t 10)), (4, 1, (.t 12))]),
 oO 14 (.bslice 5 (.agg [.int .i64 0, .int .i64 0, .int .i64 0, .str [], .slice .fit 5 []]) 1 [(0, (.t 13))]),
 oO 15 (.build [.int .i64 0, .int .i64 0, .str [], .slice .fit 5 [], .slice .fit 6 [], .slice .fit 6 []] [(0, 1, (cI 10)), (3, 1, (.t 14))]),
 oS 2 6 2 15])
 .ret)
 (.seq
 (.region [
 oM 17 0,
 oO 18 (.call false (.c (.fn 43 [] [])) [(.t 17), (.c (.str [91]))]),
 oM 16 18])
 (.cond (.t 16)
 (.seq
 (.region [
 oM 19 0,
 oO 20 (.call false (.c (.fn 97 [] [])) [(.t 19), (cI 1), (cI 1)]),
 oO 4 (.boxL 4 (.c (.agg [.int .i64 0, .int .i64 0, .int .i64 0, .str [], .slice .fit 5 []]))),
 oS 4 5 4 20])
 (.seq
 (.region [
 oM 21 0,
 oO 22 (.call false (.c (.fn 45 [] [])) [(.t 21), (.c (.str [93]))])])
 (.seq
 (.region [
 oM 23 0,
 oO 24 (.call false (.c (.fn 45 [] [])) [(.t 23), (.c (.str [61]))])])
 (.seq
 (.region [
 oM 25 3,
 oLa 26 4 5 4,
 oM 27 0,
 oO 28 (.call false (.c (.fn 97 [] [])) [(.t 27), (cI 1), (cI 1)]),
 oO 29 (.bslice 5 (.agg [.int .i64 0, .int .i64 0, .int .i64 0, .str [], .slice .fit 5 []]) 2 [(0, (.t 26)), (1, (.t 28))]),
 oO 30 (.build [.int .i64 0, .int .i64 0, .str [], .slice .fit 5 [], .slice .fit 6 [], .slice .fit 6 []] [(0, 1, (cI 3)), (2, 1, (.t 25)), (3, 1, (.t 29))]),
 oS 2 6 2 30])
 .ret))))
 .skip)))))
 (.seq
 (.region [
 oM 31 0,
 oO 32 (.call false (.c (.fn 45 [] [])) [(.t 31), (.c (.str [61]))])])
 (.seq
 (.region [
 oM 33 3,
 oM 34 0,
 oO 35 (.call false (.c (.fn 97 [] [])) [(.t 34), (cI 1), (cI 1)]),
 oO 36 (.bslice 5 (.agg [.int .i64 0, .int .i64 0, .int .i64 0, .str [], .slice .fit 5 []]) 1 [(0, (.t 35))]),
 oO 37 (.build [.int .i64 0, .int .i64 0, .str [], .slice .fit 5 [], .slice .fit 6 [], .slice .fit 6 []] [(0, 1, (cI 2)), (2, 1, (.t 33)), (3, 1, (.t 36))]),
 oS 2 6 2 37])
 .ret)))))

/-- (*boxhedge/boxhedgeref04.parser).stmt -/
def F86 : IFn where
  ntmps := 92
  nargs := 2
  res := [.cell 4 true 6]
  freeze := false
  body :=
 (.seq
 (.region [
 oO 4 (.boxL 4 (.c (.agg [.int .i64 0, .int .i64 0, .str [], .slice .fit 5 [], .slice .fit 6 [], .slice .fit 6 []])))])
 (.seq
 (.seq
 (.region [
 oM 6 1,
 oB 7 .gtr (.t 6) (cI 100)])
 (.cond (.t 7)
 (.region [
 oM 8 0,
 oO 9 (.nilck (.t 8)),
 oA 10 3 9,
 oN (.store .any 1 (.t 10) (.c (.bool true)))])
 .skip))
 (.seq
 (.region [
 oO 5 (.boxL 5 (.c (.agg [.int .i64 0, .int .i64 0, .str [], .slice .fit 5 [], .slice .fit 6 [], .slice .fit 6 []])))])
 (.seq
 (.block 0
 (.seq
 (.region [
 oM 14 0,
 oO 15 (.call false (.c (.fn 68 [] [])) [(.t 14), (.c (.str [105, 110, 116]))]),
 oM 16 15,
 oF 16 17 (.mv (.t 0)),
 oF 16 18 (.call false (.c (.fn 68 [] [])) [(.t 17), (.c (.str [98, 111, 111, 108]))]),
 oO 19 (.pick (.t 16) (.c (.bool true)) (.t 18)),
 oM 13 19])
 (.cond (.t 13)
 (.seq
 (.region [
 oM 20 0,
 oO 21 (.call false (.c (.fn 41 [] [])) [(.t 20)]),
 oA 22 0 5,
 oN (.store (.box 5) 1 (.t 22) (cI 1)),
 oA 23 1 5,
 oS 5 1 23 21])
 (.seq
 (.region [
 oM 24 0,
 oO 25 (.call false (.c (.fn 42 [] [])) [(.t 24), (cI 1)]),
 oA 26 2 5,
 oS 5 1 26 25])
 (.seq
 (.region [
 oM 27 0,
 oO 28 (.call false (.c (.fn 45 [] [])) [(.t 27), (.c (.str [61]))])])
 (.region [
 oM 29 0,
 oO 30 (.call false (.c (.fn 97 [] [])) [(.t 29), (cI 1), (cI 1)]),
 oO 31 (.bslice 5 (.agg [.int .i64 0, .int .i64 0, .int .i64 0, .str [], .slice .fit 5 []]) 1 [(0, (.t 30))]),
 oA 32 3 5,
 oS 5 1 32 31]))))
 (.seq
 (.region [
 oM 34 0,
 oO 35 (.call false (.c (.fn 43 [] [])) [(.t 34), (.c (.str [105, 102]))]),
 oM 33 35])
 (.cond (.t 33)
 (.seq
 (.region [
 oM 36 0,
 oO 37 (.call false (.c (.fn 98 [] [])) [(.t 36)]),
 oA 38 0 5,
 oN (.store (.box 5) 1 (.t 38) (cI 4)),
 oA 39 3 5,
 oS 5 1 39 37])
 (.seq
 (.region [
 oM 40 0,
 oM 41 1,
 oB 42 .add (.t 41) (cI 1),
 oO 43 (.call false (.c (.fn 69 [] [])) [(.t 40), (.t 42)]),
 oA 44 4 5,
 oS 5 1 44 43])
 (.seq
 (.seq
 (.region [
 oM 45 0,
 oO 46 (.call false (.c (.fn 43 [] [])) [(.t 45), (.c (.str [101, 108, 115, 101]))])])
 (.cond (.t 46)
 (.region [
 oM 47 0,
 oM 48 1,
 oB 49 .add (.t 48) (cI 1),
 oO 50 (.call false (.c (.fn 69 [] [])) [(.t 47), (.t 49)]),
 oA 51 5 5,
 oS 5 1 51 50])
 .skip))
 (.seq
 (.region [
 oLa 52 5 6 5,
 oS 4 6 4 52])
 .ret))))
 (.seq
 (.region [
 oM 54 0,
 oO 55 (.call false (.c (.fn 43 [] [])) [(.t 54), (.c (.str [119, 104, 105, 108, 101]))]),
 oM 53 55])
 (.cond (.t 53)
 (.seq
 (.region [
 oM 56 0,
 oO 57 (.call false (.c (.fn 98 [] [])) [(.t 56)]),
 oA 58 0 5,
 oN (.store (.box 5) 1 (.t 58) (cI 5)),
 oA 59 3 5,
 oS 5 1 59 57])
 (.seq
 (.region [
 oM 60 0,
 oM 61 1,
 oB 62 .add (.t 61) (cI 1),
 oO 63 (.call false (.c (.fn 69 [] [])) [(.t 60), (.t 62)]),
 oA 64 4 5,
 oS 5 1 64 63])
 (.seq
 (.region [
 oLa 65 5 6 5,
 oS 4 6 4 65])
 .ret)))
 (.seq
 (.region [
 oM 67 0,
 oO 68 (.call false (.c (.fn 43 [] [])) [(.t 67), (.c (.str [98, 114, 101, 97, 107]))]),
 oM 66 68])
 (.cond (.t 66)
 (.region [
 oA 69 0 5,
 oN (.store (.box 5) 1 (.t 69) (cI 6))])
 (.seq
 (.region [
 oM 71 0,
 oO 72 (.call false (.c (.fn 43 [] [])) [(.t 71), (.c (.str [99, 111, 110, 116, 105, 110, 117, 101]))]),
 oM 70 72])
 (.cond (.t 70)
 (.region [
 oA 73 0 5,
 oN (.store (.box 5) 1 (.t 73) (cI 7))])
 (.seq
 (.region [
 oM 75 0,
 oO 76 (.call false (.c (.fn 43 [] [])) [(.t 75), (.c (.str [114, 101, 116, 117, 114, 110]))]),
 oM 74 76])
 (.cond (.t 74)
 (.region [
 oM 77 0,
 oO 78 (.call false (.c (.fn 97 [] [])) [(.t 77), (cI 1), (cI 1)]),
 oO 79 (.bslice 5 (.agg [.int .i64 0, .int .i64 0, .int .i64 0, .str [], .slice .fit 5 []]) 1 [(0, (.t 78))]),
 oA 80 0 5,
 oN (.store (.box 5) 1 (.t 80) (cI 8)),
 oA 81 3 5,
 oS 5 1 81 79])
 (.seq
 (.region [
 oM 83 0,
 oO 84 (.call false (.c (.fn 43 [] [])) [(.t 83), (.c (.str [112, 114, 105, 110, 116]))]),
 oM 82 84])
 (.cond (.t 82)
 (.region [
 oM 85 0,
 oO 86 (.call false (.c (.fn 98 [] [])) [(.t 85)]),
 oA 87 0 5,
 oN (.store (.box 5) 1 (.t 87) (cI 9)),
 oA 88 3 5,
 oS 5 1 88 86])
 (.region [
 oM 11 0,
 oO 12 (.call false (.c (.fn 99 [] [])) [(.t 11)]),
 oS 5 6 5 12]))))))))))))))))
 (.seq
 (.region [
 oM 89 0,
 oO 90 (.call false (.c (.fn 45 [] [])) [(.t 89), (.c (.str [59]))])])
 (.seq
 (.region [
 oLa 91 5 6 5,
 oS 4 6 4 91])
 .ret))))))

def L69_0 : ICode := .loop [0, 1, 5] []
 (.seq
 (.seq
 (.region [
 oM 8 0,
 oO 9 (.call false (.c (.fn 40 [] [])) [(.t 8)]),
 oO 10 (.un .not (.t 9)),
 oM 11 10,
 oT 11 12 (.mv (.t 0)),
 oT 11 13 (.call false (.c (.fn 43 [] [])) [(.t 12), (.c (.str [125]))]),
 oT 11 14 (.un .not (.t 13)),
 oO 15 (.pick (.t 11) (.t 14) (.c (.bool false)))])
 (.cond (.t 15)
 .skip
 (.exit 0)))
 (.block 1
 (.region [
 oO 16 (.take 5),
 oM 17 0,
 oM 18 1,
 oO 19 (.call false (.c (.fn 86 [] [])) [(.t 17), (.t 18)]),
 oO 20 (.bslice 6 (.agg [.int .i64 0, .int .i64 0, .str [], .slice .fit 5 [], .slice .fit 6 [], .slice .fit 6 []]) 1 [(0, (.t 19))]),
 oO 21 (.append 6 104 (.t 16) (.t 20)),
 oO 5 (.take 21)])))
abbrev K69_0 : List Nat := [0, 1]
abbrev B69_0 : List Nat := []
/-- (*boxhedge/boxhedgeref04.parser).block -/
def F69 : IFn where
  ntmps := 23
  nargs := 2
  res := [.tmp 4]
  freeze := false
  body :=
 (.seq
 (.region [
 oC 4 (.slice .fit 6 [])])
 (.seq
 (.region [
 oC 5 (.slice .fit 6 [])])
 (.seq
 (.region [
 oM 6 0,
 oO 7 (.call false (.c (.fn 45 [] [])) [(.t 6), (.c (.str [123]))])])
 (.seq
 (.block 0
 L69_0)
 (.seq
 (.region [
 oO 22 (.take 5),
 oO 4 (.take 22)])
 .ret)))))

def L46_0 : ICode := .loop [0, 6, 7, 8] []
 (.seq
 (.seq
 (.region [
 oM 18 8,
 oM 19 18,
 oF 19 20 (.mv (.t 0)),
 oF 19 21 (.call false (.c (.fn 43 [] [])) [(.t 20), (.c (.str [44]))]),
 oO 22 (.pick (.t 19) (.c (.bool true)) (.t 21)),
 oM 23 22,
 oT 23 24 (.mv (.t 0)),
 oT 23 25 (.call false (.c (.fn 40 [] [])) [(.t 24)]),
 oT 23 26 (.un .not (.t 25)),
 oO 27 (.pick (.t 23) (.t 26) (.c (.bool false)))])
 (.cond (.t 27)
 .skip
 (.exit 0)))
 (.seq
 (.block 1
 (.seq
 (.region [
 oM 28 0,
 oO 29 (.call false (.c (.fn 41 [] [])) [(.t 28)]),
 oM 9 29])
 (.region [
 oA 30 2 7,
 oO 31 (.loadT (.box 7) (.t 30)),
 oM 32 0,
 oO 33 (.call false (.c (.fn 42 [] [])) [(.t 32), (cI 1)]),
 oM 34 9,
 oO 35 (.build [.str [], .int .i64 0] [(0, 1, (.t 33)), (1, 1, (.t 34))]),
 oO 36 (.bslice 2 (.agg [.str [], .int .i64 0]) 1 [(0, (.t 35))]),
 oO 37 (.append 2 24 (.t 31) (.t 36)),
 oA 38 2 7,
 oN (.storeT (.box 7) (.t 38) 37)])))
 (.region [
 oC 8 (.bool false)])))
abbrev K46_0 : List Nat := [0, 6, 7]
abbrev B46_0 : List Nat := [6]
/-- (*boxhedge/boxhedgeref04.parser).function -/
def F46 : IFn where
  ntmps := 45
  nargs := 3
  res := [.cell 6 true 4]
  freeze := false
  body :=
 (.seq
 (.region [
 oO 6 (.boxL 6 (.c (.agg [.str [], .int .i64 0, .slice .fit 2 [], .slice .fit 6 []])))])
 (.seq
 (.region [
 oM 10 2,
 oM 11 1,
 oO 12 (.build [.str [], .int .i64 0, .slice .fit 2 [], .slice .fit 6 []] [(0, 1, (.t 10)), (1, 1, (.t 11))]),
 oO 7 (.boxL 7 (.c (.agg [.str [], .int .i64 0, .slice .fit 2 [], .slice .fit 6 []]))),
 oS 7 4 7 12])
 (.seq
 (.region [
 oM 13 0,
 oO 14 (.call false (.c (.fn 45 [] [])) [(.t 13), (.c (.str [40]))])])
 (.seq
 (.seq
 (.region [
 oM 15 0,
 oO 16 (.call false (.c (.fn 43 [] [])) [(.t 15), (.c (.str [41]))]),
 oO 17 (.un .not (.t 16))])
 (.cond (.t 17)
 (.seq
 (.seq
 (.region [
 oC 8 (.bool true)])
 (.block 0
 L46_0))
 (.region [
 oM 39 0,
 oO 40 (.call false (.c (.fn 45 [] [])) [(.t 39), (.c (.str [41]))])]))
 .skip))
 (.seq
 (.region [
 oM 41 0,
 oO 42 (.call false (.c (.fn 69 [] [])) [(.t 41), (cI 1)]),
 oA 43 3 7,
 oS 7 1 43 42])
 (.seq
 (.region [
 oLa 44 7 4 7,
 oS 6 4 6 44])
 .ret))))))

def L15_0 : ICode := .loop [0, 2, 3] []
 (.seq
 (.seq
 (.region [
 oM 7 0,
 oO 8 (.call false (.c (.fn 40 [] [])) [(.t 7)]),
 oO 9 (.un .not (.t 8)),
 oM 10 9,
 oT 10 11 (.mv (.t 0)),
 oT 10 12 (.nilck (.t 11)),
 oT 10 13 (.faddr 0 (.t 12)),
 oT 10 14 (.load .any false 1 (.t 13)),
 oT 10 15 (.mv (.t 0)),
 oT 10 16 (.nilck (.t 15)),
 oT 10 17 (.faddr 1 (.t 16)),
 oT 10 18 (.load .any false 1 (.t 17)),
 oT 10 19 (.iaddr 3 (.t 14) (.t 18)),
 oT 10 20 (.faddr 0 (.t 19)),
 oT 10 21 (.load .imm false 1 (.t 20)),
 oT 10 22 (.bin 0 [] .neq (.t 21) (cI 3)),
 oO 23 (.pick (.t 10) (.t 22) (.c (.bool false)))])
 (.cond (.t 23)
 .skip
 (.exit 0)))
 (.block 1
 (.seq
 (.region [
 oM 24 0,
 oO 25 (.call false (.c (.fn 41 [] [])) [(.t 24)]),
 oM 4 25])
 (.seq
 (.region [
 oM 26 0,
 oO 27 (.call false (.c (.fn 42 [] [])) [(.t 26), (cI 1)]),
 oM 5 27])
 (.seq
 (.seq
 (.region [
 oM 28 4,
 oB 29 .eql (.t 28) (cI 1),
 oM 30 29,
 oT 30 31 (.faddr 1 (.t 3)),
 oT 30 32 (.load (.box 3) false 1 (.t 31)),
 oT 30 33 (.len 1 (.t 32)),
 oT 30 34 (.bin 0 [] .eql (.t 33) (cI 0)),
 oO 35 (.pick (.t 30) (.t 34) (.c (.bool false))),
 oM 36 35,
 oT 36 37 (.mv (.t 0)),
 oT 36 38 (.call false (.c (.fn 43 [] [])) [(.t 37), (.c (.str [91]))]),
 oO 39 (.pick (.t 36) (.t 38) (.c (.bool false)))])
 (.cond (.t 39)
 (.seq
 (.region [
 oM 40 0,
 oO 41 (.call false (.c (.fn 42 [] [])) [(.t 40), (cI 0)]),
 oO 42 (.callP false (.c (.fn 44 [] [])) [(.t 41)]),
 oM 6 42])
 (.seq
 (.region [
 oM 43 0,
 oO 44 (.call false (.c (.fn 45 [] [])) [(.t 43), (.c (.str [93]))])])
 (.seq
 (.region [
 oM 45 0,
 oO 46 (.call false (.c (.fn 45 [] [])) [(.t 45), (.c (.str [59]))])])
 (.seq
 (.region [
 oA 47 0 3,
 oO 48 (.loadT (.box 3) (.t 47)),
 oM 49 5,
 oM 50 6,
 oO 51 (.build [.str [], .int .i64 0] [(0, 1, (.t 49)), (1, 1, (.t 50))]),
 oO 52 (.bslice 2 (.agg [.str [], .int .i64 0]) 1 [(0, (.t 51))]),
 oO 53 (.append 2 24 (.t 48) (.t 52)),
 oA 54 0 3,
 oN (.storeT (.box 3) (.t 54) 53)])
 (.exit 1)))))
 .skip))
 (.region [
 oA 55 1 3,
 oO 56 (.loadT (.box 3) (.t 55)),
 oM 57 0,
 oM 58 4,
 oM 59 5,
 oO 60 (.call false (.c (.fn 46 [] [])) [(.t 57), (.t 58), (.t 59)]),
 oO 61 (.bslice 4 (.agg [.str [], .int .i64 0, .slice .fit 2 [], .slice .fit 6 []]) 1 [(0, (.t 60))]),
 oO 62 (.append 4 72 (.t 56) (.t 61)),
 oA 63 1 3,
 oN (.storeT (.box 3) (.t 63) 62)]))))))
abbrev K15_0 : List Nat := [0, 2, 3]
abbrev B15_0 : List Nat := [2]
/-- (*boxhedge/boxhedgeref04.parser).prog -/
def F15 : IFn where
  ntmps := 65
  nargs := 1
  res := [.cell 2 true 2]
  freeze := false
  body :=
 (.seq
 (.region [
 oO 2 (.boxL 2 (.c (.agg [.slice .fit 2 [], .slice .fit 4 []])))])
 (.seq
 (.region [
 oO 3 (.boxL 3 (.c (.agg [.slice .fit 2 [], .slice .fit 4 []])))])
 (.seq
 (.block 0
 L15_0)
 (.seq
 (.region [
 oLa 64 3 2 3,
 oS 2 2 2 64])
 .ret))))

/-- boxhedge/boxhedgeref03.isType -/
def F47 : IFn where
  ntmps := 9
  nargs := 1
  res := [.tmp 2]
  freeze := false
  body :=
 (.seq
 (.region [
 oC 2 (.bool false)])
 (.seq
 (.region [
 oM 3 0,
 oB 4 .eql (.t 3) (cI 1),
 oM 5 4,
 oF 5 6 (.mv (.t 0)),
 oF 5 7 (.bin 0 [] .eql (.t 6) (cI 2)),
 oO 8 (.pick (.t 5) (.c (.bool true)) (.t 7)),
 oM 2 8])
 .ret))

/-- boxhedge/boxhedgeref03.shape -/
def F70 : IFn where
  ntmps := 25
  nargs := 1
  res := [.tmp 2, .tmp 3, .tmp 4, .tmp 5, .tmp 6]
  freeze := false
  body :=
 (.seq
 (.region [
 oC 2 (.bool false),
 oC 3 (.bool false),
 oO 4 (.mv (cI 0)),
 oC 5 (.bool false),
 oC 6 (.bool false)])
 (.seq
 (.seq
 (.region [
 oM 7 0])
 (.block 0
 (.seq
 (.region [
 oB 9 .eql (.t 7) (cI 1),
 oM 8 9])
 (.cond (.t 8)
 (.seq
 (.region [
 oC 2 (.bool true),
 oC 3 (.bool true),
 oO 4 (.mv (cI 1)),
 oC 5 (.bool false),
 oC 6 (.bool false)])
 .ret)
 (.seq
 (.region [
 oB 11 .eql (.t 7) (cI 2),
 oM 10 11])
 (.cond (.t 10)
 (.seq
 (.region [
 oC 2 (.bool false),
 oC 3 (.bool true),
 oO 4 (.mv (cI 1)),
 oC 5 (.bool false),
 oC 6 (.bool false)])
 .ret)
 (.seq
 (.region [
 oB 13 .eql (.t 7) (cI 3),
 oM 12 13])
 (.cond (.t 12)
 (.seq
 (.region [
 oC 2 (.bool false),
 oC 3 (.bool true),
 oO 4 (.mv (cI 2)),
 oC 5 (.bool false),
 oC 6 (.bool false)])
 .ret)
 (.seq
 (.region [
 oB 15 .eql (.t 7) (cI 4),
 oM 14 15])
 (.cond (.t 14)
 (.seq
 (.region [
 oC 2 (.bool false),
 oC 3 (.bool false),
 oO 4 (.mv (cI 1)),
 oC 5 (.bool true),
 oC 6 (.bool true)])
 .ret)
 (.seq
 (.region [
 oB 17 .eql (.t 7) (cI 5),
 oM 16 17])
 (.cond (.t 16)
 (.seq
 (.region [
 oC 2 (.bool false),
 oC 3 (.bool false),
 oO 4 (.mv (cI 1)),
 oC 5 (.bool true),
 oC 6 (.bool false)])
 .ret)
 (.seq
 (.seq
 (.region [
 oB 19 .eql (.t 7) (cI 6),
 oM 18 19])
 (.cond (.t 18)
 .skip
 (.region [
 oB 20 .eql (.t 7) (cI 7),
 oM 18 20])))
 (.cond (.t 18)
 (.seq
 (.region [
 oC 2 (.bool false),
 oC 3 (.bool false),
 oO 4 (.mv (cI 0)),
 oC 5 (.bool false),
 oC 6 (.bool false)])
 .ret)
 (.seq
 (.seq
 (.region [
 oB 22 .eql (.t 7) (cI 8),
 oM 21 22])
 (.cond (.t 21)
 .skip
 (.seq
 (.region [
 oB 23 .eql (.t 7) (cI 9),
 oM 21 23])
 (.cond (.t 21)
 .skip
 (.region [
 oB 24 .eql (.t 7) (cI 10),
 oM 21 24])))))
 (.cond (.t 21)
 (.seq
 (.region [
 oC 2 (.bool false),
 oC 3 (.bool false),
 oO 4 (.mv (cI 1)),
 oC 5 (.bool false),
 oC 6 (.bool false)])
 .ret)
 .skip))))))))))))))))
 (.seq
 (.region [
 oC 2 (.bool false),
 oC 3 (.bool false),
 oO 4 (.mv (cI (-1))),
 oC 5 (.bool false),
 oC 6 (.bool false)])
 .ret)))

/-- boxhedge/boxhedgeref01.IsOne -/
def F87 : IFn where
  ntmps := 9
  nargs := 1
  res := [.tmp 2]
  freeze := false
  body :=
 (.seq
 (.region [
 oC 2 (.bool false)])
 (.seq
 (.region [
 oM 3 0,
 oB 4 .geq (.t 3) (cI 20),
 oM 5 4,
 oT 5 6 (.mv (.t 0)),
 oT 5 7 (.bin 0 [] .leq (.t 6) (cI 28)),
 oO 8 (.pick (.t 5) (.t 7) (.c (.bool false))),
 oM 2 8])
 .ret))

def L71_0 : ICode := .loop [1, 2, 5] []
 (.seq
 (.seq
 (.region [
 oM 9 5,
 oA 10 4 2,
 oL 11 2 10,
 oO 12 (.len 1 (.t 11)),
 oB 13 .lss (.t 9) (.t 12)])
 (.cond (.t 13)
 .skip
 (.exit 0)))
 (.seq
 (.block 1
 (.seq
 (.region [
 oM 16 1,
 oB 17 .lss (.t 16) (cI 2),
 oM 18 17,
 oF 18 19 (.faddr 4 (.t 2)),
 oF 18 20 (.load (.box 2) false 1 (.t 19)),
 oF 18 21 (.mv (.t 5)),
 oF 18 22 (.iaddr 5 (.t 20) (.t 21)),
 oF 18 23 (.load .any true 5 (.t 22)),
 oF 18 24 (.mv (.t 1)),
 oF 18 25 (.bin 0 [] .sub (.t 24) (cI 1)),
 oF 18 26 (.callP false (.c (.fn 71 [] [])) [(.t 23), (.t 25)]),
 oF 18 27 (.un .not (.t 26)),
 oO 28 (.pick (.t 18) (.c (.bool true)) (.t 27))])
 (.cond (.t 28)
 (.seq
 (.region [
 oC 4 (.bool false)])
 .ret)
 .skip)))
 (.region [
 oM 14 5,
 oB 15 .add (.t 14) (cI 1),
 oM 5 15])))
abbrev K71_0 : List Nat := [1, 2]
abbrev B71_0 : List Nat := [2]
/-- boxhedge/boxhedgeref03.expr -/
def F71 : IFn where
  ntmps := 169
  nargs := 2
  res := [.tmp 4]
  freeze := false
  body :=
 (.seq
 (.region [
 oO 2 (.boxL 2 (.t 0)),
 oC 4 (.bool false)])
 (.seq
 (.seq
 (.region [
 oO 5 (.mv (cI 0))])
 (.block 0
 L71_0))
 (.seq
 (.region [
 oA 29 1 2,
 oL 30 2 29,
 oB 31 .eql (.t 30) (cI 0),
 oM 32 31,
 oT 32 33 (.faddr 2 (.t 2)),
 oT 32 34 (.load (.box 2) false 1 (.t 33)),
 oT 32 35 (.bin 0 [] .eql (.t 34) (cI 0)),
 oO 36 (.pick (.t 32) (.t 35) (.c (.bool false))),
 oM 6 36])
 (.seq
 (.region [
 oA 37 3 2,
 oL 38 2 37,
 oO 39 (.callP false (.c (.fn 37 [] [])) [(.t 38)]),
 oM 7 39])
 (.seq
 (.region [
 oA 40 4 2,
 oL 41 2 40,
 oO 42 (.len 1 (.t 41)),
 oM 8 42])
 (.seq
 (.seq
 (.region [
 oA 43 0 2,
 oL 44 2 43])
 (.block 2
 (.seq
 (.region [
 oB 46 .eql (.t 44) (cI 1),
 oM 45 46])
 (.cond (.t 45)
 (.seq
 (.region [
 oA 47 1 2,
 oL 48 2 47,
 oB 49 .eql (.t 48) (cI 0),
 oM 50 49,
 oT 50 51 (.faddr 2 (.t 2)),
 oT 50 52 (.load (.box 2) false 1 (.t 51)),
 oT 50 53 (.bin 0 [] .geq (.t 52) (cI 0)),
 oO 54 (.pick (.t 50) (.t 53) (.c (.bool false))),
 oM 55 54,
 oT 55 56 (.faddr 3 (.t 2)),
 oT 55 57 (.load (.box 2) false 1 (.t 56)),
 oT 55 58 (.bin 0 [] .eql (.t 57) (.c (.str []))),
 oO 59 (.pick (.t 55) (.t 58) (.c (.bool false))),
 oM 60 59,
 oT 60 61 (.mv (.t 8)),
 oT 60 62 (.bin 0 [] .eql (.t 61) (cI 0)),
 oO 63 (.pick (.t 60) (.t 62) (.c (.bool false))),
 oM 4 63])
 .ret)
 (.seq
 (.region [
 oB 65 .eql (.t 44) (cI 2),
 oM 64 65])
 (.cond (.t 64)
 (.seq
 (.region [
 oA 66 1 2,
 oL 67 2 66,
 oB 68 .eql (.t 67) (cI 0),
 oM 69 68,
 oT 69 70 (.faddr 2 (.t 2)),
 oT 69 71 (.load (.box 2) false 1 (.t 70)),
 oT 69 72 (.bin 0 [] .eql (.t 71) (cI 0)),
 oT 69 73 (.mv (.t 72)),
 oF 73 74 (.faddr 2 (.t 2)),
 oF 73 75 (.load (.box 2) false 1 (.t 74)),
 oF 73 76 (.bin 0 [] .eql (.t 75) (cI 1)),
 oT 69 77 (.pick (.t 73) (.c (.bool true)) (.t 76)),
 oO 78 (.pick (.t 69) (.t 77) (.c (.bool false))),
 oM 79 78,
 oT 79 80 (.faddr 3 (.t 2)),
 oT 79 81 (.load (.box 2) false 1 (.t 80)),
 oT 79 82 (.bin 0 [] .eql (.t 81) (.c (.str []))),
 oO 83 (.pick (.t 79) (.t 82) (.c (.bool false))),
 oM 84 83,
 oT 84 85 (.mv (.t 8)),
 oT 84 86 (.bin 0 [] .eql (.t 85) (cI 0)),
 oO 87 (.pick (.t 84) (.t 86) (.c (.bool false))),
 oM 4 87])
 .ret)
 (.seq
 (.region [
 oB 89 .eql (.t 44) (cI 3),
 oM 88 89])
 (.cond (.t 88)
 (.seq
 (.region [
 oM 90 6,
 oM 91 90,
 oT 91 92 (.mv (.t 7)),
 oO 93 (.pick (.t 91) (.t 92) (.c (.bool false))),
 oM 94 93,
 oT 94 95 (.mv (.t 8)),
 oT 94 96 (.bin 0 [] .eql (.t 95) (cI 0)),
 oO 97 (.pick (.t 94) (.t 96) (.c (.bool false))),
 oM 4 97])
 .ret)
 (.seq
 (.region [
 oB 99 .eql (.t 44) (cI 4),
 oM 98 99])
 (.cond (.t 98)
 (.seq
 (.region [
 oA 100 1 2,
 oL 101 2 100,
 oO 102 (.callP false (.c (.fn 87 [] [])) [(.t 101)]),
 oM 103 102,
 oT 103 104 (.faddr 2 (.t 2)),
 oT 103 105 (.load (.box 2) false 1 (.t 104)),
 oT 103 106 (.bin 0 [] .eql (.t 105) (cI 0)),
 oO 107 (.pick (.t 103) (.t 106) (.c (.bool false))),
 oM 108 107,
 oT 108 109 (.faddr 3 (.t 2)),
 oT 108 110 (.load (.box 2) false 1 (.t 109)),
 oT 108 111 (.bin 0 [] .eql (.t 110) (.c (.str []))),
 oO 112 (.pick (.t 108) (.t 111) (.c (.bool false))),
 oM 113 112,
 oT 113 114 (.mv (.t 8)),
 oT 113 115 (.bin 0 [] .eql (.t 114) (cI 1)),
 oO 116 (.pick (.t 113) (.t 115) (.c (.bool false))),
 oM 4 116])
 .ret)
 (.seq
 (.region [
 oB 118 .eql (.t 44) (cI 5),
 oM 117 118])
 (.cond (.t 117)
 (.seq
 (.region [
 oA 119 1 2,
 oL 120 2 119,
 oO 121 (.callP false (.c (.fn 88 [] [])) [(.t 120)]),
 oB 122 .gtr (.t 121) (cI 0),
 oM 123 122,
 oT 123 124 (.faddr 2 (.t 2)),
 oT 123 125 (.load (.box 2) false 1 (.t 124)),
 oT 123 126 (.bin 0 [] .eql (.t 125) (cI 0)),
 oO 127 (.pick (.t 123) (.t 126) (.c (.bool false))),
 oM 128 127,
 oT 128 129 (.faddr 3 (.t 2)),
 oT 128 130 (.load (.box 2) false 1 (.t 129)),
 oT 128 131 (.bin 0 [] .eql (.t 130) (.c (.str []))),
 oO 132 (.pick (.t 128) (.t 131) (.c (.bool false))),
 oM 133 132,
 oT 133 134 (.mv (.t 8)),
 oT 133 135 (.bin 0 [] .eql (.t 134) (cI 2)),
 oO 136 (.pick (.t 133) (.t 135) (.c (.bool false))),
 oM 4 136])
 .ret)
 (.seq
 (.region [
 oB 138 .eql (.t 44) (cI 6),
 oM 137 138])
 (.cond (.t 137)
 (.seq
 (.region [
 oM 139 6,
 oM 140 139,
 oT 140 141 (.mv (.t 7)),
 oO 142 (.pick (.t 140) (.t 141) (.c (.bool false))),
 oM 143 142,
 oT 143 144 (.mv (.t 8)),
 oT 143 145 (.bin 0 [] .eql (.t 144) (cI 1)),
 oO 146 (.pick (.t 143) (.t 145) (.c (.bool false))),
 oM 4 146])
 .ret)
 (.seq
 (.region [
 oB 148 .eql (.t 44) (cI 7),
 oM 147 148])
 (.cond (.t 147)
 (.seq
 (.region [
 oM 149 6,
 oM 150 149,
 oT 150 151 (.mv (.t 7)),
 oO 152 (.pick (.t 150) (.t 151) (.c (.bool false))),
 oM 153 152,
 oT 153 154 (.mv (.t 8)),
 oT 153 155 (.bin 0 [] .leq (.t 154) (cI 8)),
 oO 156 (.pick (.t 153) (.t 155) (.c (.bool false))),
 oM 4 156])
 .ret)
 (.seq
 (.region [
 oB 158 .eql (.t 44) (cI 8),
 oM 157 158])
 (.cond (.t 157)
 (.seq
 (.region [
 oM 159 6,
 oM 160 159,
 oT 160 161 (.faddr 3 (.t 2)),
 oT 160 162 (.load (.box 2) false 1 (.t 161)),
 oT 160 163 (.bin 0 [] .eql (.t 162) (.c (.str []))),
 oO 164 (.pick (.t 160) (.t 163) (.c (.bool false))),
 oM 165 164,
 oT 165 166 (.mv (.t 8)),
 oT 165 167 (.bin 0 [] .eql (.t 166) (cI 0)),
 oO 168 (.pick (.t 165) (.t 167) (.c (.bool false))),
 oM 4 168])
 .ret)
 .skip))))))))))))))))))
 (.seq
 (.region [
 oC 4 (.bool false)])
 .ret)))))))

def L48_0 : ICode := .loop [0, 1, 5, 6, 9, 10, 11, 12] []
 (.seq
 (.seq
 (.region [
 oM 78 12,
 oM 79 9,
 oB 80 .lss (.t 78) (.t 79)])
 (.cond (.t 80)
 .skip
 (.exit 2)))
 (.seq
 (.block 3
 (.seq
 (.region [
 oA 83 3 6,
 oL 84 6 83,
 oM 85 12,
 oO 86 (.iaddr 5 (.t 84) (.t 85)),
 oO 87 (.load .any true 5 (.t 86)),
 oO 88 (.callP false (.c (.fn 71 [] [])) [(.t 87), (cI 100)]),
 oO 89 (.un .not (.t 88))])
 (.cond (.t 89)
 (.seq
 (.region [
 oC 4 (.bool false)])
 .ret)
 .skip)))
 (.region [
 oM 81 12,
 oB 82 .add (.t 81) (cI 1),
 oM 12 82])))
def L48_1 : ICode := .loop [0, 1, 5] [6]
 (.seq
 (.seq
 (.region [
 oM 13 5,
 oM 14 0,
 oO 15 (.len 1 (.t 14)),
 oB 16 .lss (.t 13) (.t 15)])
 (.cond (.t 16)
 .skip
 (.exit 0)))
 (.seq
 (.block 1
 (.seq
 (.region [
 oM 19 0,
 oM 20 5,
 oO 21 (.iaddr 6 (.t 19) (.t 20)),
 oO 22 (.load .any true 6 (.t 21)),
 oO 6 (.boxL 6 (.c (.agg [.int .i64 0, .int .i64 0, .str [], .slice .fit 5 [], .slice .fit 6 [], .slice .fit 6 []]))),
 oS 6 6 6 22])
 (.seq
 (.region [
 oA 24 0 6,
 oL 25 6 24,
 oO 26 (.callP false (.c (.fn 70 [] [])) [(.t 25)]),
 oM 23 26,
 oX 27 23 0,
 oX 28 23 1,
 oX 29 23 2,
 oX 30 23 3,
 oX 31 23 4,
 oM 7 27,
 oM 8 28,
 oM 9 29,
 oM 10 30,
 oM 11 31])
 (.seq
 (.seq
 (.region [
 oM 32 1,
 oB 33 .lss (.t 32) (cI 1),
 oM 34 33,
 oF 34 35 (.faddr 3 (.t 6)),
 oF 34 36 (.load (.box 6) false 1 (.t 35)),
 oF 34 37 (.len 1 (.t 36)),
 oF 34 38 (.mv (.t 9)),
 oF 34 39 (.bin 0 [] .neq (.t 37) (.t 38)),
 oO 40 (.pick (.t 34) (.c (.bool true)) (.t 39)),
 oM 41 40,
 oF 41 42 (.mv (.t 7)),
 oF 41 43 (.faddr 1 (.t 6)),
 oF 41 44 (.load (.box 6) false 1 (.t 43)),
 oF 41 45 (.bin 0 [] .eql (.t 44) (cI 1)),
 oF 41 46 (.mv (.t 45)),
 oF 46 47 (.faddr 1 (.t 6)),
 oF 46 48 (.load (.box 6) false 1 (.t 47)),
 oF 46 49 (.bin 0 [] .eql (.t 48) (cI 2)),
 oF 41 50 (.pick (.t 46) (.c (.bool true)) (.t 49)),
 oF 41 51 (.bin 1 [] .neq (.t 42) (.t 50)),
 oO 52 (.pick (.t 41) (.c (.bool true)) (.t 51)),
 oM 53 52,
 oF 53 54 (.mv (.t 7)),
 oF 53 55 (.un .not (.t 54)),
 oF 53 56 (.mv (.t 55)),
 oT 56 57 (.faddr 1 (.t 6)),
 oT 56 58 (.load (.box 6) false 1 (.t 57)),
 oT 56 59 (.bin 0 [] .neq (.t 58) (cI 0)),
 oF 53 60 (.pick (.t 56) (.t 59) (.c (.bool false))),
 oO 61 (.pick (.t 53) (.c (.bool true)) (.t 60)),
 oM 62 61,
 oF 62 63 (.mv (.t 8)),
 oF 62 64 (.faddr 2 (.t 6)),
 oF 62 65 (.load (.box 6) false 1 (.t 64)),
 oF 62 66 (.callP false (.c (.fn 37 [] [])) [(.t 65)]),
 oF 62 67 (.bin 1 [] .neq (.t 63) (.t 66)),
 oO 68 (.pick (.t 62) (.c (.bool true)) (.t 67)),
 oM 69 68,
 oF 69 70 (.mv (.t 8)),
 oF 69 71 (.un .not (.t 70)),
 oF 69 72 (.mv (.t 71)),
 oT 72 73 (.faddr 2 (.t 6)),
 oT 72 74 (.load (.box 6) false 1 (.t 73)),
 oT 72 75 (.bin 0 [] .neq (.t 74) (.c (.str []))),
 oF 69 76 (.pick (.t 72) (.t 75) (.c (.bool false))),
 oO 77 (.pick (.t 69) (.c (.bool true)) (.t 76))])
 (.cond (.t 77)
 (.seq
 (.region [
 oC 4 (.bool false)])
 .ret)
 .skip))
 (.seq
 (.seq
 (.region [
 oO 12 (.mv (cI 0))])
 (.block 2
 L48_0))
 (.seq
 (.region [
 oA 90 0 6,
 oL 91 6 90,
 oB 92 .eql (.t 91) (cI 10),
 oM 93 92,
 oT 93 94 (.faddr 3 (.t 6)),
 oT 93 95 (.load (.box 6) false 1 (.t 94)),
 oT 93 96 (.iaddr 5 (.t 95) (cI 0)),
 oT 93 97 (.faddr 0 (.t 96)),
 oT 93 98 (.load .any false 1 (.t 97)),
 oT 93 99 (.bin 0 [] .neq (.t 98) (cI 7)),
 oO 100 (.pick (.t 93) (.t 99) (.c (.bool false))),
 oM 101 100,
 oF 101 102 (.mv (.t 10)),
 oF 101 103 (.un .not (.t 102)),
 oF 101 104 (.mv (.t 103)),
 oT 104 105 (.faddr 4 (.t 6)),
 oT 104 106 (.load (.box 6) false 1 (.t 105)),
 oT 104 107 (.len 1 (.t 106)),
 oT 104 108 (.bin 0 [] .gtr (.t 107) (cI 0)),
 oF 101 109 (.pick (.t 104) (.t 108) (.c (.bool false))),
 oO 110 (.pick (.t 101) (.c (.bool true)) (.t 109)),
 oM 111 110,
 oF 111 112 (.mv (.t 11)),
 oF 111 113 (.un .not (.t 112)),
 oF 111 114 (.mv (.t 113)),
 oT 114 115 (.faddr 5 (.t 6)),
 oT 114 116 (.load (.box 6) false 1 (.t 115)),
 oT 114 117 (.len 1 (.t 116)),
 oT 114 118 (.bin 0 [] .gtr (.t 117) (cI 0)),
 oF 111 119 (.pick (.t 114) (.t 118) (.c (.bool false))),
 oO 120 (.pick (.t 111) (.c (.bool true)) (.t 119)),
 oM 121 120,
 oF 121 122 (.faddr 4 (.t 6)),
 oF 121 123 (.load (.box 6) false 1 (.t 122)),
 oF 121 124 (.mv (.t 1)),
 oF 121 125 (.bin 0 [] .sub (.t 124) (cI 1)),
 oF 121 126 (.callP false (.c (.fn 48 [] [])) [(.t 123), (.t 125)]),
 oF 121 127 (.un .not (.t 126)),
 oO 128 (.pick (.t 121) (.c (.bool true)) (.t 127)),
 oM 129 128,
 oF 129 130 (.faddr 5 (.t 6)),
 oF 129 131 (.load (.box 6) false 1 (.t 130)),
 oF 129 132 (.mv (.t 1)),
 oF 129 133 (.bin 0 [] .sub (.t 132) (cI 1)),
 oF 129 134 (.callP false (.c (.fn 48 [] [])) [(.t 131), (.t 133)]),
 oF 129 135 (.un .not (.t 134)),
 oO 136 (.pick (.t 129) (.c (.bool true)) (.t 135))])
 (.cond (.t 136)
 (.seq
 (.region [
 oC 4 (.bool false)])
 .ret)
 .skip)))))))
 (.region [
 oM 17 5,
 oB 18 .add (.t 17) (cI 1),
 oM 5 18])))
abbrev K48_0 : List Nat := [0, 1, 5, 6, 9, 10, 11]
abbrev B48_0 : List Nat := [6]
abbrev K48_1 : List Nat := [0, 1]
abbrev B48_1 : List Nat := []
/-- boxhedge/boxhedgeref03.stmts -/
def F48 : IFn where
  ntmps := 137
  nargs := 2
  res := [.tmp 4]
  freeze := false
  body :=
 (.seq
 (.region [
 oC 4 (.bool false)])
 (.seq
 (.seq
 (.region [
 oO 5 (.mv (cI 0))])
 (.block 0
 L48_1))
 (.seq
 (.region [
 oC 4 (.bool true)])
 .ret)))

def L16_0 : ICode := .loop [1, 3] []
 (.seq
 (.seq
 (.region [
 oM 7 3,
 oA 8 0 1,
 oL 9 1 8,
 oO 10 (.len 1 (.t 9)),
 oB 11 .lss (.t 7) (.t 10)])
 (.cond (.t 11)
 .skip
 (.exit 0)))
 (.seq
 (.block 1
 (.seq
 (.region [
 oA 14 0 1,
 oL 15 1 14,
 oM 16 3,
 oO 17 (.iaddr 2 (.t 15) (.t 16)),
 oA 18 0 17,
 oG 19 18,
 oO 20 (.callP false (.c (.fn 37 [] [])) [(.t 19)]),
 oO 21 (.un .not (.t 20)),
 oM 22 21,
 oF 22 23 (.faddr 0 (.t 1)),
 oF 22 24 (.load (.box 1) false 1 (.t 23)),
 oF 22 25 (.mv (.t 3)),
 oF 22 26 (.iaddr 2 (.t 24) (.t 25)),
 oF 22 27 (.faddr 1 (.t 26)),
 oF 22 28 (.load .any false 1 (.t 27)),
 oF 22 29 (.bin 0 [] .lss (.t 28) (cI 1)),
 oO 30 (.pick (.t 22) (.c (.bool true)) (.t 29)),
 oM 31 30,
 oF 31 32 (.faddr 0 (.t 1)),
 oF 31 33 (.load (.box 1) false 1 (.t 32)),
 oF 31 34 (.mv (.t 3)),
 oF 31 35 (.iaddr 2 (.t 33) (.t 34)),
 oF 31 36 (.faddr 1 (.t 35)),
 oF 31 37 (.load .any false 1 (.t 36)),
 oF 31 38 (.bin 0 [] .gtr (.t 37) (cI 1000)),
 oO 39 (.pick (.t 31) (.c (.bool true)) (.t 38))])
 (.cond (.t 39)
 (.seq
 (.region [
 oC 2 (.bool false)])
 .ret)
 .skip)))
 (.region [
 oM 12 3,
 oB 13 .add (.t 12) (cI 1),
 oM 3 13])))
def L16_1 : ICode := .loop [1, 4, 5, 6] []
 (.seq
 (.seq
 (.region [
 oM 74 6,
 oA 75 2 5,
 oL 76 5 75,
 oO 77 (.len 1 (.t 76)),
 oB 78 .lss (.t 74) (.t 77)])
 (.cond (.t 78)
 .skip
 (.exit 4)))
 (.seq
 (.block 5
 (.seq
 (.region [
 oA 81 2 5,
 oL 82 5 81,
 oM 83 6,
 oO 84 (.iaddr 2 (.t 82) (.t 83)),
 oA 85 0 84,
 oG 86 85,
 oO 87 (.callP false (.c (.fn 37 [] [])) [(.t 86)]),
 oO 88 (.un .not (.t 87)),
 oM 89 88,
 oF 89 90 (.faddr 2 (.t 5)),
 oF 89 91 (.load (.box 5) false 1 (.t 90)),
 oF 89 92 (.mv (.t 6)),
 oF 89 93 (.iaddr 2 (.t 91) (.t 92)),
 oF 89 94 (.faddr 1 (.t 93)),
 oF 89 95 (.load .any false 1 (.t 94)),
 oF 89 96 (.callP false (.c (.fn 47 [] [])) [(.t 95)]),
 oF 89 97 (.un .not (.t 96)),
 oO 98 (.pick (.t 89) (.c (.bool true)) (.t 97))])
 (.cond (.t 98)
 (.seq
 (.region [
 oC 2 (.bool false)])
 .ret)
 .skip)))
 (.region [
 oM 79 6,
 oB 80 .add (.t 79) (cI 1),
 oM 6 80])))
def L16_2 : ICode := .loop [1, 4] [5]
 (.seq
 (.seq
 (.region [
 oM 40 4,
 oA 41 1 1,
 oL 42 1 41,
 oO 43 (.len 1 (.t 42)),
 oB 44 .lss (.t 40) (.t 43)])
 (.cond (.t 44)
 .skip
 (.exit 2)))
 (.seq
 (.block 3
 (.seq
 (.region [
 oA 47 1 1,
 oL 48 1 47,
 oM 49 4,
 oO 50 (.iaddr 4 (.t 48) (.t 49)),
 oO 51 (.load .any true 4 (.t 50)),
 oO 5 (.boxL 5 (.c (.agg [.str [], .int .i64 0, .slice .fit 2 [], .slice .fit 6 []]))),
 oS 5 4 5 51])
 (.seq
 (.seq
 (.region [
 oA 52 0 5,
 oL 53 5 52,
 oO 54 (.callP false (.c (.fn 37 [] [])) [(.t 53)]),
 oO 55 (.un .not (.t 54)),
 oM 56 55,
 oF 56 57 (.faddr 1 (.t 5)),
 oF 56 58 (.load (.box 5) false 1 (.t 57)),
 oF 56 59 (.callP false (.c (.fn 47 [] [])) [(.t 58)]),
 oF 56 60 (.un .not (.t 59)),
 oO 61 (.pick (.t 56) (.c (.bool true)) (.t 60)),
 oM 62 61,
 oF 62 63 (.faddr 2 (.t 5)),
 oF 62 64 (.load (.box 5) false 1 (.t 63)),
 oF 62 65 (.len 1 (.t 64)),
 oF 62 66 (.bin 0 [] .gtr (.t 65) (cI 8)),
 oO 67 (.pick (.t 62) (.c (.bool true)) (.t 66)),
 oM 68 67,
 oF 68 69 (.faddr 3 (.t 5)),
 oF 68 70 (.load (.box 5) false 1 (.t 69)),
 oF 68 71 (.callP false (.c (.fn 48 [] [])) [(.t 70), (cI 100)]),
 oF 68 72 (.un .not (.t 71)),
 oO 73 (.pick (.t 68) (.c (.bool true)) (.t 72))])
 (.cond (.t 73)
 (.seq
 (.region [
 oC 2 (.bool false)])
 .ret)
 .skip))
 (.seq
 (.region [
 oO 6 (.mv (cI 0))])
 (.block 4
 L16_1)))))
 (.region [
 oM 45 4,
 oB 46 .add (.t 45) (cI 1),
 oM 4 46])))
abbrev K16_0 : List Nat := [1]
abbrev B16_0 : List Nat := [1]
abbrev K16_1 : List Nat := [1, 4, 5]
abbrev B16_1 : List Nat := [1, 5]
abbrev K16_2 : List Nat := [1]
abbrev B16_2 : List Nat := [1]
/-- boxhedge/boxhedgeref03.Right -/
def F16 : IFn where
  ntmps := 99
  nargs := 1
  res := [.tmp 2]
  freeze := false
  body :=
 (.seq
 (.region [
 oO 1 (.boxL 1 (.t 0)),
 oC 2 (.bool false)])
 (.seq
 (.seq
 (.region [
 oO 3 (.mv (cI 0))])
 (.block 0
 L16_0))
 (.seq
 (.seq
 (.region [
 oO 4 (.mv (cI 0))])
 (.block 2
 L16_2))
 (.seq
 (.region [
 oC 2 (.bool true)])
 .ret))))

/-- boxhedge/boxhedgeref04.Parse -/
def F6 : IFn where
  ntmps := 60
  nargs := 1
  res := [.cell 2 true 2, .tmp 3, .tmp 4]
  freeze := true
  body :=
 (.seq
 (.region [
 oO 2 (.boxL 2 (.c (.agg [.slice .fit 2 [], .slice .fit 4 []]))),
 oO 3 (.mv (cI 0)),
 oO 4 (.mv (cI 0))])
 (.seq
 (.region [
 oM 11 0,
 oO 12 (.callP false (.c (.fn 14 [] [])) [(.t 11)]),
 oM 10 12,
 oX 13 10 0,
 oX 14 10 1,
 oX 15 10 2,
 oO 5 (.take 13),
 oM 6 14,
 oM 7 15])
 (.seq
 (.seq
 (.region [
 oM 16 6,
 oB 17 .neq (.t 16) (cI 0)])
 (.cond (.t 17)
 (.seq
 (.region [
 oO 18 (.build [.slice .fit 2 [], .slice .fit 4 []] []),
 oM 19 6,
 oM 20 7,
 oS 2 2 2 18,
 oM 3 19,
 oM 4 20])
 .ret)
 .skip))
 (.seq
 (.region [
 oM 21 5,
 oO 22 (.build [.slice .fit 3 [], .int .i64 0, .bool false, .bool false] [(0, 1, (.t 21))]),
 oO 23 (.boxS 4 (.t 22)),
 oM 8 23])
 (.seq
 (.region [
 oM 24 8,
 oO 25 (.call false (.c (.fn 15 [] [])) [(.t 24)]),
 oO 9 (.boxL 9 (.c (.agg [.slice .fit 2 [], .slice .fit 4 []]))),
 oS 9 2 9 25])
 (.seq
 (.block 0
 (.seq
 (.region [
 oM 27 8,
 oO 28 (.nilck (.t 27)),
 oA 29 3 28,
 oG 30 29,
 oM 26 30])
 (.cond (.t 26)
 (.seq
 (.region [
 oO 31 (.build [.slice .fit 2 [], .slice .fit 4 []] []),
 oO 32 (.take 5),
 oM 33 8,
 oO 34 (.nilck (.t 33)),
 oA 35 1 34,
 oG 36 35,
 oO 37 (.iaddr 3 (.t 32) (.t 36)),
 oA 38 2 37,
 oO 39 (.load .imm false 1 (.t 38)),
 oS 2 2 2 31,
 oO 3 (.mv (cI 2)),
 oM 4 39])
 .ret)
 (.seq
 (.region [
 oM 41 8,
 oO 42 (.nilck (.t 41)),
 oA 43 2 42,
 oG 44 43,
 oM 40 44])
 (.cond (.t 40)
 (.seq
 (.region [
 oO 45 (.build [.slice .fit 2 [], .slice .fit 4 []] []),
 oO 46 (.take 5),
 oM 47 8,
 oO 48 (.nilck (.t 47)),
 oA 49 1 48,
 oG 50 49,
 oO 51 (.iaddr 3 (.t 46) (.t 50)),
 oA 52 2 51,
 oO 53 (.load .imm false 1 (.t 52)),
 oS 2 2 2 45,
 oO 3 (.mv (cI 20)),
 oM 4 53])
 .ret)
 (.seq
 (.region [
 oLa 55 9 2 9,
 oO 56 (.callP false (.c (.fn 16 [] [])) [(.t 55)]),
 oO 57 (.un .not (.t 56)),
 oM 54 57])
 (.cond (.t 54)
 (.seq
 (.region [
 oO 58 (.build [.slice .fit 2 [], .slice .fit 4 []] []),
 oS 2 2 2 58,
 oO 3 (.mv (cI 2)),
 oO 4 (.mv (cI 0))])
 .ret)
 .skip)))))))
 (.seq
 (.region [
 oLa 59 9 2 9,
 oS 2 2 2 59,
 oO 3 (.mv (cI 0)),
 oO 4 (.mv (cI 0))])
 .ret)))))))

/-- boxhedge/boxhedgelaw05.Texts -/
def F17 : IFn where
  ntmps := 2
  nargs := 0
  res := [.tmp 0]
  freeze := false
  body :=
 (.seq
 (.region [
 oC 0 (.slice .fit 1 [])])
 (.seq
 (.region [
 oO 1 (.bslice 1 (.str []) 31 [(0, (.c (.str [120, 32, 61, 32, 49, 59]))), (1, (.c (.str [105, 110, 116, 32, 121, 32, 61, 32, 120, 59]))), (2, (.c (.str [98, 111, 111, 108, 32, 98, 32, 61, 32, 120, 32, 60, 32, 50, 59]))), (3, (.c (.str [98, 32, 61, 32, 33, 98, 59]))), (4, (.c (.str [97, 91, 120, 93, 32, 61, 32, 121, 59]))), (5, (.c (.str [105, 102, 32, 40, 98, 41, 32, 123]))), (6, (.c (.str [125, 32, 101, 108, 115, 101, 32, 123]))), (7, (.c (.str [125]))), (8, (.c (.str [119, 104, 105, 108, 101, 32, 40, 120, 32, 60, 32, 51, 41, 32, 123]))), (9, (.c (.str [119, 104, 105, 108, 101, 32, 40, 116, 114, 117, 101, 41, 32, 123]))), (10, (.c (.str [98, 114, 101, 97, 107, 59]))), (11, (.c (.str [99, 111, 110, 116, 105, 110, 117, 101, 59]))), (12, (.c (.str [114, 101, 116, 117, 114, 110, 32, 120, 59]))), (13, (.c (.str [114, 101, 116, 117, 114, 110, 32, 98, 59]))), (14, (.c (.str [112, 114, 105, 110, 116, 40, 120, 32, 43, 32, 97, 91, 48, 93, 41, 59]))), (15, (.c (.str [102, 40, 120, 44, 32, 98, 41, 59]))), (16, (.c (.str [105, 110, 116, 32, 120, 32, 61, 32, 50, 59]))), (17, (.c (.str [120, 32, 61, 32, 102, 40, 49, 44, 32, 116, 114, 117, 101, 41, 59]))), (18, (.c (.str [98, 32, 61, 32, 102, 40, 120, 44, 32, 98, 41, 32, 61, 61, 32, 50, 32, 38, 38, 32, 98, 59]))), (19, (.c (.str [121, 32, 61, 32, 105, 56, 40, 120, 41, 59]))), (20, (.c (.str [98, 32, 61, 32, 120, 59]))), (21, (.c (.str [120, 32, 61, 32, 45, 98, 59]))), (22, (.c (.str [114, 101, 116, 117, 114, 110, 32, 102, 40, 120, 44, 32, 98, 32, 61, 61, 32, 116, 114, 117, 101, 41, 59]))), (23, (.c (.str [122, 32, 61, 32, 49, 59]))), (24, (.c (.str [99, 91, 48, 93, 32, 61, 32, 49, 59]))), (25, (.c (.str [104, 40, 41, 59]))), (26, (.c (.str [120, 32, 61, 32, 114, 101, 97, 100, 40, 41, 59]))), (27, (.c (.str [123]))), (28, (.c (.str [114, 101, 116, 117, 114, 110, 32, 48, 59]))), (29, (.c (.str [112, 114, 105, 110, 116, 40, 116, 114, 117, 101, 41, 59]))), (30, (.c (.str [98, 32, 61, 32, 116, 114, 117, 101, 32, 33, 61, 32, 40, 120, 32, 62, 32, 49, 41, 59])))]),
 oO 0 (.take 1)])
 .ret))

def L7_0 : ICode := .loop [0, 1, 5, 6, 7] []
 (.seq
 (.seq
 (.region [
 oM 9 7,
 oM 10 0,
 oO 11 (.len 1 (.t 10)),
 oB 12 .lss (.t 9) (.t 11),
 oM 13 12,
 oT 13 14 (.mv (.t 7)),
 oT 13 15 (.bin 0 [] .lss (.t 14) (cI 14)),
 oO 16 (.pick (.t 13) (.t 15) (.c (.bool false)))])
 (.cond (.t 16)
 .skip
 (.exit 0)))
 (.seq
 (.block 1
 (.region [
 oM 19 5,
 oM 20 6,
 oM 21 0,
 oM 22 7,
 oO 23 (.iaddr 1 (.t 21) (.t 22)),
 oG 24 23,
 oO 25 (.conv .i64 (.t 24)),
 oM 26 6,
 oO 27 (.len 1 (.t 26)),
 oB 28 .rem (.t 25) (.t 27),
 oO 29 (.iaddr 1 (.t 20) (.t 28)),
 oG 30 29,
 oB 31 .add (.t 19) (.t 30),
 oB 32 .add (.t 31) (.c (.str [10])),
 oM 5 32]))
 (.region [
 oM 17 7,
 oB 18 .add (.t 17) (cI 1),
 oM 7 18])))
abbrev K7_0 : List Nat := [0, 1, 6]
abbrev B7_0 : List Nat := []
/-- boxhedge/boxhedgelaw05.Body -/
def F7 : IFn where
  ntmps := 38
  nargs := 2
  res := [.tmp 4]
  freeze := false
  body :=
 (.seq
 (.region [
 oC 4 (.str [])])
 (.seq
 (.region [
 oC 5 (.str [105, 110, 116, 32, 97, 91, 52, 93, 59, 10, 105, 110, 116, 32, 102, 40, 105, 110, 116, 32, 120, 44, 32, 98, 111, 111, 108, 32, 98, 41, 32, 123, 10])])
 (.seq
 (.region [
 oO 8 (.callP false (.c (.fn 17 [] [])) []),
 oO 6 (.take 8)])
 (.seq
 (.seq
 (.region [
 oO 7 (.mv (cI 0))])
 (.block 0
 L7_0))
 (.seq
 (.seq
 (.region [
 oM 33 1])
 (.cond (.t 33)
 (.region [
 oM 34 5,
 oB 35 .add (.t 34) (.c (.str [114, 101, 116, 117, 114, 110, 32, 49, 59, 10])),
 oM 5 35])
 .skip))
 (.seq
 (.region [
 oM 36 5,
 oB 37 .add (.t 36) (.c (.str [125, 10, 105, 110, 116, 32, 109, 97, 105, 110, 40, 41, 32, 123, 32, 114, 101, 116, 117, 114, 110, 32, 102, 40, 49, 44, 32, 116, 114, 117, 101, 41, 59, 32, 125, 10])),
 oM 4 37])
 .ret))))))

def L64_0 : ICode := .loop [0, 1, 7, 8] []
 (.seq
 (.region [
 oB 9 .lss (.t 8) (.t 7)])
 (.seq
 (.cond (.t 9)
 .skip
 (.exit 0))
 (.seq
 (.block 1
 (.seq
 (.region [
 oM 10 8,
 oM 5 10])
 (.seq
 (.region [
 oM 11 1,
 oM 12 0,
 oM 13 5,
 oO 14 (.iaddr 6 (.t 12) (.t 13)),
 oO 15 (.load .any true 6 (.t 14)),
 oO 16 (.call false (.t 11) [(.t 15)])])
 (.cond (.t 16)
 (.seq
 (.region [
 oM 17 5,
 oM 4 17])
 .ret)
 .skip))))
 (.region [
 oB 18 .add (.t 8) (cI 1),
 oM 8 18]))))
abbrev K64_0 : List Nat := [0, 1, 7]
abbrev B64_0 : List Nat := []
/-- slices.IndexFunc[[]boxhedge/api.Stmt,boxhedge/api.Stmt] -/
def F64 : IFn where
  ntmps := 19
  nargs := 2
  res := [.tmp 4]
  freeze := false
  body :=
 (.seq
 (.region [
 oO 4 (.mv (cI 0))])
 (.seq
 (.seq
 (.region [
 oM 6 0,
 oO 7 (.len 1 (.t 6)),
 oO 8 (.mv (cI 0))])
 (.block 0
 L64_0))
 (.seq
 (.region [
 oO 4 (.mv (cI (-1)))])
 .ret)))

/-- slices.ContainsFunc[[]boxhedge/api.Stmt,boxhedge/api.Stmt] -/
def F28 : IFn where
  ntmps := 9
  nargs := 2
  res := [.tmp 4]
  freeze := false
  body :=
 (.seq
 (.region [
 oC 4 (.bool false)])
 (.seq
 (.region [
 oO 5 (.take 0),
 oM 6 1,
 oO 7 (.call false (.c (.fn 64 [] [])) [(.t 5), (.t 6)]),
 oB 8 .geq (.t 7) (cI 0),
 oM 4 8])
 .ret))

/-- boxhedge/types.leaves$1 -/
def F65 : IFn where
  ntmps := 21
  nargs := 1
  res := [.tmp 2]
  freeze := false
  body :=
 (.seq
 (.region [
 oO 1 (.boxL 1 (.t 0)),
 oC 2 (.bool false)])
 (.seq
 (.region [
 oA 3 0 1,
 oL 4 1 3,
 oB 5 .eql (.t 4) (cI 6),
 oM 6 5,
 oF 6 7 (.faddr 0 (.t 1)),
 oF 6 8 (.load (.box 1) false 1 (.t 7)),
 oF 6 9 (.bin 0 [] .eql (.t 8) (cI 4)),
 oF 6 10 (.mv (.t 9)),
 oT 10 11 (.faddr 4 (.t 1)),
 oT 10 12 (.load (.box 1) false 1 (.t 11)),
 oT 10 13 (.callP false (.c (.fn 30 [] [])) [(.t 12)]),
 oT 10 14 (.mv (.t 13)),
 oF 14 15 (.faddr 5 (.t 1)),
 oF 14 16 (.load (.box 1) false 1 (.t 15)),
 oF 14 17 (.callP false (.c (.fn 30 [] [])) [(.t 16)]),
 oT 10 18 (.pick (.t 14) (.c (.bool true)) (.t 17)),
 oF 6 19 (.pick (.t 10) (.t 18) (.c (.bool false))),
 oO 20 (.pick (.t 6) (.c (.bool true)) (.t 19)),
 oM 2 20])
 .ret))

/-- boxhedge/types.leaves -/
def F30 : IFn where
  ntmps := 5
  nargs := 1
  res := [.tmp 2]
  freeze := false
  body :=
 (.seq
 (.region [
 oC 2 (.bool false)])
 (.seq
 (.region [
 oO 3 (.take 0),
 oO 4 (.call false (.c (.fn 28 [] [])) [(.t 3), (.c (.fn 65 [] []))]),
 oM 2 4])
 .ret))

/-- boxhedge/types.Ends$1 -/
def F29 : IFn where
  ntmps := 39
  nargs := 1
  res := [.tmp 2]
  freeze := false
  body :=
 (.seq
 (.region [
 oO 1 (.boxL 1 (.t 0)),
 oC 2 (.bool false)])
 (.seq
 (.seq
 (.region [
 oA 3 0 1,
 oL 4 1 3])
 (.block 0
 (.seq
 (.region [
 oB 6 .eql (.t 4) (cI 8),
 oM 5 6])
 (.cond (.t 5)
 (.seq
 (.region [
 oC 2 (.bool true)])
 .ret)
 (.seq
 (.region [
 oB 8 .eql (.t 4) (cI 4),
 oM 7 8])
 (.cond (.t 7)
 (.seq
 (.region [
 oA 9 4 1,
 oL 10 1 9,
 oO 11 (.callP false (.c (.fn 11 [] [])) [(.t 10)]),
 oM 12 11,
 oT 12 13 (.faddr 5 (.t 1)),
 oT 12 14 (.load (.box 1) false 1 (.t 13)),
 oT 12 15 (.callP false (.c (.fn 11 [] [])) [(.t 14)]),
 oO 16 (.pick (.t 12) (.t 15) (.c (.bool false))),
 oM 2 16])
 .ret)
 (.seq
 (.region [
 oB 18 .eql (.t 4) (cI 5),
 oM 17 18])
 (.cond (.t 17)
 (.seq
 (.region [
 oA 19 3 1,
 oL 20 1 19,
 oO 21 (.iaddr 5 (.t 20) (cI 0)),
 oA 22 0 21,
 oG 23 22,
 oB 24 .eql (.t 23) (cI 2),
 oM 25 24,
 oT 25 26 (.faddr 3 (.t 1)),
 oT 25 27 (.load (.box 1) false 1 (.t 26)),
 oT 25 28 (.iaddr 5 (.t 27) (cI 0)),
 oT 25 29 (.faddr 2 (.t 28)),
 oT 25 30 (.load .any false 1 (.t 29)),
 oT 25 31 (.bin 0 [] .eql (.t 30) (cI 1)),
 oO 32 (.pick (.t 25) (.t 31) (.c (.bool false))),
 oM 33 32,
 oT 33 34 (.faddr 4 (.t 1)),
 oT 33 35 (.load (.box 1) false 1 (.t 34)),
 oT 33 36 (.callP false (.c (.fn 30 [] [])) [(.t 35)]),
 oT 33 37 (.un .not (.t 36)),
 oO 38 (.pick (.t 33) (.t 37) (.c (.bool false))),
 oM 2 38])
 .ret)
 .skip))))))))
 (.seq
 (.region [
 oC 2 (.bool false)])
 .ret)))

/-- boxhedge/types.Ends -/
def F11 : IFn where
  ntmps := 5
  nargs := 1
  res := [.tmp 2]
  freeze := false
  body :=
 (.seq
 (.region [
 oC 2 (.bool false)])
 (.seq
 (.region [
 oO 3 (.take 0),
 oO 4 (.call false (.c (.fn 28 [] [])) [(.t 3), (.c (.fn 29 [] []))]),
 oM 2 4])
 .ret))

/-- boxhedge/token.letter -/
def F72 : IFn where
  ntmps := 21
  nargs := 1
  res := [.tmp 2]
  freeze := false
  body :=
 (.seq
 (.region [
 oC 2 (.bool false)])
 (.seq
 (.region [
 oM 3 0,
 oB 4 .geq (.t 3) (.c (.int .i32 97)),
 oM 5 4,
 oT 5 6 (.mv (.t 0)),
 oT 5 7 (.bin 0 [] .leq (.t 6) (.c (.int .i32 122))),
 oO 8 (.pick (.t 5) (.t 7) (.c (.bool false))),
 oM 9 8,
 oF 9 10 (.mv (.t 0)),
 oF 9 11 (.bin 0 [] .geq (.t 10) (.c (.int .i32 65))),
 oF 9 12 (.mv (.t 11)),
 oT 12 13 (.mv (.t 0)),
 oT 12 14 (.bin 0 [] .leq (.t 13) (.c (.int .i32 90))),
 oF 9 15 (.pick (.t 12) (.t 14) (.c (.bool false))),
 oO 16 (.pick (.t 9) (.c (.bool true)) (.t 15)),
 oM 17 16,
 oF 17 18 (.mv (.t 0)),
 oF 17 19 (.bin 0 [] .eql (.t 18) (.c (.int .i32 95))),
 oO 20 (.pick (.t 17) (.c (.bool true)) (.t 19)),
 oM 2 20])
 .ret))

/-- boxhedge/token.digit -/
def F89 : IFn where
  ntmps := 9
  nargs := 1
  res := [.tmp 2]
  freeze := false
  body :=
 (.seq
 (.region [
 oC 2 (.bool false)])
 (.seq
 (.region [
 oM 3 0,
 oB 4 .geq (.t 3) (.c (.int .i32 48)),
 oM 5 4,
 oT 5 6 (.mv (.t 0)),
 oT 5 7 (.bin 0 [] .leq (.t 6) (.c (.int .i32 57))),
 oO 8 (.pick (.t 5) (.t 7) (.c (.bool false))),
 oM 2 8])
 .ret))

def L73_0 : ICode := .loop [0, 6] []
 (.seq
 (.region [
 oO 7 (.next 6 (.t 6)),
 oX 8 7 0])
 (.seq
 (.cond (.t 8)
 .skip
 (.exit 0))
 (.block 1
 (.seq
 (.region [
 oX 9 7 1,
 oX 10 7 2,
 oM 3 9,
 oM 4 10])
 (.seq
 (.region [
 oM 11 4,
 oO 12 (.callP false (.c (.fn 72 [] [])) [(.t 11)]),
 oO 13 (.un .not (.t 12)),
 oM 14 13,
 oT 14 15 (.mv (.t 4)),
 oT 14 16 (.callP false (.c (.fn 89 [] [])) [(.t 15)]),
 oT 14 17 (.un .not (.t 16)),
 oO 18 (.pick (.t 14) (.t 17) (.c (.bool false)))])
 (.cond (.t 18)
 (.seq
 (.region [
 oM 19 0,
 oM 20 3,
 oO 21 (.slc true 0 (.t 19) none (some (.t 20)) none),
 oM 2 21])
 .ret)
 .skip))))))
abbrev K73_0 : List Nat := [0, 6]
abbrev B73_0 : List Nat := []
/-- boxhedge/token.run -/
def F73 : IFn where
  ntmps := 23
  nargs := 1
  res := [.tmp 2]
  freeze := false
  body :=
 (.seq
 (.region [
 oC 2 (.str [])])
 (.seq
 (.seq
 (.region [
 oM 5 0,
 oO 6 (.rng 6 (.t 5))])
 (.block 0
 L73_0))
 (.seq
 (.region [
 oM 22 0,
 oM 2 22])
 .ret)))

/-- boxhedge/token.Word -/
def F74 : IFn where
  ntmps := 23
  nargs := 1
  res := [.tmp 2]
  freeze := false
  body :=
 (.seq
 (.region [
 oC 2 (.bool false)])
 (.seq
 (.seq
 (.region [
 oM 3 0])
 (.block 0
 (.seq
 (.seq
 (.region [
 oB 5 .eql (.t 3) (.c (.str [105, 110, 116])),
 oM 4 5])
 (.cond (.t 4)
 .skip
 (.seq
 (.region [
 oB 6 .eql (.t 3) (.c (.str [98, 111, 111, 108])),
 oM 4 6])
 (.cond (.t 4)
 .skip
 (.seq
 (.region [
 oB 7 .eql (.t 3) (.c (.str [105, 102])),
 oM 4 7])
 (.cond (.t 4)
 .skip
 (.seq
 (.region [
 oB 8 .eql (.t 3) (.c (.str [101, 108, 115, 101])),
 oM 4 8])
 (.cond (.t 4)
 .skip
 (.seq
 (.region [
 oB 9 .eql (.t 3) (.c (.str [119, 104, 105, 108, 101])),
 oM 4 9])
 (.cond (.t 4)
 .skip
 (.seq
 (.region [
 oB 10 .eql (.t 3) (.c (.str [98, 114, 101, 97, 107])),
 oM 4 10])
 (.cond (.t 4)
 .skip
 (.seq
 (.region [
 oB 11 .eql (.t 3) (.c (.str [99, 111, 110, 116, 105, 110, 117, 101])),
 oM 4 11])
 (.cond (.t 4)
 .skip
 (.seq
 (.region [
 oB 12 .eql (.t 3) (.c (.str [114, 101, 116, 117, 114, 110])),
 oM 4 12])
 (.cond (.t 4)
 .skip
 (.seq
 (.region [
 oB 13 .eql (.t 3) (.c (.str [112, 114, 105, 110, 116])),
 oM 4 13])
 (.cond (.t 4)
 .skip
 (.seq
 (.region [
 oB 14 .eql (.t 3) (.c (.str [114, 101, 97, 100])),
 oM 4 14])
 (.cond (.t 4)
 .skip
 (.seq
 (.region [
 oB 15 .eql (.t 3) (.c (.str [116, 114, 117, 101])),
 oM 4 15])
 (.cond (.t 4)
 .skip
 (.seq
 (.region [
 oB 16 .eql (.t 3) (.c (.str [102, 97, 108, 115, 101])),
 oM 4 16])
 (.cond (.t 4)
 .skip
 (.seq
 (.region [
 oB 17 .eql (.t 3) (.c (.str [105, 56])),
 oM 4 17])
 (.cond (.t 4)
 .skip
 (.seq
 (.region [
 oB 18 .eql (.t 3) (.c (.str [105, 49, 54])),
 oM 4 18])
 (.cond (.t 4)
 .skip
 (.seq
 (.region [
 oB 19 .eql (.t 3) (.c (.str [105, 51, 50])),
 oM 4 19])
 (.cond (.t 4)
 .skip
 (.seq
 (.region [
 oB 20 .eql (.t 3) (.c (.str [117, 56])),
 oM 4 20])
 (.cond (.t 4)
 .skip
 (.seq
 (.region [
 oB 21 .eql (.t 3) (.c (.str [117, 49, 54])),
 oM 4 21])
 (.cond (.t 4)
 .skip
 (.region [
 oB 22 .eql (.t 3) (.c (.str [117, 51, 50])),
 oM 4 22])))))))))))))))))))))))))))))))))))
 (.cond (.t 4)
 (.seq
 (.region [
 oC 2 (.bool true)])
 .ret)
 .skip))))
 (.seq
 (.region [
 oC 2 (.bool false)])
 .ret)))

/-- boxhedge/token.Name -/
def F54 : IFn where
  ntmps := 27
  nargs := 1
  res := [.tmp 2]
  freeze := false
  body :=
 (.seq
 (.region [
 oC 2 (.bool false)])
 (.seq
 (.region [
 oM 3 0,
 oB 4 .neq (.t 3) (.c (.str [])),
 oM 5 4,
 oT 5 6 (.mv (.t 0)),
 oT 5 7 (.idxS (.t 6) (cI 0)),
 oT 5 8 (.conv .i32 (.t 7)),
 oT 5 9 (.callP false (.c (.fn 72 [] [])) [(.t 8)]),
 oO 10 (.pick (.t 5) (.t 9) (.c (.bool false))),
 oM 11 10,
 oT 11 12 (.mv (.t 0)),
 oT 11 13 (.callP false (.c (.fn 73 [] [])) [(.t 12)]),
 oT 11 14 (.mv (.t 0)),
 oT 11 15 (.bin 0 [] .eql (.t 13) (.t 14)),
 oO 16 (.pick (.t 11) (.t 15) (.c (.bool false))),
 oM 17 16,
 oT 17 18 (.mv (.t 0)),
 oT 17 19 (.len 0 (.t 18)),
 oT 17 20 (.bin 0 [] .leq (.t 19) (cI 20)),
 oO 21 (.pick (.t 17) (.t 20) (.c (.bool false))),
 oM 22 21,
 oT 22 23 (.mv (.t 0)),
 oT 22 24 (.callP false (.c (.fn 74 [] [])) [(.t 23)]),
 oT 22 25 (.un .not (.t 24)),
 oO 26 (.pick (.t 22) (.t 25) (.c (.bool false))),
 oM 2 26])
 .ret))

/-- boxhedge/tree.Right$1 -/
def F53 : IFn where
  ntmps := 17
  nargs := 1
  res := [.tmp 2]
  freeze := false
  body :=
 (.seq
 (.region [
 oO 1 (.boxL 1 (.t 0)),
 oC 2 (.bool false)])
 (.seq
 (.region [
 oA 3 0 1,
 oL 4 1 3,
 oO 5 (.callP false (.c (.fn 54 [] [])) [(.t 4)]),
 oO 6 (.un .not (.t 5)),
 oM 7 6,
 oF 7 8 (.faddr 1 (.t 1)),
 oF 7 9 (.load (.box 1) false 1 (.t 8)),
 oF 7 10 (.bin 0 [] .lss (.t 9) (cI 1)),
 oO 11 (.pick (.t 7) (.c (.bool true)) (.t 10)),
 oM 12 11,
 oF 12 13 (.faddr 1 (.t 1)),
 oF 12 14 (.load (.box 1) false 1 (.t 13)),
 oF 12 15 (.bin 0 [] .gtr (.t 14) (cI 1000)),
 oO 16 (.pick (.t 12) (.c (.bool true)) (.t 15)),
 oM 2 16])
 .ret))

def L51_0 : ICode := .loop [0, 1, 7, 8] []
 (.seq
 (.region [
 oB 9 .lss (.t 8) (.t 7)])
 (.seq
 (.cond (.t 9)
 .skip
 (.exit 0))
 (.seq
 (.block 1
 (.seq
 (.region [
 oM 10 8,
 oM 5 10])
 (.seq
 (.region [
 oM 11 1,
 oM 12 0,
 oM 13 5,
 oO 14 (.iaddr 2 (.t 12) (.t 13)),
 oO 15 (.load .any true 2 (.t 14)),
 oO 16 (.call false (.t 11) [(.t 15)])])
 (.cond (.t 16)
 (.seq
 (.region [
 oM 17 5,
 oM 4 17])
 .ret)
 .skip))))
 (.region [
 oB 18 .add (.t 8) (cI 1),
 oM 8 18]))))
abbrev K51_0 : List Nat := [0, 1, 7]
abbrev B51_0 : List Nat := []
/-- slices.IndexFunc[[]boxhedge/api.Array,boxhedge/api.Array] -/
def F51 : IFn where
  ntmps := 19
  nargs := 2
  res := [.tmp 4]
  freeze := false
  body :=
 (.seq
 (.region [
 oO 4 (.mv (cI 0))])
 (.seq
 (.seq
 (.region [
 oM 6 0,
 oO 7 (.len 1 (.t 6)),
 oO 8 (.mv (cI 0))])
 (.block 0
 L51_0))
 (.seq
 (.region [
 oO 4 (.mv (cI (-1)))])
 .ret)))

/-- slices.ContainsFunc[[]boxhedge/api.Array,boxhedge/api.Array] -/
def F55 : IFn where
  ntmps := 9
  nargs := 2
  res := [.tmp 4]
  freeze := false
  body :=
 (.seq
 (.region [
 oC 4 (.bool false)])
 (.seq
 (.region [
 oO 5 (.take 0),
 oM 6 1,
 oO 7 (.call false (.c (.fn 51 [] [])) [(.t 5), (.t 6)]),
 oB 8 .geq (.t 7) (cI 0),
 oM 4 8])
 .ret))

def L49_0 : ICode := .loop [0, 1, 7, 8] []
 (.seq
 (.region [
 oB 9 .lss (.t 8) (.t 7)])
 (.seq
 (.cond (.t 9)
 .skip
 (.exit 0))
 (.seq
 (.block 1
 (.seq
 (.region [
 oM 10 8,
 oM 5 10])
 (.seq
 (.region [
 oM 11 1,
 oM 12 0,
 oM 13 5,
 oO 14 (.iaddr 4 (.t 12) (.t 13)),
 oO 15 (.load .any true 4 (.t 14)),
 oO 16 (.call false (.t 11) [(.t 15)])])
 (.cond (.t 16)
 (.seq
 (.region [
 oM 17 5,
 oM 4 17])
 .ret)
 .skip))))
 (.region [
 oB 18 .add (.t 8) (cI 1),
 oM 8 18]))))
abbrev K49_0 : List Nat := [0, 1, 7]
abbrev B49_0 : List Nat := []
/-- slices.IndexFunc[[]boxhedge/api.Func,boxhedge/api.Func] -/
def F49 : IFn where
  ntmps := 19
  nargs := 2
  res := [.tmp 4]
  freeze := false
  body :=
 (.seq
 (.region [
 oO 4 (.mv (cI 0))])
 (.seq
 (.seq
 (.region [
 oM 6 0,
 oO 7 (.len 1 (.t 6)),
 oO 8 (.mv (cI 0))])
 (.block 0
 L49_0))
 (.seq
 (.region [
 oO 4 (.mv (cI (-1)))])
 .ret)))

/-- slices.ContainsFunc[[]boxhedge/api.Func,boxhedge/api.Func] -/
def F56 : IFn where
  ntmps := 9
  nargs := 2
  res := [.tmp 4]
  freeze := false
  body :=
 (.seq
 (.region [
 oC 4 (.bool false)])
 (.seq
 (.region [
 oO 5 (.take 0),
 oM 6 1,
 oO 7 (.call false (.c (.fn 49 [] [])) [(.t 5), (.t 6)]),
 oB 8 .geq (.t 7) (cI 0),
 oM 4 8])
 .ret))

/-- boxhedge/tree.isType -/
def F76 : IFn where
  ntmps := 9
  nargs := 1
  res := [.tmp 2]
  freeze := false
  body :=
 (.seq
 (.region [
 oC 2 (.bool false)])
 (.seq
 (.region [
 oM 3 0,
 oB 4 .eql (.t 3) (cI 1),
 oM 5 4,
 oF 5 6 (.mv (.t 0)),
 oF 5 7 (.bin 0 [] .eql (.t 6) (cI 2)),
 oO 8 (.pick (.t 5) (.c (.bool true)) (.t 7)),
 oM 2 8])
 .ret))

/-- boxhedge/tree.function$1 -/
def F75 : IFn where
  ntmps := 13
  nargs := 1
  res := [.tmp 2]
  freeze := false
  body :=
 (.seq
 (.region [
 oO 1 (.boxL 1 (.t 0)),
 oC 2 (.bool false)])
 (.seq
 (.region [
 oA 3 0 1,
 oL 4 1 3,
 oO 5 (.callP false (.c (.fn 54 [] [])) [(.t 4)]),
 oO 6 (.un .not (.t 5)),
 oM 7 6,
 oF 7 8 (.faddr 1 (.t 1)),
 oF 7 9 (.load (.box 1) false 1 (.t 8)),
 oF 7 10 (.callP false (.c (.fn 76 [] [])) [(.t 9)]),
 oF 7 11 (.un .not (.t 10)),
 oO 12 (.pick (.t 7) (.c (.bool true)) (.t 11)),
 oM 2 12])
 .ret))

def L90_0 : ICode := .loop [0, 1, 7, 8] []
 (.seq
 (.region [
 oB 9 .lss (.t 8) (.t 7)])
 (.seq
 (.cond (.t 9)
 .skip
 (.exit 0))
 (.seq
 (.block 1
 (.seq
 (.region [
 oM 10 8,
 oM 5 10])
 (.seq
 (.region [
 oM 11 1,
 oM 12 0,
 oM 13 5,
 oO 14 (.iaddr 2 (.t 12) (.t 13)),
 oO 15 (.load .any true 2 (.t 14)),
 oO 16 (.call false (.t 11) [(.t 15)])])
 (.cond (.t 16)
 (.seq
 (.region [
 oM 17 5,
 oM 4 17])
 .ret)
 .skip))))
 (.region [
 oB 18 .add (.t 8) (cI 1),
 oM 8 18]))))
abbrev K90_0 : List Nat := [0, 1, 7]
abbrev B90_0 : List Nat := []
/-- slices.IndexFunc[[]boxhedge/api.Param,boxhedge/api.Param] -/
def F90 : IFn where
  ntmps := 19
  nargs := 2
  res := [.tmp 4]
  freeze := false
  body :=
 (.seq
 (.region [
 oO 4 (.mv (cI 0))])
 (.seq
 (.seq
 (.region [
 oM 6 0,
 oO 7 (.len 1 (.t 6)),
 oO 8 (.mv (cI 0))])
 (.block 0
 L90_0))
 (.seq
 (.region [
 oO 4 (.mv (cI (-1)))])
 .ret)))

/-- slices.ContainsFunc[[]boxhedge/api.Param,boxhedge/api.Param] -/
def F77 : IFn where
  ntmps := 9
  nargs := 2
  res := [.tmp 4]
  freeze := false
  body :=
 (.seq
 (.region [
 oC 4 (.bool false)])
 (.seq
 (.region [
 oO 5 (.take 0),
 oM 6 1,
 oO 7 (.call false (.c (.fn 90 [] [])) [(.t 5), (.t 6)]),
 oB 8 .geq (.t 7) (cI 0),
 oM 4 8])
 .ret))

/-- boxhedge/tree.shapes -/
def F100 : IFn where
  ntmps := 15
  nargs := 0
  res := [.tmp 0]
  freeze := false
  body :=
 (.seq
 (.region [
 oC 0 (.nilmap)])
 (.seq
 (.region [
 oO 2 (.build [.bool false, .bool false, .int .i64 0, .bool false, .bool false] [(2, 1, (cI 1))]),
 oO 1 (.boxL 1 (.c (.agg [.bool false, .bool false, .int .i64 0, .bool false, .bool false]))),
 oS 1 5 1 2])
 (.seq
 (.region [
 oO 3 (.mkmap),
 oO 4 (.build [.bool false, .bool false, .int .i64 0, .bool false, .bool false] [(0, 1, (.c (.bool true))), (1, 1, (.c (.bool true))), (2, 1, (cI 1))]),
 oN (.mapset false (.t 3) (cI 1) (.t 4)),
 oO 5 (.build [.bool false, .bool false, .int .i64 0, .bool false, .bool false] [(1, 1, (.c (.bool true))), (2, 1, (cI 1))]),
 oN (.mapset false (.t 3) (cI 2) (.t 5)),
 oO 6 (.build [.bool false, .bool false, .int .i64 0, .bool false, .bool false] [(1, 1, (.c (.bool true))), (2, 1, (cI 2))]),
 oN (.mapset false (.t 3) (cI 3) (.t 6)),
 oO 7 (.build [.bool false, .bool false, .int .i64 0, .bool false, .bool false] [(2, 1, (cI 1)), (3, 1, (.c (.bool true))), (4, 1, (.c (.bool true)))]),
 oN (.mapset false (.t 3) (cI 4) (.t 7)),
 oO 8 (.build [.bool false, .bool false, .int .i64 0, .bool false, .bool false] [(2, 1, (cI 1)), (3, 1, (.c (.bool true)))]),
 oN (.mapset false (.t 3) (cI 5) (.t 8)),
 oO 9 (.build [.bool false, .bool false, .int .i64 0, .bool false, .bool false] []),
 oN (.mapset false (.t 3) (cI 6) (.t 9)),
 oO 10 (.build [.bool false, .bool false, .int .i64 0, .bool false, .bool false] []),
 oN (.mapset false (.t 3) (cI 7) (.t 10)),
 oLa 11 1 5 1,
 oN (.mapset false (.t 3) (cI 8) (.t 11)),
 oLa 12 1 5 1,
 oN (.mapset false (.t 3) (cI 9) (.t 12)),
 oLa 13 1 5 1,
 oN (.mapset false (.t 3) (cI 10) (.t 13)),
 oM 14 3,
 oM 0 14])
 .ret)))

def L107_0 : ICode := .loop [0, 1, 7, 8] []
 (.seq
 (.region [
 oB 9 .lss (.t 8) (.t 7)])
 (.seq
 (.cond (.t 9)
 .skip
 (.exit 0))
 (.seq
 (.block 1
 (.seq
 (.region [
 oM 10 8,
 oM 5 10])
 (.seq
 (.region [
 oM 11 1,
 oM 12 0,
 oM 13 5,
 oO 14 (.iaddr 5 (.t 12) (.t 13)),
 oO 15 (.load .any true 5 (.t 14)),
 oO 16 (.call false (.t 11) [(.t 15)])])
 (.cond (.t 16)
 (.seq
 (.region [
 oM 17 5,
 oM 4 17])
 .ret)
 .skip))))
 (.region [
 oB 18 .add (.t 8) (cI 1),
 oM 8 18]))))
abbrev K107_0 : List Nat := [0, 1, 7]
abbrev B107_0 : List Nat := []
/-- slices.IndexFunc[[]boxhedge/api.Expr,boxhedge/api.Expr] -/
def F107 : IFn where
  ntmps := 19
  nargs := 2
  res := [.tmp 4]
  freeze := false
  body :=
 (.seq
 (.region [
 oO 4 (.mv (cI 0))])
 (.seq
 (.seq
 (.region [
 oM 6 0,
 oO 7 (.len 1 (.t 6)),
 oO 8 (.mv (cI 0))])
 (.block 0
 L107_0))
 (.seq
 (.region [
 oO 4 (.mv (cI (-1)))])
 .ret)))

/-- slices.ContainsFunc[[]boxhedge/api.Expr,boxhedge/api.Expr] -/
def F101 : IFn where
  ntmps := 9
  nargs := 2
  res := [.tmp 4]
  freeze := false
  body :=
 (.seq
 (.region [
 oC 4 (.bool false)])
 (.seq
 (.region [
 oO 5 (.take 0),
 oM 6 1,
 oO 7 (.call false (.c (.fn 107 [] [])) [(.t 5), (.t 6)]),
 oB 8 .geq (.t 7) (cI 0),
 oM 4 8])
 .ret))

/-- boxhedge/tree.blank -/
def F112 : IFn where
  ntmps := 22
  nargs := 1
  res := [.tmp 2]
  freeze := false
  body :=
 (.seq
 (.region [
 oO 1 (.boxL 1 (.t 0)),
 oC 2 (.bool false)])
 (.seq
 (.region [
 oA 3 1 1,
 oL 4 1 3,
 oB 5 .eql (.t 4) (cI 0),
 oM 6 5,
 oT 6 7 (.faddr 2 (.t 1)),
 oT 6 8 (.load (.box 1) false 1 (.t 7)),
 oT 6 9 (.bin 0 [] .eql (.t 8) (cI 0)),
 oO 10 (.pick (.t 6) (.t 9) (.c (.bool false))),
 oM 11 10,
 oT 11 12 (.faddr 3 (.t 1)),
 oT 11 13 (.load (.box 1) false 1 (.t 12)),
 oT 11 14 (.bin 0 [] .eql (.t 13) (.c (.str []))),
 oO 15 (.pick (.t 11) (.t 14) (.c (.bool false))),
 oM 16 15,
 oT 16 17 (.faddr 4 (.t 1)),
 oT 16 18 (.load (.box 1) false 1 (.t 17)),
 oT 16 19 (.len 1 (.t 18)),
 oT 16 20 (.bin 0 [] .eql (.t 19) (cI 0)),
 oO 21 (.pick (.t 16) (.t 20) (.c (.bool false))),
 oM 2 21])
 .ret))

/-- boxhedge/wrap.rowOf -/
def F115 : IFn where
  ntmps := 43
  nargs := 1
  res := [.cell 2 true 2]
  freeze := false
  body :=
 (.seq
 (.region [
 oO 2 (.boxL 2 (.c (.agg [.str [], .int .i64 0])))])
 (.seq
 (.region [
 oO 4 (.build [.str [], .int .i64 0] [(0, 1, (.c (.str [43]))), (1, 1, (cI 9))]),
 oO 5 (.build [.str [], .int .i64 0] [(0, 1, (.c (.str [45]))), (1, 1, (cI 9))]),
 oO 6 (.build [.str [], .int .i64 0] [(0, 1, (.c (.str [42]))), (1, 1, (cI 10))]),
 oO 7 (.build [.str [], .int .i64 0] [(0, 1, (.c (.str [47]))), (1, 1, (cI 10))]),
 oO 8 (.build [.str [], .int .i64 0] [(0, 1, (.c (.str [37]))), (1, 1, (cI 10))]),
 oO 9 (.build [.str [], .int .i64 0] [(0, 1, (.c (.str [38]))), (1, 1, (cI 5))]),
 oO 10 (.build [.str [], .int .i64 0] [(0, 1, (.c (.str [124]))), (1, 1, (cI 3))]),
 oO 11 (.build [.str [], .int .i64 0] [(0, 1, (.c (.str [94]))), (1, 1, (cI 4))]),
 oO 12 (.build [.str [], .int .i64 0] [(0, 1, (.c (.str [60, 60]))), (1, 1, (cI 8))]),
 oO 13 (.build [.str [], .int .i64 0] [(0, 1, (.c (.str [62, 62]))), (1, 1, (cI 8))]),
 oO 14 (.build [.str [], .int .i64 0] [(0, 1, (.c (.str [62, 62, 62]))), (1, 1, (cI 8))]),
 oO 15 (.build [.str [], .int .i64 0] [(0, 1, (.c (.str [60]))), (1, 1, (cI 7))]),
 oO 16 (.build [.str [], .int .i64 0] [(0, 1, (.c (.str [60, 61]))), (1, 1, (cI 7))]),
 oO 17 (.build [.str [], .int .i64 0] [(0, 1, (.c (.str [62]))), (1, 1, (cI 7))]),
 oO 18 (.build [.str [], .int .i64 0] [(0, 1, (.c (.str [62, 61]))), (1, 1, (cI 7))]),
 oO 19 (.build [.str [], .int .i64 0] [(0, 1, (.c (.str [61, 61]))), (1, 1, (cI 6))]),
 oO 20 (.build [.str [], .int .i64 0] [(0, 1, (.c (.str [33, 61]))), (1, 1, (cI 6))]),
 oO 21 (.build [.str [], .int .i64 0] [(0, 1, (.c (.str [38, 38]))), (1, 1, (cI 2))]),
 oO 22 (.build [.str [], .int .i64 0] [(0, 1, (.c (.str [124, 124]))), (1, 1, (cI 1))]),
 oO 23 (.build [.str [], .int .i64 0] [(0, 1, (.c (.str [45]))), (1, 1, (cI 0))]),
 oO 24 (.build [.str [], .int .i64 0] [(0, 1, (.c (.str [126]))), (1, 1, (cI 0))]),
 oO 25 (.build [.str [], .int .i64 0] [(0, 1, (.c (.str [33]))), (1, 1, (cI 0))]),
 oO 26 (.build [.str [], .int .i64 0] [(0, 1, (.c (.str [105, 56]))), (1, 1, (cI 0))]),
 oO 27 (.build [.str [], .int .i64 0] [(0, 1, (.c (.str [105, 49, 54]))), (1, 1, (cI 0))]),
 oO 28 (.build [.str [], .int .i64 0] [(0, 1, (.c (.str [105, 51, 50]))), (1, 1, (cI 0))]),
 oO 29 (.build [.str [], .int .i64 0] [(0, 1, (.c (.str [117, 56]))), (1, 1, (cI 0))]),
 oO 30 (.build [.str [], .int .i64 0] [(0, 1, (.c (.str [117, 49, 54]))), (1, 1, (cI 0))]),
 oO 31 (.build [.str [], .int .i64 0] [(0, 1, (.c (.str [117, 51, 50]))), (1, 1, (cI 0))]),
 oO 32 (.build [.str [], .int .i64 0, .str [], .int .i64 0, .str [], .int .i64 0, .str [], .int .i64 0, .str [], .int .i64 0, .str [], .int .i64 0, .str [], .int .i64 0, .str [], .int .i64 0, .str [], .int .i64 0, .str [], .int .i64 0, .str [], .int .i64 0, .str [], .int .i64 0, .str [], .int .i64 0, .str [], .int .i64 0, .str [], .int .i64 0, .str [], .int .i64 0, .str [], .int .i64 0, .str [], .int .i64 0, .str [], .int .i64 0, .str [], .int .i64 0, .str [], .int .i64 0, .str [], .int .i64 0, .str [], .int .i64 0, .str [], .int .i64 0, .str [], .int .i64 0, .str [], .int .i64 0, .str [], .int .i64 0, .str [], .int .i64 0, .str [], .int .i64 0] [(2, 2, (.t 4)), (4, 2, (.t 5)), (6, 2, (.t 6)), (8, 2, (.t 7)), (10, 2, (.t 8)), (12, 2, (.t 9)), (14, 2, (.t 10)), (16, 2, (.t 11)), (18, 2, (.t 12)), (20, 2, (.t 13)), (22, 2, (.t 14)), (24, 2, (.t 15)), (26, 2, (.t 16)), (28, 2, (.t 17)), (30, 2, (.t 18)), (32, 2, (.t 19)), (34, 2, (.t 20)), (36, 2, (.t 21)), (38, 2, (.t 22)), (40, 2, (.t 23)), (42, 2, (.t 24)), (44, 2, (.t 25)), (46, 2, (.t 26)), (48, 2, (.t 27)), (50, 2, (.t 28)), (52, 2, (.t 29)), (54, 2, (.t 30)), (56, 2, (.t 31))]),
 oO 3 (.boxL 3 (.c (.agg [.str [], .int .i64 0, .str [], .int .i64 0, .str [], .int .i64 0, .str [], .int .i64 0, .str [], .int .i64 0, .str [], .int .i64 0, .str [], .int .i64 0, .str [], .int .i64 0, .str [], .int .i64 0, .str [], .int .i64 0, .str [], .int .i64 0, .str [], .int .i64 0, .str [], .int .i64 0, .str [], .int .i64 0, .str [], .int .i64 0, .str [], .int .i64 0, .str [], .int .i64 0, .str [], .int .i64 0, .str [], .int .i64 0, .str [], .int .i64 0, .str [], .int .i64 0, .str [], .int .i64 0, .str [], .int .i64 0, .str [], .int .i64 0, .str [], .int .i64 0, .str [], .int .i64 0, .str [], .int .i64 0, .str [], .int .i64 0, .str [], .int .i64 0]))),
 oS 3 58 3 32])
 (.seq
 (.seq
 (.region [
 oM 33 0,
 oB 34 .lss (.t 33) (cI 0),
 oM 35 34,
 oF 35 36 (.mv (.t 0)),
 oF 35 37 (.bin 0 [] .geq (.t 36) (cI 29)),
 oO 38 (.pick (.t 35) (.c (.bool true)) (.t 37))])
 (.cond (.t 38)
 (.seq
 (.region [
 oO 39 (.build [.str [], .int .i64 0] []),
 oS 2 2 2 39])
 .ret)
 .skip))
 (.seq
 (.region [
 oM 40 0,
 oO 41 (.iaddrA 29 2 (.t 3) (.t 40)),
 oLa 42 3 2 41,
 oS 2 2 2 42])
 .ret))))

/-- boxhedge/wrap.Level -/
def F113 : IFn where
  ntmps := 6
  nargs := 1
  res := [.tmp 2]
  freeze := false
  body :=
 (.seq
 (.region [
 oO 2 (.mv (cI 0))])
 (.seq
 (.region [
 oM 3 0,
 oO 4 (.callP false (.c (.fn 115 [] [])) [(.t 3)]),
 oO 5 (.fld false 1 1 (.t 4)),
 oM 2 5])
 .ret))

/-- boxhedge/tree.own -/
def F108 : IFn where
  ntmps := 92
  nargs := 1
  res := [.tmp 2, .tmp 3]
  freeze := false
  body :=
 (.seq
 (.region [
 oO 1 (.boxL 1 (.t 0)),
 oO 2 (.mv (cI 0)),
 oC 3 (.bool false)])
 (.seq
 (.region [
 oLa 5 1 5 1,
 oO 4 (.boxL 4 (.c (.agg [.int .i64 0, .int .i64 0, .int .i64 0, .str [], .slice .fit 5 []]))),
 oS 4 5 4 5])
 (.seq
 (.region [
 oA 6 4 4,
 oN (.store (.box 4) 1 (.t 6) (.c (.slice .fit 5 [])))])
 (.seq
 (.seq
 (.region [
 oA 7 0 1,
 oL 8 1 7])
 (.block 0
 (.seq
 (.region [
 oB 10 .eql (.t 8) (cI 1),
 oM 9 10])
 (.cond (.t 9)
 (.seq
 (.region [
 oA 11 2 4,
 oN (.store (.box 4) 1 (.t 11) (cI 0))])
 (.seq
 (.region [
 oA 12 2 1,
 oL 13 1 12,
 oB 14 .geq (.t 13) (cI 0),
 oM 15 14,
 oT 15 16 (.load (.box 4) true 5 (.t 4)),
 oT 15 17 (.callP false (.c (.fn 112 [] [])) [(.t 16)]),
 oO 18 (.pick (.t 15) (.t 17) (.c (.bool false))),
 oO 2 (.mv (cI 0)),
 oM 3 18])
 .ret))
 (.seq
 (.region [
 oB 20 .eql (.t 8) (cI 2),
 oM 19 20])
 (.cond (.t 19)
 (.seq
 (.region [
 oA 21 2 4,
 oN (.store (.box 4) 1 (.t 21) (cI 0))])
 (.seq
 (.region [
 oA 22 2 1,
 oL 23 1 22,
 oB 24 .eql (.t 23) (cI 0),
 oM 25 24,
 oF 25 26 (.faddr 2 (.t 1)),
 oF 25 27 (.load (.box 1) false 1 (.t 26)),
 oF 25 28 (.bin 0 [] .eql (.t 27) (cI 1)),
 oO 29 (.pick (.t 25) (.c (.bool true)) (.t 28)),
 oM 30 29,
 oT 30 31 (.load (.box 4) true 5 (.t 4)),
 oT 30 32 (.callP false (.c (.fn 112 [] [])) [(.t 31)]),
 oO 33 (.pick (.t 30) (.t 32) (.c (.bool false))),
 oO 2 (.mv (cI 0)),
 oM 3 33])
 .ret))
 (.seq
 (.region [
 oB 35 .eql (.t 8) (cI 4),
 oM 34 35])
 (.cond (.t 34)
 (.seq
 (.region [
 oA 36 1 4,
 oN (.store (.box 4) 1 (.t 36) (cI 0))])
 (.seq
 (.region [
 oA 37 1 1,
 oL 38 1 37,
 oB 39 .geq (.t 38) (cI 20),
 oM 40 39,
 oT 40 41 (.faddr 1 (.t 1)),
 oT 40 42 (.load (.box 1) false 1 (.t 41)),
 oT 40 43 (.bin 0 [] .leq (.t 42) (cI 28)),
 oO 44 (.pick (.t 40) (.t 43) (.c (.bool false))),
 oM 45 44,
 oT 45 46 (.load (.box 4) true 5 (.t 4)),
 oT 45 47 (.callP false (.c (.fn 112 [] [])) [(.t 46)]),
 oO 48 (.pick (.t 45) (.t 47) (.c (.bool false))),
 oO 2 (.mv (cI 1)),
 oM 3 48])
 .ret))
 (.seq
 (.region [
 oB 50 .eql (.t 8) (cI 5),
 oM 49 50])
 (.cond (.t 49)
 (.seq
 (.region [
 oA 51 1 4,
 oN (.store (.box 4) 1 (.t 51) (cI 0))])
 (.seq
 (.region [
 oA 52 1 1,
 oL 53 1 52,
 oO 54 (.callP false (.c (.fn 113 [] [])) [(.t 53)]),
 oB 55 .gtr (.t 54) (cI 0),
 oM 56 55,
 oT 56 57 (.load (.box 4) true 5 (.t 4)),
 oT 56 58 (.callP false (.c (.fn 112 [] [])) [(.t 57)]),
 oO 59 (.pick (.t 56) (.t 58) (.c (.bool false))),
 oO 2 (.mv (cI 2)),
 oM 3 59])
 .ret))
 (.seq
 (.region [
 oB 61 .eql (.t 8) (cI 8),
 oM 60 61])
 (.cond (.t 60)
 (.seq
 (.region [
 oLa 62 4 5 4,
 oO 63 (.callP false (.c (.fn 112 [] [])) [(.t 62)]),
 oO 2 (.mv (cI 0)),
 oM 3 63])
 .ret)
 .skip))))))))))))
 (.seq
 (.region [
 oA 64 3 4,
 oN (.store (.box 4) 1 (.t 64) (.c (.str [])))])
 (.seq
 (.region [
 oA 65 3 1,
 oL 66 1 65,
 oO 67 (.callP false (.c (.fn 54 [] [])) [(.t 66)]),
 oM 68 67,
 oT 68 69 (.load (.box 4) true 5 (.t 4)),
 oT 68 70 (.callP false (.c (.fn 112 [] [])) [(.t 69)]),
 oO 71 (.pick (.t 68) (.t 70) (.c (.bool false))),
 oM 3 71])
 (.seq
 (.seq
 (.region [
 oA 72 0 1,
 oL 73 1 72])
 (.block 1
 (.seq
 (.region [
 oB 75 .eql (.t 73) (cI 3),
 oM 74 75])
 (.cond (.t 74)
 (.seq
 (.region [
 oM 76 3,
 oO 2 (.mv (cI 0)),
 oM 3 76])
 .ret)
 (.seq
 (.region [
 oB 78 .eql (.t 73) (cI 6),
 oM 77 78])
 (.cond (.t 77)
 (.seq
 (.region [
 oM 79 3,
 oO 2 (.mv (cI 1)),
 oM 3 79])
 .ret)
 (.seq
 (.region [
 oB 81 .eql (.t 73) (cI 7),
 oM 80 81])
 (.cond (.t 80)
 (.seq
 (.region [
 oA 82 4 1,
 oL 83 1 82,
 oO 84 (.len 1 (.t 83)),
 oM 85 3,
 oM 86 85,
 oT 86 87 (.faddr 4 (.t 1)),
 oT 86 88 (.load (.box 1) false 1 (.t 87)),
 oT 86 89 (.len 1 (.t 88)),
 oT 86 90 (.bin 0 [] .leq (.t 89) (cI 8)),
 oO 91 (.pick (.t 86) (.t 90) (.c (.bool false))),
 oM 2 84,
 oM 3 91])
 .ret)
 .skip))))))))
 (.seq
 (.region [
 oO 2 (.mv (cI 0)),
 oC 3 (.bool false)])
 .ret))))))))

/-- boxhedge/tree.expr$1 -/
def F109 : IFn where
  ntmps := 9
  nargs := 2
  res := [.tmp 3]
  freeze := false
  body :=
 (.seq
 (.region [
 oO 2 (.boxL 2 (.t 0)),
 oC 3 (.bool false)])
 (.seq
 (.region [
 oLa 4 2 5 2,
 oG 5 1,
 oB 6 .sub (.t 5) (cI 1),
 oO 7 (.callP false (.c (.fn 103 [] [])) [(.t 4), (.t 6)]),
 oO 8 (.un .not (.t 7)),
 oM 3 8])
 .ret))

/-- boxhedge/tree.expr -/
def F103 : IFn where
  ntmps := 31
  nargs := 2
  res := [.tmp 4]
  freeze := false
  body :=
 (.seq
 (.region [
 oO 2 (.boxL 2 (.t 0)),
 oO 3 (.boxI (.t 1)),
 oC 4 (.bool false)])
 (.seq
 (.region [
 oLa 8 2 5 2,
 oO 9 (.callP false (.c (.fn 108 [] [])) [(.t 8)]),
 oM 7 9,
 oX 10 7 0,
 oX 11 7 1,
 oM 5 10,
 oM 6 11])
 (.seq
 (.region [
 oM 12 6,
 oM 13 12,
 oT 13 14 (.load .any false 1 (.t 3)),
 oT 13 15 (.bin 0 [] .gtr (.t 14) (cI 0)),
 oO 16 (.pick (.t 13) (.t 15) (.c (.bool false))),
 oM 17 16,
 oT 17 18 (.faddr 4 (.t 2)),
 oT 17 19 (.load (.box 2) false 1 (.t 18)),
 oT 17 20 (.len 1 (.t 19)),
 oT 17 21 (.mv (.t 5)),
 oT 17 22 (.bin 0 [] .eql (.t 20) (.t 21)),
 oO 23 (.pick (.t 17) (.t 22) (.c (.bool false))),
 oM 24 23,
 oT 24 25 (.faddr 4 (.t 2)),
 oT 24 26 (.load (.box 2) false 1 (.t 25)),
 oT 24 27 (.mkfn 109 [] [(.t 3)]),
 oT 24 28 (.call false (.c (.fn 101 [] [])) [(.t 26), (.t 27)]),
 oT 24 29 (.un .not (.t 28)),
 oO 30 (.pick (.t 24) (.t 29) (.c (.bool false))),
 oM 4 30])
 .ret)))

/-- boxhedge/tree.stmt$1 -/
def F102 : IFn where
  ntmps := 6
  nargs := 1
  res := [.tmp 2]
  freeze := false
  body :=
 (.seq
 (.region [
 oO 1 (.boxL 1 (.t 0)),
 oC 2 (.bool false)])
 (.seq
 (.region [
 oLa 3 1 5 1,
 oO 4 (.callP false (.c (.fn 103 [] [])) [(.t 3), (cI 100)]),
 oO 5 (.un .not (.t 4)),
 oM 2 5])
 .ret))

/-- boxhedge/tree.stmt -/
def F92 : IFn where
  ntmps := 118
  nargs := 2
  res := [.tmp 4]
  freeze := true
  body :=
 (.seq
 (.region [
 oO 2 (.boxL 2 (.t 0)),
 oC 4 (.bool false)])
 (.seq
 (.region [
 oO 8 (.call false (.c (.fn 100 [] [])) []),
 oA 9 0 2,
 oL 10 2 9,
 oO 11 (.lookup false true (.agg [.bool false, .bool false, .int .i64 0, .bool false, .bool false]) (.t 8) (.t 10)),
 oM 7 11,
 oX 12 7 0,
 oX 13 7 1,
 oO 5 (.boxL 5 (.c (.agg [.bool false, .bool false, .int .i64 0, .bool false, .bool false]))),
 oS 5 5 5 12,
 oM 6 13])
 (.seq
 (.block 0
 (.seq
 (.region [
 oM 15 6,
 oO 16 (.un .not (.t 15)),
 oM 17 16,
 oF 17 18 (.mv (.t 1)),
 oF 17 19 (.bin 0 [] .lss (.t 18) (cI 1)),
 oO 20 (.pick (.t 17) (.c (.bool true)) (.t 19)),
 oM 21 20,
 oF 21 22 (.faddr 3 (.t 2)),
 oF 21 23 (.load (.box 2) false 1 (.t 22)),
 oF 21 24 (.len 1 (.t 23)),
 oF 21 25 (.faddr 2 (.t 5)),
 oF 21 26 (.load (.box 5) false 1 (.t 25)),
 oF 21 27 (.bin 0 [] .neq (.t 24) (.t 26)),
 oO 28 (.pick (.t 21) (.c (.bool true)) (.t 27)),
 oM 14 28])
 (.cond (.t 14)
 (.seq
 (.region [
 oC 4 (.bool false)])
 .ret)
 (.seq
 (.region [
 oA 30 0 5,
 oL 31 5 30,
 oM 32 31,
 oT 32 33 (.faddr 1 (.t 2)),
 oT 32 34 (.load (.box 2) false 1 (.t 33)),
 oT 32 35 (.callP false (.c (.fn 76 [] [])) [(.t 34)]),
 oT 32 36 (.un .not (.t 35)),
 oO 37 (.pick (.t 32) (.t 36) (.c (.bool false))),
 oM 38 37,
 oF 38 39 (.faddr 0 (.t 5)),
 oF 38 40 (.load (.box 5) false 1 (.t 39)),
 oF 38 41 (.un .not (.t 40)),
 oF 38 42 (.mv (.t 41)),
 oT 42 43 (.faddr 1 (.t 2)),
 oT 42 44 (.load (.box 2) false 1 (.t 43)),
 oT 42 45 (.bin 0 [] .neq (.t 44) (cI 0)),
 oF 38 46 (.pick (.t 42) (.t 45) (.c (.bool false))),
 oO 47 (.pick (.t 38) (.c (.bool true)) (.t 46)),
 oM 29 47])
 (.cond (.t 29)
 (.seq
 (.region [
 oC 4 (.bool false)])
 .ret)
 (.seq
 (.region [
 oA 49 1 5,
 oL 50 5 49,
 oM 51 50,
 oT 51 52 (.faddr 2 (.t 2)),
 oT 51 53 (.load (.box 2) false 1 (.t 52)),
 oT 51 54 (.callP false (.c (.fn 54 [] [])) [(.t 53)]),
 oT 51 55 (.un .not (.t 54)),
 oO 56 (.pick (.t 51) (.t 55) (.c (.bool false))),
 oM 57 56,
 oF 57 58 (.faddr 1 (.t 5)),
 oF 57 59 (.load (.box 5) false 1 (.t 58)),
 oF 57 60 (.un .not (.t 59)),
 oF 57 61 (.mv (.t 60)),
 oT 61 62 (.faddr 2 (.t 2)),
 oT 61 63 (.load (.box 2) false 1 (.t 62)),
 oT 61 64 (.bin 0 [] .neq (.t 63) (.c (.str []))),
 oF 57 65 (.pick (.t 61) (.t 64) (.c (.bool false))),
 oO 66 (.pick (.t 57) (.c (.bool true)) (.t 65)),
 oM 48 66])
 (.cond (.t 48)
 (.seq
 (.region [
 oC 4 (.bool false)])
 .ret)
 (.seq
 (.region [
 oA 68 3 5,
 oL 69 5 68,
 oO 70 (.un .not (.t 69)),
 oM 71 70,
 oT 71 72 (.faddr 4 (.t 2)),
 oT 71 73 (.load (.box 2) false 1 (.t 72)),
 oT 71 74 (.len 1 (.t 73)),
 oT 71 75 (.bin 0 [] .gtr (.t 74) (cI 0)),
 oO 76 (.pick (.t 71) (.t 75) (.c (.bool false))),
 oM 77 76,
 oF 77 78 (.faddr 4 (.t 5)),
 oF 77 79 (.load (.box 5) false 1 (.t 78)),
 oF 77 80 (.un .not (.t 79)),
 oF 77 81 (.mv (.t 80)),
 oT 81 82 (.faddr 5 (.t 2)),
 oT 81 83 (.load (.box 2) false 1 (.t 82)),
 oT 81 84 (.len 1 (.t 83)),
 oT 81 85 (.bin 0 [] .gtr (.t 84) (cI 0)),
 oF 77 86 (.pick (.t 81) (.t 85) (.c (.bool false))),
 oO 87 (.pick (.t 77) (.c (.bool true)) (.t 86)),
 oM 67 87])
 (.cond (.t 67)
 (.seq
 (.region [
 oC 4 (.bool false)])
 .ret)
 (.seq
 (.region [
 oA 89 0 2,
 oL 90 2 89,
 oB 91 .eql (.t 90) (cI 10),
 oM 92 91,
 oT 92 93 (.faddr 3 (.t 2)),
 oT 92 94 (.load (.box 2) false 1 (.t 93)),
 oT 92 95 (.iaddr 5 (.t 94) (cI 0)),
 oT 92 96 (.faddr 0 (.t 95)),
 oT 92 97 (.load .any false 1 (.t 96)),
 oT 92 98 (.bin 0 [] .neq (.t 97) (cI 7)),
 oO 99 (.pick (.t 92) (.t 98) (.c (.bool false))),
 oM 88 99])
 (.cond (.t 88)
 (.seq
 (.region [
 oC 4 (.bool false)])
 .ret)
 .skip)))))))))))
 (.seq
 (.region [
 oA 100 3 2,
 oL 101 2 100,
 oO 102 (.call false (.c (.fn 101 [] [])) [(.t 101), (.c (.fn 102 [] []))]),
 oO 103 (.un .not (.t 102)),
 oM 104 103,
 oT 104 105 (.faddr 4 (.t 2)),
 oT 104 106 (.load (.box 2) false 1 (.t 105)),
 oT 104 107 (.mv (.t 1)),
 oT 104 108 (.bin 0 [] .sub (.t 107) (cI 1)),
 oT 104 109 (.callP false (.c (.fn 78 [] [])) [(.t 106), (.t 108)]),
 oO 110 (.pick (.t 104) (.t 109) (.c (.bool false))),
 oM 111 110,
 oT 111 112 (.faddr 5 (.t 2)),
 oT 111 113 (.load (.box 2) false 1 (.t 112)),
 oT 111 114 (.mv (.t 1)),
 oT 111 115 (.bin 0 [] .sub (.t 114) (cI 1)),
 oT 111 116 (.callP false (.c (.fn 78 [] [])) [(.t 113), (.t 115)]),
 oO 117 (.pick (.t 111) (.t 116) (.c (.bool false))),
 oM 4 117])
 .ret))))

/-- boxhedge/tree.stmts$1 -/
def F91 : IFn where
  ntmps := 8
  nargs := 2
  res := [.tmp 3]
  freeze := false
  body :=
 (.seq
 (.region [
 oO 2 (.boxL 2 (.t 0)),
 oC 3 (.bool false)])
 (.seq
 (.region [
 oLa 4 2 6 2,
 oG 5 1,
 oO 6 (.callP false (.c (.fn 92 [] [])) [(.t 4), (.t 5)]),
 oO 7 (.un .not (.t 6)),
 oM 3 7])
 .ret))

/-- boxhedge/tree.stmts -/
def F78 : IFn where
  ntmps := 9
  nargs := 2
  res := [.tmp 4]
  freeze := false
  body :=
 (.seq
 (.region [
 oO 3 (.boxI (.t 1)),
 oC 4 (.bool false)])
 (.seq
 (.region [
 oO 5 (.take 0),
 oO 6 (.mkfn 91 [] [(.t 3)]),
 oO 7 (.call false (.c (.fn 28 [] [])) [(.t 5), (.t 6)]),
 oO 8 (.un .not (.t 7)),
 oM 4 8])
 .ret))

/-- boxhedge/tree.function -/
def F58 : IFn where
  ntmps := 30
  nargs := 1
  res := [.tmp 2]
  freeze := false
  body :=
 (.seq
 (.region [
 oO 1 (.boxL 1 (.t 0)),
 oC 2 (.bool false)])
 (.seq
 (.region [
 oC 3 (.fn 75 [] [])])
 (.seq
 (.region [
 oA 4 0 1,
 oL 5 1 4,
 oO 6 (.callP false (.c (.fn 54 [] [])) [(.t 5)]),
 oM 7 6,
 oT 7 8 (.faddr 1 (.t 1)),
 oT 7 9 (.load (.box 1) false 1 (.t 8)),
 oT 7 10 (.callP false (.c (.fn 76 [] [])) [(.t 9)]),
 oO 11 (.pick (.t 7) (.t 10) (.c (.bool false))),
 oM 12 11,
 oT 12 13 (.faddr 2 (.t 1)),
 oT 12 14 (.load (.box 1) false 1 (.t 13)),
 oT 12 15 (.len 1 (.t 14)),
 oT 12 16 (.bin 0 [] .leq (.t 15) (cI 8)),
 oO 17 (.pick (.t 12) (.t 16) (.c (.bool false))),
 oM 18 17,
 oT 18 19 (.faddr 2 (.t 1)),
 oT 18 20 (.load (.box 1) false 1 (.t 19)),
 oT 18 21 (.mv (.t 3)),
 oT 18 22 (.call false (.c (.fn 77 [] [])) [(.t 20), (.t 21)]),
 oT 18 23 (.un .not (.t 22)),
 oO 24 (.pick (.t 18) (.t 23) (.c (.bool false))),
 oM 25 24,
 oT 25 26 (.faddr 3 (.t 1)),
 oT 25 27 (.load (.box 1) false 1 (.t 26)),
 oT 25 28 (.callP false (.c (.fn 78 [] [])) [(.t 27), (cI 100)]),
 oO 29 (.pick (.t 25) (.t 28) (.c (.bool false))),
 oM 2 29])
 .ret)))

/-- boxhedge/tree.Right$2 -/
def F57 : IFn where
  ntmps := 6
  nargs := 1
  res := [.tmp 2]
  freeze := false
  body :=
 (.seq
 (.region [
 oO 1 (.boxL 1 (.t 0)),
 oC 2 (.bool false)])
 (.seq
 (.region [
 oLa 3 1 4 1,
 oO 4 (.callP false (.c (.fn 58 [] [])) [(.t 3)]),
 oO 5 (.un .not (.t 4)),
 oM 2 5])
 .ret))

/-- boxhedge/tree.Right -/
def F20 : IFn where
  ntmps := 15
  nargs := 1
  res := [.tmp 2]
  freeze := false
  body :=
 (.seq
 (.region [
 oO 1 (.boxL 1 (.t 0)),
 oC 2 (.bool false)])
 (.seq
 (.region [
 oC 3 (.fn 53 [] [])])
 (.seq
 (.region [
 oA 4 0 1,
 oL 5 1 4,
 oM 6 3,
 oO 7 (.call false (.c (.fn 55 [] [])) [(.t 5), (.t 6)]),
 oO 8 (.un .not (.t 7)),
 oM 9 8,
 oT 9 10 (.faddr 1 (.t 1)),
 oT 9 11 (.load (.box 1) false 1 (.t 10)),
 oT 9 12 (.call false (.c (.fn 56 [] [])) [(.t 11), (.c (.fn 57 [] []))]),
 oT 9 13 (.un .not (.t 12)),
 oO 14 (.pick (.t 9) (.t 13) (.c (.bool false))),
 oM 2 14])
 .ret)))

/-- boxhedge/types.Place$1 -/
def F50 : IFn where
  ntmps := 8
  nargs := 2
  res := [.tmp 3]
  freeze := false
  body :=
 (.seq
 (.region [
 oO 2 (.boxL 2 (.t 0)),
 oC 3 (.bool false)])
 (.seq
 (.region [
 oA 4 0 2,
 oL 5 2 4,
 oG 6 1,
 oB 7 .eql (.t 5) (.t 6),
 oM 3 7])
 .ret))

/-- boxhedge/types.Place -/
def F18 : IFn where
  ntmps := 9
  nargs := 2
  res := [.tmp 4]
  freeze := false
  body :=
 (.seq
 (.region [
 oO 2 (.boxL 2 (.t 0)),
 oO 3 (.boxI (.t 1)),
 oO 4 (.mv (cI 0))])
 (.seq
 (.region [
 oA 5 1 2,
 oL 6 2 5,
 oO 7 (.mkfn 50 [] [(.t 3)]),
 oO 8 (.call false (.c (.fn 49 [] [])) [(.t 6), (.t 7)]),
 oM 4 8])
 .ret))

def L21_0 : ICode := .loop [1, 3, 11, 12, 13] [5]
 (.seq
 (.region [
 oB 14 .lss (.t 13) (.t 12)])
 (.seq
 (.cond (.t 14)
 .skip
 (.exit 0))
 (.seq
 (.block 1
 (.seq
 (.region [
 oO 15 (.iaddr 2 (.t 11) (.t 13)),
 oO 16 (.load .any true 2 (.t 15)),
 oO 5 (.boxL 5 (.c (.agg [.str [], .int .i64 0]))),
 oS 5 2 5 16])
 (.region [
 oM 17 3,
 oA 18 0 5,
 oL 19 5 18,
 oO 20 (.lookup true false (.int .i64 0) (.t 17) (.t 19)),
 oB 21 .add (.t 20) (cI 1),
 oN (.mapset true (.t 17) (.t 19) (.t 21))])))
 (.region [
 oB 22 .add (.t 13) (cI 1),
 oM 13 22]))))
def L21_1 : ICode := .loop [1, 3, 24, 25, 26] [7]
 (.seq
 (.region [
 oB 27 .lss (.t 26) (.t 25)])
 (.seq
 (.cond (.t 27)
 .skip
 (.exit 2))
 (.seq
 (.block 3
 (.seq
 (.region [
 oO 28 (.iaddr 4 (.t 24) (.t 26)),
 oO 29 (.load .any true 4 (.t 28)),
 oO 7 (.boxL 7 (.c (.agg [.str [], .int .i64 0, .slice .fit 2 [], .slice .fit 6 []]))),
 oS 7 4 7 29])
 (.region [
 oM 30 3,
 oA 31 0 7,
 oL 32 7 31,
 oO 33 (.lookup true false (.int .i64 0) (.t 30) (.t 32)),
 oB 34 .add (.t 33) (cI 1),
 oN (.mapset true (.t 30) (.t 32) (.t 34))])))
 (.region [
 oB 35 .add (.t 26) (cI 1),
 oM 26 35]))))
abbrev K21_0 : List Nat := [1, 3, 11, 12]
abbrev B21_0 : List Nat := [1]
abbrev K21_1 : List Nat := [1, 3, 24, 25]
abbrev B21_1 : List Nat := [1]
/-- boxhedge/types.named -/
def F21 : IFn where
  ntmps := 71
  nargs := 1
  res := [.tmp 2]
  freeze := true
  body :=
 (.seq
 (.region [
 oO 1 (.boxL 1 (.t 0)),
 oC 2 (.bool false)])
 (.seq
 (.region [
 oO 9 (.mkmap),
 oM 3 9])
 (.seq
 (.seq
 (.region [
 oA 10 0 1,
 oL 11 1 10,
 oO 12 (.len 1 (.t 11)),
 oO 13 (.mv (cI 0))])
 (.block 0
 L21_0))
 (.seq
 (.seq
 (.region [
 oA 23 1 1,
 oL 24 1 23,
 oO 25 (.len 1 (.t 24)),
 oO 26 (.mv (cI 0))])
 (.block 2
 L21_1))
 (.seq
 (.region [
 oLa 36 1 2 1,
 oO 37 (.callP false (.c (.fn 18 [] [])) [(.t 36), (.c (.str [109, 97, 105, 110]))]),
 oM 8 37])
 (.seq
 (.region [
 oM 38 3,
 oO 39 (.len 2 (.t 38)),
 oA 40 0 1,
 oL 41 1 40,
 oO 42 (.len 1 (.t 41)),
 oA 43 1 1,
 oL 44 1 43,
 oO 45 (.len 1 (.t 44)),
 oB 46 .add (.t 42) (.t 45),
 oB 47 .eql (.t 39) (.t 46),
 oM 48 47,
 oT 48 49 (.mv (.t 8)),
 oT 48 50 (.bin 0 [] .geq (.t 49) (cI 0)),
 oO 51 (.pick (.t 48) (.t 50) (.c (.bool false))),
 oM 52 51,
 oT 52 53 (.faddr 1 (.t 1)),
 oT 52 54 (.load (.box 1) false 1 (.t 53)),
 oT 52 55 (.mv (.t 8)),
 oT 52 56 (.iaddr 4 (.t 54) (.t 55)),
 oT 52 57 (.faddr 1 (.t 56)),
 oT 52 58 (.load .any false 1 (.t 57)),
 oT 52 59 (.bin 0 [] .eql (.t 58) (cI 1)),
 oO 60 (.pick (.t 52) (.t 59) (.c (.bool false))),
 oM 61 60,
 oT 61 62 (.faddr 1 (.t 1)),
 oT 61 63 (.load (.box 1) false 1 (.t 62)),
 oT 61 64 (.mv (.t 8)),
 oT 61 65 (.iaddr 4 (.t 63) (.t 64)),
 oT 61 66 (.faddr 2 (.t 65)),
 oT 61 67 (.load .any false 1 (.t 66)),
 oT 61 68 (.len 1 (.t 67)),
 oT 61 69 (.bin 0 [] .eql (.t 68) (cI 0)),
 oO 70 (.pick (.t 61) (.t 69) (.c (.bool false))),
 oM 2 70])
 .ret))))))

def L22_0 : ICode := .loop [0, 3, 7, 8, 9] [5]
 (.seq
 (.region [
 oB 10 .lss (.t 9) (.t 8)])
 (.seq
 (.cond (.t 10)
 .skip
 (.exit 0))
 (.seq
 (.block 1
 (.seq
 (.region [
 oO 11 (.iaddr 2 (.t 7) (.t 9)),
 oO 12 (.load .any true 2 (.t 11)),
 oO 5 (.boxL 5 (.c (.agg [.str [], .int .i64 0]))),
 oS 5 2 5 12])
 (.region [
 oM 13 3,
 oA 14 0 5,
 oL 15 5 14,
 oO 16 (.lookup true false (.int .i64 0) (.t 13) (.t 15)),
 oB 17 .add (.t 16) (cI 1),
 oN (.mapset true (.t 13) (.t 15) (.t 17))])))
 (.region [
 oB 18 .add (.t 9) (cI 1),
 oM 9 18]))))
abbrev K22_0 : List Nat := [0, 3, 7, 8]
abbrev B22_0 : List Nat := []
/-- boxhedge/types.twice -/
def F22 : IFn where
  ntmps := 24
  nargs := 1
  res := [.tmp 2]
  freeze := true
  body :=
 (.seq
 (.region [
 oC 2 (.bool false)])
 (.seq
 (.region [
 oO 6 (.mkmap),
 oM 3 6])
 (.seq
 (.seq
 (.region [
 oM 7 0,
 oO 8 (.len 1 (.t 7)),
 oO 9 (.mv (cI 0))])
 (.block 0
 L22_0))
 (.seq
 (.region [
 oM 19 3,
 oO 20 (.len 2 (.t 19)),
 oO 21 (.take 0),
 oO 22 (.len 1 (.t 21)),
 oB 23 .lss (.t 20) (.t 22),
 oM 2 23])
 .ret))))

/-- boxhedge/types.Array$1 -/
def F52 : IFn where
  ntmps := 8
  nargs := 2
  res := [.tmp 3]
  freeze := false
  body :=
 (.seq
 (.region [
 oO 2 (.boxL 2 (.t 0)),
 oC 3 (.bool false)])
 (.seq
 (.region [
 oA 4 0 2,
 oL 5 2 4,
 oG 6 1,
 oB 7 .eql (.t 5) (.t 6),
 oM 3 7])
 .ret))

/-- boxhedge/types.Array -/
def F19 : IFn where
  ntmps := 9
  nargs := 2
  res := [.tmp 4]
  freeze := false
  body :=
 (.seq
 (.region [
 oO 2 (.boxL 2 (.t 0)),
 oO 3 (.boxI (.t 1)),
 oO 4 (.mv (cI 0))])
 (.seq
 (.region [
 oA 5 0 2,
 oL 6 2 5,
 oO 7 (.mkfn 52 [] [(.t 3)]),
 oO 8 (.call false (.c (.fn 51 [] [])) [(.t 6), (.t 7)]),
 oM 4 8])
 .ret))

/-- boxhedge/types.fine -/
def F80 : IFn where
  ntmps := 7
  nargs := 2
  res := [.tmp 4]
  freeze := false
  body :=
 (.seq
 (.region [
 oO 4 (.mv (cI 0))])
 (.seq
 (.seq
 (.region [
 oM 5 0])
 (.cond (.t 5)
 (.seq
 (.region [
 oO 4 (.mv (cI 0))])
 .ret)
 .skip))
 (.seq
 (.region [
 oM 6 1,
 oM 4 6])
 .ret)))

def L93_0 : ICode := .loop [0, 1] []
 (.seq
 (.seq
 (.region [
 oM 5 0,
 oO 6 (.bin 3 [] .neq (.t 5) (.c (.nilp))),
 oM 7 6,
 oT 7 8 (.mv (.t 0)),
 oT 7 9 (.nilck (.t 8)),
 oT 7 10 (.faddr 0 (.t 9)),
 oT 7 11 (.faddr 0 (.t 10)),
 oT 7 12 (.load .any false 1 (.t 11)),
 oT 7 13 (.mv (.t 1)),
 oT 7 14 (.bin 0 [] .neq (.t 12) (.t 13)),
 oO 15 (.pick (.t 7) (.t 14) (.c (.bool false)))])
 (.cond (.t 15)
 .skip
 (.exit 0)))
 (.block 1
 (.region [
 oM 16 0,
 oO 17 (.nilck (.t 16)),
 oA 18 2 17,
 oG 19 18,
 oM 0 19])))
abbrev K93_0 : List Nat := [1]
abbrev B93_0 : List Nat := []
/-- (*boxhedge/types.scope).find -/
def F93 : IFn where
  ntmps := 21
  nargs := 2
  res := [.tmp 4]
  freeze := false
  body :=
 (.seq
 (.region [
 oC 4 (.nilp)])
 (.seq
 (.block 0
 L93_0)
 (.seq
 (.region [
 oM 20 0,
 oM 4 20])
 .ret)))

/-- (boxhedge/types.typer).named -/
def F83 : IFn where
  ntmps := 49
  nargs := 3
  res := [.tmp 6]
  freeze := false
  body :=
 (.seq
 (.region [
 oO 3 (.boxL 3 (.t 0)),
 oO 5 (.boxL 5 (.t 2)),
 oO 6 (.mv (cI 0))])
 (.seq
 (.seq
 (.region [
 oA 8 0 5,
 oL 9 5 8])
 (.block 0
 (.seq
 (.region [
 oB 11 .eql (.t 9) (cI 3),
 oM 10 11])
 (.cond (.t 10)
 (.seq
 (.region [
 oM 12 1,
 oA 13 3 5,
 oL 14 5 13,
 oO 15 (.call false (.c (.fn 93 [] [])) [(.t 12), (.t 14)]),
 oO 16 (.bin 3 [] .neq (.t 15) (.c (.nilp))),
 oO 17 (.callP false (.c (.fn 80 [] [])) [(.t 16), (cI 50)]),
 oM 6 17])
 .ret)
 (.seq
 (.region [
 oB 19 .eql (.t 9) (cI 6),
 oM 18 19])
 (.cond (.t 18)
 (.seq
 (.region [
 oA 20 0 3,
 oLa 21 3 2 20,
 oA 22 3 5,
 oL 23 5 22,
 oO 24 (.callP false (.c (.fn 19 [] [])) [(.t 21), (.t 23)]),
 oB 25 .geq (.t 24) (cI 0),
 oO 26 (.callP false (.c (.fn 80 [] [])) [(.t 25), (cI 50)]),
 oM 6 26])
 .ret)
 (.seq
 (.region [
 oB 28 .eql (.t 9) (cI 7),
 oM 27 28])
 (.cond (.t 27)
 (.seq
 (.region [
 oA 29 0 3,
 oLa 30 3 2 29,
 oA 31 3 5,
 oL 32 5 31,
 oO 33 (.callP false (.c (.fn 18 [] [])) [(.t 30), (.t 32)]),
 oM 7 33])
 (.seq
 (.seq
 (.region [
 oM 34 7,
 oB 35 .lss (.t 34) (cI 0)])
 (.cond (.t 35)
 (.seq
 (.region [
 oO 6 (.mv (cI 50))])
 .ret)
 .skip))
 (.seq
 (.region [
 oA 36 0 3,
 oA 37 1 36,
 oL 38 3 37,
 oM 39 7,
 oO 40 (.iaddr 4 (.t 38) (.t 39)),
 oA 41 2 40,
 oO 42 (.load .imm false 1 (.t 41)),
 oO 43 (.len 1 (.t 42)),
 oA 44 4 5,
 oL 45 5 44,
 oO 46 (.len 1 (.t 45)),
 oB 47 .eql (.t 43) (.t 46),
 oO 48 (.callP false (.c (.fn 80 [] [])) [(.t 47), (cI 51)]),
 oM 6 48])
 .ret)))
 .skip))))))))
 (.seq
 (.region [
 oO 6 (.mv (cI 0))])
 .ret)))

def L84_0 : ICode := .loop [1, 3, 6, 13, 14, 15] [9]
 (.seq
 (.region [
 oB 16 .lss (.t 15) (.t 14)])
 (.seq
 (.cond (.t 16)
 .skip
 (.exit 0))
 (.seq
 (.block 1
 (.seq
 (.region [
 oO 17 (.iaddr 5 (.t 13) (.t 15)),
 oO 18 (.load .any true 5 (.t 17)),
 oO 9 (.boxL 9 (.c (.agg [.int .i64 0, .int .i64 0, .int .i64 0, .str [], .slice .fit 5 []]))),
 oS 9 5 9 18])
 (.seq
 (.region [
 oLa 20 3 2 3,
 oM 21 1,
 oLa 22 9 5 9,
 oO 23 (.call false (.c (.fn 66 [] [])) [(.t 20), (.t 21), (.t 22)]),
 oM 19 23,
 oX 24 19 0,
 oX 25 19 1,
 oM 10 24,
 oM 11 25])
 (.seq
 (.seq
 (.region [
 oM 26 11,
 oB 27 .neq (.t 26) (cI 0)])
 (.cond (.t 27)
 (.seq
 (.region [
 oM 28 11,
 oC 6 (.slice .fit 1 []),
 oM 7 28])
 .ret)
 .skip))
 (.region [
 oO 29 (.take 6),
 oM 30 10,
 oO 31 (.bslice 1 (.int .i64 0) 1 [(0, (.t 30))]),
 oO 32 (.append 1 8 (.t 29) (.t 31)),
 oO 6 (.take 32)])))))
 (.region [
 oB 33 .add (.t 15) (cI 1),
 oM 15 33]))))
abbrev K84_0 : List Nat := [1, 3, 13, 14]
abbrev B84_0 : List Nat := [3]
/-- (boxhedge/types.typer).args -/
def F84 : IFn where
  ntmps := 35
  nargs := 3
  res := [.tmp 6, .tmp 7]
  freeze := false
  body :=
 (.seq
 (.region [
 oO 3 (.boxL 3 (.t 0)),
 oO 5 (.boxL 5 (.t 2)),
 oC 6 (.slice .fit 1 []),
 oO 7 (.mv (cI 0))])
 (.seq
 (.seq
 (.region [
 oA 12 4 5,
 oL 13 5 12,
 oO 14 (.len 1 (.t 13)),
 oO 15 (.mv (cI 0))])
 (.block 0
 L84_0))
 (.seq
 (.region [
 oO 34 (.take 6),
 oO 6 (.take 34),
 oO 7 (.mv (cI 0))])
 .ret)))

/-- boxhedge/types.takes -/
def F94 : IFn where
  ntmps := 25
  nargs := 2
  res := [.tmp 4, .tmp 5]
  freeze := false
  body :=
 (.seq
 (.region [
 oO 4 (.mv (cI 0)),
 oC 5 (.bool false)])
 (.seq
 (.seq
 (.region [
 oM 6 0])
 (.block 0
 (.seq
 (.seq
 (.region [
 oB 8 .eql (.t 6) (cI 18),
 oM 7 8])
 (.cond (.t 7)
 .skip
 (.seq
 (.region [
 oB 9 .eql (.t 6) (cI 19),
 oM 7 9])
 (.cond (.t 7)
 .skip
 (.region [
 oB 10 .eql (.t 6) (cI 22),
 oM 7 10])))))
 (.cond (.t 7)
 (.seq
 (.region [
 oM 11 1,
 oB 12 .eql (.t 11) (cI 2),
 oO 4 (.mv (cI 2)),
 oM 5 12])
 .ret)
 (.seq
 (.seq
 (.region [
 oB 14 .eql (.t 6) (cI 16),
 oM 13 14])
 (.cond (.t 13)
 .skip
 (.region [
 oB 15 .eql (.t 6) (cI 17),
 oM 13 15])))
 (.cond (.t 13)
 (.seq
 (.region [
 oO 4 (.mv (cI 2)),
 oC 5 (.bool true)])
 .ret)
 (.seq
 (.seq
 (.region [
 oB 17 .eql (.t 6) (cI 12),
 oM 16 17])
 (.cond (.t 16)
 .skip
 (.seq
 (.region [
 oB 18 .eql (.t 6) (cI 13),
 oM 16 18])
 (.cond (.t 16)
 .skip
 (.seq
 (.region [
 oB 19 .eql (.t 6) (cI 14),
 oM 16 19])
 (.cond (.t 16)
 .skip
 (.region [
 oB 20 .eql (.t 6) (cI 15),
 oM 16 20])))))))
 (.cond (.t 16)
 (.seq
 (.region [
 oM 21 1,
 oB 22 .eql (.t 21) (cI 1),
 oO 4 (.mv (cI 2)),
 oM 5 22])
 .ret)
 .skip))))))))
 (.seq
 (.region [
 oM 23 1,
 oB 24 .eql (.t 23) (cI 1),
 oO 4 (.mv (cI 1)),
 oM 5 24])
 .ret)))

def L95_0 : ICode := .loop [1, 2, 15, 16, 17] [9]
 (.seq
 (.region [
 oB 18 .lss (.t 17) (.t 16)])
 (.seq
 (.cond (.t 18)
 .skip
 (.exit 0))
 (.seq
 (.block 1
 (.seq
 (.region [
 oM 19 17,
 oO 20 (.iaddr 1 (.t 15) (.t 17)),
 oG 21 20,
 oM 7 19,
 oM 8 21])
 (.seq
 (.region [
 oM 22 1,
 oM 23 7,
 oO 24 (.iaddr 2 (.t 22) (.t 23)),
 oO 25 (.load .any true 2 (.t 24)),
 oO 9 (.boxL 9 (.c (.agg [.str [], .int .i64 0]))),
 oS 9 2 9 25])
 (.seq
 (.region [
 oM 26 2,
 oM 27 8,
 oLa 28 9 2 9,
 oO 29 (.call false (.t 26) [(.t 27), (.t 28)]),
 oO 30 (.un .not (.t 29))])
 (.cond (.t 30)
 (.seq
 (.region [
 oC 6 (.bool false)])
 .ret)
 .skip)))))
 (.region [
 oB 31 .add (.t 17) (cI 1),
 oM 17 31]))))
abbrev K95_0 : List Nat := [1, 2, 15, 16]
abbrev B95_0 : List Nat := []
/-- slices.EqualFunc[[]int,[]boxhedge/api.Param,int,boxhedge/api.Param] -/
def F95 : IFn where
  ntmps := 32
  nargs := 3
  res := [.tmp 6]
  freeze := false
  body :=
 (.seq
 (.region [
 oC 6 (.bool false)])
 (.seq
 (.seq
 (.region [
 oM 10 0,
 oO 11 (.len 1 (.t 10)),
 oM 12 1,
 oO 13 (.len 1 (.t 12)),
 oB 14 .neq (.t 11) (.t 13)])
 (.cond (.t 14)
 (.seq
 (.region [
 oC 6 (.bool false)])
 .ret)
 .skip))
 (.seq
 (.seq
 (.region [
 oO 15 (.take 0),
 oO 16 (.len 1 (.t 15)),
 oO 17 (.mv (cI 0))])
 (.block 0
 L95_0))
 (.seq
 (.region [
 oC 6 (.bool true)])
 .ret))))

/-- (boxhedge/types.typer).made$1 -/
def F96 : IFn where
  ntmps := 9
  nargs := 2
  res := [.tmp 4]
  freeze := false
  body :=
 (.seq
 (.region [
 oO 3 (.boxL 3 (.t 1)),
 oC 4 (.bool false)])
 (.seq
 (.region [
 oM 5 0,
 oA 6 1 3,
 oL 7 3 6,
 oB 8 .eql (.t 5) (.t 7),
 oM 4 8])
 .ret))

/-- (boxhedge/types.typer).made -/
def F85 : IFn where
  ntmps := 83
  nargs := 4
  res := [.tmp 8, .tmp 9]
  freeze := false
  body :=
 (.seq
 (.region [
 oO 4 (.boxL 4 (.t 0)),
 oO 6 (.boxL 6 (.t 2)),
 oO 8 (.mv (cI 0)),
 oC 9 (.bool false)])
 (.seq
 (.seq
 (.region [
 oA 13 0 6,
 oL 14 6 13])
 (.block 0
 (.seq
 (.region [
 oB 16 .eql (.t 14) (cI 2),
 oM 15 16])
 (.cond (.t 15)
 (.seq
 (.region [
 oO 8 (.mv (cI 2)),
 oC 9 (.bool true)])
 .ret)
 (.seq
 (.region [
 oB 18 .eql (.t 14) (cI 3),
 oM 17 18])
 (.cond (.t 17)
 (.seq
 (.region [
 oM 19 1,
 oA 20 3 6,
 oL 21 6 20,
 oO 22 (.call false (.c (.fn 93 [] [])) [(.t 19), (.t 21)]),
 oO 23 (.nilck (.t 22)),
 oA 24 0 23,
 oA 25 1 24,
 oG 26 25,
 oM 8 26,
 oC 9 (.bool true)])
 .ret)
 (.seq
 (.region [
 oB 28 .eql (.t 14) (cI 6),
 oM 27 28])
 (.cond (.t 27)
 (.seq
 (.region [
 oO 29 (.take 3),
 oO 30 (.iaddr 1 (.t 29) (cI 0)),
 oO 31 (.load .imm false 1 (.t 30)),
 oB 32 .eql (.t 31) (cI 1),
 oO 8 (.mv (cI 1)),
 oM 9 32])
 .ret)
 (.seq
 (.region [
 oB 34 .eql (.t 14) (cI 4),
 oM 33 34])
 (.cond (.t 33)
 (.seq
 (.region [
 oA 35 1 6,
 oL 36 6 35,
 oO 37 (.take 3),
 oO 38 (.iaddr 1 (.t 37) (cI 0)),
 oO 39 (.load .imm false 1 (.t 38)),
 oO 40 (.callP false (.c (.fn 94 [] [])) [(.t 36), (.t 39)]),
 oX 41 40 0,
 oX 42 40 1,
 oM 8 41,
 oM 9 42])
 .ret)
 (.seq
 (.region [
 oB 44 .eql (.t 14) (cI 5),
 oM 43 44])
 (.cond (.t 43)
 (.seq
 (.region [
 oA 46 1 6,
 oL 47 6 46,
 oM 48 3,
 oO 49 (.iaddr 1 (.t 48) (cI 0)),
 oO 50 (.load .imm false 1 (.t 49)),
 oO 51 (.callP false (.c (.fn 94 [] [])) [(.t 47), (.t 50)]),
 oM 45 51,
 oX 52 45 0,
 oX 53 45 1,
 oM 10 52,
 oM 11 53])
 (.seq
 (.region [
 oM 54 10,
 oM 55 11,
 oM 56 55,
 oT 56 57 (.mv (.t 3)),
 oT 56 58 (.iaddr 1 (.t 57) (cI 0)),
 oT 56 59 (.load .imm false 1 (.t 58)),
 oT 56 60 (.mv (.t 3)),
 oT 56 61 (.iaddr 1 (.t 60) (cI 1)),
 oT 56 62 (.load .imm false 1 (.t 61)),
 oT 56 63 (.bin 0 [] .eql (.t 59) (.t 62)),
 oO 64 (.pick (.t 56) (.t 63) (.c (.bool false))),
 oM 8 54,
 oM 9 64])
 .ret))
 (.seq
 (.region [
 oB 66 .eql (.t 14) (cI 7),
 oM 65 66])
 (.cond (.t 65)
 (.seq
 (.region [
 oA 67 0 4,
 oA 68 1 67,
 oL 69 4 68,
 oA 70 0 4,
 oLa 71 4 2 70,
 oA 72 3 6,
 oL 73 6 72,
 oO 74 (.callP false (.c (.fn 18 [] [])) [(.t 71), (.t 73)]),
 oO 75 (.iaddr 4 (.t 69) (.t 74)),
 oO 76 (.load .imm true 4 (.t 75)),
 oO 12 (.boxL 12 (.c (.agg [.str [], .int .i64 0, .slice .fit 2 [], .slice .fit 6 []]))),
 oS 12 4 12 76])
 (.seq
 (.region [
 oA 77 1 12,
 oL 78 12 77,
 oO 79 (.take 3),
 oA 80 2 12,
 oL 81 12 80,
 oO 82 (.call false (.c (.fn 95 [] [])) [(.t 79), (.t 81), (.c (.fn 96 [] []))]),
 oM 8 78,
 oM 9 82])
 .ret))
 .skip))))))))))))))
 (.seq
 (.region [
 oO 8 (.mv (cI 1)),
 oC 9 (.bool true)])
 .ret)))

/-- (boxhedge/types.typer).expr -/
def F66 : IFn where
  ntmps := 41
  nargs := 3
  res := [.tmp 6, .tmp 7]
  freeze := false
  body :=
 (.seq
 (.region [
 oO 3 (.boxL 3 (.t 0)),
 oO 5 (.boxL 5 (.t 2)),
 oO 6 (.mv (cI 0)),
 oO 7 (.mv (cI 0))])
 (.seq
 (.seq
 (.region [
 oLa 13 3 2 3,
 oM 14 1,
 oLa 15 5 5 5,
 oO 16 (.call false (.c (.fn 83 [] [])) [(.t 13), (.t 14), (.t 15)]),
 oM 8 16])
 (.seq
 (.region [
 oM 17 8,
 oB 18 .neq (.t 17) (cI 0)])
 (.cond (.t 18)
 (.seq
 (.region [
 oM 19 8,
 oO 6 (.mv (cI 0)),
 oM 7 19])
 .ret)
 .skip)))
 (.seq
 (.region [
 oLa 21 3 2 3,
 oM 22 1,
 oLa 23 5 5 5,
 oO 24 (.call false (.c (.fn 84 [] [])) [(.t 21), (.t 22), (.t 23)]),
 oM 20 24,
 oX 25 20 0,
 oX 26 20 1,
 oO 9 (.take 25),
 oM 10 26])
 (.seq
 (.seq
 (.region [
 oM 27 10,
 oB 28 .neq (.t 27) (cI 0)])
 (.cond (.t 28)
 (.seq
 (.region [
 oM 29 10,
 oO 6 (.mv (cI 0)),
 oM 7 29])
 .ret)
 .skip))
 (.seq
 (.region [
 oLa 31 3 2 3,
 oM 32 1,
 oLa 33 5 5 5,
 oO 34 (.take 9),
 oO 35 (.call false (.c (.fn 85 [] [])) [(.t 31), (.t 32), (.t 33), (.t 34)]),
 oM 30 35,
 oX 36 30 0,
 oX 37 30 1,
 oM 11 36,
 oM 12 37])
 (.seq
 (.seq
 (.region [
 oM 38 12,
 oO 39 (.un .not (.t 38))])
 (.cond (.t 39)
 (.seq
 (.region [
 oO 6 (.mv (cI 0)),
 oO 7 (.mv (cI 51))])
 .ret)
 .skip))
 (.seq
 (.region [
 oM 40 11,
 oM 6 40,
 oO 7 (.mv (cI 0))])
 .ret)))))))

/-- (*boxhedge/types.function).want -/
def F79 : IFn where
  ntmps := 28
  nargs := 4
  res := [.tmp 8]
  freeze := false
  body :=
 (.seq
 (.region [
 oO 6 (.boxL 6 (.t 2)),
 oO 8 (.mv (cI 0))])
 (.seq
 (.region [
 oM 12 0,
 oO 13 (.nilck (.t 12)),
 oA 14 0 13,
 oO 15 (.load .any true 2 (.t 14)),
 oM 16 1,
 oLa 17 6 5 6,
 oO 18 (.call false (.c (.fn 66 [] [])) [(.t 15), (.t 16), (.t 17)]),
 oM 11 18,
 oX 19 11 0,
 oX 20 11 1,
 oM 9 19,
 oM 10 20])
 (.seq
 (.seq
 (.region [
 oM 21 10,
 oB 22 .neq (.t 21) (cI 0)])
 (.cond (.t 22)
 (.seq
 (.region [
 oM 23 10,
 oM 8 23])
 .ret)
 .skip))
 (.seq
 (.region [
 oM 24 9,
 oM 25 3,
 oB 26 .eql (.t 24) (.t 25),
 oO 27 (.callP false (.c (.fn 80 [] [])) [(.t 26), (cI 51)]),
 oM 8 27])
 .ret))))

/-- (*boxhedge/types.function).bound -/
def F81 : IFn where
  ntmps := 98
  nargs := 4
  res := [.tmp 8]
  freeze := false
  body :=
 (.seq
 (.region [
 oO 5 (.boxL 5 (.t 1)),
 oO 8 (.mv (cI 0))])
 (.seq
 (.region [
 oM 12 2,
 oA 13 2 5,
 oL 14 5 13,
 oO 15 (.call false (.c (.fn 93 [] [])) [(.t 12), (.t 14)]),
 oM 9 15])
 (.seq
 (.block 0
 (.seq
 (.region [
 oA 17 0 5,
 oL 18 5 17,
 oB 19 .eql (.t 18) (cI 1),
 oM 16 19])
 (.cond (.t 16)
 (.seq
 (.seq
 (.region [
 oM 20 0,
 oM 21 2,
 oA 22 3 5,
 oL 23 5 22,
 oO 24 (.iaddr 5 (.t 23) (cI 0)),
 oO 25 (.load .imm true 5 (.t 24)),
 oA 26 1 5,
 oL 27 5 26,
 oO 28 (.call false (.c (.fn 79 [] [])) [(.t 20), (.t 21), (.t 25), (.t 27)]),
 oM 10 28])
 (.seq
 (.region [
 oM 29 10,
 oB 30 .neq (.t 29) (cI 0)])
 (.cond (.t 30)
 (.seq
 (.region [
 oM 31 10,
 oM 8 31])
 .ret)
 .skip)))
 (.seq
 (.region [
 oM 32 9,
 oO 33 (.bin 3 [] .eql (.t 32) (.c (.nilp))),
 oM 34 33,
 oF 34 35 (.mv (.t 9)),
 oF 34 36 (.nilck (.t 35)),
 oF 34 37 (.faddr 3 (.t 36)),
 oF 34 38 (.load .any false 1 (.t 37)),
 oF 34 39 (.mv (.t 3)),
 oF 34 40 (.bin 0 [] .lss (.t 38) (.t 39)),
 oO 41 (.pick (.t 34) (.c (.bool true)) (.t 40)),
 oO 42 (.callP false (.c (.fn 80 [] [])) [(.t 41), (cI 50)]),
 oM 8 42])
 .ret))
 (.seq
 (.seq
 (.region [
 oA 44 0 5,
 oL 45 5 44,
 oB 46 .eql (.t 45) (cI 2),
 oM 47 46,
 oT 47 48 (.mv (.t 9)),
 oT 47 49 (.bin 3 [] .eql (.t 48) (.c (.nilp))),
 oO 50 (.pick (.t 47) (.t 49) (.c (.bool false))),
 oM 43 50])
 (.cond (.t 43)
 .skip
 (.region [
 oA 51 0 5,
 oL 52 5 51,
 oB 53 .eql (.t 52) (cI 3),
 oM 54 53,
 oT 54 55 (.mv (.t 0)),
 oT 54 56 (.nilck (.t 55)),
 oT 54 57 (.faddr 0 (.t 56)),
 oT 54 58 (.faddr 0 (.t 57)),
 oT 54 59 (.load .any true 2 (.t 58)),
 oT 54 60 (.faddr 2 (.t 5)),
 oT 54 61 (.load (.box 5) false 1 (.t 60)),
 oT 54 62 (.callP false (.c (.fn 19 [] [])) [(.t 59), (.t 61)]),
 oT 54 63 (.bin 0 [] .lss (.t 62) (cI 0)),
 oO 64 (.pick (.t 54) (.t 63) (.c (.bool false))),
 oM 43 64])))
 (.cond (.t 43)
 (.seq
 (.region [
 oO 8 (.mv (cI 50))])
 .ret)
 (.seq
 (.region [
 oA 66 0 5,
 oL 67 5 66,
 oB 68 .eql (.t 67) (cI 2),
 oM 65 68])
 (.cond (.t 65)
 (.seq
 (.region [
 oM 69 0,
 oM 70 2,
 oA 71 3 5,
 oL 72 5 71,
 oO 73 (.iaddr 5 (.t 72) (cI 0)),
 oO 74 (.load .imm true 5 (.t 73)),
 oM 75 9,
 oO 76 (.nilck (.t 75)),
 oA 77 0 76,
 oA 78 1 77,
 oO 79 (.load .imm false 1 (.t 78)),
 oO 80 (.call false (.c (.fn 79 [] [])) [(.t 69), (.t 70), (.t 74), (.t 79)]),
 oM 8 80])
 .ret)
 .skip)))))))
 (.seq
 (.seq
 (.region [
 oM 81 0,
 oM 82 2,
 oA 83 3 5,
 oL 84 5 83,
 oO 85 (.iaddr 5 (.t 84) (cI 0)),
 oO 86 (.load .any true 5 (.t 85)),
 oO 87 (.call false (.c (.fn 79 [] [])) [(.t 81), (.t 82), (.t 86), (cI 1)]),
 oM 11 87])
 (.seq
 (.region [
 oM 88 11,
 oB 89 .neq (.t 88) (cI 0)])
 (.cond (.t 89)
 (.seq
 (.region [
 oM 90 11,
 oM 8 90])
 .ret)
 .skip)))
 (.seq
 (.region [
 oM 91 0,
 oM 92 2,
 oA 93 3 5,
 oL 94 5 93,
 oO 95 (.iaddr 5 (.t 94) (cI 1)),
 oO 96 (.load .any true 5 (.t 95)),
 oO 97 (.call false (.c (.fn 79 [] [])) [(.t 91), (.t 92), (.t 96), (cI 1)]),
 oM 8 97])
 .ret)))))

/-- (*boxhedge/types.function).stmt -/
def F59 : IFn where
  ntmps := 73
  nargs := 5
  res := [.tmp 10]
  freeze := false
  body :=
 (.seq
 (.region [
 oO 6 (.boxL 6 (.t 1)),
 oO 10 (.mv (cI 0))])
 (.seq
 (.seq
 (.region [
 oA 13 0 6,
 oL 14 6 13])
 (.block 0
 (.seq
 (.seq
 (.region [
 oB 16 .eql (.t 14) (cI 4),
 oM 15 16])
 (.cond (.t 15)
 .skip
 (.region [
 oB 17 .eql (.t 14) (cI 5),
 oM 15 17])))
 (.cond (.t 15)
 (.seq
 (.region [
 oM 18 0,
 oM 19 2,
 oA 20 3 6,
 oL 21 6 20,
 oO 22 (.iaddr 5 (.t 21) (cI 0)),
 oO 23 (.load .any true 5 (.t 22)),
 oO 24 (.call false (.c (.fn 79 [] [])) [(.t 18), (.t 19), (.t 23), (cI 2)]),
 oM 10 24])
 .ret)
 (.seq
 (.region [
 oB 26 .eql (.t 14) (cI 8),
 oM 25 26])
 (.cond (.t 25)
 (.seq
 (.region [
 oM 27 0,
 oM 28 2,
 oA 29 3 6,
 oL 30 6 29,
 oO 31 (.iaddr 5 (.t 30) (cI 0)),
 oO 32 (.load .imm true 5 (.t 31)),
 oM 33 0,
 oO 34 (.nilck (.t 33)),
 oA 35 2 34,
 oG 36 35,
 oO 37 (.call false (.c (.fn 79 [] [])) [(.t 27), (.t 28), (.t 32), (.t 36)]),
 oM 10 37])
 .ret)
 (.seq
 (.region [
 oB 39 .eql (.t 14) (cI 9),
 oM 38 39])
 (.cond (.t 38)
 (.seq
 (.region [
 oM 40 0,
 oM 41 2,
 oA 42 3 6,
 oL 43 6 42,
 oO 44 (.iaddr 5 (.t 43) (cI 0)),
 oO 45 (.load .any true 5 (.t 44)),
 oO 46 (.call false (.c (.fn 79 [] [])) [(.t 40), (.t 41), (.t 45), (cI 1)]),
 oM 10 46])
 .ret)
 (.seq
 (.region [
 oB 48 .eql (.t 14) (cI 10),
 oM 47 48])
 (.cond (.t 47)
 (.seq
 (.region [
 oM 50 0,
 oO 51 (.nilck (.t 50)),
 oA 52 0 51,
 oO 53 (.load .any true 2 (.t 52)),
 oM 54 2,
 oA 55 3 6,
 oL 56 6 55,
 oO 57 (.iaddr 5 (.t 56) (cI 0)),
 oO 58 (.load .imm true 5 (.t 57)),
 oO 59 (.call false (.c (.fn 66 [] [])) [(.t 53), (.t 54), (.t 58)]),
 oM 49 59,
 oX 60 49 0,
 oX 61 49 1,
 oM 11 60,
 oM 12 61])
 (.seq
 (.region [
 oM 62 12,
 oM 10 62])
 .ret))
 (.seq
 (.seq
 (.region [
 oB 64 .eql (.t 14) (cI 6),
 oM 63 64])
 (.cond (.t 63)
 .skip
 (.region [
 oB 65 .eql (.t 14) (cI 7),
 oM 63 65])))
 (.cond (.t 63)
 (.seq
 (.region [
 oM 66 4,
 oO 67 (.callP false (.c (.fn 80 [] [])) [(.t 66), (cI 53)]),
 oM 10 67])
 .ret)
 .skip))))))))))))
 (.seq
 (.region [
 oM 68 0,
 oLa 69 6 6 6,
 oM 70 2,
 oM 71 3,
 oO 72 (.call false (.c (.fn 81 [] [])) [(.t 68), (.t 69), (.t 70), (.t 71)]),
 oM 10 72])
 .ret)))

/-- (*boxhedge/types.scope).with -/
def F60 : IFn where
  ntmps := 12
  nargs := 3
  res := [.tmp 6]
  freeze := false
  body :=
 (.seq
 (.region [
 oO 4 (.boxL 4 (.t 1)),
 oC 6 (.nilp)])
 (.seq
 (.region [
 oLa 7 4 2 4,
 oM 8 0,
 oM 9 2,
 oO 10 (.build [.str [], .int .i64 0, .nilp, .int .i64 0] [(0, 2, (.t 7)), (2, 1, (.t 8)), (3, 1, (.t 9))]),
 oO 11 (.boxI (.t 10)),
 oM 6 11])
 .ret))

def L23_0 : ICode := .loop [0, 2, 3, 4, 16, 17, 18] [12]
 (.seq
 (.region [
 oB 19 .lss (.t 18) (.t 17)])
 (.seq
 (.cond (.t 19)
 .skip
 (.exit 0))
 (.seq
 (.block 1
 (.seq
 (.region [
 oO 20 (.iaddr 6 (.t 16) (.t 18)),
 oO 21 (.load .any true 6 (.t 20)),
 oO 12 (.boxL 12 (.c (.agg [.int .i64 0, .int .i64 0, .str [], .slice .fit 5 [], .slice .fit 6 [], .slice .fit 6 []]))),
 oS 12 6 12 21])
 (.seq
 (.seq
 (.region [
 oM 22 0,
 oLa 23 12 6 12,
 oM 24 2,
 oM 25 3,
 oM 26 4,
 oO 27 (.call false (.c (.fn 59 [] [])) [(.t 22), (.t 23), (.t 24), (.t 25), (.t 26)]),
 oM 13 27])
 (.seq
 (.region [
 oM 28 13,
 oB 29 .neq (.t 28) (cI 0)])
 (.cond (.t 29)
 (.seq
 (.region [
 oM 30 13,
 oM 10 30])
 .ret)
 .skip)))
 (.seq
 (.region [
 oM 31 0,
 oO 32 (.nilck (.t 31)),
 oA 33 3 32,
 oG 34 33,
 oB 35 .add (.t 34) (cI 1),
 oO 36 (.nilck (.t 31)),
 oA 37 3 36,
 oN (.store .any 1 (.t 37) (.t 35))])
 (.seq
 (.seq
 (.region [
 oA 38 0 12,
 oL 39 12 38,
 oB 40 .eql (.t 39) (cI 1)])
 (.cond (.t 40)
 (.region [
 oM 41 2,
 oA 42 2 12,
 oL 43 12 42,
 oA 44 1 12,
 oL 45 12 44,
 oO 46 (.build [.str [], .int .i64 0] [(0, 1, (.t 43)), (1, 1, (.t 45))]),
 oM 47 3,
 oO 48 (.call false (.c (.fn 60 [] [])) [(.t 41), (.t 46), (.t 47)]),
 oM 2 48])
 .skip))
 (.seq
 (.seq
 (.region [
 oM 49 0,
 oA 50 4 12,
 oL 51 12 50,
 oM 52 2,
 oM 53 3,
 oB 54 .add (.t 53) (cI 1),
 oM 55 4,
 oM 56 55,
 oF 56 57 (.faddr 0 (.t 12)),
 oF 56 58 (.load (.box 12) false 1 (.t 57)),
 oF 56 59 (.bin 0 [] .eql (.t 58) (cI 5)),
 oO 60 (.pick (.t 56) (.c (.bool true)) (.t 59)),
 oO 61 (.call false (.c (.fn 23 [] [])) [(.t 49), (.t 51), (.t 52), (.t 54), (.t 60)]),
 oM 14 61])
 (.seq
 (.region [
 oM 62 14,
 oB 63 .neq (.t 62) (cI 0)])
 (.cond (.t 63)
 (.seq
 (.region [
 oM 64 14,
 oM 10 64])
 .ret)
 .skip)))
 (.seq
 (.region [
 oM 65 0,
 oA 66 5 12,
 oL 67 12 66,
 oM 68 2,
 oM 69 3,
 oB 70 .add (.t 69) (cI 1),
 oM 71 4,
 oO 72 (.call false (.c (.fn 23 [] [])) [(.t 65), (.t 67), (.t 68), (.t 70), (.t 71)]),
 oM 15 72])
 (.seq
 (.region [
 oM 73 15,
 oB 74 .neq (.t 73) (cI 0)])
 (.cond (.t 74)
 (.seq
 (.region [
 oM 75 15,
 oM 10 75])
 .ret)
 .skip)))))))))
 (.region [
 oB 76 .add (.t 18) (cI 1),
 oM 18 76]))))
abbrev K23_0 : List Nat := [0, 3, 4, 16, 17]
abbrev B23_0 : List Nat := []
/-- (*boxhedge/types.function).block -/
def F23 : IFn where
  ntmps := 77
  nargs := 5
  res := [.tmp 10]
  freeze := false
  body :=
 (.seq
 (.region [
 oO 10 (.mv (cI 0))])
 (.seq
 (.seq
 (.region [
 oO 16 (.take 1),
 oO 17 (.len 1 (.t 16)),
 oO 18 (.mv (cI 0))])
 (.block 0
 L23_0))
 (.seq
 (.region [
 oO 10 (.mv (cI 0))])
 .ret)))

def L24_0 : ICode := .loop [2, 5, 6, 7] [4]
 (.seq
 (.region [
 oB 8 .lss (.t 7) (.t 6)])
 (.seq
 (.cond (.t 8)
 .skip
 (.exit 0))
 (.seq
 (.block 1
 (.seq
 (.region [
 oO 9 (.iaddr 2 (.t 5) (.t 7)),
 oO 10 (.load .any true 2 (.t 9)),
 oO 4 (.boxL 4 (.c (.agg [.str [], .int .i64 0]))),
 oS 4 2 4 10])
 (.region [
 oM 11 2,
 oLa 12 4 2 4,
 oO 13 (.call false (.c (.fn 60 [] [])) [(.t 11), (.t 12), (cI 0)]),
 oM 2 13])))
 (.region [
 oB 14 .add (.t 7) (cI 1),
 oM 7 14]))))
abbrev K24_0 : List Nat := [5, 6]
abbrev B24_0 : List Nat := []
/-- boxhedge/types.scoped -/
def F24 : IFn where
  ntmps := 16
  nargs := 1
  res := [.tmp 2]
  freeze := false
  body :=
 (.seq
 (.region [
 oC 2 (.nilp)])
 (.seq
 (.seq
 (.region [
 oO 5 (.take 0),
 oO 6 (.len 1 (.t 5)),
 oO 7 (.mv (cI 0))])
 (.block 0
 L24_0))
 (.seq
 (.region [
 oM 15 2,
 oM 2 15])
 .ret)))

def L9_0 : ICode := .loop [1, 3, 19, 20, 21] [5]
 (.seq
 (.region [
 oB 22 .lss (.t 21) (.t 20)])
 (.seq
 (.cond (.t 22)
 .skip
 (.exit 1))
 (.seq
 (.block 2
 (.seq
 (.region [
 oM 23 21,
 oO 24 (.iaddr 4 (.t 19) (.t 21)),
 oO 25 (.load .any true 4 (.t 24)),
 oO 5 (.boxL 5 (.c (.agg [.str [], .int .i64 0, .slice .fit 2 [], .slice .fit 6 []]))),
 oM 4 23,
 oS 5 4 5 25])
 (.seq
 (.seq
 (.region [
 oA 26 2 5,
 oL 27 5 26,
 oO 28 (.callP false (.c (.fn 22 [] [])) [(.t 27)])])
 (.cond (.t 28)
 (.seq
 (.region [
 oM 29 4,
 oO 30 (.build [.int .i64 0, .int .i64 0] [(0, 1, (.t 29)), (1, 1, (cI 0))]),
 oO 2 (.mv (cI 50)),
 oS 3 2 3 30])
 .ret)
 .skip))
 (.seq
 (.region [
 oLa 31 1 2 1,
 oO 32 (.build [.slice .fit 2 [], .slice .fit 4 []] [(0, 2, (.t 31))]),
 oA 33 1 5,
 oL 34 5 33,
 oO 35 (.build [.slice .fit 2 [], .slice .fit 4 [], .int .i64 0, .int .i64 0] [(0, 2, (.t 32)), (2, 1, (.t 34))]),
 oO 36 (.boxS 4 (.t 35)),
 oM 6 36])
 (.seq
 (.region [
 oM 37 6,
 oA 38 3 5,
 oL 39 5 38,
 oA 40 2 5,
 oL 41 5 40,
 oO 42 (.callP false (.c (.fn 24 [] [])) [(.t 41)]),
 oO 43 (.call false (.c (.fn 23 [] [])) [(.t 37), (.t 39), (.t 42), (cI 1), (.c (.bool false))]),
 oM 7 43])
 (.seq
 (.seq
 (.region [
 oM 44 7,
 oB 45 .eql (.t 44) (cI 0),
 oM 46 45,
 oT 46 47 (.faddr 3 (.t 5)),
 oT 46 48 (.load (.box 5) false 1 (.t 47)),
 oT 46 49 (.callP false (.c (.fn 11 [] [])) [(.t 48)]),
 oT 46 50 (.un .not (.t 49)),
 oO 51 (.pick (.t 46) (.t 50) (.c (.bool false)))])
 (.cond (.t 51)
 (.region [
 oO 7 (.mv (cI 52))])
 .skip))
 (.seq
 (.region [
 oM 52 7,
 oB 53 .neq (.t 52) (cI 0)])
 (.cond (.t 53)
 (.seq
 (.region [
 oM 54 7,
 oM 55 4,
 oM 56 6,
 oO 57 (.nilck (.t 56)),
 oA 58 3 57,
 oG 59 58,
 oO 60 (.build [.int .i64 0, .int .i64 0] [(0, 1, (.t 55)), (1, 1, (.t 59))]),
 oM 2 54,
 oS 3 2 3 60])
 .ret)
 .skip))))))))
 (.region [
 oB 61 .add (.t 21) (cI 1),
 oM 21 61]))))
abbrev K9_0 : List Nat := [1, 3, 19, 20]
abbrev B9_0 : List Nat := [1]
/-- boxhedge/types.Check -/
def F9 : IFn where
  ntmps := 63
  nargs := 1
  res := [.tmp 2, .cell 3 true 2]
  freeze := true
  body :=
 (.seq
 (.region [
 oO 1 (.boxL 1 (.t 0)),
 oO 2 (.mv (cI 0)),
 oO 3 (.boxL 3 (.c (.agg [.int .i64 0, .int .i64 0])))])
 (.seq
 (.block 0
 (.seq
 (.region [
 oLa 9 1 2 1,
 oO 10 (.callP false (.c (.fn 20 [] [])) [(.t 9)]),
 oO 11 (.un .not (.t 10)),
 oM 8 11])
 (.cond (.t 8)
 (.seq
 (.region [
 oO 12 (.build [.int .i64 0, .int .i64 0] []),
 oO 2 (.mv (cI 1)),
 oS 3 2 3 12])
 .ret)
 (.seq
 (.region [
 oLa 14 1 2 1,
 oO 15 (.callP false (.c (.fn 21 [] [])) [(.t 14)]),
 oO 16 (.un .not (.t 15)),
 oM 13 16])
 (.cond (.t 13)
 (.seq
 (.region [
 oO 17 (.build [.int .i64 0, .int .i64 0] []),
 oO 2 (.mv (cI 50)),
 oS 3 2 3 17])
 .ret)
 .skip)))))
 (.seq
 (.seq
 (.region [
 oA 18 1 1,
 oL 19 1 18,
 oO 20 (.len 1 (.t 19)),
 oO 21 (.mv (cI 0))])
 (.block 1
 L9_0))
 (.seq
 (.region [
 oO 62 (.build [.int .i64 0, .int .i64 0] []),
 oO 2 (.mv (cI 0)),
 oS 3 2 3 62])
 .ret))))

/-- boxhedge/boxhedgelaw05.awake -/
def F8 : IFn where
  ntmps := 57
  nargs := 0
  res := [.tmp 0]
  freeze := false
  body :=
 (.seq
 (.region [
 oC 0 (.bool false)])
 (.seq
 (.region [
 oO 12 (.callP false (.c (.fn 6 [] [])) [(.c (.str [105, 110, 116, 32, 109, 97, 105, 110, 40, 41, 32, 123, 32, 98, 111, 111, 108, 32, 98, 32, 61, 32, 49, 59, 32, 125]))]),
 oM 11 12,
 oX 13 11 0,
 oX 14 11 1,
 oX 15 11 2,
 oO 1 (.boxL 1 (.c (.agg [.slice .fit 2 [], .slice .fit 4 []]))),
 oS 1 2 1 13,
 oM 2 14,
 oM 3 15])
 (.seq
 (.region [
 oO 17 (.callP false (.c (.fn 6 [] [])) [(.c (.str [105, 110, 116, 32, 97, 91, 50, 93, 59, 32, 105, 110, 116, 32, 109, 97, 105, 110, 40, 41, 32, 123, 32, 105, 110, 116, 32, 120, 32, 61, 32, 97, 91, 48, 93, 59, 32, 119, 104, 105, 108, 101, 32, 40, 120, 32, 60, 32, 50, 41, 32, 123, 32, 120, 32, 61, 32, 120, 32, 43, 32, 49, 59, 32, 125, 32, 114, 101, 116, 117, 114, 110, 32, 120, 59, 32, 125]))]),
 oM 16 17,
 oX 18 16 0,
 oX 19 16 1,
 oX 20 16 2,
 oO 4 (.boxL 4 (.c (.agg [.slice .fit 2 [], .slice .fit 4 []]))),
 oS 4 2 4 18,
 oM 5 19,
 oM 6 20])
 (.seq
 (.region [
 oLa 22 1 2 1,
 oO 23 (.callP false (.c (.fn 9 [] [])) [(.t 22)]),
 oM 21 23,
 oX 24 21 0,
 oX 25 21 1,
 oO 8 (.boxL 8 (.c (.agg [.int .i64 0, .int .i64 0]))),
 oM 7 24,
 oS 8 2 8 25])
 (.seq
 (.region [
 oLa 27 4 2 4,
 oO 28 (.callP false (.c (.fn 9 [] [])) [(.t 27)]),
 oM 26 28,
 oX 29 26 0,
 oX 30 26 1,
 oO 10 (.boxL 10 (.c (.agg [.int .i64 0, .int .i64 0]))),
 oM 9 29,
 oS 10 2 10 30])
 (.seq
 (.region [
 oM 31 7,
 oB 32 .eql (.t 31) (cI 51),
 oM 33 32,
 oT 33 34 (.load (.box 8) true 2 (.t 8)),
 oT 33 35 (.build [.int .i64 0, .int .i64 0] []),
 oT 33 36 (.bin 4 [0, 0] .eql (.t 34) (.t 35)),
 oO 37 (.pick (.t 33) (.t 36) (.c (.bool false))),
 oM 38 37,
 oT 38 39 (.mv (.t 9)),
 oT 38 40 (.bin 0 [] .eql (.t 39) (cI 0)),
 oO 41 (.pick (.t 38) (.t 40) (.c (.bool false))),
 oM 42 41,
 oT 42 43 (.load (.box 4) true 2 (.t 4)),
 oT 42 44 (.callP false (.c (.fn 18 [] [])) [(.t 43), (.c (.str [109, 97, 105, 110]))]),
 oT 42 45 (.bin 0 [] .eql (.t 44) (cI 0)),
 oO 46 (.pick (.t 42) (.t 45) (.c (.bool false))),
 oM 47 46,
 oT 47 48 (.load (.box 4) true 2 (.t 4)),
 oT 47 49 (.callP false (.c (.fn 19 [] [])) [(.t 48), (.c (.str [97]))]),
 oT 47 50 (.bin 0 [] .eql (.t 49) (cI 0)),
 oO 51 (.pick (.t 47) (.t 50) (.c (.bool false))),
 oM 52 51,
 oT 52 53 (.load (.box 4) true 2 (.t 4)),
 oT 52 54 (.callP false (.c (.fn 19 [] [])) [(.t 53), (.c (.str [109, 97, 105, 110]))]),
 oT 52 55 (.bin 0 [] .eql (.t 54) (cI (-1))),
 oO 56 (.pick (.t 52) (.t 55) (.c (.bool false))),
 oM 0 56])
 .ret))))))

def L31_0 : ICode := .loop [0, 3] []
 (.seq
 (.seq
 (.region [
 oM 4 3,
 oM 5 0,
 oO 6 (.len 1 (.t 5)),
 oB 7 .lss (.t 4) (.t 6)])
 (.cond (.t 7)
 .skip
 (.exit 0)))
 (.seq
 (.block 1
 (.seq
 (.region [
 oM 10 0,
 oM 11 3,
 oO 12 (.iaddr 6 (.t 10) (.t 11)),
 oA 13 0 12,
 oG 14 13,
 oB 15 .eql (.t 14) (cI 6),
 oM 16 15,
 oF 16 17 (.mv (.t 0)),
 oF 16 18 (.mv (.t 3)),
 oF 16 19 (.iaddr 6 (.t 17) (.t 18)),
 oF 16 20 (.faddr 0 (.t 19)),
 oF 16 21 (.load .any false 1 (.t 20)),
 oF 16 22 (.bin 0 [] .eql (.t 21) (cI 4)),
 oF 16 23 (.mv (.t 22)),
 oT 23 24 (.mv (.t 0)),
 oT 23 25 (.mv (.t 3)),
 oT 23 26 (.iaddr 6 (.t 24) (.t 25)),
 oT 23 27 (.faddr 4 (.t 26)),
 oT 23 28 (.load .any false 1 (.t 27)),
 oT 23 29 (.callP false (.c (.fn 31 [] [])) [(.t 28)]),
 oT 23 30 (.mv (.t 29)),
 oF 30 31 (.mv (.t 0)),
 oF 30 32 (.mv (.t 3)),
 oF 30 33 (.iaddr 6 (.t 31) (.t 32)),
 oF 30 34 (.faddr 5 (.t 33)),
 oF 30 35 (.load .any false 1 (.t 34)),
 oF 30 36 (.callP false (.c (.fn 31 [] [])) [(.t 35)]),
 oT 23 37 (.pick (.t 30) (.c (.bool true)) (.t 36)),
 oF 16 38 (.pick (.t 23) (.t 37) (.c (.bool false))),
 oO 39 (.pick (.t 16) (.c (.bool true)) (.t 38))])
 (.cond (.t 39)
 (.seq
 (.region [
 oC 2 (.bool true)])
 .ret)
 .skip)))
 (.region [
 oM 8 3,
 oB 9 .add (.t 8) (cI 1),
 oM 3 9])))
abbrev K31_0 : List Nat := [0]
abbrev B31_0 : List Nat := []
/-- boxhedge/boxhedgeref05.breaks -/
def F31 : IFn where
  ntmps := 40
  nargs := 1
  res := [.tmp 2]
  freeze := false
  body :=
 (.seq
 (.region [
 oC 2 (.bool false)])
 (.seq
 (.seq
 (.region [
 oO 3 (.mv (cI 0))])
 (.block 0
 L31_0))
 (.seq
 (.region [
 oC 2 (.bool false)])
 .ret)))

def L12_0 : ICode := .loop [0, 3] [4]
 (.seq
 (.seq
 (.region [
 oM 5 3,
 oM 6 0,
 oO 7 (.len 1 (.t 6)),
 oB 8 .lss (.t 5) (.t 7)])
 (.cond (.t 8)
 .skip
 (.exit 0)))
 (.seq
 (.block 1
 (.seq
 (.region [
 oM 11 0,
 oM 12 3,
 oO 13 (.iaddr 6 (.t 11) (.t 12)),
 oO 14 (.load .any true 6 (.t 13)),
 oO 4 (.boxL 4 (.c (.agg [.int .i64 0, .int .i64 0, .str [], .slice .fit 5 [], .slice .fit 6 [], .slice .fit 6 []]))),
 oS 4 6 4 14])
 (.block 2
 (.seq
 (.region [
 oA 16 0 4,
 oL 17 4 16,
 oB 18 .eql (.t 17) (cI 8),
 oM 15 18])
 (.cond (.t 15)
 (.seq
 (.region [
 oC 2 (.bool true)])
 .ret)
 (.seq
 (.region [
 oA 20 0 4,
 oL 21 4 20,
 oB 22 .eql (.t 21) (cI 4),
 oM 23 22,
 oT 23 24 (.faddr 4 (.t 4)),
 oT 23 25 (.load (.box 4) false 1 (.t 24)),
 oT 23 26 (.callP false (.c (.fn 12 [] [])) [(.t 25)]),
 oO 27 (.pick (.t 23) (.t 26) (.c (.bool false))),
 oM 28 27,
 oT 28 29 (.faddr 5 (.t 4)),
 oT 28 30 (.load (.box 4) false 1 (.t 29)),
 oT 28 31 (.callP false (.c (.fn 12 [] [])) [(.t 30)]),
 oO 32 (.pick (.t 28) (.t 31) (.c (.bool false))),
 oM 19 32])
 (.cond (.t 19)
 (.seq
 (.region [
 oC 2 (.bool true)])
 .ret)
 (.seq
 (.region [
 oA 34 0 4,
 oL 35 4 34,
 oB 36 .eql (.t 35) (cI 5),
 oM 37 36,
 oT 37 38 (.faddr 3 (.t 4)),
 oT 37 39 (.load (.box 4) false 1 (.t 38)),
 oT 37 40 (.iaddr 5 (.t 39) (cI 0)),
 oT 37 41 (.faddr 0 (.t 40)),
 oT 37 42 (.load .any false 1 (.t 41)),
 oT 37 43 (.bin 0 [] .eql (.t 42) (cI 2)),
 oO 44 (.pick (.t 37) (.t 43) (.c (.bool false))),
 oM 45 44,
 oT 45 46 (.faddr 3 (.t 4)),
 oT 45 47 (.load (.box 4) false 1 (.t 46)),
 oT 45 48 (.iaddr 5 (.t 47) (cI 0)),
 oT 45 49 (.faddr 2 (.t 48)),
 oT 45 50 (.load .any false 1 (.t 49)),
 oT 45 51 (.bin 0 [] .eql (.t 50) (cI 1)),
 oO 52 (.pick (.t 45) (.t 51) (.c (.bool false))),
 oM 53 52,
 oT 53 54 (.faddr 4 (.t 4)),
 oT 53 55 (.load (.box 4) false 1 (.t 54)),
 oT 53 56 (.callP false (.c (.fn 31 [] [])) [(.t 55)]),
 oT 53 57 (.un .not (.t 56)),
 oO 58 (.pick (.t 53) (.t 57) (.c (.bool false))),
 oM 33 58])
 (.cond (.t 33)
 (.seq
 (.region [
 oC 2 (.bool true)])
 .ret)
 .skip)))))))))
 (.region [
 oM 9 3,
 oB 10 .add (.t 9) (cI 1),
 oM 3 10])))
abbrev K12_0 : List Nat := [0]
abbrev B12_0 : List Nat := []
/-- boxhedge/boxhedgeref05.Ends -/
def F12 : IFn where
  ntmps := 59
  nargs := 1
  res := [.tmp 2]
  freeze := false
  body :=
 (.seq
 (.region [
 oC 2 (.bool false)])
 (.seq
 (.seq
 (.region [
 oO 3 (.mv (cI 0))])
 (.block 0
 L12_0))
 (.seq
 (.region [
 oC 2 (.bool false)])
 .ret)))

def L61_0 : ICode := .loop [1, 2, 5] []
 (.seq
 (.seq
 (.region [
 oM 6 5,
 oA 7 0 2,
 oL 8 2 7,
 oO 9 (.len 1 (.t 8)),
 oB 10 .lss (.t 6) (.t 9)])
 (.cond (.t 10)
 .skip
 (.exit 0)))
 (.seq
 (.block 1
 (.seq
 (.region [
 oA 13 0 2,
 oL 14 2 13,
 oM 15 5,
 oO 16 (.iaddr 2 (.t 14) (.t 15)),
 oA 17 0 16,
 oG 18 17,
 oM 19 1,
 oB 20 .eql (.t 18) (.t 19)])
 (.cond (.t 20)
 (.seq
 (.region [
 oM 21 5,
 oM 4 21])
 .ret)
 .skip)))
 (.region [
 oM 11 5,
 oB 12 .add (.t 11) (cI 1),
 oM 5 12])))
abbrev K61_0 : List Nat := [1, 2]
abbrev B61_0 : List Nat := [2]
/-- boxhedge/boxhedgeref05.Array -/
def F61 : IFn where
  ntmps := 22
  nargs := 2
  res := [.tmp 4]
  freeze := false
  body :=
 (.seq
 (.region [
 oO 2 (.boxL 2 (.t 0)),
 oO 4 (.mv (cI 0))])
 (.seq
 (.seq
 (.region [
 oO 5 (.mv (cI 0))])
 (.block 0
 L61_0))
 (.seq
 (.region [
 oO 4 (.mv (cI (-1)))])
 .ret)))

def L62_0 : ICode := .loop [1, 2, 5] []
 (.seq
 (.seq
 (.region [
 oM 6 5,
 oA 7 1 2,
 oL 8 2 7,
 oO 9 (.len 1 (.t 8)),
 oB 10 .lss (.t 6) (.t 9)])
 (.cond (.t 10)
 .skip
 (.exit 0)))
 (.seq
 (.block 1
 (.seq
 (.region [
 oA 13 1 2,
 oL 14 2 13,
 oM 15 5,
 oO 16 (.iaddr 4 (.t 14) (.t 15)),
 oA 17 0 16,
 oG 18 17,
 oM 19 1,
 oB 20 .eql (.t 18) (.t 19)])
 (.cond (.t 20)
 (.seq
 (.region [
 oM 21 5,
 oM 4 21])
 .ret)
 .skip)))
 (.region [
 oM 11 5,
 oB 12 .add (.t 11) (cI 1),
 oM 5 12])))
abbrev K62_0 : List Nat := [1, 2]
abbrev B62_0 : List Nat := [2]
/-- boxhedge/boxhedgeref05.Place -/
def F62 : IFn where
  ntmps := 22
  nargs := 2
  res := [.tmp 4]
  freeze := false
  body :=
 (.seq
 (.region [
 oO 2 (.boxL 2 (.t 0)),
 oO 4 (.mv (cI 0))])
 (.seq
 (.seq
 (.region [
 oO 5 (.mv (cI 0))])
 (.block 0
 L62_0))
 (.seq
 (.region [
 oO 4 (.mv (cI (-1)))])
 .ret)))

def L25_0 : ICode := .loop [1, 3] []
 (.seq
 (.seq
 (.region [
 oM 6 3,
 oA 7 0 1,
 oL 8 1 7,
 oO 9 (.len 1 (.t 8)),
 oB 10 .lss (.t 6) (.t 9)])
 (.cond (.t 10)
 .skip
 (.exit 0)))
 (.seq
 (.block 1
 (.seq
 (.region [
 oLa 13 1 2 1,
 oA 14 0 1,
 oL 15 1 14,
 oM 16 3,
 oO 17 (.iaddr 2 (.t 15) (.t 16)),
 oA 18 0 17,
 oO 19 (.load .imm false 1 (.t 18)),
 oO 20 (.callP false (.c (.fn 61 [] [])) [(.t 13), (.t 19)]),
 oM 21 3,
 oB 22 .neq (.t 20) (.t 21),
 oM 23 22,
 oF 23 24 (.load (.box 1) true 2 (.t 1)),
 oF 23 25 (.faddr 0 (.t 1)),
 oF 23 26 (.load (.box 1) false 1 (.t 25)),
 oF 23 27 (.mv (.t 3)),
 oF 23 28 (.iaddr 2 (.t 26) (.t 27)),
 oF 23 29 (.faddr 0 (.t 28)),
 oF 23 30 (.load .imm false 1 (.t 29)),
 oF 23 31 (.callP false (.c (.fn 62 [] [])) [(.t 24), (.t 30)]),
 oF 23 32 (.bin 0 [] .geq (.t 31) (cI 0)),
 oO 33 (.pick (.t 23) (.c (.bool true)) (.t 32))])
 (.cond (.t 33)
 (.seq
 (.region [
 oC 2 (.bool false)])
 .ret)
 .skip)))
 (.region [
 oM 11 3,
 oB 12 .add (.t 11) (cI 1),
 oM 3 12])))
def L25_1 : ICode := .loop [1, 4] []
 (.seq
 (.seq
 (.region [
 oM 34 4,
 oA 35 1 1,
 oL 36 1 35,
 oO 37 (.len 1 (.t 36)),
 oB 38 .lss (.t 34) (.t 37)])
 (.cond (.t 38)
 .skip
 (.exit 2)))
 (.seq
 (.block 3
 (.seq
 (.region [
 oLa 41 1 2 1,
 oA 42 1 1,
 oL 43 1 42,
 oM 44 4,
 oO 45 (.iaddr 4 (.t 43) (.t 44)),
 oA 46 0 45,
 oO 47 (.load .imm false 1 (.t 46)),
 oO 48 (.callP false (.c (.fn 62 [] [])) [(.t 41), (.t 47)]),
 oM 49 4,
 oB 50 .neq (.t 48) (.t 49)])
 (.cond (.t 50)
 (.seq
 (.region [
 oC 2 (.bool false)])
 .ret)
 .skip)))
 (.region [
 oM 39 4,
 oB 40 .add (.t 39) (cI 1),
 oM 4 40])))
abbrev K25_0 : List Nat := [1]
abbrev B25_0 : List Nat := [1]
abbrev K25_1 : List Nat := [1]
abbrev B25_1 : List Nat := [1]
/-- boxhedge/boxhedgeref05.globals -/
def F25 : IFn where
  ntmps := 74
  nargs := 1
  res := [.tmp 2]
  freeze := false
  body :=
 (.seq
 (.region [
 oO 1 (.boxL 1 (.t 0)),
 oC 2 (.bool false)])
 (.seq
 (.seq
 (.region [
 oO 3 (.mv (cI 0))])
 (.block 0
 L25_0))
 (.seq
 (.seq
 (.region [
 oO 4 (.mv (cI 0))])
 (.block 2
 L25_1))
 (.seq
 (.region [
 oLa 51 1 2 1,
 oO 52 (.callP false (.c (.fn 62 [] [])) [(.t 51), (.c (.str [109, 97, 105, 110]))]),
 oM 5 52])
 (.seq
 (.region [
 oM 53 5,
 oB 54 .geq (.t 53) (cI 0),
 oM 55 54,
 oT 55 56 (.faddr 1 (.t 1)),
 oT 55 57 (.load (.box 1) false 1 (.t 56)),
 oT 55 58 (.mv (.t 5)),
 oT 55 59 (.iaddr 4 (.t 57) (.t 58)),
 oT 55 60 (.faddr 1 (.t 59)),
 oT 55 61 (.load .any false 1 (.t 60)),
 oT 55 62 (.bin 0 [] .eql (.t 61) (cI 1)),
 oO 63 (.pick (.t 55) (.t 62) (.c (.bool false))),
 oM 64 63,
 oT 64 65 (.faddr 1 (.t 1)),
 oT 64 66 (.load (.box 1) false 1 (.t 65)),
 oT 64 67 (.mv (.t 5)),
 oT 64 68 (.iaddr 4 (.t 66) (.t 67)),
 oT 64 69 (.faddr 2 (.t 68)),
 oT 64 70 (.load .any false 1 (.t 69)),
 oT 64 71 (.len 1 (.t 70)),
 oT 64 72 (.bin 0 [] .eql (.t 71) (cI 0)),
 oO 73 (.pick (.t 64) (.t 72) (.c (.bool false))),
 oM 2 73])
 .ret)))))

def L26_0 : ICode := .loop [0, 1, 6] []
 (.seq
 (.seq
 (.region [
 oM 10 6,
 oB 11 .geq (.t 10) (cI 0)])
 (.cond (.t 11)
 .skip
 (.exit 0)))
 (.seq
 (.block 1
 (.seq
 (.region [
 oM 14 0,
 oM 15 6,
 oO 16 (.iaddr 2 (.t 14) (.t 15)),
 oA 17 0 16,
 oG 18 17,
 oM 19 1,
 oB 20 .eql (.t 18) (.t 19)])
 (.cond (.t 20)
 (.seq
 (.region [
 oO 21 (.take 0),
 oM 22 6,
 oO 23 (.iaddr 2 (.t 21) (.t 22)),
 oA 24 1 23,
 oG 25 24,
 oM 4 25,
 oC 5 (.bool true)])
 .ret)
 .skip)))
 (.region [
 oM 12 6,
 oB 13 .sub (.t 12) (cI 1),
 oM 6 13])))
abbrev K26_0 : List Nat := [0, 1]
abbrev B26_0 : List Nat := []
/-- boxhedge/boxhedgeref05.find -/
def F26 : IFn where
  ntmps := 26
  nargs := 2
  res := [.tmp 4, .tmp 5]
  freeze := false
  body :=
 (.seq
 (.region [
 oO 4 (.mv (cI 0)),
 oC 5 (.bool false)])
 (.seq
 (.seq
 (.region [
 oM 7 0,
 oO 8 (.len 1 (.t 7)),
 oB 9 .sub (.t 8) (cI 1),
 oM 6 9])
 (.block 0
 L26_0))
 (.seq
 (.region [
 oO 4 (.mv (cI 0)),
 oC 5 (.bool false)])
 .ret)))

/-- boxhedge/boxhedgeref05.Operand -/
def F67 : IFn where
  ntmps := 29
  nargs := 1
  res := [.tmp 2, .tmp 3]
  freeze := false
  body :=
 (.seq
 (.region [
 oO 2 (.mv (cI 0)),
 oO 3 (.mv (cI 0))])
 (.seq
 (.block 0
 (.seq
 (.region [
 oM 5 0,
 oB 6 .eql (.t 5) (cI 18),
 oM 7 6,
 oF 7 8 (.mv (.t 0)),
 oF 7 9 (.bin 0 [] .eql (.t 8) (cI 19)),
 oO 10 (.pick (.t 7) (.c (.bool true)) (.t 9)),
 oM 11 10,
 oF 11 12 (.mv (.t 0)),
 oF 11 13 (.bin 0 [] .eql (.t 12) (cI 22)),
 oO 14 (.pick (.t 11) (.c (.bool true)) (.t 13)),
 oM 4 14])
 (.cond (.t 4)
 (.seq
 (.region [
 oO 2 (.mv (cI 2)),
 oO 3 (.mv (cI 2))])
 .ret)
 (.seq
 (.region [
 oM 16 0,
 oB 17 .eql (.t 16) (cI 16),
 oM 18 17,
 oF 18 19 (.mv (.t 0)),
 oF 18 20 (.bin 0 [] .eql (.t 19) (cI 17)),
 oO 21 (.pick (.t 18) (.c (.bool true)) (.t 20)),
 oM 15 21])
 (.cond (.t 15)
 (.seq
 (.region [
 oO 2 (.mv (cI 0)),
 oO 3 (.mv (cI 2))])
 .ret)
 (.seq
 (.region [
 oM 23 0,
 oB 24 .geq (.t 23) (cI 12),
 oM 25 24,
 oT 25 26 (.mv (.t 0)),
 oT 25 27 (.bin 0 [] .leq (.t 26) (cI 15)),
 oO 28 (.pick (.t 25) (.t 27) (.c (.bool false))),
 oM 22 28])
 (.cond (.t 22)
 (.seq
 (.region [
 oO 2 (.mv (cI 1)),
 oO 3 (.mv (cI 2))])
 .ret)
 .skip)))))))
 (.seq
 (.region [
 oO 2 (.mv (cI 1)),
 oO 3 (.mv (cI 1))])
 .ret)))

def L33_0 : ICode := .loop [1, 3, 5, 8, 9, 11, 12] []
 (.seq
 (.seq
 (.region [
 oM 76 12,
 oA 77 4 5,
 oL 78 5 77,
 oO 79 (.len 1 (.t 78)),
 oB 80 .lss (.t 76) (.t 79)])
 (.cond (.t 80)
 .skip
 (.exit 1)))
 (.seq
 (.block 2
 (.seq
 (.region [
 oLa 84 3 2 3,
 oM 85 1,
 oA 86 4 5,
 oL 87 5 86,
 oM 88 12,
 oO 89 (.iaddr 5 (.t 87) (.t 88)),
 oO 90 (.load .imm true 5 (.t 89)),
 oO 91 (.callP false (.c (.fn 33 [] [])) [(.t 84), (.t 85), (.t 90)]),
 oM 83 91,
 oX 92 83 0,
 oX 93 83 1,
 oM 13 92,
 oM 14 93])
 (.seq
 (.seq
 (.region [
 oM 94 14,
 oB 95 .neq (.t 94) (cI 0)])
 (.cond (.t 95)
 (.seq
 (.region [
 oM 96 14,
 oO 6 (.mv (cI 0)),
 oM 7 96])
 .ret)
 .skip))
 (.region [
 oO 97 (.take 11),
 oM 98 13,
 oO 99 (.bslice 1 (.int .i64 0) 1 [(0, (.t 98))]),
 oO 100 (.append 1 8 (.t 97) (.t 99)),
 oO 11 (.take 100)]))))
 (.region [
 oM 81 12,
 oB 82 .add (.t 81) (cI 1),
 oM 12 82])))
def L33_1 : ICode := .loop [3, 8, 11, 15] []
 (.seq
 (.seq
 (.region [
 oM 110 15,
 oM 111 11,
 oO 112 (.len 1 (.t 111)),
 oB 113 .lss (.t 110) (.t 112)])
 (.cond (.t 113)
 .skip
 (.exit 4)))
 (.seq
 (.block 5
 (.seq
 (.region [
 oM 116 11,
 oM 117 15,
 oO 118 (.iaddr 1 (.t 116) (.t 117)),
 oO 119 (.load .imm false 1 (.t 118)),
 oA 120 1 3,
 oL 121 3 120,
 oM 122 8,
 oO 123 (.iaddr 4 (.t 121) (.t 122)),
 oA 124 2 123,
 oO 125 (.load .imm false 1 (.t 124)),
 oM 126 15,
 oO 127 (.iaddr 2 (.t 125) (.t 126)),
 oA 128 1 127,
 oO 129 (.load .imm false 1 (.t 128)),
 oB 130 .neq (.t 119) (.t 129)])
 (.cond (.t 130)
 (.seq
 (.region [
 oO 6 (.mv (cI 0)),
 oO 7 (.mv (cI 51))])
 .ret)
 .skip)))
 (.region [
 oM 114 15,
 oB 115 .add (.t 114) (cI 1),
 oM 15 115])))
def L33_2 : ICode := .loop [11, 16, 17, 18] []
 (.seq
 (.seq
 (.region [
 oM 152 18,
 oM 153 11,
 oO 154 (.len 1 (.t 153)),
 oB 155 .lss (.t 152) (.t 154)])
 (.cond (.t 155)
 .skip
 (.exit 6)))
 (.seq
 (.block 7
 (.seq
 (.region [
 oM 158 16,
 oB 159 .neq (.t 158) (cI 0),
 oM 160 159,
 oT 160 161 (.mv (.t 11)),
 oT 160 162 (.mv (.t 18)),
 oT 160 163 (.iaddr 1 (.t 161) (.t 162)),
 oT 160 164 (.load .imm false 1 (.t 163)),
 oT 160 165 (.mv (.t 16)),
 oT 160 166 (.bin 0 [] .neq (.t 164) (.t 165)),
 oO 167 (.pick (.t 160) (.t 166) (.c (.bool false))),
 oM 168 167,
 oF 168 169 (.mv (.t 11)),
 oF 168 170 (.mv (.t 18)),
 oF 168 171 (.iaddr 1 (.t 169) (.t 170)),
 oF 168 172 (.load .imm false 1 (.t 171)),
 oF 168 173 (.mv (.t 11)),
 oF 168 174 (.iaddr 1 (.t 173) (cI 0)),
 oF 168 175 (.load .imm false 1 (.t 174)),
 oF 168 176 (.bin 0 [] .neq (.t 172) (.t 175)),
 oO 177 (.pick (.t 168) (.c (.bool true)) (.t 176))])
 (.cond (.t 177)
 (.seq
 (.region [
 oO 6 (.mv (cI 0)),
 oO 7 (.mv (cI 51))])
 .ret)
 .skip)))
 (.region [
 oM 156 18,
 oB 157 .add (.t 156) (cI 1),
 oM 18 157])))
abbrev K33_0 : List Nat := [1, 3, 5, 8, 9]
abbrev B33_0 : List Nat := [3, 5]
abbrev K33_1 : List Nat := [3, 8, 11]
abbrev B33_1 : List Nat := [3]
abbrev K33_2 : List Nat := [11, 16, 17]
abbrev B33_2 : List Nat := []
/-- boxhedge/boxhedgeref05.Type -/
def F33 : IFn where
  ntmps := 179
  nargs := 3
  res := [.tmp 6, .tmp 7]
  freeze := false
  body :=
 (.seq
 (.region [
 oO 3 (.boxL 3 (.t 0)),
 oO 5 (.boxL 5 (.t 2)),
 oO 6 (.mv (cI 0)),
 oO 7 (.mv (cI 0))])
 (.seq
 (.region [
 oLa 19 3 2 3,
 oA 20 3 5,
 oL 21 5 20,
 oO 22 (.callP false (.c (.fn 62 [] [])) [(.t 19), (.t 21)]),
 oM 8 22])
 (.seq
 (.region [
 oM 24 1,
 oA 25 3 5,
 oL 26 5 25,
 oO 27 (.callP false (.c (.fn 26 [] [])) [(.t 24), (.t 26)]),
 oM 23 27,
 oX 28 23 0,
 oX 29 23 1,
 oM 9 28,
 oM 10 29])
 (.seq
 (.block 0
 (.seq
 (.region [
 oA 31 0 5,
 oL 32 5 31,
 oB 33 .eql (.t 32) (cI 3),
 oM 34 33,
 oT 34 35 (.mv (.t 10)),
 oT 34 36 (.un .not (.t 35)),
 oO 37 (.pick (.t 34) (.t 36) (.c (.bool false))),
 oM 38 37,
 oF 38 39 (.faddr 0 (.t 5)),
 oF 38 40 (.load (.box 5) false 1 (.t 39)),
 oF 38 41 (.bin 0 [] .eql (.t 40) (cI 6)),
 oF 38 42 (.mv (.t 41)),
 oT 42 43 (.load (.box 3) true 2 (.t 3)),
 oT 42 44 (.faddr 3 (.t 5)),
 oT 42 45 (.load (.box 5) false 1 (.t 44)),
 oT 42 46 (.callP false (.c (.fn 61 [] [])) [(.t 43), (.t 45)]),
 oT 42 47 (.bin 0 [] .lss (.t 46) (cI 0)),
 oF 38 48 (.pick (.t 42) (.t 47) (.c (.bool false))),
 oO 49 (.pick (.t 38) (.c (.bool true)) (.t 48)),
 oM 50 49,
 oF 50 51 (.faddr 0 (.t 5)),
 oF 50 52 (.load (.box 5) false 1 (.t 51)),
 oF 50 53 (.bin 0 [] .eql (.t 52) (cI 7)),
 oF 50 54 (.mv (.t 53)),
 oT 54 55 (.mv (.t 8)),
 oT 54 56 (.bin 0 [] .lss (.t 55) (cI 0)),
 oF 50 57 (.pick (.t 54) (.t 56) (.c (.bool false))),
 oO 58 (.pick (.t 50) (.c (.bool true)) (.t 57)),
 oM 30 58])
 (.cond (.t 30)
 (.seq
 (.region [
 oO 6 (.mv (cI 0)),
 oO 7 (.mv (cI 50))])
 .ret)
 (.seq
 (.region [
 oA 60 0 5,
 oL 61 5 60,
 oB 62 .eql (.t 61) (cI 7),
 oM 63 62,
 oT 63 64 (.faddr 4 (.t 5)),
 oT 63 65 (.load (.box 5) false 1 (.t 64)),
 oT 63 66 (.len 1 (.t 65)),
 oT 63 67 (.faddr 1 (.t 3)),
 oT 63 68 (.load (.box 3) false 1 (.t 67)),
 oT 63 69 (.mv (.t 8)),
 oT 63 70 (.iaddr 4 (.t 68) (.t 69)),
 oT 63 71 (.faddr 2 (.t 70)),
 oT 63 72 (.load .imm false 1 (.t 71)),
 oT 63 73 (.len 1 (.t 72)),
 oT 63 74 (.bin 0 [] .neq (.t 66) (.t 73)),
 oO 75 (.pick (.t 63) (.t 74) (.c (.bool false))),
 oM 59 75])
 (.cond (.t 59)
 (.seq
 (.region [
 oO 6 (.mv (cI 0)),
 oO 7 (.mv (cI 51))])
 .ret)
 .skip)))))
 (.seq
 (.region [
 oC 11 (.slice .fit 1 [])])
 (.seq
 (.seq
 (.region [
 oO 12 (.mv (cI 0))])
 (.block 1
 L33_0))
 (.seq
 (.seq
 (.region [
 oA 101 0 5,
 oL 102 5 101])
 (.block 3
 (.seq
 (.region [
 oB 104 .eql (.t 102) (cI 2),
 oM 103 104])
 (.cond (.t 103)
 (.seq
 (.region [
 oO 6 (.mv (cI 2)),
 oO 7 (.mv (cI 0))])
 .ret)
 (.seq
 (.region [
 oB 106 .eql (.t 102) (cI 3),
 oM 105 106])
 (.cond (.t 105)
 (.seq
 (.region [
 oM 107 9,
 oM 6 107,
 oO 7 (.mv (cI 0))])
 .ret)
 (.seq
 (.region [
 oB 109 .eql (.t 102) (cI 7),
 oM 108 109])
 (.cond (.t 108)
 (.seq
 (.seq
 (.region [
 oO 15 (.mv (cI 0))])
 (.block 4
 L33_1))
 (.seq
 (.region [
 oA 131 1 3,
 oL 132 3 131,
 oM 133 8,
 oO 134 (.iaddr 4 (.t 132) (.t 133)),
 oA 135 1 134,
 oG 136 135,
 oM 6 136,
 oO 7 (.mv (cI 0))])
 .ret))
 (.seq
 (.region [
 oB 138 .eql (.t 102) (cI 6),
 oM 137 138])
 (.cond (.t 137)
 (.seq
 (.region [
 oO 139 (.take 11),
 oO 140 (.iaddr 1 (.t 139) (cI 0)),
 oG 141 140,
 oB 142 .neq (.t 141) (cI 1)])
 (.cond (.t 142)
 (.seq
 (.region [
 oO 6 (.mv (cI 0)),
 oO 7 (.mv (cI 51))])
 .ret)
 .skip))
 (.seq
 (.seq
 (.region [
 oB 144 .eql (.t 102) (cI 4),
 oM 143 144])
 (.cond (.t 143)
 .skip
 (.region [
 oB 145 .eql (.t 102) (cI 5),
 oM 143 145])))
 (.cond (.t 143)
 (.seq
 (.region [
 oA 147 1 5,
 oL 148 5 147,
 oO 149 (.callP false (.c (.fn 67 [] [])) [(.t 148)]),
 oM 146 149,
 oX 150 146 0,
 oX 151 146 1,
 oM 16 150,
 oM 17 151])
 (.seq
 (.seq
 (.region [
 oO 18 (.mv (cI 0))])
 (.block 6
 L33_2))
 (.seq
 (.region [
 oM 178 17,
 oM 6 178,
 oO 7 (.mv (cI 0))])
 .ret)))
 .skip))))))))))))
 (.seq
 (.region [
 oO 6 (.mv (cI 1)),
 oO 7 (.mv (cI 0))])
 .ret))))))))

/-- (*boxhedge/boxhedgeref05.checker).want -/
def F82 : IFn where
  ntmps := 29
  nargs := 4
  res := [.tmp 8]
  freeze := false
  body :=
 (.seq
 (.region [
 oO 6 (.boxL 6 (.t 2)),
 oO 8 (.mv (cI 0))])
 (.seq
 (.region [
 oM 12 0,
 oO 13 (.nilck (.t 12)),
 oA 14 0 13,
 oO 15 (.load .any true 2 (.t 14)),
 oO 16 (.take 1),
 oLa 17 6 5 6,
 oO 18 (.callP false (.c (.fn 33 [] [])) [(.t 15), (.t 16), (.t 17)]),
 oM 11 18,
 oX 19 11 0,
 oX 20 11 1,
 oM 9 19,
 oM 10 20])
 (.seq
 (.seq
 (.region [
 oM 21 10,
 oB 22 .eql (.t 21) (cI 0),
 oM 23 22,
 oT 23 24 (.mv (.t 9)),
 oT 23 25 (.mv (.t 3)),
 oT 23 26 (.bin 0 [] .neq (.t 24) (.t 25)),
 oO 27 (.pick (.t 23) (.t 26) (.c (.bool false)))])
 (.cond (.t 27)
 (.seq
 (.region [
 oO 8 (.mv (cI 51))])
 .ret)
 .skip))
 (.seq
 (.region [
 oM 28 10,
 oM 8 28])
 .ret))))

/-- (*boxhedge/boxhedgeref05.checker).own -/
def F63 : IFn where
  ntmps := 144
  nargs := 5
  res := [.tmp 10]
  freeze := false
  body :=
 (.seq
 (.region [
 oO 6 (.boxL 6 (.t 1)),
 oO 10 (.mv (cI 0))])
 (.seq
 (.seq
 (.region [
 oA 19 0 6,
 oL 20 6 19])
 (.block 0
 (.seq
 (.region [
 oB 22 .eql (.t 20) (cI 1),
 oM 21 22])
 (.cond (.t 21)
 (.seq
 (.region [
 oM 23 0,
 oM 24 2,
 oA 25 3 6,
 oL 26 6 25,
 oO 27 (.iaddr 5 (.t 26) (cI 0)),
 oO 28 (.load .imm true 5 (.t 27)),
 oA 29 1 6,
 oL 30 6 29,
 oO 31 (.call false (.c (.fn 82 [] [])) [(.t 23), (.t 24), (.t 28), (.t 30)]),
 oM 11 31])
 (.seq
 (.region [
 oO 33 (.take 2),
 oM 34 3,
 oO 35 (.slc false 2 (.t 33) (some (.t 34)) none none),
 oA 36 2 6,
 oL 37 6 36,
 oO 38 (.callP false (.c (.fn 26 [] [])) [(.t 35), (.t 37)]),
 oM 32 38,
 oX 39 32 0,
 oX 40 32 1,
 oM 12 39,
 oM 13 40])
 (.seq
 (.seq
 (.region [
 oM 41 11,
 oB 42 .eql (.t 41) (cI 0),
 oM 43 42,
 oT 43 44 (.mv (.t 13)),
 oO 45 (.pick (.t 43) (.t 44) (.c (.bool false)))])
 (.cond (.t 45)
 (.region [
 oO 11 (.mv (cI 50))])
 .skip))
 (.seq
 (.region [
 oM 46 11,
 oM 10 46])
 .ret))))
 (.seq
 (.region [
 oB 48 .eql (.t 20) (cI 2),
 oM 47 48])
 (.cond (.t 47)
 (.seq
 (.region [
 oM 50 2,
 oA 51 2 6,
 oL 52 6 51,
 oO 53 (.callP false (.c (.fn 26 [] [])) [(.t 50), (.t 52)]),
 oM 49 53,
 oX 54 49 0,
 oX 55 49 1,
 oM 14 54,
 oM 15 55])
 (.seq
 (.seq
 (.region [
 oM 56 15,
 oO 57 (.un .not (.t 56))])
 (.cond (.t 57)
 (.seq
 (.region [
 oO 10 (.mv (cI 50))])
 .ret)
 .skip))
 (.seq
 (.region [
 oM 58 0,
 oO 59 (.take 2),
 oA 60 3 6,
 oL 61 6 60,
 oO 62 (.iaddr 5 (.t 61) (cI 0)),
 oO 63 (.load .any true 5 (.t 62)),
 oM 64 14,
 oO 65 (.call false (.c (.fn 82 [] [])) [(.t 58), (.t 59), (.t 63), (.t 64)]),
 oM 10 65])
 .ret)))
 (.seq
 (.region [
 oB 67 .eql (.t 20) (cI 3),
 oM 66 67])
 (.cond (.t 66)
 (.seq
 (.seq
 (.region [
 oM 68 0,
 oO 69 (.nilck (.t 68)),
 oA 70 0 69,
 oO 71 (.load .any true 2 (.t 70)),
 oA 72 2 6,
 oL 73 6 72,
 oO 74 (.callP false (.c (.fn 61 [] [])) [(.t 71), (.t 73)]),
 oB 75 .lss (.t 74) (cI 0)])
 (.cond (.t 75)
 (.seq
 (.region [
 oO 10 (.mv (cI 50))])
 .ret)
 .skip))
 (.seq
 (.region [
 oM 76 0,
 oM 77 2,
 oA 78 3 6,
 oL 79 6 78,
 oO 80 (.iaddr 5 (.t 79) (cI 0)),
 oO 81 (.load .any true 5 (.t 80)),
 oO 82 (.call false (.c (.fn 82 [] [])) [(.t 76), (.t 77), (.t 81), (cI 1)]),
 oM 16 82])
 (.seq
 (.seq
 (.region [
 oM 83 16,
 oB 84 .eql (.t 83) (cI 0)])
 (.cond (.t 84)
 (.region [
 oM 85 0,
 oO 86 (.take 2),
 oA 87 3 6,
 oL 88 6 87,
 oO 89 (.iaddr 5 (.t 88) (cI 1)),
 oO 90 (.load .any true 5 (.t 89)),
 oO 91 (.call false (.c (.fn 82 [] [])) [(.t 85), (.t 86), (.t 90), (cI 1)]),
 oM 16 91])
 .skip))
 (.seq
 (.region [
 oM 92 16,
 oM 10 92])
 .ret))))
 (.seq
 (.seq
 (.region [
 oB 94 .eql (.t 20) (cI 4),
 oM 93 94])
 (.cond (.t 93)
 .skip
 (.region [
 oB 95 .eql (.t 20) (cI 5),
 oM 93 95])))
 (.cond (.t 93)
 (.seq
 (.region [
 oM 96 0,
 oO 97 (.take 2),
 oA 98 3 6,
 oL 99 6 98,
 oO 100 (.iaddr 5 (.t 99) (cI 0)),
 oO 101 (.load .any true 5 (.t 100)),
 oO 102 (.call false (.c (.fn 82 [] [])) [(.t 96), (.t 97), (.t 101), (cI 2)]),
 oM 10 102])
 .ret)
 (.seq
 (.region [
 oB 104 .eql (.t 20) (cI 8),
 oM 103 104])
 (.cond (.t 103)
 (.seq
 (.region [
 oM 105 0,
 oO 106 (.take 2),
 oA 107 3 6,
 oL 108 6 107,
 oO 109 (.iaddr 5 (.t 108) (cI 0)),
 oO 110 (.load .imm true 5 (.t 109)),
 oM 111 0,
 oO 112 (.nilck (.t 111)),
 oA 113 2 112,
 oA 114 1 113,
 oG 115 114,
 oO 116 (.call false (.c (.fn 82 [] [])) [(.t 105), (.t 106), (.t 110), (.t 115)]),
 oM 10 116])
 .ret)
 (.seq
 (.region [
 oB 118 .eql (.t 20) (cI 9),
 oM 117 118])
 (.cond (.t 117)
 (.seq
 (.region [
 oM 119 0,
 oO 120 (.take 2),
 oA 121 3 6,
 oL 122 6 121,
 oO 123 (.iaddr 5 (.t 122) (cI 0)),
 oO 124 (.load .any true 5 (.t 123)),
 oO 125 (.call false (.c (.fn 82 [] [])) [(.t 119), (.t 120), (.t 124), (cI 1)]),
 oM 10 125])
 .ret)
 (.seq
 (.region [
 oB 127 .eql (.t 20) (cI 10),
 oM 126 127])
 (.cond (.t 126)
 (.seq
 (.region [
 oM 129 0,
 oO 130 (.nilck (.t 129)),
 oA 131 0 130,
 oO 132 (.load .any true 2 (.t 131)),
 oO 133 (.take 2),
 oA 134 3 6,
 oL 135 6 134,
 oO 136 (.iaddr 5 (.t 135) (cI 0)),
 oO 137 (.load .imm true 5 (.t 136)),
 oO 138 (.callP false (.c (.fn 33 [] [])) [(.t 132), (.t 133), (.t 137)]),
 oM 128 138,
 oX 139 128 0,
 oX 140 128 1,
 oM 17 139,
 oM 18 140])
 (.seq
 (.region [
 oM 141 18,
 oM 10 141])
 .ret))
 .skip))))))))))))))))
 (.seq
 (.seq
 (.region [
 oM 142 4,
 oO 143 (.un .not (.t 142))])
 (.cond (.t 143)
 (.seq
 (.region [
 oO 10 (.mv (cI 53))])
 .ret)
 .skip))
 (.seq
 (.region [
 oO 10 (.mv (cI 0))])
 .ret))))

def L27_0 : ICode := .loop [0, 1, 2, 3, 9, 10] [11]
 (.seq
 (.seq
 (.region [
 oM 18 10,
 oM 19 1,
 oO 20 (.len 1 (.t 19)),
 oB 21 .lss (.t 18) (.t 20)])
 (.cond (.t 21)
 .skip
 (.exit 0)))
 (.seq
 (.block 1
 (.seq
 (.region [
 oM 24 1,
 oM 25 10,
 oO 26 (.iaddr 6 (.t 24) (.t 25)),
 oO 27 (.load .any true 6 (.t 26)),
 oO 11 (.boxL 11 (.c (.agg [.int .i64 0, .int .i64 0, .str [], .slice .fit 5 [], .slice .fit 6 [], .slice .fit 6 []]))),
 oS 11 6 11 27])
 (.seq
 (.seq
 (.region [
 oM 28 0,
 oLa 29 11 6 11,
 oM 30 9,
 oM 31 2,
 oO 32 (.len 1 (.t 31)),
 oM 33 3,
 oO 34 (.call false (.c (.fn 63 [] [])) [(.t 28), (.t 29), (.t 30), (.t 32), (.t 33)]),
 oM 12 34])
 (.seq
 (.region [
 oM 35 12,
 oB 36 .neq (.t 35) (cI 0)])
 (.cond (.t 36)
 (.seq
 (.region [
 oM 37 12,
 oM 8 37])
 .ret)
 .skip)))
 (.seq
 (.region [
 oM 38 0,
 oO 39 (.nilck (.t 38)),
 oA 40 6 39,
 oG 41 40,
 oB 42 .add (.t 41) (cI 1),
 oO 43 (.nilck (.t 38)),
 oA 44 6 43,
 oN (.store .any 1 (.t 44) (.t 42))])
 (.seq
 (.seq
 (.region [
 oA 45 0 11,
 oL 46 11 45,
 oB 47 .eql (.t 46) (cI 1)])
 (.cond (.t 47)
 (.region [
 oO 48 (.take 9),
 oA 49 2 11,
 oL 50 11 49,
 oA 51 1 11,
 oL 52 11 51,
 oO 53 (.build [.str [], .int .i64 0] [(0, 1, (.t 50)), (1, 1, (.t 52))]),
 oO 54 (.bslice 2 (.agg [.str [], .int .i64 0]) 1 [(0, (.t 53))]),
 oO 55 (.append 2 24 (.t 48) (.t 54)),
 oO 9 (.take 55)])
 .skip))
 (.seq
 (.seq
 (.region [
 oM 56 0,
 oA 57 4 11,
 oL 58 11 57,
 oM 59 9,
 oM 60 3,
 oM 61 60,
 oF 61 62 (.faddr 0 (.t 11)),
 oF 61 63 (.load (.box 11) false 1 (.t 62)),
 oF 61 64 (.bin 0 [] .eql (.t 63) (cI 5)),
 oO 65 (.pick (.t 61) (.c (.bool true)) (.t 64)),
 oO 66 (.call false (.c (.fn 27 [] [])) [(.t 56), (.t 58), (.t 59), (.t 65)]),
 oM 13 66])
 (.seq
 (.region [
 oM 67 13,
 oB 68 .neq (.t 67) (cI 0)])
 (.cond (.t 68)
 (.seq
 (.region [
 oM 69 13,
 oM 8 69])
 .ret)
 .skip)))
 (.seq
 (.region [
 oM 70 0,
 oA 71 5 11,
 oL 72 11 71,
 oM 73 9,
 oM 74 3,
 oO 75 (.call false (.c (.fn 27 [] [])) [(.t 70), (.t 72), (.t 73), (.t 74)]),
 oM 14 75])
 (.seq
 (.region [
 oM 76 14,
 oB 77 .neq (.t 76) (cI 0)])
 (.cond (.t 77)
 (.seq
 (.region [
 oM 78 14,
 oM 8 78])
 .ret)
 .skip)))))))))
 (.region [
 oM 22 10,
 oB 23 .add (.t 22) (cI 1),
 oM 10 23])))
abbrev K27_0 : List Nat := [0, 1, 2, 3]
abbrev B27_0 : List Nat := []
/-- (*boxhedge/boxhedgeref05.checker).block -/
def F27 : IFn where
  ntmps := 79
  nargs := 4
  res := [.tmp 8]
  freeze := false
  body :=
 (.seq
 (.region [
 oO 8 (.mv (cI 0))])
 (.seq
 (.region [
 oC 9 (.slice .fit 2 [])])
 (.seq
 (.region [
 oO 15 (.take 9),
 oM 16 2,
 oO 17 (.append 2 24 (.t 15) (.t 16)),
 oO 9 (.take 17)])
 (.seq
 (.seq
 (.region [
 oO 10 (.mv (cI 0))])
 (.block 0
 L27_0))
 (.seq
 (.region [
 oO 8 (.mv (cI 0))])
 .ret)))))

def L10_0 : ICode := .loop [1, 3, 4, 5, 6] []
 (.seq
 (.seq
 (.region [
 oM 31 6,
 oA 32 2 5,
 oL 33 5 32,
 oO 34 (.len 1 (.t 33)),
 oB 35 .lss (.t 31) (.t 34)])
 (.cond (.t 35)
 .skip
 (.exit 2)))
 (.seq
 (.block 3
 (.seq
 (.region [
 oA 39 2 5,
 oL 40 5 39,
 oM 41 6,
 oO 42 (.slc false 2 (.t 40) none (some (.t 41)) none),
 oA 43 2 5,
 oL 44 5 43,
 oM 45 6,
 oO 46 (.iaddr 2 (.t 44) (.t 45)),
 oA 47 0 46,
 oO 48 (.load .imm false 1 (.t 47)),
 oO 49 (.callP false (.c (.fn 26 [] [])) [(.t 42), (.t 48)]),
 oM 38 49,
 oX 50 38 0,
 oX 51 38 1,
 oM 7 50,
 oM 8 51])
 (.seq
 (.region [
 oM 52 8])
 (.cond (.t 52)
 (.seq
 (.region [
 oM 53 4,
 oO 54 (.build [.int .i64 0, .int .i64 0] [(0, 1, (.t 53)), (1, 1, (cI 0))]),
 oO 2 (.mv (cI 50)),
 oS 3 2 3 54])
 .ret)
 .skip))))
 (.region [
 oM 36 6,
 oB 37 .add (.t 36) (cI 1),
 oM 6 37])))
def L10_1 : ICode := .loop [1, 3, 4] [5]
 (.seq
 (.seq
 (.region [
 oM 19 4,
 oA 20 1 1,
 oL 21 1 20,
 oO 22 (.len 1 (.t 21)),
 oB 23 .lss (.t 19) (.t 22)])
 (.cond (.t 23)
 .skip
 (.exit 0)))
 (.seq
 (.block 1
 (.seq
 (.region [
 oA 26 1 1,
 oL 27 1 26,
 oM 28 4,
 oO 29 (.iaddr 4 (.t 27) (.t 28)),
 oO 30 (.load .any true 4 (.t 29)),
 oO 5 (.boxL 5 (.c (.agg [.str [], .int .i64 0, .slice .fit 2 [], .slice .fit 6 []]))),
 oS 5 4 5 30])
 (.seq
 (.seq
 (.region [
 oO 6 (.mv (cI 0))])
 (.block 2
 L10_0))
 (.seq
 (.region [
 oLa 55 1 2 1,
 oLa 56 5 4 5,
 oO 57 (.build [.slice .fit 2 [], .slice .fit 4 [], .str [], .int .i64 0, .slice .fit 2 [], .slice .fit 6 [], .int .i64 0] [(0, 2, (.t 55)), (2, 4, (.t 56))]),
 oO 58 (.boxS 7 (.t 57)),
 oM 9 58])
 (.seq
 (.seq
 (.region [
 oM 59 9,
 oA 60 3 5,
 oL 61 5 60,
 oA 62 2 5,
 oL 63 5 62,
 oO 64 (.call false (.c (.fn 27 [] [])) [(.t 59), (.t 61), (.t 63), (.c (.bool false))]),
 oM 10 64])
 (.seq
 (.region [
 oM 65 10,
 oB 66 .neq (.t 65) (cI 0)])
 (.cond (.t 66)
 (.seq
 (.region [
 oM 67 10,
 oM 68 4,
 oM 69 9,
 oO 70 (.nilck (.t 69)),
 oA 71 6 70,
 oG 72 71,
 oO 73 (.build [.int .i64 0, .int .i64 0] [(0, 1, (.t 68)), (1, 1, (.t 72))]),
 oM 2 67,
 oS 3 2 3 73])
 .ret)
 .skip)))
 (.seq
 (.region [
 oA 74 3 5,
 oL 75 5 74,
 oO 76 (.callP false (.c (.fn 12 [] [])) [(.t 75)]),
 oO 77 (.un .not (.t 76))])
 (.cond (.t 77)
 (.seq
 (.region [
 oM 78 4,
 oM 79 9,
 oO 80 (.nilck (.t 79)),
 oA 81 6 80,
 oG 82 81,
 oO 83 (.build [.int .i64 0, .int .i64 0] [(0, 1, (.t 78)), (1, 1, (.t 82))]),
 oO 2 (.mv (cI 52)),
 oS 3 2 3 83])
 .ret)
 .skip)))))))
 (.region [
 oM 24 4,
 oB 25 .add (.t 24) (cI 1),
 oM 4 25])))
abbrev K10_0 : List Nat := [1, 3, 4, 5]
abbrev B10_0 : List Nat := [1, 5]
abbrev K10_1 : List Nat := [1, 3]
abbrev B10_1 : List Nat := [1]
/-- boxhedge/boxhedgeref05.Check -/
def F10 : IFn where
  ntmps := 85
  nargs := 1
  res := [.tmp 2, .cell 3 true 2]
  freeze := true
  body :=
 (.seq
 (.region [
 oO 1 (.boxL 1 (.t 0)),
 oO 2 (.mv (cI 0)),
 oO 3 (.boxL 3 (.c (.agg [.int .i64 0, .int .i64 0])))])
 (.seq
 (.seq
 (.region [
 oLa 11 1 2 1,
 oO 12 (.callP false (.c (.fn 16 [] [])) [(.t 11)]),
 oO 13 (.un .not (.t 12))])
 (.cond (.t 13)
 (.seq
 (.region [
 oO 14 (.build [.int .i64 0, .int .i64 0] []),
 oO 2 (.mv (cI 1)),
 oS 3 2 3 14])
 .ret)
 .skip))
 (.seq
 (.seq
 (.region [
 oLa 15 1 2 1,
 oO 16 (.callP false (.c (.fn 25 [] [])) [(.t 15)]),
 oO 17 (.un .not (.t 16))])
 (.cond (.t 17)
 (.seq
 (.region [
 oO 18 (.build [.int .i64 0, .int .i64 0] []),
 oO 2 (.mv (cI 50)),
 oS 3 2 3 18])
 .ret)
 .skip))
 (.seq
 (.seq
 (.region [
 oO 4 (.mv (cI 0))])
 (.block 0
 L10_1))
 (.seq
 (.region [
 oO 84 (.build [.int .i64 0, .int .i64 0] []),
 oO 2 (.mv (cI 0)),
 oS 3 2 3 84])
 .ret)))))

/-- boxhedge/boxhedgelaw05.TypesBodies -/
def F3 : IFn where
  ntmps := 59
  nargs := 2
  res := [.tmp 4]
  freeze := false
  body :=
 (.seq
 (.region [
 oC 4 (.bool false)])
 (.seq
 (.region [
 oO 13 (.take 0),
 oM 14 1,
 oO 15 (.callP false (.c (.fn 7 [] [])) [(.t 13), (.t 14)]),
 oO 16 (.callP false (.c (.fn 6 [] [])) [(.t 15)]),
 oM 12 16,
 oX 17 12 0,
 oX 18 12 1,
 oX 19 12 2,
 oO 5 (.boxL 5 (.c (.agg [.slice .fit 2 [], .slice .fit 4 []]))),
 oS 5 2 5 17,
 oM 6 18,
 oM 7 19])
 (.seq
 (.seq
 (.region [
 oM 20 6,
 oB 21 .neq (.t 20) (cI 0)])
 (.cond (.t 21)
 (.seq
 (.region [
 oO 22 (.callP false (.c (.fn 8 [] [])) []),
 oM 4 22])
 .ret)
 .skip))
 (.seq
 (.region [
 oLa 24 5 2 5,
 oO 25 (.callP false (.c (.fn 9 [] [])) [(.t 24)]),
 oM 23 25,
 oX 26 23 0,
 oX 27 23 1,
 oO 9 (.boxL 9 (.c (.agg [.int .i64 0, .int .i64 0]))),
 oM 8 26,
 oS 9 2 9 27])
 (.seq
 (.region [
 oLa 29 5 2 5,
 oO 30 (.callP false (.c (.fn 10 [] [])) [(.t 29)]),
 oM 28 30,
 oX 31 28 0,
 oX 32 28 1,
 oO 11 (.boxL 11 (.c (.agg [.int .i64 0, .int .i64 0]))),
 oM 10 31,
 oS 11 2 11 32])
 (.seq
 (.region [
 oO 33 (.callP false (.c (.fn 8 [] [])) []),
 oM 34 33,
 oT 34 35 (.mv (.t 8)),
 oT 34 36 (.mv (.t 10)),
 oT 34 37 (.bin 0 [] .eql (.t 35) (.t 36)),
 oO 38 (.pick (.t 34) (.t 37) (.c (.bool false))),
 oM 39 38,
 oT 39 40 (.load (.box 9) true 2 (.t 9)),
 oT 39 41 (.load (.box 11) true 2 (.t 11)),
 oT 39 42 (.bin 4 [0, 0] .eql (.t 40) (.t 41)),
 oO 43 (.pick (.t 39) (.t 42) (.c (.bool false))),
 oM 44 43,
 oT 44 45 (.faddr 1 (.t 5)),
 oT 44 46 (.load (.box 5) false 1 (.t 45)),
 oT 44 47 (.iaddr 4 (.t 46) (cI 0)),
 oT 44 48 (.faddr 3 (.t 47)),
 oT 44 49 (.load .imm false 1 (.t 48)),
 oT 44 50 (.callP false (.c (.fn 11 [] [])) [(.t 49)]),
 oT 44 51 (.faddr 1 (.t 5)),
 oT 44 52 (.load (.box 5) false 1 (.t 51)),
 oT 44 53 (.iaddr 4 (.t 52) (cI 0)),
 oT 44 54 (.faddr 3 (.t 53)),
 oT 44 55 (.load .imm false 1 (.t 54)),
 oT 44 56 (.callP false (.c (.fn 12 [] [])) [(.t 55)]),
 oT 44 57 (.bin 1 [] .eql (.t 50) (.t 56)),
 oO 58 (.pick (.t 44) (.t 57) (.c (.bool false))),
 oM 4 58])
 .ret))))))

def L4_0 : ICode := .loop [0, 3, 4, 5, 6] []
 (.seq
 (.seq
 (.region [
 oM 17 6,
 oM 18 0,
 oO 19 (.len 1 (.t 18)),
 oB 20 .lss (.t 17) (.t 19),
 oM 21 20,
 oT 21 22 (.mv (.t 6)),
 oT 21 23 (.bin 0 [] .lss (.t 22) (cI 12)),
 oO 24 (.pick (.t 21) (.t 23) (.c (.bool false)))])
 (.cond (.t 24)
 .skip
 (.exit 0)))
 (.seq
 (.block 1
 (.seq
 (.region [
 oM 27 0,
 oM 28 6,
 oO 29 (.iaddr 1 (.t 27) (.t 28)),
 oG 30 29,
 oO 31 (.conv .i64 (.t 30)),
 oB 32 .rem (.t 31) (cI 10),
 oM 7 32])
 (.seq
 (.seq
 (.region [
 oM 33 7,
 oB 34 .eql (.t 33) (cI 3),
 oM 35 34,
 oF 35 36 (.mv (.t 7)),
 oF 35 37 (.bin 0 [] .eql (.t 36) (cI 4)),
 oO 38 (.pick (.t 35) (.c (.bool true)) (.t 37)),
 oM 39 38,
 oT 39 40 (.mv (.t 4)),
 oT 39 41 (.bin 0 [] .eql (.t 40) (cI 0)),
 oO 42 (.pick (.t 39) (.t 41) (.c (.bool false))),
 oM 43 42,
 oF 43 44 (.mv (.t 7)),
 oF 43 45 (.bin 0 [] .eql (.t 44) (cI 3)),
 oF 43 46 (.mv (.t 45)),
 oT 46 47 (.mv (.t 0)),
 oT 46 48 (.mv (.t 6)),
 oT 46 49 (.iaddr 1 (.t 47) (.t 48)),
 oT 46 50 (.load .any false 1 (.t 49)),
 oT 46 51 (.bin 0 [] .lss (.t 50) (.c (.int .u8 128))),
 oF 43 52 (.pick (.t 46) (.t 51) (.c (.bool false))),
 oO 53 (.pick (.t 43) (.c (.bool true)) (.t 52))])
 (.cond (.t 53)
 (.exit 1)
 .skip))
 (.seq
 (.region [
 oM 54 3,
 oM 55 5,
 oM 56 7,
 oO 57 (.iaddr 1 (.t 55) (.t 56)),
 oG 58 57,
 oB 59 .add (.t 54) (.t 58),
 oB 60 .add (.t 59) (.c (.str [10])),
 oM 3 60])
 (.seq
 (.seq
 (.region [
 oM 61 7,
 oB 62 .lss (.t 61) (cI 3),
 oM 63 62,
 oF 63 64 (.mv (.t 7)),
 oF 63 65 (.bin 0 [] .eql (.t 64) (cI 9)),
 oO 66 (.pick (.t 63) (.c (.bool true)) (.t 65))])
 (.cond (.t 66)
 (.region [
 oM 67 4,
 oB 68 .add (.t 67) (cI 1),
 oM 4 68])
 .skip))
 (.seq
 (.region [
 oM 69 7,
 oB 70 .eql (.t 69) (cI 4)])
 (.cond (.t 70)
 (.region [
 oM 71 4,
 oB 72 .sub (.t 71) (cI 1),
 oM 4 72])
 .skip)))))))
 (.region [
 oM 25 6,
 oB 26 .add (.t 25) (cI 1),
 oM 6 26])))
def L4_1 : ICode := .loop [3, 4, 8] []
 (.seq
 (.seq
 (.region [
 oM 73 8,
 oM 74 4,
 oB 75 .lss (.t 73) (.t 74)])
 (.cond (.t 75)
 .skip
 (.exit 2)))
 (.seq
 (.block 3
 (.region [
 oM 78 3,
 oB 79 .add (.t 78) (.c (.str [125])),
 oM 3 79]))
 (.region [
 oM 76 8,
 oB 77 .add (.t 76) (cI 1),
 oM 8 77])))
abbrev K4_0 : List Nat := [0, 5]
abbrev B4_0 : List Nat := []
abbrev K4_1 : List Nat := [4]
abbrev B4_1 : List Nat := []
/-- boxhedge/boxhedgelaw05.TypesEnds -/
def F4 : IFn where
  ntmps := 126
  nargs := 1
  res := [.tmp 2]
  freeze := false
  body :=
 (.seq
 (.region [
 oC 2 (.bool false)])
 (.seq
 (.region [
 oC 3 (.str [105, 110, 116, 32, 109, 97, 105, 110, 40, 41, 32, 123, 32, 98, 111, 111, 108, 32, 98, 32, 61, 32, 116, 114, 117, 101, 59, 10])])
 (.seq
 (.region [
 oO 4 (.mv (cI 0))])
 (.seq
 (.region [
 oO 16 (.bslice 1 (.str []) 10 [(0, (.c (.str [119, 104, 105, 108, 101, 32, 40, 116, 114, 117, 101, 41, 32, 123]))), (1, (.c (.str [119, 104, 105, 108, 101, 32, 40, 98, 41, 32, 123]))), (2, (.c (.str [105, 102, 32, 40, 98, 41, 32, 123]))), (3, (.c (.str [125, 32, 101, 108, 115, 101, 32, 123]))), (4, (.c (.str [125]))), (5, (.c (.str [98, 114, 101, 97, 107, 59]))), (6, (.c (.str [114, 101, 116, 117, 114, 110, 32, 49, 59]))), (7, (.c (.str [99, 111, 110, 116, 105, 110, 117, 101, 59]))), (8, (.c (.str [112, 114, 105, 110, 116, 40, 49, 41, 59]))), (9, (.c (.str [105, 102, 32, 40, 116, 114, 117, 101, 41, 32, 123, 32, 114, 101, 116, 117, 114, 110, 32, 50, 59, 32, 125, 32, 101, 108, 115, 101, 32, 123])))]),
 oO 5 (.take 16)])
 (.seq
 (.seq
 (.region [
 oO 6 (.mv (cI 0))])
 (.block 0
 L4_0))
 (.seq
 (.seq
 (.region [
 oO 8 (.mv (cI 0))])
 (.block 2
 L4_1))
 (.seq
 (.region [
 oM 81 3,
 oB 82 .add (.t 81) (.c (.str [125])),
 oO 83 (.callP false (.c (.fn 6 [] [])) [(.t 82)]),
 oM 80 83,
 oX 84 80 0,
 oX 85 80 1,
 oX 86 80 2,
 oO 9 (.boxL 9 (.c (.agg [.slice .fit 2 [], .slice .fit 4 []]))),
 oS 9 2 9 84,
 oM 10 85,
 oM 11 86])
 (.seq
 (.seq
 (.region [
 oM 87 10,
 oB 88 .neq (.t 87) (cI 0)])
 (.cond (.t 88)
 (.seq
 (.region [
 oO 89 (.callP false (.c (.fn 8 [] [])) []),
 oM 2 89])
 .ret)
 .skip))
 (.seq
 (.region [
 oLa 91 9 2 9,
 oO 92 (.callP false (.c (.fn 9 [] [])) [(.t 91)]),
 oM 90 92,
 oX 93 90 0,
 oX 94 90 1,
 oO 13 (.boxL 13 (.c (.agg [.int .i64 0, .int .i64 0]))),
 oM 12 93,
 oS 13 2 13 94])
 (.seq
 (.region [
 oLa 96 9 2 9,
 oO 97 (.callP false (.c (.fn 10 [] [])) [(.t 96)]),
 oM 95 97,
 oX 98 95 0,
 oX 99 95 1,
 oO 15 (.boxL 15 (.c (.agg [.int .i64 0, .int .i64 0]))),
 oM 14 98,
 oS 15 2 15 99])
 (.seq
 (.region [
 oO 100 (.callP false (.c (.fn 8 [] [])) []),
 oM 101 100,
 oT 101 102 (.mv (.t 12)),
 oT 101 103 (.mv (.t 14)),
 oT 101 104 (.bin 0 [] .eql (.t 102) (.t 103)),
 oO 105 (.pick (.t 101) (.t 104) (.c (.bool false))),
 oM 106 105,
 oT 106 107 (.load (.box 13) true 2 (.t 13)),
 oT 106 108 (.load (.box 15) true 2 (.t 15)),
 oT 106 109 (.bin 4 [0, 0] .eql (.t 107) (.t 108)),
 oO 110 (.pick (.t 106) (.t 109) (.c (.bool false))),
 oM 111 110,
 oT 111 112 (.faddr 1 (.t 9)),
 oT 111 113 (.load (.box 9) false 1 (.t 112)),
 oT 111 114 (.iaddr 4 (.t 113) (cI 0)),
 oT 111 115 (.faddr 3 (.t 114)),
 oT 111 116 (.load .imm false 1 (.t 115)),
 oT 111 117 (.callP false (.c (.fn 11 [] [])) [(.t 116)]),
 oT 111 118 (.faddr 1 (.t 9)),
 oT 111 119 (.load (.box 9) false 1 (.t 118)),
 oT 111 120 (.iaddr 4 (.t 119) (cI 0)),
 oT 111 121 (.faddr 3 (.t 120)),
 oT 111 122 (.load .imm false 1 (.t 121)),
 oT 111 123 (.callP false (.c (.fn 12 [] [])) [(.t 122)]),
 oT 111 124 (.bin 1 [] .eql (.t 117) (.t 123)),
 oO 125 (.pick (.t 111) (.t 124) (.c (.bool false))),
 oM 2 125])
 .ret)))))))))))

/-- boxhedge/types.Type -/
def F32 : IFn where
  ntmps := 16
  nargs := 3
  res := [.tmp 6, .tmp 7]
  freeze := false
  body :=
 (.seq
 (.region [
 oO 3 (.boxL 3 (.t 0)),
 oO 5 (.boxL 5 (.t 2)),
 oO 6 (.mv (cI 0)),
 oO 7 (.mv (cI 0))])
 (.seq
 (.region [
 oLa 8 3 2 3,
 oO 9 (.build [.slice .fit 2 [], .slice .fit 4 []] [(0, 2, (.t 8))]),
 oO 10 (.take 1),
 oO 11 (.callP false (.c (.fn 24 [] [])) [(.t 10)]),
 oLa 12 5 5 5,
 oO 13 (.call false (.c (.fn 66 [] [])) [(.t 9), (.t 11), (.t 12)]),
 oX 14 13 0,
 oX 15 13 1,
 oM 6 14,
 oM 7 15])
 .ret))

/-- boxhedge/boxhedgelaw05.typed -/
def F13 : IFn where
  ntmps := 81
  nargs := 2
  res := [.tmp 4]
  freeze := false
  body :=
 (.seq
 (.region [
 oC 4 (.bool false)])
 (.seq
 (.region [
 oM 14 0,
 oB 15 .add (.c (.str [105, 110, 116, 32, 97, 91, 50, 93, 59, 32, 105, 110, 116, 32, 102, 40, 105, 110, 116, 32, 120, 44, 32, 98, 111, 111, 108, 32, 98, 41, 32, 123, 32, 114, 101, 116, 117, 114, 110, 32, 49, 59, 32, 125, 32, 105, 110, 116, 32, 109, 97, 105, 110, 40, 41, 32, 123, 32, 114, 101, 116, 117, 114, 110, 32])) (.t 14),
 oB 16 .add (.t 15) (.c (.str [59, 32, 125])),
 oO 17 (.callP false (.c (.fn 6 [] [])) [(.t 16)]),
 oM 13 17,
 oX 18 13 0,
 oX 19 13 1,
 oX 20 13 2,
 oO 5 (.boxL 5 (.c (.agg [.slice .fit 2 [], .slice .fit 4 []]))),
 oS 5 2 5 18,
 oM 6 19,
 oM 7 20])
 (.seq
 (.seq
 (.region [
 oM 21 6,
 oB 22 .neq (.t 21) (cI 0),
 oM 23 22,
 oF 23 24 (.faddr 1 (.t 5)),
 oF 23 25 (.load (.box 5) false 1 (.t 24)),
 oF 23 26 (.len 1 (.t 25)),
 oF 23 27 (.bin 0 [] .neq (.t 26) (cI 2)),
 oO 28 (.pick (.t 23) (.c (.bool true)) (.t 27)),
 oM 29 28,
 oF 29 30 (.faddr 1 (.t 5)),
 oF 29 31 (.load (.box 5) false 1 (.t 30)),
 oF 29 32 (.iaddr 4 (.t 31) (cI 1)),
 oF 29 33 (.faddr 3 (.t 32)),
 oF 29 34 (.load .any false 1 (.t 33)),
 oF 29 35 (.len 1 (.t 34)),
 oF 29 36 (.bin 0 [] .neq (.t 35) (cI 1)),
 oO 37 (.pick (.t 29) (.c (.bool true)) (.t 36)),
 oM 38 37,
 oF 38 39 (.faddr 1 (.t 5)),
 oF 38 40 (.load (.box 5) false 1 (.t 39)),
 oF 38 41 (.iaddr 4 (.t 40) (cI 1)),
 oF 38 42 (.faddr 3 (.t 41)),
 oF 38 43 (.load .any false 1 (.t 42)),
 oF 38 44 (.iaddr 6 (.t 43) (cI 0)),
 oF 38 45 (.faddr 0 (.t 44)),
 oF 38 46 (.load .any false 1 (.t 45)),
 oF 38 47 (.bin 0 [] .neq (.t 46) (cI 8)),
 oO 48 (.pick (.t 38) (.c (.bool true)) (.t 47))])
 (.cond (.t 48)
 (.seq
 (.region [
 oC 4 (.bool true)])
 .ret)
 .skip))
 (.seq
 (.region [
 oA 49 1 5,
 oL 50 5 49,
 oO 51 (.iaddr 4 (.t 50) (cI 1)),
 oA 52 3 51,
 oG 53 52,
 oO 54 (.iaddr 6 (.t 53) (cI 0)),
 oA 55 3 54,
 oG 56 55,
 oO 57 (.iaddr 5 (.t 56) (cI 0)),
 oO 58 (.load .any true 5 (.t 57)),
 oO 8 (.boxL 8 (.c (.agg [.int .i64 0, .int .i64 0, .int .i64 0, .str [], .slice .fit 5 []]))),
 oS 8 5 8 58])
 (.seq
 (.region [
 oLa 60 5 2 5,
 oM 61 1,
 oLa 62 8 5 8,
 oO 63 (.callP false (.c (.fn 32 [] [])) [(.t 60), (.t 61), (.t 62)]),
 oM 59 63,
 oX 64 59 0,
 oX 65 59 1,
 oM 9 64,
 oM 10 65])
 (.seq
 (.region [
 oLa 67 5 2 5,
 oO 68 (.take 1),
 oLa 69 8 5 8,
 oO 70 (.callP false (.c (.fn 33 [] [])) [(.t 67), (.t 68), (.t 69)]),
 oM 66 70,
 oX 71 66 0,
 oX 72 66 1,
 oM 11 71,
 oM 12 72])
 (.seq
 (.region [
 oM 73 9,
 oM 74 11,
 oB 75 .eql (.t 73) (.t 74),
 oM 76 75,
 oT 76 77 (.mv (.t 10)),
 oT 76 78 (.mv (.t 12)),
 oT 76 79 (.bin 0 [] .eql (.t 77) (.t 78)),
 oO 80 (.pick (.t 76) (.t 79) (.c (.bool false))),
 oM 4 80])
 .ret)))))))

def L5_0 : ICode := .loop [0, 1, 2, 7, 8] []
 (.seq
 (.seq
 (.region [
 oM 9 8,
 oM 10 1,
 oO 11 (.len 1 (.t 10)),
 oB 12 .lss (.t 9) (.t 11),
 oM 13 12,
 oT 13 14 (.mv (.t 8)),
 oT 13 15 (.bin 0 [] .lss (.t 14) (cI 14)),
 oO 16 (.pick (.t 13) (.t 15) (.c (.bool false)))])
 (.cond (.t 16)
 .skip
 (.exit 0)))
 (.seq
 (.block 1
 (.region [
 oM 19 7,
 oO 20 (.bslice 1 (.str []) 20 [(0, (.c (.str [120]))), (1, (.c (.str [49]))), (2, (.c (.str [116, 114, 117, 101]))), (3, (.c (.str [43]))), (4, (.c (.str [60]))), (5, (.c (.str [61, 61]))), (6, (.c (.str [38, 38]))), (7, (.c (.str [33]))), (8, (.c (.str [45]))), (9, (.c (.str [40]))), (10, (.c (.str [41]))), (11, (.c (.str [97, 91]))), (12, (.c (.str [93]))), (13, (.c (.str [102, 40]))), (14, (.c (.str [44]))), (15, (.c (.str [98]))), (16, (.c (.str [105, 56, 40]))), (17, (.c (.str [121]))), (18, (.c (.str [103, 40]))), (19, (.c (.str [114, 101, 97, 100, 40, 41])))]),
 oM 21 1,
 oM 22 8,
 oO 23 (.iaddr 1 (.t 21) (.t 22)),
 oG 24 23,
 oO 25 (.conv .i64 (.t 24)),
 oB 26 .rem (.t 25) (cI 20),
 oO 27 (.iaddr 1 (.t 20) (.t 26)),
 oG 28 27,
 oB 29 .add (.t 19) (.t 28),
 oM 7 29]))
 (.region [
 oM 17 8,
 oB 18 .add (.t 17) (cI 1),
 oM 8 18])))
abbrev K5_0 : List Nat := [0, 1, 2]
abbrev B5_0 : List Nat := []
/-- boxhedge/boxhedgelaw05.TypesTypes -/
def F5 : IFn where
  ntmps := 59
  nargs := 3
  res := [.tmp 6]
  freeze := false
  body :=
 (.seq
 (.region [
 oC 6 (.bool false)])
 (.seq
 (.region [
 oC 7 (.str [])])
 (.seq
 (.seq
 (.region [
 oO 8 (.mv (cI 0))])
 (.block 0
 L5_0))
 (.seq
 (.seq
 (.region [
 oM 30 0,
 oO 31 (.len 0 (.t 30)),
 oB 32 .gtr (.t 31) (cI 200),
 oM 33 32,
 oF 33 34 (.mv (.t 2)),
 oF 33 35 (.len 1 (.t 34)),
 oF 33 36 (.bin 0 [] .gtr (.t 35) (cI 10)),
 oO 37 (.pick (.t 33) (.c (.bool true)) (.t 36))])
 (.cond (.t 37)
 (.seq
 (.region [
 oO 38 (.callP false (.c (.fn 8 [] [])) []),
 oM 6 38])
 .ret)
 .skip))
 (.seq
 (.region [
 oO 39 (.callP false (.c (.fn 8 [] [])) []),
 oM 40 39,
 oT 40 41 (.mv (.t 0)),
 oT 40 42 (.mv (.t 2)),
 oT 40 43 (.callP false (.c (.fn 13 [] [])) [(.t 41), (.t 42)]),
 oO 44 (.pick (.t 40) (.t 43) (.c (.bool false))),
 oM 45 44,
 oT 45 46 (.mv (.t 7)),
 oT 45 47 (.take 2),
 oT 45 48 (.callP false (.c (.fn 13 [] [])) [(.t 46), (.t 47)]),
 oO 49 (.pick (.t 45) (.t 48) (.c (.bool false))),
 oM 50 49,
 oT 50 51 (.mv (.t 7)),
 oT 50 52 (.build [.str [], .int .i64 0] [(0, 1, (.c (.str [120]))), (1, 1, (cI 1))]),
 oT 50 53 (.build [.str [], .int .i64 0] [(0, 1, (.c (.str [98]))), (1, 1, (cI 1))]),
 oT 50 54 (.build [.str [], .int .i64 0] [(0, 1, (.c (.str [98]))), (1, 1, (cI 2))]),
 oT 50 55 (.build [.str [], .int .i64 0] [(0, 1, (.c (.str [121]))), (1, 1, (cI 2))]),
 oT 50 56 (.bslice 2 (.agg [.str [], .int .i64 0]) 4 [(0, (.t 52)), (1, (.t 53)), (2, (.t 54)), (3, (.t 55))]),
 oT 50 57 (.callP false (.c (.fn 13 [] [])) [(.t 51), (.t 56)]),
 oO 58 (.pick (.t 50) (.t 57) (.c (.bool false))),
 oM 6 58])
 .ret)))))

def fns : Nat → Option IFn
  | 34 => some F34
  | 35 => some F35
  | 36 => some F36
  | 37 => some F37
  | 44 => some F44
  | 38 => some F38
  | 39 => some F39
  | 14 => some F14
  | 40 => some F40
  | 68 => some F68
  | 43 => some F43
  | 45 => some F45
  | 41 => some F41
  | 42 => some F42
  | 114 => some F114
  | 110 => some F110
  | 106 => some F106
  | 111 => some F111
  | 104 => some F104
  | 88 => some F88
  | 105 => some F105
  | 97 => some F97
  | 98 => some F98
  | 99 => some F99
  | 86 => some F86
  | 69 => some F69
  | 46 => some F46
  | 15 => some F15
  | 47 => some F47
  | 70 => some F70
  | 87 => some F87
  | 71 => some F71
  | 48 => some F48
  | 16 => some F16
  | 6 => some F6
  | 17 => some F17
  | 7 => some F7
  | 64 => some F64
  | 28 => some F28
  | 65 => some F65
  | 30 => some F30
  | 29 => some F29
  | 11 => some F11
  | 72 => some F72
  | 89 => some F89
  | 73 => some F73
  | 74 => some F74
  | 54 => some F54
  | 53 => some F53
  | 51 => some F51
  | 55 => some F55
  | 49 => some F49
  | 56 => some F56
  | 76 => some F76
  | 75 => some F75
  | 90 => some F90
  | 77 => some F77
  | 100 => some F100
  | 107 => some F107
  | 101 => some F101
  | 112 => some F112
  | 115 => some F115
  | 113 => some F113
  | 108 => some F108
  | 109 => some F109
  | 103 => some F103
  | 102 => some F102
  | 92 => some F92
  | 91 => some F91
  | 78 => some F78
  | 58 => some F58
  | 57 => some F57
  | 20 => some F20
  | 50 => some F50
  | 18 => some F18
  | 21 => some F21
  | 22 => some F22
  | 52 => some F52
  | 19 => some F19
  | 80 => some F80
  | 93 => some F93
  | 83 => some F83
  | 84 => some F84
  | 94 => some F94
  | 95 => some F95
  | 96 => some F96
  | 85 => some F85
  | 66 => some F66
  | 79 => some F79
  | 81 => some F81
  | 59 => some F59
  | 60 => some F60
  | 23 => some F23
  | 24 => some F24
  | 9 => some F9
  | 8 => some F8
  | 31 => some F31
  | 12 => some F12
  | 61 => some F61
  | 62 => some F62
  | 25 => some F25
  | 26 => some F26
  | 67 => some F67
  | 33 => some F33
  | 82 => some F82
  | 63 => some F63
  | 27 => some F27
  | 10 => some F10
  | 3 => some F3
  | 4 => some F4
  | 32 => some F32
  | 13 => some F13
  | 5 => some F5
  | _ => none

set_option maxRecDepth 100000 in
theorem ok34 : checkFn Tryz.prog Tryz.f34 F34 = true := by kernel_rfl
set_option maxRecDepth 100000 in
theorem ok35 : checkFn Tryz.prog Tryz.f35 F35 = true := by kernel_rfl
set_option maxRecDepth 100000 in
theorem ok36 : checkFn Tryz.prog Tryz.f36 F36 = true := by kernel_rfl
set_option maxRecDepth 100000 in
theorem ok37 : checkFn Tryz.prog Tryz.f37 F37 = true := by kernel_rfl
set_option maxRecDepth 100000 in
theorem ok44 : checkFn Tryz.prog Tryz.f44 F44 = true := by kernel_rfl
set_option maxRecDepth 100000 in
theorem ok38 : checkFn Tryz.prog Tryz.f38 F38 = true := by kernel_rfl
set_option maxRecDepth 100000 in
theorem ok39 : checkFn Tryz.prog Tryz.f39 F39 = true := by kernel_rfl
set_option maxRecDepth 100000 in
theorem ok14 : checkFn Tryz.prog Tryz.f14 F14 = true := by kernel_rfl
set_option maxRecDepth 100000 in
theorem ok40 : checkFn Tryz.prog Tryz.f40 F40 = true := by kernel_rfl
set_option maxRecDepth 100000 in
theorem ok68 : checkFn Tryz.prog Tryz.f68 F68 = true := by kernel_rfl
set_option maxRecDepth 100000 in
theorem ok43 : checkFn Tryz.prog Tryz.f43 F43 = true := by kernel_rfl
set_option maxRecDepth 100000 in
theorem ok45 : checkFn Tryz.prog Tryz.f45 F45 = true := by kernel_rfl
set_option maxRecDepth 100000 in
theorem ok41 : checkFn Tryz.prog Tryz.f41 F41 = true := by kernel_rfl
set_option maxRecDepth 100000 in
theorem ok42 : checkFn Tryz.prog Tryz.f42 F42 = true := by kernel_rfl
set_option maxRecDepth 100000 in
theorem ok114 : checkFn Tryz.prog Tryz.f114 F114 = true := by kernel_rfl
set_option maxRecDepth 100000 in
theorem ok110 : checkFn Tryz.prog Tryz.f110 F110 = true := by kernel_rfl
set_option maxRecDepth 100000 in
theorem ok106 : checkFn Tryz.prog Tryz.f106 F106 = true := by kernel_rfl
set_option maxRecDepth 100000 in
theorem ok111 : checkFn Tryz.prog Tryz.f111 F111 = true := by kernel_rfl
set_option maxRecDepth 100000 in
theorem ok104 : checkFn Tryz.prog Tryz.f104 F104 = true := by kernel_rfl
set_option maxRecDepth 100000 in
theorem ok88 : checkFn Tryz.prog Tryz.f88 F88 = true := by kernel_rfl
set_option maxRecDepth 100000 in
theorem ok105 : checkFn Tryz.prog Tryz.f105 F105 = true := by kernel_rfl
set_option maxRecDepth 100000 in
theorem ok97 : checkFn Tryz.prog Tryz.f97 F97 = true := by kernel_rfl
set_option maxRecDepth 100000 in
theorem ok98 : checkFn Tryz.prog Tryz.f98 F98 = true := by kernel_rfl
set_option maxRecDepth 100000 in
theorem ok99 : checkFn Tryz.prog Tryz.f99 F99 = true := by kernel_rfl
set_option maxRecDepth 100000 in
theorem ok86 : checkFn Tryz.prog Tryz.f86 F86 = true := by kernel_rfl
set_option maxRecDepth 100000 in
theorem ok69 : checkFn Tryz.prog Tryz.f69 F69 = true := by kernel_rfl
set_option maxRecDepth 100000 in
theorem ok46 : checkFn Tryz.prog Tryz.f46 F46 = true := by kernel_rfl
set_option maxRecDepth 100000 in
theorem ok15 : checkFn Tryz.prog Tryz.f15 F15 = true := by kernel_rfl
set_option maxRecDepth 100000 in
theorem ok47 : checkFn Tryz.prog Tryz.f47 F47 = true := by kernel_rfl
set_option maxRecDepth 100000 in
theorem ok70 : checkFn Tryz.prog Tryz.f70 F70 = true := by kernel_rfl
set_option maxRecDepth 100000 in
theorem ok87 : checkFn Tryz.prog Tryz.f87 F87 = true := by kernel_rfl
set_option maxRecDepth 100000 in
theorem ok71 : checkFn Tryz.prog Tryz.f71 F71 = true := by kernel_rfl
set_option maxRecDepth 100000 in
theorem ok48 : checkFn Tryz.prog Tryz.f48 F48 = true := by kernel_rfl
set_option maxRecDepth 100000 in
theorem ok16 : checkFn Tryz.prog Tryz.f16 F16 = true := by kernel_rfl
set_option maxRecDepth 100000 in
theorem ok6 : checkFn Tryz.prog Tryz.f6 F6 = true := by kernel_rfl
set_option maxRecDepth 100000 in
theorem ok17 : checkFn Tryz.prog Tryz.f17 F17 = true := by kernel_rfl
set_option maxRecDepth 100000 in
theorem ok7 : checkFn Tryz.prog Tryz.f7 F7 = true := by kernel_rfl
set_option maxRecDepth 100000 in
theorem ok64 : checkFn Tryz.prog Tryz.f64 F64 = true := by kernel_rfl
set_option maxRecDepth 100000 in
theorem ok28 : checkFn Tryz.prog Tryz.f28 F28 = true := by kernel_rfl
set_option maxRecDepth 100000 in
theorem ok65 : checkFn Tryz.prog Tryz.f65 F65 = true := by kernel_rfl
set_option maxRecDepth 100000 in
theorem ok30 : checkFn Tryz.prog Tryz.f30 F30 = true := by kernel_rfl
set_option maxRecDepth 100000 in
theorem ok29 : checkFn Tryz.prog Tryz.f29 F29 = true := by kernel_rfl
set_option maxRecDepth 100000 in
theorem ok11 : checkFn Tryz.prog Tryz.f11 F11 = true := by kernel_rfl
set_option maxRecDepth 100000 in
theorem ok72 : checkFn Tryz.prog Tryz.f72 F72 = true := by kernel_rfl
set_option maxRecDepth 100000 in
theorem ok89 : checkFn Tryz.prog Tryz.f89 F89 = true := by kernel_rfl
set_option maxRecDepth 100000 in
theorem ok73 : checkFn Tryz.prog Tryz.f73 F73 = true := by kernel_rfl
set_option maxRecDepth 100000 in
theorem ok74 : checkFn Tryz.prog Tryz.f74 F74 = true := by kernel_rfl
set_option maxRecDepth 100000 in
theorem ok54 : checkFn Tryz.prog Tryz.f54 F54 = true := by kernel_rfl
set_option maxRecDepth 100000 in
theorem ok53 : checkFn Tryz.prog Tryz.f53 F53 = true := by kernel_rfl
set_option maxRecDepth 100000 in
theorem ok51 : checkFn Tryz.prog Tryz.f51 F51 = true := by kernel_rfl
set_option maxRecDepth 100000 in
theorem ok55 : checkFn Tryz.prog Tryz.f55 F55 = true := by kernel_rfl
set_option maxRecDepth 100000 in
theorem ok49 : checkFn Tryz.prog Tryz.f49 F49 = true := by kernel_rfl
set_option maxRecDepth 100000 in
theorem ok56 : checkFn Tryz.prog Tryz.f56 F56 = true := by kernel_rfl
set_option maxRecDepth 100000 in
theorem ok76 : checkFn Tryz.prog Tryz.f76 F76 = true := by kernel_rfl
set_option maxRecDepth 100000 in
theorem ok75 : checkFn Tryz.prog Tryz.f75 F75 = true := by kernel_rfl
set_option maxRecDepth 100000 in
theorem ok90 : checkFn Tryz.prog Tryz.f90 F90 = true := by kernel_rfl
set_option maxRecDepth 100000 in
theorem ok77 : checkFn Tryz.prog Tryz.f77 F77 = true := by kernel_rfl
set_option maxRecDepth 100000 in
theorem ok100 : checkFn Tryz.prog Tryz.f100 F100 = true := by kernel_rfl
set_option maxRecDepth 100000 in
theorem ok107 : checkFn Tryz.prog Tryz.f107 F107 = true := by kernel_rfl
set_option maxRecDepth 100000 in
theorem ok101 : checkFn Tryz.prog Tryz.f101 F101 = true := by kernel_rfl
set_option maxRecDepth 100000 in
theorem ok112 : checkFn Tryz.prog Tryz.f112 F112 = true := by kernel_rfl
set_option maxRecDepth 100000 in
theorem ok115 : checkFn Tryz.prog Tryz.f115 F115 = true := by kernel_rfl
set_option maxRecDepth 100000 in
theorem ok113 : checkFn Tryz.prog Tryz.f113 F113 = true := by kernel_rfl
set_option maxRecDepth 100000 in
theorem ok108 : checkFn Tryz.prog Tryz.f108 F108 = true := by kernel_rfl
set_option maxRecDepth 100000 in
theorem ok109 : checkFn Tryz.prog Tryz.f109 F109 = true := by kernel_rfl
set_option maxRecDepth 100000 in
theorem ok103 : checkFn Tryz.prog Tryz.f103 F103 = true := by kernel_rfl
set_option maxRecDepth 100000 in
theorem ok102 : checkFn Tryz.prog Tryz.f102 F102 = true := by kernel_rfl
set_option maxRecDepth 100000 in
theorem ok92 : checkFn Tryz.prog Tryz.f92 F92 = true := by kernel_rfl
set_option maxRecDepth 100000 in
theorem ok91 : checkFn Tryz.prog Tryz.f91 F91 = true := by kernel_rfl
set_option maxRecDepth 100000 in
theorem ok78 : checkFn Tryz.prog Tryz.f78 F78 = true := by kernel_rfl
set_option maxRecDepth 100000 in
theorem ok58 : checkFn Tryz.prog Tryz.f58 F58 = true := by kernel_rfl
set_option maxRecDepth 100000 in
theorem ok57 : checkFn Tryz.prog Tryz.f57 F57 = true := by kernel_rfl
set_option maxRecDepth 100000 in
theorem ok20 : checkFn Tryz.prog Tryz.f20 F20 = true := by kernel_rfl
set_option maxRecDepth 100000 in
theorem ok50 : checkFn Tryz.prog Tryz.f50 F50 = true := by kernel_rfl
set_option maxRecDepth 100000 in
theorem ok18 : checkFn Tryz.prog Tryz.f18 F18 = true := by kernel_rfl
set_option maxRecDepth 100000 in
theorem ok21 : checkFn Tryz.prog Tryz.f21 F21 = true := by kernel_rfl
set_option maxRecDepth 100000 in
theorem ok22 : checkFn Tryz.prog Tryz.f22 F22 = true := by kernel_rfl
set_option maxRecDepth 100000 in
theorem ok52 : checkFn Tryz.prog Tryz.f52 F52 = true := by kernel_rfl
set_option maxRecDepth 100000 in
theorem ok19 : checkFn Tryz.prog Tryz.f19 F19 = true := by kernel_rfl
set_option maxRecDepth 100000 in
theorem ok80 : checkFn Tryz.prog Tryz.f80 F80 = true := by kernel_rfl
set_option maxRecDepth 100000 in
theorem ok93 : checkFn Tryz.prog Tryz.f93 F93 = true := by kernel_rfl
set_option maxRecDepth 100000 in
theorem ok83 : checkFn Tryz.prog Tryz.f83 F83 = true := by kernel_rfl
set_option maxRecDepth 100000 in
theorem ok84 : checkFn Tryz.prog Tryz.f84 F84 = true := by kernel_rfl
set_option maxRecDepth 100000 in
theorem ok94 : checkFn Tryz.prog Tryz.f94 F94 = true := by kernel_rfl
set_option maxRecDepth 100000 in
theorem ok95 : checkFn Tryz.prog Tryz.f95 F95 = true := by kernel_rfl
set_option maxRecDepth 100000 in
theorem ok96 : checkFn Tryz.prog Tryz.f96 F96 = true := by kernel_rfl
set_option maxRecDepth 100000 in
theorem ok85 : checkFn Tryz.prog Tryz.f85 F85 = true := by kernel_rfl
set_option maxRecDepth 100000 in
theorem ok66 : checkFn Tryz.prog Tryz.f66 F66 = true := by kernel_rfl
set_option maxRecDepth 100000 in
theorem ok79 : checkFn Tryz.prog Tryz.f79 F79 = true := by kernel_rfl
set_option maxRecDepth 100000 in
theorem ok81 : checkFn Tryz.prog Tryz.f81 F81 = true := by kernel_rfl
set_option maxRecDepth 100000 in
theorem ok59 : checkFn Tryz.prog Tryz.f59 F59 = true := by kernel_rfl
set_option maxRecDepth 100000 in
theorem ok60 : checkFn Tryz.prog Tryz.f60 F60 = true := by kernel_rfl
set_option maxRecDepth 100000 in
theorem ok23 : checkFn Tryz.prog Tryz.f23 F23 = true := by kernel_rfl
set_option maxRecDepth 100000 in
theorem ok24 : checkFn Tryz.prog Tryz.f24 F24 = true := by kernel_rfl
set_option maxRecDepth 100000 in
theorem ok9 : checkFn Tryz.prog Tryz.f9 F9 = true := by kernel_rfl
set_option maxRecDepth 100000 in
theorem ok8 : checkFn Tryz.prog Tryz.f8 F8 = true := by kernel_rfl
set_option maxRecDepth 100000 in
theorem ok31 : checkFn Tryz.prog Tryz.f31 F31 = true := by kernel_rfl
set_option maxRecDepth 100000 in
theorem ok12 : checkFn Tryz.prog Tryz.f12 F12 = true := by kernel_rfl
set_option maxRecDepth 100000 in
theorem ok61 : checkFn Tryz.prog Tryz.f61 F61 = true := by kernel_rfl
set_option maxRecDepth 100000 in
theorem ok62 : checkFn Tryz.prog Tryz.f62 F62 = true := by kernel_rfl
set_option maxRecDepth 100000 in
theorem ok25 : checkFn Tryz.prog Tryz.f25 F25 = true := by kernel_rfl
set_option maxRecDepth 100000 in
theorem ok26 : checkFn Tryz.prog Tryz.f26 F26 = true := by kernel_rfl
set_option maxRecDepth 100000 in
theorem ok67 : checkFn Tryz.prog Tryz.f67 F67 = true := by kernel_rfl
set_option maxRecDepth 100000 in
theorem ok33 : checkFn Tryz.prog Tryz.f33 F33 = true := by kernel_rfl
set_option maxRecDepth 100000 in
theorem ok82 : checkFn Tryz.prog Tryz.f82 F82 = true := by kernel_rfl
set_option maxRecDepth 100000 in
theorem ok63 : checkFn Tryz.prog Tryz.f63 F63 = true := by kernel_rfl
set_option maxRecDepth 100000 in
theorem ok27 : checkFn Tryz.prog Tryz.f27 F27 = true := by kernel_rfl
set_option maxRecDepth 100000 in
theorem ok10 : checkFn Tryz.prog Tryz.f10 F10 = true := by kernel_rfl
set_option maxRecDepth 100000 in
theorem ok3 : checkFn Tryz.prog Tryz.f3 F3 = true := by kernel_rfl
set_option maxRecDepth 100000 in
theorem ok4 : checkFn Tryz.prog Tryz.f4 F4 = true := by kernel_rfl
set_option maxRecDepth 100000 in
theorem ok32 : checkFn Tryz.prog Tryz.f32 F32 = true := by kernel_rfl
set_option maxRecDepth 100000 in
theorem ok13 : checkFn Tryz.prog Tryz.f13 F13 = true := by kernel_rfl
set_option maxRecDepth 100000 in
theorem ok5 : checkFn Tryz.prog Tryz.f5 F5 = true := by kernel_rfl
theorem fnsOk : ∀ f F, fns f = some F → ∃ fn, Tryz.prog.funcs[f]? = some fn ∧ checkFn Tryz.prog fn F = true := by
  intro f F h
  unfold fns at h
  split at h
  · cases h; exact ⟨Tryz.f34, Tryz.func34, ok34⟩
  · cases h; exact ⟨Tryz.f35, Tryz.func35, ok35⟩
  · cases h; exact ⟨Tryz.f36, Tryz.func36, ok36⟩
  · cases h; exact ⟨Tryz.f37, Tryz.func37, ok37⟩
  · cases h; exact ⟨Tryz.f44, Tryz.func44, ok44⟩
  · cases h; exact ⟨Tryz.f38, Tryz.func38, ok38⟩
  · cases h; exact ⟨Tryz.f39, Tryz.func39, ok39⟩
  · cases h; exact ⟨Tryz.f14, Tryz.func14, ok14⟩
  · cases h; exact ⟨Tryz.f40, Tryz.func40, ok40⟩
  · cases h; exact ⟨Tryz.f68, Tryz.func68, ok68⟩
  · cases h; exact ⟨Tryz.f43, Tryz.func43, ok43⟩
  · cases h; exact ⟨Tryz.f45, Tryz.func45, ok45⟩
  · cases h; exact ⟨Tryz.f41, Tryz.func41, ok41⟩
  · cases h; exact ⟨Tryz.f42, Tryz.func42, ok42⟩
  · cases h; exact ⟨Tryz.f114, Tryz.func114, ok114⟩
  · cases h; exact ⟨Tryz.f110, Tryz.func110, ok110⟩
  · cases h; exact ⟨Tryz.f106, Tryz.func106, ok106⟩
  · cases h; exact ⟨Tryz.f111, Tryz.func111, ok111⟩
  · cases h; exact ⟨Tryz.f104, Tryz.func104, ok104⟩
  · cases h; exact ⟨Tryz.f88, Tryz.func88, ok88⟩
  · cases h; exact ⟨Tryz.f105, Tryz.func105, ok105⟩
  · cases h; exact ⟨Tryz.f97, Tryz.func97, ok97⟩
  · cases h; exact ⟨Tryz.f98, Tryz.func98, ok98⟩
  · cases h; exact ⟨Tryz.f99, Tryz.func99, ok99⟩
  · cases h; exact ⟨Tryz.f86, Tryz.func86, ok86⟩
  · cases h; exact ⟨Tryz.f69, Tryz.func69, ok69⟩
  · cases h; exact ⟨Tryz.f46, Tryz.func46, ok46⟩
  · cases h; exact ⟨Tryz.f15, Tryz.func15, ok15⟩
  · cases h; exact ⟨Tryz.f47, Tryz.func47, ok47⟩
  · cases h; exact ⟨Tryz.f70, Tryz.func70, ok70⟩
  · cases h; exact ⟨Tryz.f87, Tryz.func87, ok87⟩
  · cases h; exact ⟨Tryz.f71, Tryz.func71, ok71⟩
  · cases h; exact ⟨Tryz.f48, Tryz.func48, ok48⟩
  · cases h; exact ⟨Tryz.f16, Tryz.func16, ok16⟩
  · cases h; exact ⟨Tryz.f6, Tryz.func6, ok6⟩
  · cases h; exact ⟨Tryz.f17, Tryz.func17, ok17⟩
  · cases h; exact ⟨Tryz.f7, Tryz.func7, ok7⟩
  · cases h; exact ⟨Tryz.f64, Tryz.func64, ok64⟩
  · cases h; exact ⟨Tryz.f28, Tryz.func28, ok28⟩
  · cases h; exact ⟨Tryz.f65, Tryz.func65, ok65⟩
  · cases h; exact ⟨Tryz.f30, Tryz.func30, ok30⟩
  · cases h; exact ⟨Tryz.f29, Tryz.func29, ok29⟩
  · cases h; exact ⟨Tryz.f11, Tryz.func11, ok11⟩
  · cases h; exact ⟨Tryz.f72, Tryz.func72, ok72⟩
  · cases h; exact ⟨Tryz.f89, Tryz.func89, ok89⟩
  · cases h; exact ⟨Tryz.f73, Tryz.func73, ok73⟩
  · cases h; exact ⟨Tryz.f74, Tryz.func74, ok74⟩
  · cases h; exact ⟨Tryz.f54, Tryz.func54, ok54⟩
  · cases h; exact ⟨Tryz.f53, Tryz.func53, ok53⟩
  · cases h; exact ⟨Tryz.f51, Tryz.func51, ok51⟩
  · cases h; exact ⟨Tryz.f55, Tryz.func55, ok55⟩
  · cases h; exact ⟨Tryz.f49, Tryz.func49, ok49⟩
  · cases h; exact ⟨Tryz.f56, Tryz.func56, ok56⟩
  · cases h; exact ⟨Tryz.f76, Tryz.func76, ok76⟩
  · cases h; exact ⟨Tryz.f75, Tryz.func75, ok75⟩
  · cases h; exact ⟨Tryz.f90, Tryz.func90, ok90⟩
  · cases h; exact ⟨Tryz.f77, Tryz.func77, ok77⟩
  · cases h; exact ⟨Tryz.f100, Tryz.func100, ok100⟩
  · cases h; exact ⟨Tryz.f107, Tryz.func107, ok107⟩
  · cases h; exact ⟨Tryz.f101, Tryz.func101, ok101⟩
  · cases h; exact ⟨Tryz.f112, Tryz.func112, ok112⟩
  · cases h; exact ⟨Tryz.f115, Tryz.func115, ok115⟩
  · cases h; exact ⟨Tryz.f113, Tryz.func113, ok113⟩
  · cases h; exact ⟨Tryz.f108, Tryz.func108, ok108⟩
  · cases h; exact ⟨Tryz.f109, Tryz.func109, ok109⟩
  · cases h; exact ⟨Tryz.f103, Tryz.func103, ok103⟩
  · cases h; exact ⟨Tryz.f102, Tryz.func102, ok102⟩
  · cases h; exact ⟨Tryz.f92, Tryz.func92, ok92⟩
  · cases h; exact ⟨Tryz.f91, Tryz.func91, ok91⟩
  · cases h; exact ⟨Tryz.f78, Tryz.func78, ok78⟩
  · cases h; exact ⟨Tryz.f58, Tryz.func58, ok58⟩
  · cases h; exact ⟨Tryz.f57, Tryz.func57, ok57⟩
  · cases h; exact ⟨Tryz.f20, Tryz.func20, ok20⟩
  · cases h; exact ⟨Tryz.f50, Tryz.func50, ok50⟩
  · cases h; exact ⟨Tryz.f18, Tryz.func18, ok18⟩
  · cases h; exact ⟨Tryz.f21, Tryz.func21, ok21⟩
  · cases h; exact ⟨Tryz.f22, Tryz.func22, ok22⟩
  · cases h; exact ⟨Tryz.f52, Tryz.func52, ok52⟩
  · cases h; exact ⟨Tryz.f19, Tryz.func19, ok19⟩
  · cases h; exact ⟨Tryz.f80, Tryz.func80, ok80⟩
  · cases h; exact ⟨Tryz.f93, Tryz.func93, ok93⟩
  · cases h; exact ⟨Tryz.f83, Tryz.func83, ok83⟩
  · cases h; exact ⟨Tryz.f84, Tryz.func84, ok84⟩
  · cases h; exact ⟨Tryz.f94, Tryz.func94, ok94⟩
  · cases h; exact ⟨Tryz.f95, Tryz.func95, ok95⟩
  · cases h; exact ⟨Tryz.f96, Tryz.func96, ok96⟩
  · cases h; exact ⟨Tryz.f85, Tryz.func85, ok85⟩
  · cases h; exact ⟨Tryz.f66, Tryz.func66, ok66⟩
  · cases h; exact ⟨Tryz.f79, Tryz.func79, ok79⟩
  · cases h; exact ⟨Tryz.f81, Tryz.func81, ok81⟩
  · cases h; exact ⟨Tryz.f59, Tryz.func59, ok59⟩
  · cases h; exact ⟨Tryz.f60, Tryz.func60, ok60⟩
  · cases h; exact ⟨Tryz.f23, Tryz.func23, ok23⟩
  · cases h; exact ⟨Tryz.f24, Tryz.func24, ok24⟩
  · cases h; exact ⟨Tryz.f9, Tryz.func9, ok9⟩
  · cases h; exact ⟨Tryz.f8, Tryz.func8, ok8⟩
  · cases h; exact ⟨Tryz.f31, Tryz.func31, ok31⟩
  · cases h; exact ⟨Tryz.f12, Tryz.func12, ok12⟩
  · cases h; exact ⟨Tryz.f61, Tryz.func61, ok61⟩
  · cases h; exact ⟨Tryz.f62, Tryz.func62, ok62⟩
  · cases h; exact ⟨Tryz.f25, Tryz.func25, ok25⟩
  · cases h; exact ⟨Tryz.f26, Tryz.func26, ok26⟩
  · cases h; exact ⟨Tryz.f67, Tryz.func67, ok67⟩
  · cases h; exact ⟨Tryz.f33, Tryz.func33, ok33⟩
  · cases h; exact ⟨Tryz.f82, Tryz.func82, ok82⟩
  · cases h; exact ⟨Tryz.f63, Tryz.func63, ok63⟩
  · cases h; exact ⟨Tryz.f27, Tryz.func27, ok27⟩
  · cases h; exact ⟨Tryz.f10, Tryz.func10, ok10⟩
  · cases h; exact ⟨Tryz.f3, Tryz.func3, ok3⟩
  · cases h; exact ⟨Tryz.f4, Tryz.func4, ok4⟩
  · cases h; exact ⟨Tryz.f32, Tryz.func32, ok32⟩
  · cases h; exact ⟨Tryz.f13, Tryz.func13, ok13⟩
  · cases h; exact ⟨Tryz.f5, Tryz.func5, ok5⟩
  · cases h

def E : Env := { fn := fns, ext := fun _ => none }
theorem envOk : EnvOk Tryz.prog E := ⟨fnsOk, fun f g h => by cases h⟩

end PE.U

/-
  What the functions come to: names, words, places.
-/
namespace PE.U
open Go PE

/-! ### Names -/

def letterN (c : Int) : Bool := (decide (97 ≤ c) && decide (c ≤ 122)) || (decide (65 ≤ c) && decide (c ≤ 90)) || decide (c = 95)
def digitN (c : Int) : Bool := decide (48 ≤ c) && decide (c ≤ 57)

theorem letter_spec (c : Int) (σ : Store) : pcall E 72 [.int .i32 c] σ = some (.ret (.bool (letterN c)), σ) := by
  refine pcall_wp rfl rfl rfl (by simp) ?_
  (simp [*, F72, letterN]) <;> (repeat' ((first | refine sP _ ?_ ?_ | refine gP _ ?_ ?_ | refine sN _ ?_ ?_ | refine gN _ ?_ ?_ | refine sM _ ?_ ?_ | refine gM _ ?_ ?_ | refine sB _ ?_ ?_ | refine gB _ ?_ ?_) <;> intro hc <;> simp [*, F72, letterN]))
theorem digit_spec (c : Int) (σ : Store) : pcall E 89 [.int .i32 c] σ = some (.ret (.bool (digitN c)), σ) := by
  refine pcall_wp rfl rfl rfl (by simp) ?_
  (simp [*, F89, digitN]) <;> (repeat' ((first | refine sP _ ?_ ?_ | refine gP _ ?_ ?_ | refine sN _ ?_ ?_ | refine gN _ ?_ ?_ | refine sM _ ?_ ?_ | refine gM _ ?_ ?_ | refine sB _ ?_ ?_ | refine gB _ ?_ ?_) <;> intro hc <;> simp [*, F89, digitN]))
theorem rletter_spec (c : Int) (σ : Store) : pcall E 34 [.int .u8 c] σ = some (.ret (.bool (letterN c)), σ) := by
  refine pcall_wp rfl rfl rfl (by simp) ?_
  (simp [*, F34, letterN]) <;> (repeat' ((first | refine sP _ ?_ ?_ | refine gP _ ?_ ?_ | refine sN _ ?_ ?_ | refine gN _ ?_ ?_ | refine sM _ ?_ ?_ | refine gM _ ?_ ?_ | refine sB _ ?_ ?_ | refine gB _ ?_ ?_) <;> intro hc <;> simp [*, F34, letterN]))
theorem rdigit_spec (c : Int) (σ : Store) : pcall E 35 [.int .u8 c] σ = some (.ret (.bool (digitN c)), σ) := by
  refine pcall_wp rfl rfl rfl (by simp) ?_
  (simp [*, F35, digitN]) <;> (repeat' ((first | refine sP _ ?_ ?_ | refine gP _ ?_ ?_ | refine sN _ ?_ ?_ | refine gN _ ?_ ?_ | refine sM _ ?_ ?_ | refine gM _ ?_ ?_ | refine sB _ ?_ ?_ | refine gB _ ?_ ?_) <;> intro hc <;> simp [*, F35, digitN]))

def words : List (List UInt8) := [[105, 110, 116], [98, 111, 111, 108], [105, 102], [101, 108, 115, 101], [119, 104, 105, 108, 101], [98, 114, 101, 97, 107], [99, 111, 110, 116, 105, 110, 117, 101], [114, 101, 116, 117, 114, 110],
  [112, 114, 105, 110, 116], [114, 101, 97, 100], [116, 114, 117, 101], [102, 97, 108, 115, 101], [105, 56], [105, 49, 54], [105, 51, 50], [117, 56], [117, 49, 54], [117, 51, 50]]
def wordM (s : List UInt8) : Bool := words.contains s

theorem word_spec (s : List UInt8) (σ : Store) : pcall E 74 [.str s] σ = some (.ret (.bool (wordM s)), σ) := by
  refine pcall_wp rfl rfl rfl (by simp) ?_
  (simp [*, F74, wordM, words]) <;> (repeat' ((first | refine sP _ ?_ ?_ | refine gP _ ?_ ?_ | refine sN _ ?_ ?_ | refine gN _ ?_ ?_ | refine sM _ ?_ ?_ | refine gM _ ?_ ?_ | refine sB _ ?_ ?_ | refine gB _ ?_ ?_) <;> intro hc <;> simp [*, F74, wordM, words]))
theorem rword_spec (s : List UInt8) (σ : Store) : pcall E 36 [.str s] σ = some (.ret (.bool (wordM s)), σ) := by
  refine pcall_wp rfl rfl rfl (by simp) ?_
  (simp [*, F36, wordM, words]) <;> (repeat' ((first | refine sP _ ?_ ?_ | refine gP _ ?_ ?_ | refine sN _ ?_ ?_ | refine gN _ ?_ ?_ | refine sM _ ?_ ?_ | refine gM _ ?_ ?_ | refine sB _ ?_ ?_ | refine gB _ ?_ ?_) <;> intro hc <;> simp [*, F36, wordM, words]))

end PE.U
