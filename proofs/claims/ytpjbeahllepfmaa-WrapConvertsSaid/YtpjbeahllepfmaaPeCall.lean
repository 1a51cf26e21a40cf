/-
  Plain code without fuel: what it comes to, and by what equations; and how a statement's call follows.
-/
import Derived.Test.YtpjbeahllepfmaaPeFn
import Derived.RowKit3
set_option linter.unusedVariables false
set_option linter.unusedSimpArgs false
namespace PE
open Go

/-! ### More fuel makes no difference -/

def Leq (f g : CallF) : Prop := ∀ k args st r, f k args st = some r → g k args st = some r

theorem Leq.refl (f : CallF) : Leq f f := fun _ _ _ _ h => h

theorem runOp_mono {f g : CallF} (h : Leq f g) {d : Option Nat} {o : IOp} {s : St} {r : SR} (hr : runOp f d o s = some r) : runOp g d o s = some r := by
  cases o
  case call pk x args =>
    simp only [runOp] at hr ⊢
    cases hx : Arg.val s.fr x <;> rw [hx] at hr <;> try (cases hr; done)
    rename_i k first caps
    simp only at hr ⊢
    split at hr
    case isFalse => cases hr
    rename_i hall
    rw [if_pos hall]
    cases hf : f k (first ++ argVals s.fr args ++ caps) s.st with
    | none => rw [hf] at hr; cases hr
    | some q => rw [hf] at hr; rw [h _ _ _ _ hf]; exact hr
  all_goals exact hr

theorem step_mono {f g : CallF} (h : Leq f g) {o : GOp} {s : St} {r : SR} (hr : step f o s = some r) : step g o s = some r := by
  unfold step at hr ⊢
  cases hg : o.g with
  | none => rw [hg] at hr; exact runOp_mono h hr
  | some x =>
    obtain ⟨t, w⟩ := x
    rw [hg] at hr
    simp only at hr ⊢
    cases ht : gate w (s.fr t) with
    | none => rw [ht] at hr; cases hr
    | some b =>
      rw [ht] at hr
      cases b
      · exact hr
      · exact runOp_mono h hr

theorem steps_mono {f g : CallF} (h : Leq f g) : ∀ {l : List GOp} {s : St} {r : SR}, steps f l s = some r → steps g l s = some r
  | [], s, r, hr => hr
  | o :: l, s, r, hr => by
    simp only [steps] at hr ⊢
    cases hs : step f o s with
    | none => rw [hs] at hr; cases hr
    | some q =>
      rw [hs] at hr
      rw [step_mono h hs]
      cases q with
      | ok s' => exact steps_mono h hr
      | pan v st => exact hr

theorem execF_mono {f g : CallF} (h : Leq f g) : ∀ (n m : Nat) (c : ICode) (s : St) (r : Ex × St), n ≤ m → execF f n c s = some r → execF g m c s = some r
  | 0, m, c, s, r, _, hr => by cases hr
  | n + 1, 0, c, s, r, hn, _ => by omega
  | n + 1, m + 1, c, s, r, hn, hr => by
    have ih := fun c s r => execF_mono h n m c s r (by omega)
    cases c with
    | region ops =>
      simp only [execF] at hr ⊢
      cases hs : steps f ops s with
      | none => rw [hs] at hr; cases hr
      | some q => rw [hs] at hr; rw [steps_mono h hs]; cases q <;> exact hr
    | seq a b =>
      simp only [execF] at hr ⊢
      cases hs : execF f n a s with
      | none => rw [hs] at hr; cases hr
      | some q =>
        obtain ⟨e, s1⟩ := q
        rw [hs] at hr
        rw [ih _ _ _ hs]
        cases e <;> first | exact ih _ _ _ hr | exact hr
    | cond c a b =>
      simp only [execF] at hr ⊢
      cases hv : Arg.val s.fr c <;> rw [hv] at hr <;> try (cases hr; done)
      rename_i b'
      cases b' <;> exact ih _ _ _ hr
    | block id b =>
      simp only [execF] at hr ⊢
      cases hs : execF f n b s with
      | none => rw [hs] at hr; cases hr
      | some q =>
        obtain ⟨e, s1⟩ := q
        rw [hs] at hr
        rw [ih _ _ _ hs]
        cases e <;> exact hr
    | loop keep dead b =>
      simp only [execF] at hr ⊢
      cases hh : havoc keep dead s with
      | none => rw [hh] at hr; cases hr
      | some s0 =>
        rw [hh] at hr
        simp only at hr ⊢
        cases hs : execF f n b s0 with
        | none => rw [hs] at hr; cases hr
        | some q =>
          obtain ⟨e, s1⟩ := q
          rw [hs] at hr
          rw [ih _ _ _ hs]
          cases e <;> first | exact ih _ _ _ hr | exact hr
    | skip => exact hr
    | exit id => exact hr
    | ret => exact hr
    | bad => exact hr

/-- What a run in a function comes to. -/
def leave (F : IFn) (n : Nat) : Option (Ex × St) → Option (CRes × Store)
  | some (.normal, s') => finish F n s'
  | some (.ret, s') => finish F n s'
  | some (.pan v, s') => finishPan F n v s'
  | _ => none

theorem callF_succ (E : Env) (n f : Nat) (args : List PV) (st : Store) : callF E (n + 1) f args st = match E.ext f with
    | some g => g args st
    | none => match E.fn f with
      | none => none
      | some F => if args.length = F.nargs ∧ args.all isVar then leave F st.length (execF (callF E n) n F.body { fr := frOf args 0, bx := fun _ => .no, st := st }) else none := by
  simp only [callF]
  cases E.ext f with
  | some g => rfl
  | none =>
    cases E.fn f with
    | none => rfl
    | some F =>
      simp only
      split
      · cases execF (callF E n) n F.body { fr := frOf args 0, bx := fun _ => .no, st := st } with
        | none => rfl
        | some q =>
          obtain ⟨e, s⟩ := q
          cases e <;> rfl
      · rfl

theorem callF_mono (E : Env) : ∀ (n m : Nat), n ≤ m → Leq (callF E n) (callF E m)
  | 0, m, _ => fun _ _ _ _ h => by cases h
  | n + 1, 0, h => by omega
  | n + 1, m + 1, hn => by
    intro f args st r h
    have ih := callF_mono E n m (by omega)
    rw [callF_succ] at h ⊢
    cases hx : E.ext f with
    | some g => rw [hx] at h; exact h
    | none =>
      rw [hx] at h
      cases hf : E.fn f with
      | none => rw [hf] at h; exact h
      | some F =>
        rw [hf] at h
        simp only at h ⊢
        split
        · rename_i hc
          rw [if_pos hc] at h
          cases hs : execF (callF E n) n F.body { fr := frOf args 0, bx := fun _ => .no, st := st } with
          | none => rw [hs] at h; cases h
          | some q => rw [hs] at h; rw [execF_mono ih n m _ _ _ (by omega) hs]; exact h
        · rename_i hc
          rw [if_neg hc] at h; exact h

open Classical in
/-- What a call comes to, with fuel enough. -/
noncomputable def pcall (E : Env) : CallF := fun f args st =>
  if h : ∃ n r, callF E n f args st = some r then some h.choose_spec.choose else none

theorem pcall_iff {E : Env} {f : Nat} {args : List PV} {st : Store} {r : CRes × Store} : pcall E f args st = some r ↔ ∃ n, callF E n f args st = some r := by
  unfold pcall
  constructor
  · intro h
    split at h
    · rename_i hx
      cases h
      exact ⟨hx.choose, hx.choose_spec.choose_spec⟩
    · cases h
  · rintro ⟨n, h⟩
    have hx : ∃ n r, callF E n f args st = some r := ⟨n, r, h⟩
    rw [dif_pos hx]
    have h1 := hx.choose_spec.choose_spec
    have e1 := callF_mono E _ _ (Nat.le_max_left hx.choose n) _ _ _ _ h1
    have e2 := callF_mono E _ _ (Nat.le_max_right hx.choose n) _ _ _ _ h
    rw [e1] at e2
    exact e2

open Classical in
/-- What code comes to, with fuel enough. -/
noncomputable def exec (cf : CallF) (c : ICode) (s : St) : Option (Ex × St) :=
  if h : ∃ n r, execF cf n c s = some r then some h.choose_spec.choose else none

theorem exec_iff {cf : CallF} {c : ICode} {s : St} {r : Ex × St} : exec cf c s = some r ↔ ∃ n, execF cf n c s = some r := by
  unfold exec
  constructor
  · intro h
    split at h
    · rename_i hx
      cases h
      exact ⟨hx.choose, hx.choose_spec.choose_spec⟩
    · cases h
  · rintro ⟨n, h⟩
    have hx : ∃ n r, execF cf n c s = some r := ⟨n, r, h⟩
    rw [dif_pos hx]
    have h1 := hx.choose_spec.choose_spec
    have e1 := execF_mono (Leq.refl cf) _ _ _ _ _ (Nat.le_max_left hx.choose n) h1
    have e2 := execF_mono (Leq.refl cf) _ _ _ _ _ (Nat.le_max_right hx.choose n) h
    rw [e1] at e2
    exact e2

section
variable {cf : CallF}

@[simp] theorem exec_skip (s : St) : exec cf .skip s = some (.normal, s) := exec_iff.2 ⟨1, rfl⟩
@[simp] theorem exec_exit (id : Nat) (s : St) : exec cf (.exit id) s = some (.exit id, s) := exec_iff.2 ⟨1, rfl⟩
@[simp] theorem exec_ret (s : St) : exec cf .ret s = some (.ret, s) := exec_iff.2 ⟨1, rfl⟩

def regionEnd (s : St) : Option SR → Option (Ex × St)
  | some (.ok s') => some (.normal, s')
  | some (.pan v st') => some (.pan v, { s with st := st' })
  | none => none

theorem exec_region (ops : List GOp) (s : St) : exec cf (.region ops) s = regionEnd s (steps cf ops s) := by
  apply Option.ext
  intro r
  rw [exec_iff]
  constructor
  · rintro ⟨n, h⟩
    cases n with
    | zero => cases h
    | succ n =>
      simp only [execF] at h
      cases hs : steps cf ops s with
      | none => rw [hs] at h; cases h
      | some q => rw [hs] at h; cases q <;> exact h
  · intro h
    refine ⟨1, ?_⟩
    simp only [execF]
    cases hs : steps cf ops s with
    | none => rw [hs] at h; cases h
    | some q => rw [hs] at h; cases q <;> exact h

def thenSeq (k : St → Option (Ex × St)) : Option (Ex × St) → Option (Ex × St)
  | some (.normal, s') => k s'
  | x => x

theorem exec_seq (a b : ICode) (s : St) : exec cf (.seq a b) s = thenSeq (exec cf b) (exec cf a s) := by
  apply Option.ext
  intro r
  rw [exec_iff]
  constructor
  · rintro ⟨n, h⟩
    cases n with
    | zero => cases h
    | succ n =>
      simp only [execF] at h
      cases hs : execF cf n a s with
      | none => rw [hs] at h; cases h
      | some q =>
        obtain ⟨e, s1⟩ := q
        rw [hs] at h
        rw [exec_iff.2 ⟨n, hs⟩]
        cases e <;> first | exact h | exact exec_iff.2 ⟨n, h⟩
  · intro h
    cases hs : exec cf a s with
    | none => rw [hs] at h; cases h
    | some q =>
      obtain ⟨e, s1⟩ := q
      rw [hs] at h
      obtain ⟨n, hn⟩ := exec_iff.1 hs
      cases e
      case normal =>
        obtain ⟨m, hm⟩ := exec_iff.1 h
        refine ⟨max n m + 1, ?_⟩
        simp only [execF]
        rw [execF_mono (Leq.refl cf) _ _ _ _ _ (Nat.le_max_left n m) hn]
        exact execF_mono (Leq.refl cf) _ _ _ _ _ (Nat.le_max_right n m) hm
      all_goals
        refine ⟨n + 1, ?_⟩
        simp only [execF, hn]
        exact h

def ofCond (x y : Option (Ex × St)) : PV → Option (Ex × St)
  | .bool true => x
  | .bool false => y
  | _ => none

theorem exec_cond (c : Arg) (a b : ICode) (s : St) : exec cf (.cond c a b) s = ofCond (exec cf a s) (exec cf b s) (c.val s.fr) := by
  apply Option.ext
  intro r
  rw [exec_iff]
  constructor
  · rintro ⟨n, h⟩
    cases n with
    | zero => cases h
    | succ n =>
      simp only [execF] at h
      cases hv : Arg.val s.fr c <;> rw [hv] at h <;> try (cases h; done)
      rename_i b'
      cases b' <;> exact exec_iff.2 ⟨n, h⟩
  · intro h
    cases hv : Arg.val s.fr c <;> rw [hv] at h <;> try (cases h; done)
    rename_i b'
    cases b' <;> (obtain ⟨n, hn⟩ := exec_iff.1 h; exact ⟨n + 1, by simp only [execF, hv]; exact hn⟩)

def leaveBlock (id : Nat) : Option (Ex × St) → Option (Ex × St)
  | some (.exit id', s') => if id' = id then some (.normal, s') else some (.exit id', s')
  | x => x

theorem exec_block (id : Nat) (b : ICode) (s : St) : exec cf (.block id b) s = leaveBlock id (exec cf b s) := by
  apply Option.ext
  intro r
  rw [exec_iff]
  constructor
  · rintro ⟨n, h⟩
    cases n with
    | zero => cases h
    | succ n =>
      simp only [execF] at h
      cases hs : execF cf n b s with
      | none => rw [hs] at h; cases h
      | some q =>
        obtain ⟨e, s1⟩ := q
        rw [hs] at h
        rw [exec_iff.2 ⟨n, hs⟩]
        cases e <;> exact h
  · intro h
    cases hs : exec cf b s with
    | none => rw [hs] at h; cases h
    | some q =>
      obtain ⟨e, s1⟩ := q
      rw [hs] at h
      obtain ⟨n, hn⟩ := exec_iff.1 hs
      refine ⟨n + 1, ?_⟩
      simp only [execF, hn]
      cases e <;> exact h

theorem exec_loop (keep dead : List Nat) (b : ICode) (s : St) : exec cf (.loop keep dead b) s = match havoc keep dead s with
    | some s0 => thenSeq (exec cf (.loop keep dead b)) (exec cf b s0)
    | none => none := by
  apply Option.ext
  intro r
  rw [exec_iff]
  constructor
  · rintro ⟨n, h⟩
    cases n with
    | zero => cases h
    | succ n =>
      simp only [execF] at h
      cases hh : havoc keep dead s with
      | none => rw [hh] at h; cases h
      | some s0 =>
        rw [hh] at h
        simp only at h ⊢
        cases hs : execF cf n b s0 with
        | none => rw [hs] at h; cases h
        | some q =>
          obtain ⟨e, s1⟩ := q
          rw [hs] at h
          rw [exec_iff.2 ⟨n, hs⟩]
          cases e <;> first | exact h | exact exec_iff.2 ⟨n, h⟩
  · intro h
    cases hh : havoc keep dead s with
    | none => rw [hh] at h; cases h
    | some s0 =>
      rw [hh] at h
      simp only at h
      cases hs : exec cf b s0 with
      | none => rw [hs] at h; cases h
      | some q =>
        obtain ⟨e, s1⟩ := q
        rw [hs] at h
        obtain ⟨n, hn⟩ := exec_iff.1 hs
        cases e
        case normal =>
          obtain ⟨m, hm⟩ := exec_iff.1 h
          refine ⟨max n m + 1, ?_⟩
          simp only [execF, hh]
          rw [execF_mono (Leq.refl cf) _ _ _ _ _ (Nat.le_max_left n m) hn]
          exact execF_mono (Leq.refl cf) _ _ _ _ _ (Nat.le_max_right n m) hm
        all_goals
          refine ⟨n + 1, ?_⟩
          simp only [execF, hh, hn]
          exact h
end

/-! ### A call's own calls have fuel enough together -/

theorem runOp_fuel {E : Env} {d : Option Nat} {o : IOp} {s : St} {r : SR} (hr : runOp (pcall E) d o s = some r) : ∃ n, runOp (callF E n) d o s = some r := by
  cases o
  case call pk x args =>
    simp only [runOp] at hr ⊢
    cases hx : Arg.val s.fr x <;> rw [hx] at hr <;> try (cases hr; done)
    rename_i k first caps
    simp only at hr ⊢
    split at hr
    case isFalse => cases hr
    rename_i hall
    cases hf : pcall E k (first ++ argVals s.fr args ++ caps) s.st with
    | none => rw [hf] at hr; cases hr
    | some q =>
      rw [hf] at hr
      obtain ⟨n, hn⟩ := pcall_iff.1 hf
      refine ⟨n, ?_⟩
      rw [if_pos hall, hn]; exact hr
  all_goals exact ⟨0, hr⟩

theorem step_fuel {E : Env} {o : GOp} {s : St} {r : SR} (hr : step (pcall E) o s = some r) : ∃ n, step (callF E n) o s = some r := by
  unfold step at hr ⊢
  cases hg : o.g with
  | none => rw [hg] at hr; exact runOp_fuel hr
  | some x =>
    obtain ⟨t, w⟩ := x
    rw [hg] at hr
    simp only at hr ⊢
    cases ht : gate w (s.fr t) with
    | none => rw [ht] at hr; cases hr
    | some b =>
      rw [ht] at hr
      cases b
      · exact ⟨0, hr⟩
      · exact runOp_fuel hr

theorem steps_fuel {E : Env} : ∀ {l : List GOp} {s : St} {r : SR}, steps (pcall E) l s = some r → ∃ n, steps (callF E n) l s = some r
  | [], s, r, hr => ⟨0, hr⟩
  | o :: l, s, r, hr => by
    simp only [steps] at hr
    cases hs : step (pcall E) o s with
    | none => rw [hs] at hr; cases hr
    | some q =>
      rw [hs] at hr
      obtain ⟨n, hn⟩ := step_fuel hs
      cases q with
      | ok s' =>
        obtain ⟨m, hm⟩ := steps_fuel (l := l) (s := s') (r := r) hr
        refine ⟨max n m, ?_⟩
        simp only [steps, step_mono (callF_mono E n _ (Nat.le_max_left n m)) hn]
        exact steps_mono (callF_mono E m _ (Nat.le_max_right n m)) hm
      | pan v st => exact ⟨n, by simp only [steps, hn]; exact hr⟩

theorem execF_fuel {E : Env} : ∀ (k : Nat) (c : ICode) (s : St) (r : Ex × St), execF (pcall E) k c s = some r → ∃ n, execF (callF E n) k c s = some r
  | 0, c, s, r, hr => by cases hr
  | k + 1, c, s, r, hr => by
    have ih := fun c s r => execF_fuel (E := E) k c s r
    have up : ∀ {n m : Nat} {c s r}, n ≤ m → execF (callF E n) k c s = some r → execF (callF E m) k c s = some r := fun hnm h => execF_mono (callF_mono E _ _ hnm) k k _ _ _ (Nat.le_refl _) h
    cases c with
    | region ops =>
      simp only [execF] at hr ⊢
      cases hs : steps (pcall E) ops s with
      | none => rw [hs] at hr; cases hr
      | some q =>
        rw [hs] at hr
        obtain ⟨n, hn⟩ := steps_fuel hs
        exact ⟨n, by rw [hn]; exact hr⟩
    | seq a b =>
      simp only [execF] at hr ⊢
      cases hs : execF (pcall E) k a s with
      | none => rw [hs] at hr; cases hr
      | some q =>
        obtain ⟨e, s1⟩ := q
        rw [hs] at hr
        obtain ⟨n, hn⟩ := ih _ _ _ hs
        cases e
        case normal =>
          obtain ⟨m, hm⟩ := ih _ _ _ hr
          exact ⟨max n m, by rw [up (Nat.le_max_left n m) hn]; exact up (Nat.le_max_right n m) hm⟩
        all_goals exact ⟨n, by rw [hn]; exact hr⟩
    | cond c a b =>
      simp only [execF] at hr ⊢
      cases hv : Arg.val s.fr c <;> rw [hv] at hr <;> try (cases hr; done)
      rename_i b'
      cases b' <;> exact ih _ _ _ hr
    | block id b =>
      simp only [execF] at hr ⊢
      cases hs : execF (pcall E) k b s with
      | none => rw [hs] at hr; cases hr
      | some q =>
        obtain ⟨e, s1⟩ := q
        rw [hs] at hr
        obtain ⟨n, hn⟩ := ih _ _ _ hs
        refine ⟨n, ?_⟩
        rw [hn]
        cases e <;> exact hr
    | loop keep dead b =>
      simp only [execF] at hr ⊢
      cases hh : havoc keep dead s with
      | none => rw [hh] at hr; cases hr
      | some s0 =>
        rw [hh] at hr
        simp only at hr ⊢
        cases hs : execF (pcall E) k b s0 with
        | none => rw [hs] at hr; cases hr
        | some q =>
          obtain ⟨e, s1⟩ := q
          rw [hs] at hr
          obtain ⟨n, hn⟩ := ih _ _ _ hs
          cases e
          case normal =>
            obtain ⟨m, hm⟩ := ih _ _ _ hr
            exact ⟨max n m, by rw [up (Nat.le_max_left n m) hn]; exact up (Nat.le_max_right n m) hm⟩
          all_goals exact ⟨n, by rw [hn]; exact hr⟩
    | skip => exact ⟨0, hr⟩
    | exit id => exact ⟨0, hr⟩
    | ret => exact ⟨0, hr⟩
    | bad => exact ⟨0, hr⟩

/-- A function's call, by its body. -/
theorem pcall_body {E : Env} {f : Nat} {F : IFn} {args : List PV} {st : Store} {r : CRes × Store} (hx : E.ext f = none) (hf : E.fn f = some F) (hl : args.length = F.nargs) (hv : args.all isVar = true)
    (h : leave F st.length (exec (pcall E) F.body { fr := frOf args 0, bx := fun _ => .no, st := st }) = some r) : pcall E f args st = some r := by
  rw [pcall_iff]
  cases he : exec (pcall E) F.body { fr := frOf args 0, bx := fun _ => .no, st := st } with
  | none => rw [he] at h; cases h
  | some q =>
    rw [he] at h
    obtain ⟨k, hk⟩ := exec_iff.1 he
    obtain ⟨n, hn⟩ := execF_fuel k _ _ _ hk
    refine ⟨max k n + 1, ?_⟩
    rw [callF_succ, hx]
    simp only [hf]
    rw [if_pos ⟨hl, hv⟩]
    rw [execF_mono (callF_mono E n _ (Nat.le_max_right k n)) k _ _ _ _ (Nat.le_max_left k n) hn]
    exact h

theorem pcall_ext {E : Env} {f : Nat} {g : List PV → Store → Option (CRes × Store)} {args : List PV} {st : Store} (hx : E.ext f = some g) : pcall E f args st = g args st := by
  apply Option.ext
  intro r
  rw [pcall_iff]
  constructor
  · rintro ⟨n, h⟩
    cases n with
    | zero => cases h
    | succ n => rw [callF_succ, hx] at h; exact h
  · intro h
    exact ⟨1, by rw [callF_succ, hx]; exact h⟩

/-! ### A statement's call -/

/-- At a call's start no one writes what is there. -/
def gh0 (w : World) : Gh where
  fz := fun b => match w.heap[b]? with
    | some (.cells c _ _) => c.size
    | _ => 0
  loc := fun _ => 0
  box := fun _ => 0
  cl := fun b => if b < w.heap.size then some .prot else none

theorem gh0_sim (w : World) : SimS (gh0 w) [] w := by
  refine ⟨fun l o h => by simp at h, fun b hb => ?_⟩
  have h0 : w.heap[b]? = none := by simp [hb]
  exact ⟨by simp [gh0, h0], by simp [gh0, hb]⟩

theorem gh0_im {w : World} {b o : Nat} {v : Value} (h : w.cell? ⟨b, o, none⟩ = some v) : (gh0 w).im w b o = some v := by
  have h' := h
  unfold World.cell? at h'
  simp only at h'
  split at h'
  · rename_i c t fr hc
    have hlt : o < c.size := by
      simp at h'
      exact (Array.getElem?_eq_some_iff.1 h').1
    have hf : (gh0 w).fz b = c.size := by simp [gh0, hc]
    unfold Gh.im
    rw [if_pos (by rw [hf]; exact hlt)]
    exact h
  · cases h'

theorem grown_of_ext {w w' : World} {G' : Gh} {st' : Store} (h : Ext (gh0 w) [] w G' st' w') : RowKit.Grown w w' := by
  refine ⟨⟨h.os, h.output, fun i hi => ?_⟩, h.frozen, h.size⟩
  have hb := (h.prot i (by simp [gh0, hi])).2.2
  rw [hb]
  cases w.heap[i]? with
  | none => rfl
  | some o => cases o <;> first | exact ⟨rfl, rfl, rfl, fun _ _ => rfl⟩ | exact .inr ⟨rfl, rfl⟩ | rfl

/-- The walk, from the plain call. -/
theorem walk_of_pcall {P : Program} {E : Env} (hE : EnvOk P E) {f : Nat} {args : List PV} {margs : Array Value} {w : World} {st' : Store}
    (h : pcall E f args [] = some (.ret (.bool true), st')) (hsz : margs.size = args.length)
    (hv : ∀ (j : Nat) c x, args[j]? = some c → margs[j]? = some x → VR ((gh0 w).im w) (fun _ => none) c x) :
    Calls P f margs w fun e w' => e = .returned (.bool true) ∧ RowKit.Grown w w' := by
  obtain ⟨n, hn⟩ := pcall_iff.1 h
  have hloc : locOf (gh0 w).loc [] = fun _ => none := by funext l; simp [locOf]
  refine ((callF_good hE n _ _ _ _ _ hn (gh0 w) w margs (gh0_sim w) hsz (by rw [hloc]; exact hv)).2).mono ?_
  intro e w' he
  cases e with
  | returned mv =>
    obtain ⟨G', q1, q2, q3⟩ := he
    exact ⟨by rw [VR.bool_inv q3], grown_of_ext q2⟩
  | panicked ch => exact he.elim
  | outgrown => exact he.elim

end PE
