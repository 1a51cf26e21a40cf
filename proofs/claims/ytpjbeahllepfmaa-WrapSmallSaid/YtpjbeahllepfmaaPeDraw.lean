/-
  Operations that may go in either order: what plain code makes is the same.
-/
import Derived.Test.YtpjbeahllepfmaaPeDefs
import Derived.Orders
set_option linter.unusedVariables false
set_option linter.unusedSimpArgs false
namespace PE
open Go

def Arg.tmps : Arg → List Nat
  | .t n => [n]
  | .c _ => []

def optTmps : Option Arg → List Nat
  | some a => a.tmps
  | none => []

def argsTmps (l : List Arg) : List Nat := l.flatMap Arg.tmps

def IOp.reads : IOp → List Nat
  | .mv a | .boxL _ a | .boxI a | .boxS _ a | .load _ _ _ a | .loadT _ a | .nilck a | .un _ a | .conv _ a | .mkif _ a | .faddr _ a | .ext a _ | .fld _ _ _ a | .len _ a | .panic a | .rng _ a | .next _ a => a.tmps
  | .take s => [s]
  | .pick c a b => c.tmps ++ a.tmps ++ b.tmps
  | .build _ ps => ps.flatMap fun p => p.2.2.tmps
  | .bslice _ _ _ ps | .bsliceS _ _ _ ps => ps.flatMap fun p => p.2.tmps
  | .store _ _ a v => a.tmps ++ v.tmps
  | .storeT _ a t => a.tmps ++ [t]
  | .bin _ _ _ a b | .idxS a b | .idxA _ _ _ a b | .iaddr _ a b | .iaddrA _ _ a b | .max2 a b | .min2 a b | .append _ _ a b | .mkslice _ _ _ a b | .mksliceS _ _ _ a b => a.tmps ++ b.tmps
  | .lookup _ _ _ m k => m.tmps ++ k.tmps
  | .mapset _ m k v => m.tmps ++ k.tmps ++ v.tmps
  | .mkfn _ f c => argsTmps f ++ argsTmps c
  | .mkmap => []
  | .slc _ _ x lo hi mx => x.tmps ++ optTmps lo ++ optTmps hi ++ optTmps mx
  | .call _ f args => f.tmps ++ argsTmps args

/-- How an operation uses the store: 0: not at all; 1: it reads; 2: it writes. -/
def IOp.stU : IOp → Nat
  | .load .any _ _ _ | .lookup .. | .append .. => 1
  | .len tk _ => if tk = 2 then 1 else 0
  | .boxS .. | .bsliceS .. | .mksliceS .. | .mkmap | .mapset .. | .call .. | .panic _ => 2
  | .loadT w _ | .store w _ _ _ | .storeT w _ _ => (match w with | .box _ => 0 | _ => 2)
  | _ => 0

def IOp.mayPan : IOp → Bool
  | .call pk _ _ => pk
  | .panic _ => true
  | _ => false

theorem val_congr {fr fr' : Fr} {a : Arg} (h : ∀ t ∈ a.tmps, fr t = fr' t) : a.val fr = a.val fr' := by
  cases a with
  | t n => exact h n (by simp [Arg.tmps])
  | c v => rfl

theorem argVals_congr {fr fr' : Fr} {l : List Arg} (h : ∀ t ∈ argsTmps l, fr t = fr' t) : argVals fr l = argVals fr' l := by
  unfold argVals
  apply List.map_congr_left
  intro a ha
  rw [val_congr fun t ht => h t (List.mem_flatMap.2 ⟨a, ha, ht⟩)]

theorem fillParts_congr {fr fr' : Fr} : ∀ (ps : List (Nat × Nat × Arg)) (cs : List PV), (∀ t ∈ ps.flatMap (fun p => p.2.2.tmps), fr t = fr' t) → fillParts fr cs ps = fillParts fr' cs ps
  | [], cs, _ => rfl
  | (off, sz, a) :: r, cs, h => by
    have e := val_congr (a := a) fun t ht => h t (List.mem_flatMap.2 ⟨_, List.mem_cons_self, ht⟩)
    have ih := fun cs => fillParts_congr r cs fun t ht => h t (by
      obtain ⟨p, hp, hq⟩ := List.mem_flatMap.1 ht
      exact List.mem_flatMap.2 ⟨p, List.mem_cons_of_mem _ hp, hq⟩)
    simp only [fillParts, e, ih]

theorem fillElems_congr {fr fr' : Fr} {sz : Nat} : ∀ (ps : List (Nat × Arg)) (cs : List PV), (∀ t ∈ ps.flatMap (fun p => p.2.tmps), fr t = fr' t) → fillElems fr sz cs ps = fillElems fr' sz cs ps
  | [], cs, _ => rfl
  | (i, a) :: r, cs, h => by
    have e := val_congr (a := a) fun t ht => h t (List.mem_flatMap.2 ⟨_, List.mem_cons_self, ht⟩)
    have ih := fun cs => fillElems_congr (sz := sz) r cs fun t ht => h t (by
      obtain ⟨p, hp, hq⟩ := List.mem_flatMap.1 ht
      exact List.mem_flatMap.2 ⟨p, List.mem_cons_of_mem _ hp, hq⟩)
    simp only [fillElems, e, ih]

theorem optNat_congr {fr fr' : Fr} {a : Option Arg} {d : Nat} (h : ∀ t ∈ optTmps a, fr t = fr' t) : optNat fr a d = optNat fr' a d := by
  cases a with
  | none => rfl
  | some a => simp only [optNat, val_congr h]

theorem sem_congr {fr fr' : Fr} {b : Bx} {st : Store} {o : IOp} (h : ∀ t ∈ o.reads, fr t = fr' t) : o.sem fr b st = o.sem fr' b st := by
  cases o <;> simp only [IOp.reads, List.mem_append, or_imp, forall_and] at h
  case take s => simp only [IOp.sem, h s (by simp)]
  case pick c x y => simp only [IOp.sem, val_congr h.1.1, val_congr h.1.2, val_congr h.2]
  case build z ps => simp only [IOp.sem, fillParts_congr ps z h]
  case bslice sz z n ps => simp only [IOp.sem, fillElems_congr ps _ h]
  case bsliceS sz z n ps => simp only [IOp.sem, fillElems_congr ps _ h]
  case storeT w x t => simp only [IOp.sem, val_congr h.1, h.2 t (by simp)]
  case mkfn f x y =>
    have e1 := argVals_congr h.1
    have e2 := argVals_congr h.2
    unfold argVals at e1 e2
    simp only [IOp.sem, e1, e2]
  case slc i z x lo hi mx =>
    obtain ⟨⟨⟨h1, h2⟩, h3⟩, h4⟩ := h
    cases mx with
    | none => simp only [IOp.sem, val_congr h1, optNat_congr h2, optNat_congr h3]
    | some m => simp only [IOp.sem, val_congr h1, optNat_congr h2, optNat_congr h3, val_congr (a := m) h4]
  case mapset ks m k v => simp only [IOp.sem, val_congr h.1.1, val_congr h.1.2, val_congr h.2]
  case mkmap => rfl
  all_goals first
    | rfl
    | (simp only [IOp.sem, val_congr h]; done)
    | (simp only [IOp.sem, val_congr h.1, val_congr h.2]; done)

theorem sem_free {fr : Fr} {b : Bx} {st st2 : Store} {o : IOp} (h0 : o.stU = 0) : o.sem fr b st2 = (o.sem fr b st).map fun r => (r.1, r.2.1, st2) := by
  cases o <;> simp only [IOp.stU] at h0 <;> try (cases h0; done)
  case len tk a =>
    split at h0
    · cases h0
    rename_i htk
    have : lenSem st2 tk (a.val fr) = lenSem st tk (a.val fr) := by
      unfold lenSem
      split <;> simp [htk]
    simp only [IOp.sem, this, Option.map_map, Function.comp_def]
  case load w ag sz a =>
    cases w with
    | any => cases h0
    | _ =>
      simp only [IOp.sem]
      (repeat' (first | rfl | split)) <;> simp_all [Function.comp_def]
  case loadT w a =>
    cases w with
    | box k =>
      simp only [IOp.sem]
      (repeat' (first | rfl | split)) <;> simp_all [Function.comp_def]
    | _ => cases h0
  case store w sz a x =>
    cases w with
    | box k =>
      simp only [IOp.sem]
      (repeat' (first | rfl | split)) <;> simp_all [Function.comp_def]
    | _ => cases h0
  case storeT w a x =>
    cases w with
    | box k =>
      simp only [IOp.sem]
      (repeat' (first | rfl | split)) <;> simp_all [Function.comp_def]
    | _ => cases h0
  all_goals
    simp only [IOp.sem, Option.map_map, Function.comp_def]
    try ((repeat' (first | rfl | split)) <;> simp_all [Function.comp_def])

theorem sem_reads {fr : Fr} {b b' : Bx} {st st' : Store} {v : PV} {o : IOp} (h0 : o.stU ≤ 1) (h : o.sem fr b st = some (v, b', st')) : st' = st := by
  by_cases hz : o.stU = 0
  · have := sem_free (fr := fr) (b := b) (st := st) (st2 := st) hz
    rw [h] at this
    simp only [Option.map_some, Option.some.injEq, Prod.mk.injEq] at this
    exact this.2.2
  · cases o <;> try (first | exact absurd rfl hz | (simp [IOp.stU] at h0; done))
    case len tk a =>
      simp only [IOp.sem, Option.map_eq_some_iff, Prod.mk.injEq] at h
      obtain ⟨_, _, _, _, rfl⟩ := h; rfl
    case load w ag sz a =>
      cases w with
      | any =>
        simp only [IOp.sem] at h
        (repeat' (split at h)) <;> simp_all
        all_goals (obtain ⟨x, _, _, _, hx⟩ := h; exact hx.symm)
      | _ => exact absurd rfl hz
    case loadT w a => cases w <;> first | exact absurd rfl hz | (simp [IOp.stU] at h0; done)
    case store w sz a x => cases w <;> first | exact absurd rfl hz | (simp [IOp.stU] at h0; done)
    case storeT w a x => cases w <;> first | exact absurd rfl hz | (simp [IOp.stU] at h0; done)
    case lookup ks ok z m k =>
      simp only [IOp.sem] at h
      (repeat' (split at h)) <;> simp_all
      all_goals (obtain ⟨x, _, hx⟩ := h; cases x <;> simp at hx <;> exact hx.2.2.symm)
    case append sz by_ x y =>
      simp only [IOp.sem] at h
      (repeat' (split at h)) <;> simp_all [Option.bind_eq_some_iff]
      all_goals (obtain ⟨x, _, hx⟩ := h; (repeat' (split at hx)) <;> simp_all)

/-! ### What a step makes, and where -/

def IOp.writes (o : IOp) (dst : Option Nat) : List Nat := o.takes ++ dst.toList

def GOp.rds (g : GOp) : List Nat := g.op.reads ++ (match g.g with | some (t, _) => [t] | none => [])
def GOp.wrs (g : GOp) : List Nat := g.op.takes ++ g.dst.toList

def disj (x y : List Nat) : Bool := x.all fun t => !y.contains t

theorem disj_spec {x y : List Nat} (h : disj x y = true) : ∀ t, t ∈ x → t ∈ y → False := by
  intro t h1 h2
  have := List.all_eq_true.1 h t h1
  simp [h2] at this

def stIndep (x y : Nat) : Bool := decide (x = 0) || decide (y = 0) || (decide (x ≤ 1) && decide (y ≤ 1))

def boxIndep : Option Nat → Option Nat → Bool
  | some i, some j => decide (i ≠ j)
  | _, _ => true

def indep (x y : GOp) : Bool :=
  !x.op.mayPan && !y.op.mayPan && disj x.wrs y.rds && disj y.wrs x.rds && disj x.wrs y.wrs && stIndep x.op.stU y.op.stU && boxIndep x.op.box? y.op.box?

/-- What an operation makes. -/
noncomputable def eff (cf : CallF) (o : IOp) (fr : Fr) (b : Bx) (st : Store) : Option (PV × Bx × Store) :=
  match o with
  | .call pk f args => match f.val fr with
    | .fn k first caps =>
      if (argVals fr args).all isVar then
      match cf k (first ++ argVals fr args ++ caps) st with
      | some (.ret v, st') => some (v, b, st')
      | _ => none
      else none
    | _ => none
  | .panic _ => none
  | o => o.sem fr b st

noncomputable def geff (cf : CallF) (g : GOp) (fr : Fr) (b : Bx) (st : Store) : Option (Bool × PV × Bx × Store) :=
  match g.g with
  | none => (eff cf g.op fr b st).map fun r => (true, r.1, r.2.1, r.2.2)
  | some (t, w) => match gate w (fr t) with
    | some true => (eff cf g.op fr b st).map fun r => (true, r.1, r.2.1, r.2.2)
    | some false => some (false, .tup [], b, st)
    | none => none

def wr (fr : Fr) (k : Bool) (T : List Nat) (d : Option Nat) (v : PV) : Fr := setDst (if k then stripAll fr T else fr) d v

theorem setBx_get (bx : Bxs) (k : Option Nat) : setBx bx k (getBx bx k) = bx := by
  cases k with
  | none => rfl
  | some k => funext j; simp only [setBx, getBx, upd]; split <;> simp_all

theorem step_ok {cf : CallF} {g : GOp} {s s' : St} : step cf g s = some (.ok s') ↔ ∃ k v b' st', geff cf g s.fr (getBx s.bx g.op.box?) s.st = some (k, v, b', st') ∧ s' = { fr := wr s.fr k g.op.takes g.dst v, bx := setBx s.bx g.op.box? b', st := st' } := by
  have hrun : runOp cf g.dst g.op s = some (.ok s') ↔ ∃ v b' st', eff cf g.op s.fr (getBx s.bx g.op.box?) s.st = some (v, b', st') ∧ s' = { fr := wr s.fr true g.op.takes g.dst v, bx := setBx s.bx g.op.box? b', st := st' } := by
    obtain ⟨gd, dst, op⟩ := g
    cases op
    case call pk f args =>
      simp only [runOp, eff]
      cases hfv : Arg.val s.fr f
      case fn k first caps =>
        simp only
        by_cases hall : (argVals s.fr args).all isVar = true
        · simp only [if_pos hall]
          cases hcf : cf k (first ++ argVals s.fr args ++ caps) s.st with
          | none => simp
          | some r =>
            obtain ⟨r, st'⟩ := r
            cases r with
            | ret v =>
              simp only [Option.some.injEq, SR.ok.injEq, Prod.mk.injEq]
              constructor
              · rintro rfl; exact ⟨_, _, _, ⟨rfl, rfl, rfl⟩, rfl⟩
              · rintro ⟨_, _, _, ⟨rfl, rfl, rfl⟩, rfl⟩; rfl
            | pan v => cases pk <;> simp
        · simp only [if_neg hall]; simp
      all_goals simp
    case panic a =>
      simp only [runOp, eff]
      split <;> simp
    all_goals
      simp only [runOp, eff]
      split
      · rename_i v b' st' h
        simp only [Option.some.injEq, SR.ok.injEq, h, Prod.mk.injEq]
        constructor
        · rintro rfl; exact ⟨_, _, _, ⟨rfl, rfl, rfl⟩, rfl⟩
        · rintro ⟨_, _, _, ⟨rfl, rfl, rfl⟩, rfl⟩; rfl
      · rename_i h
        simp [h]
  have hmap : (∃ v b' st', eff cf g.op s.fr (getBx s.bx g.op.box?) s.st = some (v, b', st') ∧ s' = { fr := wr s.fr true g.op.takes g.dst v, bx := setBx s.bx g.op.box? b', st := st' }) ↔
      ∃ k v b' st', ((eff cf g.op s.fr (getBx s.bx g.op.box?) s.st).map fun r => (true, r.1, r.2.1, r.2.2)) = some (k, v, b', st') ∧ s' = { fr := wr s.fr k g.op.takes g.dst v, bx := setBx s.bx g.op.box? b', st := st' } := by
    constructor
    · rintro ⟨v, b', st', h, rfl⟩; exact ⟨true, v, b', st', by rw [h]; rfl, rfl⟩
    · rintro ⟨k, v, b', st', h, rfl⟩
      simp only [Option.map_eq_some_iff, Prod.mk.injEq] at h
      obtain ⟨r, h, rfl, rfl, rfl, rfl⟩ := h
      exact ⟨_, _, _, h, rfl⟩
  unfold step geff
  cases hg : g.g with
  | none =>
    simp only
    rw [hrun]; exact hmap
  | some x =>
    obtain ⟨t, w⟩ := x
    simp only
    cases ht : gate w (s.fr t) with
    | none => simp
    | some x =>
      cases x
      · simp only [Option.some.injEq, SR.ok.injEq, Prod.mk.injEq]
        constructor
        · rintro rfl; exact ⟨_, _, _, _, ⟨rfl, rfl, rfl, rfl⟩, by simp only [wr, setBx_get]; rfl⟩
        · rintro ⟨_, _, _, _, ⟨rfl, rfl, rfl, rfl⟩, rfl⟩; simp only [wr, setBx_get]; rfl
      · simp only
        rw [hrun]; exact hmap

theorem step_pan {cf : CallF} {g : GOp} {s : St} (h : g.op.mayPan = false) {v : PV} {st : Store} : step cf g s ≠ some (.pan v st) := by
  have hrun : runOp cf g.dst g.op s ≠ some (.pan v st) := by
    obtain ⟨gd, dst, op⟩ := g
    cases op
    case call pk f args =>
      simp only [IOp.mayPan] at h
      subst h
      simp only [runOp]
      cases Arg.val s.fr f
      case fn k first caps =>
        simp only
        split
        · cases cf k (first ++ argVals s.fr args ++ caps) s.st with
          | none => simp
          | some r =>
            obtain ⟨r, st'⟩ := r
            cases r <;> simp
        · simp
      all_goals simp
    case panic a => cases h
    all_goals
      simp only [runOp]
      split <;> simp
  unfold step
  split
  · exact hrun
  · split
    · exact hrun
    · simp
    · simp

theorem eff_congr {cf : CallF} {o : IOp} {fr fr' : Fr} {b : Bx} {st : Store} (h : ∀ t ∈ o.reads, fr t = fr' t) : eff cf o fr b st = eff cf o fr' b st := by
  cases o
  case call pk f args =>
    simp only [IOp.reads, List.mem_append, or_imp, forall_and] at h
    simp only [eff, val_congr h.1, argVals_congr h.2]
  case panic a => rfl
  all_goals exact sem_congr h

theorem geff_congr {cf : CallF} {g : GOp} {fr fr' : Fr} {b : Bx} {st : Store} (h : ∀ t ∈ g.rds, fr t = fr' t) : geff cf g fr b st = geff cf g fr' b st := by
  unfold GOp.rds at h
  simp only [List.mem_append, or_imp, forall_and] at h
  have he := eff_congr (cf := cf) (b := b) (st := st) h.1
  unfold geff
  cases hg : g.g with
  | none => simp only [he]
  | some x =>
    obtain ⟨t, w⟩ := x
    rw [hg] at h
    simp only [h.2 t (by simp), he]

theorem eff_free {cf : CallF} {o : IOp} {fr : Fr} {b : Bx} {st st2 : Store} (h0 : o.stU = 0) : eff cf o fr b st2 = (eff cf o fr b st).map fun r => (r.1, r.2.1, st2) := by
  cases o
  case call pk f args => cases h0
  case panic a => rfl
  all_goals exact sem_free (fr := fr) h0

theorem geff_free {cf : CallF} {g : GOp} {fr : Fr} {b : Bx} {st st2 : Store} (h0 : g.op.stU = 0) : geff cf g fr b st2 = (geff cf g fr b st).map fun r => (r.1, r.2.1, r.2.2.1, st2) := by
  unfold geff
  rw [eff_free (st := st) (st2 := st2) h0]
  cases g.g with
  | none => simp [Function.comp_def]
  | some x =>
    obtain ⟨t, w⟩ := x
    simp only
    split
    · simp [Function.comp_def]
    · rfl
    · rfl

theorem eff_reads {cf : CallF} {fr : Fr} {b b' : Bx} {st st' : Store} {v : PV} {o : IOp} (h0 : o.stU ≤ 1) (h : eff cf o fr b st = some (v, b', st')) : st' = st := by
  cases o
  case call pk f args => (simp [IOp.stU] at h0; done)
  case panic a => cases h
  all_goals exact sem_reads (fr := fr) h0 h

theorem geff_reads {cf : CallF} {fr : Fr} {b b' : Bx} {st st' : Store} {v : PV} {k : Bool} {g : GOp} (h0 : g.op.stU ≤ 1) (h : geff cf g fr b st = some (k, v, b', st')) : st' = st := by
  unfold geff at h
  cases hg : g.g with
  | none =>
    rw [hg] at h
    simp only [Option.map_eq_some_iff, Prod.mk.injEq] at h
    obtain ⟨r, h, rfl, rfl, rfl, rfl⟩ := h
    exact eff_reads h0 h
  | some x =>
    obtain ⟨t, w⟩ := x
    rw [hg] at h
    simp only at h
    split at h
    · simp only [Option.map_eq_some_iff, Prod.mk.injEq] at h
      obtain ⟨r, h, rfl, rfl, rfl, rfl⟩ := h
      exact eff_reads h0 h
    · cases h; rfl
    · cases h

theorem geff_zero {cf : CallF} {fr : Fr} {b b' : Bx} {st st' st2 : Store} {v : PV} {k : Bool} {g : GOp} (h0 : g.op.stU = 0) (h : geff cf g fr b st = some (k, v, b', st')) : st' = st ∧ geff cf g fr b st2 = some (k, v, b', st2) := by
  refine ⟨geff_reads (by omega) h, ?_⟩
  rw [geff_free (st := st) h0, h]; rfl

theorem strip_strip (v : PV) : strip (strip v) = strip v := by
  cases v with
  | slice k z l => cases k <;> rfl
  | _ => rfl

theorem stripAll_at (T : List Nat) : ∀ (fr : Fr) (t : Nat), stripAll fr T t = if t ∈ T then strip (fr t) else fr t := by
  induction T with
  | nil => intro fr t; simp [stripAll]
  | cons x T ih =>
    intro fr t
    simp only [stripAll, ih, upd, List.mem_cons]
    by_cases h1 : t = x
    · subst h1; by_cases h2 : t ∈ T <;> simp [h2, strip_strip]
    · by_cases h2 : t ∈ T <;> simp [h1, h2]

theorem wr_at (fr : Fr) (k : Bool) (T : List Nat) (d : Option Nat) (v : PV) (t : Nat) : wr fr k T d v t = if d = some t then v else if k = true ∧ t ∈ T then strip (fr t) else fr t := by
  unfold wr
  cases d with
  | none => cases k <;> simp [setDst, stripAll_at]
  | some d =>
    simp only [setDst, upd, Option.some.injEq]
    by_cases h : t = d
    · subst h; simp
    · have h' : ¬ d = t := fun e => h e.symm
      rw [if_neg h, if_neg h']
      cases k <;> simp [stripAll_at]

theorem wr_out {fr : Fr} {k : Bool} {T : List Nat} {d : Option Nat} {v : PV} {t : Nat} (h : t ∉ T ++ d.toList) : wr fr k T d v t = fr t := by
  simp only [List.mem_append, Option.mem_toList, not_or] at h
  rw [wr_at, if_neg h.2, if_neg (fun e => h.1 e.2)]

theorem wr_comm {fr : Fr} {k k' : Bool} {T T' : List Nat} {d d' : Option Nat} {v v' : PV} (h : ∀ t, t ∈ T ++ d.toList → t ∈ T' ++ d'.toList → False) :
    wr (wr fr k T d v) k' T' d' v' = wr (wr fr k' T' d' v') k T d v := by
  funext t
  by_cases h1 : t ∈ T ++ d.toList
  · have h2 : t ∉ T' ++ d'.toList := fun h2 => h t h1 h2
    rw [wr_out h2]
    simp only [wr_at (wr fr k' T' d' v'), wr_at fr k T, wr_out h2]
  · rw [wr_out h1]
    simp only [wr_at (wr fr k T d v), wr_at fr k' T', wr_out h1]

theorem setBx_comm {bx : Bxs} {i j : Option Nat} (h : boxIndep i j = true) (u v : Bx) : setBx (setBx bx i u) j v = setBx (setBx bx j v) i u := by
  cases i with
  | none => rfl
  | some i =>
    cases j with
    | none => rfl
    | some j =>
      simp only [boxIndep, decide_eq_true_eq] at h
      exact upd_comm bx u v (Ne.symm h)

theorem getBx_set {bx : Bxs} {i j : Option Nat} (h : boxIndep i j = true) (u : Bx) : getBx (setBx bx i u) j = getBx bx j := by
  cases i with
  | none => rfl
  | some i =>
    cases j with
    | none => rfl
    | some j =>
      simp only [boxIndep, decide_eq_true_eq] at h
      exact upd_ne bx u (Ne.symm h)

theorem boxIndep_symm {i j : Option Nat} (h : boxIndep i j = true) : boxIndep j i = true := by
  cases i with
  | none => cases j <;> rfl
  | some i =>
    cases j with
    | none => rfl
    | some j => simp only [boxIndep, decide_eq_true_eq] at h ⊢; exact Ne.symm h

/-- Two that are apart go in either order. -/
theorem swap_ok {cf : CallF} {x y : GOp} (h : indep x y = true) {s s1 s2 : St} (h1 : step cf x s = some (.ok s1)) (h2 : step cf y s1 = some (.ok s2)) :
    ∃ s1', step cf y s = some (.ok s1') ∧ step cf x s1' = some (.ok s2) := by
  simp only [indep, Bool.and_eq_true] at h
  obtain ⟨⟨⟨⟨⟨⟨_, _⟩, d1⟩, d2⟩, d3⟩, hst⟩, hbx⟩ := h
  obtain ⟨k, v, b, st, e1, rfl⟩ := step_ok.1 h1
  obtain ⟨k', v', b', st', e2, rfl⟩ := step_ok.1 h2
  rw [getBx_set hbx] at e2
  have c2 : ∀ st, geff cf y (wr s.fr k x.op.takes x.dst v) (getBx s.bx y.op.box?) st = geff cf y s.fr (getBx s.bx y.op.box?) st := fun st =>
    geff_congr fun t ht => wr_out fun hw => disj_spec d1 t hw ht
  rw [c2] at e2
  have c1 : ∀ st, geff cf x (wr s.fr k' y.op.takes y.dst v') (getBx s.bx x.op.box?) st = geff cf x s.fr (getBx s.bx x.op.box?) st := fun st =>
    geff_congr fun t ht => wr_out fun hw => disj_spec d2 t hw ht
  have key : ∃ sm, geff cf y s.fr (getBx s.bx y.op.box?) s.st = some (k', v', b', sm) ∧ geff cf x s.fr (getBx s.bx x.op.box?) sm = some (k, v, b, st') := by
    simp only [stIndep, Bool.or_eq_true, decide_eq_true_eq, Bool.and_eq_true] at hst
    rcases hst with (hx | hy) | ⟨hx, hy⟩
    · obtain ⟨rfl, _⟩ := geff_zero (st2 := s.st) hx e1
      exact ⟨st', e2, (geff_zero hx e1).2⟩
    · obtain ⟨rfl, hz⟩ := geff_zero (st2 := s.st) hy e2
      exact ⟨s.st, hz, e1⟩
    · have q1 := geff_reads hx e1
      subst q1
      have q2 := geff_reads hy e2
      subst q2
      exact ⟨_, e2, e1⟩
  obtain ⟨sm, k1, k2⟩ := key
  refine ⟨_, step_ok.2 ⟨k', v', b', sm, k1, rfl⟩, step_ok.2 ⟨k, v, b, st', ?_, ?_⟩⟩
  · rw [getBx_set (boxIndep_symm hbx), c1]; exact k2
  · simp only [St.mk.injEq]
    exact ⟨wr_comm fun t h h' => disj_spec d3 t h h', setBx_comm hbx _ _, trivial⟩

end PE
