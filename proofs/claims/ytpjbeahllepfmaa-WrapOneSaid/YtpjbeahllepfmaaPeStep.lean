/-
  A step of plain code, and of the machine: one operation, calls and panics too.
-/
import Derived.Test.YtpjbeahllepfmaaPeOpI
import Derived.Orders
set_option linter.unusedVariables false
set_option linter.unusedSimpArgs false
namespace PE
open Go

def IOp.needsDst : IOp → Bool
  | .take _ | .append .. | .loadT .. => true
  | _ => false

section
variable {P : Program} {G G' : Gh} {N : Nat} {s : St} {a : Act} {w w' : World} {oper : Oper} {b b' : Bx} {st' : Store} {v : PV}

theorem Same3.good {b b' : Bx} (h : Same3 P oper N G s a w b b' v st') : OpGood P oper N G s a w v s.fr s.bx st' := by
  obtain ⟨_, rfl, h⟩ := h; exact h

theorem op_sound {op : IOp} (hS : Sim G N s a w) (hd : ∀ t, oper.dst = some t → t < N) (hdn : op.needsDst = true → oper.dst ≠ none) (hc : checkOp P oper.op op = true)
    (h : op.sem s.fr (getBx s.bx op.box?) s.st = some (v, b', st')) : OpGood P oper N G s a w v (stripAll s.fr op.takes) (setBx s.bx op.box? b') st' := by
  cases op with
  | mv x => exact (op_mv hS hd hc h).good
  | take t => obtain ⟨_, e, hg⟩ := op_take hS hd (hdn rfl) hc h; subst e; exact hg
  | pick c x y => exact (op_pick hS hd hc h).good
  | boxL k x => exact op_boxL hS hd hc h
  | boxI x => exact (op_boxI hS hd hc h).good
  | boxS sz x => exact (op_boxS hS hd hc h).2
  | build z ps => exact (op_build hS hd hc h).good
  | bslice sz z n ps => exact (op_bslice hS hd hc h).good
  | bsliceS sz z n ps => exact (op_bsliceS hS hd hc h).2
  | load wh ag sz x =>
    obtain ⟨e1, e2, hg⟩ := op_load hS hd hc h
    subst e1; subst e2
    cases wh with
    | box k =>
      have : setBx s.bx (IOp.box? (.load (.box k) ag sz x)) (getBx s.bx (Where.box? (.box k))) = s.bx := by
        funext j; simp only [setBx, IOp.box?, Where.box?, getBx, upd]; split
        · subst_vars; rfl
        · rfl
      rw [this]; exact hg
    | any => exact hg
    | imm => exact hg
  | loadT wh x => exact op_loadT hS hd (hdn rfl) hc h
  | store wh sz x y => exact (op_store hS hd hc h).2
  | storeT wh x t => exact (op_storeT hS hd hc h).2
  | nilck x => exact (op_nilck hS hd hc h).good
  | bin tk ks op x y => exact (op_bin hS hd hc h).good
  | un op x => exact (op_un hS hd hc h).good
  | conv k x => exact (op_conv hS hd hc h).good
  | mkif t x => exact (op_mkif hS hd hc h).good
  | mkfn f x y => exact (op_mkfn hS hd hc h).good
  | mkmap => exact (op_mkmap hS hd hc h).2
  | lookup ks ok z m k => exact (op_lookup hS hd hc h).good
  | mapset ks m k x => exact (op_mapset hS hd hc h).2.2
  | mkslice sz z by_ l c => exact (op_mkslice hS hd hc h).good
  | mksliceS sz z by_ l c => exact (op_mksliceS hS hd hc h).2
  | slc i z x lo hi mx => exact (op_slc hS hd hc h).good
  | faddr o x => exact (op_faddr hS hd hc h).good
  | iaddr sz x i => exact (op_iaddr hS hd hc h).good
  | iaddrA n sz x i => exact (op_iaddrA hS hd hc h).good
  | idxS x i => exact (op_idxS hS hd hc h).good
  | idxA n sz ag x i => exact (op_idxA hS hd hc h).good
  | ext x i => exact (op_ext hS hd hc h).good
  | fld ag o sz x => exact (op_fld hS hd hc h).good
  | call pk f x => cases h
  | len tk x => exact (op_len hS hd hc h).good
  | append sz by_ x y => obtain ⟨_, e, hg⟩ := op_append hS hd (hdn rfl) hc h; subst e; exact hg
  | max2 x y => exact (op_max2 hS hd hc h).good
  | min2 x y => exact (op_min2 hS hd hc h).good
  | panic x => cases h
  | rng k x => exact op_rng hS hd hc h
  | next k x => exact op_next hS hd hc h

/-! ### Calls -/

/-- How a call ends. -/
def Comes1 (G : Gh) (st : Store) (w : World) (r : CRes) (st' : Store) (e : Ending) (w' : World) : Prop :=
  match r, e with
  | .ret v, .returned mv => ∃ G', SimS G' st' w' ∧ Ext G st w G' st' w' ∧ VR (G'.im w') (locOf G'.loc st') v mv
  | .pan v, .panicked chain => ∃ G' mv, chain = [{ v := mv, recovered := false }] ∧ SimS G' st' w' ∧ Ext G st w G' st' w' ∧ VR (G'.im w') (locOf G'.loc st') v mv
  | _, _ => False

/-- What a call of a function is held to. -/
def GoodF (P : Program) (f : Nat) (args : List PV) (st : Store) (r : CRes) (st' : Store) : Prop :=
  ∀ (G : Gh) (w : World) (margs : Array Value), SimS G st w → margs.size = args.length →
    (∀ (j : Nat) c x, args[j]? = some c → margs[j]? = some x → VR (G.im w) (locOf G.loc st) c x) →
    (∃ fn c, P.funcs[f]? = some fn ∧ (fn.name == "runtime.NumGoroutine") = false ∧ fn.body = some c) ∧
    Calls P f margs w (Comes1 G st w r st')

def Good (P : Program) (cf : CallF) : Prop := ∀ f args st r st', cf f args st = some (r, st') → GoodF P f args st r st'

def Cl.isOwn : Cl → Bool
  | .box _ | .ownT _ | .ownB _ _ => true
  | _ => false

/-- What a callee sees of who may write. -/
def Gh.lend (G : Gh) : Gh := { G with cl := fun b => match G.cl b with
  | some κ => if κ.isOwn then some .prot else some κ
  | none => none }

/-- What the caller sees again. -/
def Gh.back (G G' : Gh) : Gh := { fz := G'.fz, loc := G'.loc, box := G.box, cl := fun b => match G.cl b with
  | some κ => if κ.isOwn then some κ else (match G'.cl b with
    | some κ' => if κ'.isOwn then none else some κ'
    | none => none)
  | none => (match G'.cl b with
    | some κ' => if κ'.isOwn then none else some κ'
    | none => none) }

theorem lend_im (G : Gh) (w : World) : G.lend.im w = G.im w := rfl

theorem lend_keep {κ : Cl} {b : Nat} (h : G.cl b = some κ) (hl : κ.isOwn = false) : G.lend.cl b = some κ := by
  simp [Gh.lend, h, hl]

theorem lend_prot {κ : Cl} {b : Nat} (h : G.cl b = some κ) (hl : κ.isOwn = true) : G.lend.cl b = some .prot := by
  simp [Gh.lend, h, hl]

theorem SimS.lend {st : Store} (h : SimS G st w) : SimS G.lend st w := by
  refine ⟨fun l o ho => (h.obj l o ho).mono (G := G) (G' := G.lend) (w := w) (w' := w) (fun _ _ _ x => x) (fun _ _ x => x) rfl ?_ ?_, ?_⟩
  · exact fun b hb => ⟨lend_keep hb rfl, rfl, rfl⟩
  · exact fun i j b hb => ⟨lend_keep hb rfl, rfl, rfl⟩
  · intro b hb
    exact ⟨(h.fresh b hb).1, by simp [Gh.lend, (h.fresh b hb).2]⟩

theorem back_mine {κ : Cl} {b : Nat} (h : G.cl b = some κ) (hl : κ.isOwn = true) : (G.back G').cl b = some κ := by
  simp [Gh.back, h, hl]

theorem back_far {st st' : Store} (hE : Ext G.lend st w G' st' w') {κ : Cl} {b : Nat} (h : G'.cl b = some κ) (hl : κ.isOwn = false) (hp : κ ≠ .prot) : (G.back G').cl b = some κ := by
  unfold Gh.back
  simp only
  split
  · rename_i κ0 h0
    split
    · rename_i hloc
      have := (hE.prot b (lend_prot h0 hloc)).1
      rw [h] at this; cases this; exact absurd rfl hp
    · simp [h, hl]
  · simp [h, hl]

theorem SimS.back {st st' : Store} (h : SimS G' st' w') (h0 : SimS G st w) (hE : Ext G.lend st w G' st' w') : SimS (G.back G') st' w' := by
  refine ⟨fun l o ho => (h.obj l o ho).mono (G := G') (G' := G.back G') (w := w') (w' := w') (fun _ _ _ x => x) (fun _ _ x => x) rfl ?_ ?_, ?_⟩
  · exact fun b hb => ⟨back_far hE hb rfl (by simp), rfl, rfl⟩
  · exact fun i j b hb => ⟨back_far hE hb rfl (by simp), rfl, rfl⟩
  · intro b hb
    refine ⟨(h.fresh b hb).1, ?_⟩
    have e1 := (h0.fresh b (Nat.le_trans hE.size hb)).2
    have e2 := (h.fresh b hb).2
    simp [Gh.back, e1, e2]

theorem Ext.back {st st' : Store} (h0 : SimS G st w) (hE : Ext G.lend st w G' st' w') : Ext G st w (G.back G') st' w' := by
  refine ⟨hE.im, hE.loc, ?_, hE.size, hE.os, hE.output, hE.frozen⟩
  intro b hb
  have hp := hE.prot b (lend_keep hb rfl)
  refine ⟨?_, hp.2.1, hp.2.2⟩
  simp [Gh.back, hb, Cl.isOwn, hp.1]

theorem keeps_back {st st' : Store} (hE : Ext G.lend st w G' st' w') {κ : Cl} (hl : κ.isOwn = true) : Keeps G w (G.back G') w' κ := by
  intro b hb
  have hp := hE.prot b (lend_prot hb hl)
  exact ⟨back_mine hb hl, hp.2.1, hp.2.2⟩

/-- The caller's frame, after a call. -/
theorem Sim.back (hS : Sim G N s a w) {st' : Store} (hS' : SimS G' st' w') (hE : Ext G.lend s.st w G' st' w') : Sim (G.back G') N { s with st := st' } a w' := by
  refine ⟨hS.defers, hS.size, ?_, hS.hi, hS.lp, ?_, hS'.back hS.store hE⟩
  · intro t ht
    exact (hS.tmp t ht).mono (G := G) (G' := G.back G') hE.im hE.loc (keeps_back hE rfl) (fun k off _ => rfl)
  · intro k
    exact (hS.box k).mono (G := G) (G' := G.back G') hE.im hE.loc rfl (keeps_back hE rfl) (fun j => keeps_back hE rfl)

theorem okArgs_map (hS : Sim G N s a w) : ∀ {xs : List Operand} {gs : List Arg}, okArgs xs gs = true → xs.length = gs.length
  | [], [], _ => rfl
  | [], _ :: _, h => by simp [okArgs] at h
  | _ :: _, [], h => by simp [okArgs] at h
  | x :: xs, g :: gs, h => by
    simp only [okArgs, Bool.and_eq_true] at h
    simp [okArgs_map hS h.2]

/-! ### One step -/

def guardOk (ops : Array Oper) (o : Oper) (g : GOp) : Bool := match o.guard, g.g with
  | none, none => true
  | some (j, v), some (t, v') => v == v' && (match ops[j]? with
    | some o' => decide (o'.dst = some t)
    | none => false)
  | _, _ => false

def checkOper (P : Program) (N : Nat) (ops : Array Oper) (o : Oper) (g : GOp) : Bool :=
  decide (o.dst = g.dst) && (match g.dst with
    | some t => decide (t < N)
    | none => !g.op.needsDst) && guardOk ops o g && checkOp P o.op g.op


theorem checkOper_dst {ops : Array Oper} {o : Oper} {g : GOp} (h : checkOper P N ops o g = true) : o.dst = g.dst ∧ (∀ t, o.dst = some t → t < N) ∧ (g.op.needsDst = true → o.dst ≠ none) ∧ guardOk ops o g = true ∧ checkOp P o.op g.op = true := by
  unfold checkOper at h
  simp only [Bool.and_eq_true, decide_eq_true_eq] at h
  obtain ⟨⟨⟨h1, h2⟩, h3⟩, h4⟩ := h
  refine ⟨h1, ?_, ?_, h3, h4⟩
  · intro t ht
    rw [h1] at ht
    simp only [ht, decide_eq_true_eq] at h2
    exact h2
  · intro hn e
    rw [h1] at e
    simp [e, hn] at h2

theorem tmp_bool (hS : Sim G N s a w) {t : Nat} {b : Bool} (h : s.fr t = .bool b) : a.tmps[t]? = some (.bool b) := by
  have htN : t < N := by
    rcases Nat.lt_or_ge t N with h' | h'
    · exact h'
    · rw [hS.hi t h'] at h; cases h
  have := hS.tmp t htN
  rw [h] at this
  have e : a.tmps.getD t Go.undef = .bool b := VR.bool_inv this
  have hlt : t < a.tmps.size := by rw [hS.size]; exact htN
  simp only [Array.getD_eq_getD_getElem?, Array.getElem?_eq_getElem hlt, Option.getD_some] at e
  rw [Array.getElem?_eq_getElem hlt, e]

theorem tmp_skip (hS : Sim G N s a w) {t : Nat} (h : s.fr t = .tup []) : a.tmps[t]? = some (.tuple #[]) := by
  have htN : t < N := by
    rcases Nat.lt_or_ge t N with h' | h'
    · exact h'
    · rw [hS.hi t h'] at h; cases h
  have := hS.tmp t htN
  rw [h] at this
  have e : a.tmps.getD t Go.undef = .tuple #[] := by
    have h2 : VR (G.im w) (locOf G.loc s.st) (.tup []) (a.tmps.getD t Go.undef) := this
    generalize a.tmps.getD t Go.undef = m at h2
    cases h2 with
    | tup hl hv =>
      rename_i vs
      have : vs = #[] := Array.eq_empty_of_size_eq_zero hl
      rw [this]
  have hlt : t < a.tmps.size := by rw [hS.size]; exact htN
  simp only [Array.getD_eq_getD_getElem?, Array.getElem?_eq_getElem hlt, Option.getD_some] at e
  rw [Array.getElem?_eq_getElem hlt, e]

theorem guard_wanted (hS : Sim G N s a w) {ops : Array Oper} {o : Oper} {g : GOp} (h : guardOk ops o g = true) :
    (g.g = none → Region.wanted o (yielded ops a.tmps) = true) ∧ (∀ t v b, g.g = some (t, v) → gate v (s.fr t) = some b → Region.wanted o (yielded ops a.tmps) = b) := by
  unfold guardOk at h
  split at h
  · rename_i h1 h2
    exact ⟨fun _ => by simp [Region.wanted, h1], fun t v b e => by rw [h2] at e; cases e⟩
  · rename_i j v t v' h1 h2
    simp only [Bool.and_eq_true, beq_iff_eq] at h
    obtain ⟨rfl, h⟩ := h
    refine ⟨fun e => (by rw [h2] at e; cases e), ?_⟩
    intro t' v' b e hb
    rw [h2] at e
    cases e
    split at h
    · rename_i o' ho'
      simp only [decide_eq_true_eq] at h
      cases hv : s.fr t <;> rw [hv] at hb <;> simp only [gate] at hb <;> try (cases hb; done)
      case bool x =>
        cases hb
        simp [Region.wanted, h1, yielded, ho', h, tmp_bool hS hv]
      case tup l =>
        cases l with
        | cons x r => cases hb
        | nil =>
          cases hb
          have := tmp_skip hS hv
          simp [Region.wanted, h1, yielded, ho', h, this]
    · cases h
  · cases h

theorem upon_good {K : Act → World → Prop} {Q : Exit → Act → World → Prop} {fr : Fr} {bx : Bxs} (h : OpGood P oper N G s a w v fr bx st')
    (hK : ∀ G' a' w', Sim G' N { fr := setDst fr oper.dst v, bx := bx, st := st' } a' w' → Ext G s.st w G' st' w' → K a' w') : oper.wp P a w K Q := by
  obtain ⟨nx, mv, w', G', hrun, hnx, hS', hE⟩ := h
  unfold Oper.wp
  rw [hrun]
  rcases hnx with rfl | ⟨rfl, rfl⟩
  · exact hK _ _ _ hS' hE
  · exact hK _ _ _ hS' hE

theorem arg_func (hS : Sim G N s a w) {x : Operand} {g : Arg} (h : okArg x g = true) {f : Nat} {cs ds : List PV} (hv : g.val s.fr = .fn f cs ds) :
    ∃ vs us : Array Value, a.eval x = .func (.func f) vs us ∧ vs.size = cs.length ∧ us.size = ds.length ∧ (∀ (j : Nat) c v, cs[j]? = some c → vs[j]? = some v → VR (G.im w) (locOf G.loc s.st) c v) ∧
      (∀ (j : Nat) c v, ds[j]? = some c → us[j]? = some v → VR (G.im w) (locOf G.loc s.st) c v) := by
  have hvr := arg_at hS h hv (by simp) (by simp)
  generalize a.eval x = m at hvr
  cases hvr with
  | fn hl hv hl' hv' => exact ⟨_, _, rfl, hl, hl', hv, hv'⟩

theorem run_callFunc {f : FuncId} {fn : Func} {c : Code} (hf : P.funcs[f]? = some fn) (hname : (fn.name == "runtime.NumGoroutine") = false) (hb : fn.body = some c) (args : Array Value) (w : World) :
    (callFunc f args).run P w = .ok (.enter f args) w := by
  simp only [beq_eq_false_iff_ne, ne_eq] at hname
  simp [callFunc, hf, hname, hb]

theorem all_append3 {α : Type} {p : α → Bool} {x y z : List α} (h : (x ++ y ++ z).all p = true) : y.all p = true := by
  simp only [List.all_append, Bool.and_eq_true] at h
  exact h.1.2

/-- A call. -/
theorem call_sound {cf : CallF} (hcf : Good P cf) {pk : Bool} {f : Arg} {args : List Arg} {K : Act → World → Prop} {Q : Exit → Act → World → Prop} (hS : Sim G N s a w) (hd : ∀ t, oper.dst = some t → t < N)
    (hc : checkOp P oper.op (.call pk f args) = true) {sr : SR} (h : runOp cf oper.dst (.call pk f args) s = some sr)
    (hK : ∀ s', sr = .ok s' → ∀ G' a' w', Sim G' N s' a' w' → Ext G s.st w G' s'.st w' → K a' w')
    (hQ : ∀ v st', sr = .pan v st' → ∀ G' w' mv, SimS G' st' w' → Ext G s.st w G' st' w' → VR (G'.im w') (locOf G'.loc st') v mv → Q (.panic [{ v := mv, recovered := false }]) a w') :
    oper.wp P a w K Q := by
  simp only [checkOp] at hc
  split at hc
  case h_2 => cases hc
  rename_i c ho
  split at hc
  case h_2 => cases hc
  rename_i x hcal
  simp only [Bool.and_eq_true] at hc
  obtain ⟨h1, h2⟩ := hc
  simp only [runOp] at h
  split at h
  case h_2 => cases h
  rename_i k first caps hfv
  split at h
  case isFalse => cases h
  rename_i hv
  obtain ⟨vs, us, e1, e2, e3, e4, e5⟩ := arg_func hS h1 hfv
  obtain ⟨l1, l2⟩ := okArgs_vr hS h2 hv
  cases hr : cf k (first ++ argVals s.fr args ++ caps) s.st with
  | none => rw [hr] at h; cases h
  | some rs =>
    obtain ⟨r, st'⟩ := rs
    have hgood := hcf _ _ _ _ _ hr G.lend w (vs ++ (c.args.map a.eval) ++ us) hS.store.lend (by simp [argVals, e2, e3, ← l1]) (by
      intro j p y hp hy
      simp only [argVals] at hp
      rcases Nat.lt_or_ge j first.length with h' | h'
      · rw [List.append_assoc, List.getElem?_append_left h'] at hp
        rw [Array.append_assoc, Array.getElem?_append_left (by omega)] at hy
        exact e4 j p y hp hy
      · rw [List.append_assoc, List.getElem?_append_right h'] at hp
        rw [Array.append_assoc, Array.getElem?_append_right (by omega), e2] at hy
        have hl : (c.args.map a.eval).size = args.length := by simp [← l1]
        rcases Nat.lt_or_ge (j - first.length) args.length with h'' | h''
        · rw [List.getElem?_append_left (by simpa using h'')] at hp
          rw [Array.getElem?_append_left (by omega)] at hy
          exact l2 _ p y hp (by simpa using hy)
        · rw [List.getElem?_append_right (by simpa using h'')] at hp
          rw [Array.getElem?_append_right (by omega), hl] at hy
          exact e5 _ p y (by simpa using hp) hy)
    obtain ⟨⟨fn, cd, f1, f2, f3⟩, hcalls⟩ := hgood
    rw [hr] at h
    unfold Oper.wp
    have hrun : (execOp a.eval oper).run P w = .ok (.enter k (vs ++ (c.args.map a.eval) ++ us)) w := by
      simp only [execOp, ho, resolve, hcal, e1, Deferred.ofValue, Sem.run_bind, Sem.run_pure, invoke]
      exact run_callFunc f1 f2 f3 _ _
    rw [hrun]
    simp only [Oper.upon]
    refine hcalls.mono ?_
    intro e w' he
    cases r with
    | ret v =>
      cases e with
      | returned mv =>
        obtain ⟨G', q1, q2, q3⟩ := he
        cases h
        refine hK _ rfl (G.back G') _ _ ?_ (Ext.back hS.store q2)
        have := (hS.back q1 q2).put hd (v := v) (mv := mv) (fun t _ => VR.tr q3) (fun k off e => by subst e; cases q3)
        exact this
      | panicked ch => exact he.elim
      | outgrown => exact he.elim
    | pan v =>
      cases e with
      | returned mv => exact he.elim
      | outgrown => exact he.elim
      | panicked ch =>
        obtain ⟨G', mv, rfl, q1, q2, q3⟩ := he
        cases pk with
        | false => cases h
        | true =>
          cases h
          exact hQ _ _ rfl (G.back G') _ _ (q1.back hS.store q2) (Ext.back hS.store q2) q3

theorem panic_sound {cf : CallF} {x : Arg} {K : Act → World → Prop} {Q : Exit → Act → World → Prop} (hS : Sim G N s a w)
    (hc : checkOp P oper.op (.panic x) = true) {sr : SR} (h : runOp cf oper.dst (.panic x) s = some sr)
    (hQ : ∀ v st', sr = .pan v st' → ∀ G' w' mv, SimS G' st' w' → Ext G s.st w G' st' w' → VR (G'.im w') (locOf G'.loc st') v mv → Q (.panic [{ v := mv, recovered := false }]) a w') :
    oper.wp P a w K Q := by
  simp only [checkOp] at hc
  split at hc
  case h_2 => cases hc
  rename_i y ho
  simp only [runOp] at h
  split at h
  case h_2 => cases h
  rename_i t v hv
  cases h
  have hvr := arg_at hS hc hv (by simp) (by simp)
  have he : ∃ mv, a.eval y = .iface t mv := by
    generalize a.eval y = m at hvr
    cases hvr with
    | iface h => exact ⟨_, rfl⟩
  obtain ⟨mv, he⟩ := he
  unfold Oper.wp
  have hrun : (execOp a.eval oper).run P w = .halt (.panic (a.eval y)) w := by
    simp [execOp, ho, Instr.panic, he]
  rw [hrun]
  exact hQ _ _ rfl G w _ hS.store (Ext.refl _ _ _) hvr

end
end PE
