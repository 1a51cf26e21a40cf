/-
  Operations that only reckon or read: each, what the machine makes of it.
-/
import Derived.Test.YtpjbeahllepfmaaPeOpA
import Derived.Laws.StructEq
set_option linter.unusedVariables false
set_option linter.unusedSimpArgs false
namespace PE
open Go

section
variable {P : Program} {G : Gh} {N : Nat} {s : St} {a : Act} {w : World} {oper : Oper} {b b' : Bx} {st' : Store} {v : PV}

/-- What an operation that leaves memory as it is comes to. -/
def Same3 (P : Program) (oper : Oper) (N : Nat) (G : Gh) (s : St) (a : Act) (w : World) (b b' : Bx) (v : PV) (st' : Store) : Prop :=
  b' = b ∧ st' = s.st ∧ OpGood P oper N G s a w v s.fr s.bx s.st

theorem op_mv {x : Arg} (hS : Sim G N s a w) (hd : ∀ t, oper.dst = some t → t < N) (hc : checkOp P oper.op (.mv x) = true) (h : (IOp.mv x).sem s.fr b s.st = some (v, b', st')) : Same3 P oper N G s a w b b' v st' := by
  simp only [IOp.sem, Option.some.injEq, Prod.mk.injEq] at h
  obtain ⟨rfl, rfl, rfl⟩ := h
  simp only [checkOp] at hc
  split at hc
  · rename_i y ho
    exact ⟨rfl, rfl, good_pure hS hd (mv := a.eval y) (by simp [execOp, ho]) (fun κ => arg_strip hS hc κ) (fun k off e => arg_lp hS hc (strip_lptr e))⟩
  · rename_i y ho
    exact ⟨rfl, rfl, good_pure hS hd (mv := a.eval y) (by simp [execOp, ho]) (fun κ => arg_strip hS hc κ) (fun k off e => arg_lp hS hc (strip_lptr e))⟩
  · cases hc

theorem op_pick {c x y : Arg} (hS : Sim G N s a w) (hd : ∀ t, oper.dst = some t → t < N) (hc : checkOp P oper.op (.pick c x y) = true) (h : (IOp.pick c x y).sem s.fr b s.st = some (v, b', st')) : Same3 P oper N G s a w b b' v st' := by
  simp only [checkOp] at hc
  split at hc
  · rename_i c' x' y' ho
    simp only [Bool.and_eq_true] at hc
    obtain ⟨⟨h1, h2⟩, h3⟩ := hc
    simp only [IOp.sem] at h
    split at h
    · rename_i hb
      simp only [Option.some.injEq, Prod.mk.injEq] at h
      obtain ⟨rfl, rfl, rfl⟩ := h
      exact ⟨rfl, rfl, good_pure hS hd (mv := a.eval x') (by simp [execOp, ho, arg_bool hS h1 hb, asBool]) (fun κ => arg_strip hS h2 κ) (fun k off e => arg_lp hS h2 (strip_lptr e))⟩
    · rename_i hb
      simp only [Option.some.injEq, Prod.mk.injEq] at h
      obtain ⟨rfl, rfl, rfl⟩ := h
      exact ⟨rfl, rfl, good_pure hS hd (mv := a.eval y') (by simp [execOp, ho, arg_bool hS h1 hb, asBool]) (fun κ => arg_strip hS h3 κ) (fun k off e => arg_lp hS h3 (strip_lptr e))⟩
    · cases h
  · cases hc

/-- The cells behind an address that may not be written. -/
theorem iptr_cells {I : Im} {L : Loc} {cs : List PV} {off : Nat} {mv : Value} (h : VR I L (.iptr cs off) mv) : ∃ b o, mv = .pointer (some ⟨b, o + off, none⟩) ∧
    ∀ (j : Nat) c, cs[j]? = some c → ∃ x, I b (o + j) = some x ∧ x.oneCell' = true ∧ VR I L c x := by
  cases h with
  | iptr f hi hv => exact ⟨_, _, rfl, fun j c hc => ⟨f j, (hi j c hc).1, (hi j c hc).2, hv j c hc⟩⟩

theorem im_cell {b o : Nat} {x : Value} (h : G.im w b o = some x) : w.cell? ⟨b, o, none⟩ = some x := by
  unfold Gh.im at h; split at h; exact h; cases h

theorem cell_row {w : World} {g j : Nat} {cs : Array Value} {t : TypeId} {fr : Nat × Nat} (hg : w.heap[g]? = some (.cells cs t fr)) : w.cell? ⟨g, j, none⟩ = cs[j]? :=
  cell_of_row w g j cs t fr hg

theorem LoadRes.shift {src src' : Nat → Option Value} {ag : Bool} {sz off off' : Nat} {mv : Value} (h : LoadRes src ag sz off mv) (hs : ∀ j v, src (off + j) = some v → src' (off' + j) = some v) : LoadRes src' ag sz off' mv := by
  unfold LoadRes at h ⊢
  split
  · rename_i e
    rw [if_pos e] at h
    obtain ⟨vs, h1, h2, h3⟩ := h
    exact ⟨vs, h1, fun j v hv => hs j v (h2 j v hv), h3⟩
  · rename_i e
    rw [if_neg e] at h
    exact hs 0 mv h

theorem op_load {wh : Where} {ag : Bool} {sz : Nat} {x : Arg} (hS : Sim G N s a w) (hd : ∀ t, oper.dst = some t → t < N) (hc : checkOp P oper.op (.load wh ag sz x) = true)
    (h : (IOp.load wh ag sz x).sem s.fr (getBx s.bx wh.box?) s.st = some (v, b', st')) : Same3 P oper N G s a w (getBx s.bx wh.box?) b' v st' := by
  simp only [checkOp] at hc
  split at hc
  case h_2 => cases hc
  rename_i t y ho
  simp only [Bool.and_eq_true] at hc
  obtain ⟨⟨⟨h1, h2⟩, h3⟩, h4⟩ := hc
  have key : ∀ {bk off : Nat} {mv : Value}, a.eval y = .pointer (some ⟨bk, off, none⟩) → LoadRes (fun j => w.cell? ⟨bk, j, none⟩) ag sz off mv → (execOp a.eval oper).run P w = .ok (.value mv) w := by
    intro bk off mv e hl
    simp [execOp, ho, Instr.loadAt, Instr.sureAddr, e, run_loadVar h2 h3 h4 hl]
  simp only [IOp.sem] at h
  split at h
  · -- a variable of one's own
    rename_i k k' off hv
    split at h
    case isFalse => cases h
    rename_i hk
    subst hk
    split at h
    case h_2 => cases h
    rename_i cs hb
    simp only [Option.map_eq_some_iff, Prod.mk.injEq] at h
    obtain ⟨u, hu, rfl, rfl, rfl⟩ := h
    have hbx := hS.box k
    simp only [getBx, Where.box?] at hb
    rw [hb] at hbx
    obtain ⟨c1, c2, arr, e, c3, c4, c5⟩ := hbx
    obtain ⟨mv, hl, hr⟩ := read_ok (I := G.im w) (L := locOf G.loc s.st) (src := fun j => w.cell? ⟨G.box k, j, none⟩) (fun j c hj => by
      obtain ⟨mv, m1, m2⟩ := c5 j c hj
      exact ⟨mv, by show w.cell? _ = _; rw [cell_row c3]; exact m1, m2.1, m2.strip⟩) hu
    refine ⟨rfl, rfl, good_vr hS hd (key (arg_lptr hS h1 hv) hl) hr⟩
  · rename_i cs off hv
    simp only [Option.map_eq_some_iff, Prod.mk.injEq] at h
    obtain ⟨u, hu, rfl, rfl, rfl⟩ := h
    obtain ⟨bk, o, e, hcell⟩ := iptr_cells (arg_at hS h1 hv (by simp) (by simp))
    obtain ⟨mv, hl, hr⟩ := readCells_plain (src := fun j => G.im w bk (o + j)) hcell hu
    refine ⟨rfl, rfl, good_vr hS hd (key e (hl.shift fun j x hx => ?_)) hr⟩
    show w.cell? _ = _
    rw [Nat.add_assoc]
    exact im_cell hx
  · rename_i cs off hv
    simp only [Option.map_eq_some_iff, Prod.mk.injEq] at h
    obtain ⟨u, hu, rfl, rfl, rfl⟩ := h
    obtain ⟨bk, o, e, hcell⟩ := iptr_cells (arg_at hS h1 hv (by simp) (by simp))
    obtain ⟨mv, hl, hr⟩ := readCells_plain (src := fun j => G.im w bk (o + j)) hcell hu
    refine ⟨rfl, rfl, good_vr hS hd (key e (hl.shift fun j x hx => ?_)) hr⟩
    show w.cell? _ = _
    rw [Nat.add_assoc]
    exact im_cell hx
  · rename_i l i off hv
    split at h
    case h_2 => cases h
    rename_i sz' es hst
    split at h
    case h_2 => cases h
    rename_i e0 he0
    simp only [Option.map_eq_some_iff, Prod.mk.injEq] at h
    obtain ⟨u, hu, rfl, rfl, rfl⟩ := h
    have hptr := arg_at hS h1 hv (by simp) (by simp)
    have hobj := hS.store.obj l _ hst
    obtain ⟨c1, c2, arr, e, c3, c4, c5⟩ := hobj
    obtain ⟨d1, d2, d3⟩ := c5 i e0 he0
    have hloc : locOf G.loc s.st l = some (G.loc l, sz') := by simp [locOf, hst, Obj.sz]
    have heval : a.eval y = .pointer (some ⟨G.loc l, i * sz' + off, none⟩) := by
      generalize a.eval y = m at hptr
      cases hptr with
      | ptr hh => rw [hloc] at hh; cases hh; rfl
    obtain ⟨mv, hl, hr⟩ := read_ok (I := G.im w) (L := locOf G.loc s.st) (src := fun j => w.cell? ⟨G.loc l, i * sz' + j, none⟩) (fun j c hj => by
      obtain ⟨mv, m1, m2⟩ := d3 j c hj
      exact ⟨mv, by show w.cell? _ = _; rw [cell_row c3]; exact m1, m2.1, m2.strip⟩) hu
    refine ⟨rfl, rfl, good_vr hS hd (key heval (hl.shift fun j x hx => ?_)) hr⟩
    rw [Nat.add_assoc]; exact hx
  · cases h

theorem op_nilck {x : Arg} (hS : Sim G N s a w) (hd : ∀ t, oper.dst = some t → t < N) (hc : checkOp P oper.op (.nilck x) = true) (h : (IOp.nilck x).sem s.fr b s.st = some (v, b', st')) : Same3 P oper N G s a w b b' v st' := by
  simp only [checkOp] at hc
  split at hc
  case h_2 => cases hc
  rename_i y ho
  simp only [IOp.sem] at h
  split at h
  · rename_i cs off hv
    cases h
    have := arg_at hS hc hv (by simp) (by simp)
    obtain ⟨bk, o, e, _⟩ := iptr_cells this
    refine ⟨rfl, rfl, good_vr hS hd (mv := a.eval y) (by simp [execOp, ho, e]) this⟩
  · rename_i l i off hv
    cases h
    have := arg_at hS hc hv (by simp) (by simp)
    refine ⟨rfl, rfl, good_vr hS hd (mv := a.eval y) ?_ this⟩
    generalize hm : a.eval y = m at this
    cases this
    simp [execOp, ho, hm]
  · rename_i k off hv
    cases h
    have := arg_lptr hS hc hv
    exact ⟨rfl, rfl, good_pure hS hd (mv := a.eval y) (by simp [execOp, ho, this]) (fun κ => this) (fun k' o' e => by cases e; exact arg_lp hS hc hv)⟩
  · rename_i f xs ys hv
    cases h
    have := arg_at hS hc hv (by simp) (by simp)
    refine ⟨rfl, rfl, good_vr hS hd (mv := a.eval y) ?_ this⟩
    generalize hm : a.eval y = m at this
    cases this
    simp [execOp, ho, hm]
  · cases h

theorem ba_toList (s : List UInt8) : (⟨s.toArray⟩ : ByteArray).toList = s := by rw [ByteArray.toList_eq]
theorem ba_size (s : List UInt8) : (⟨s.toArray⟩ : ByteArray).size = s.length := by simp [ByteArray.size]

theorem op_un {op : UnOp} {x : Arg} (hS : Sim G N s a w) (hd : ∀ t, oper.dst = some t → t < N) (hc : checkOp P oper.op (.un op x) = true) (h : (IOp.un op x).sem s.fr b s.st = some (v, b', st')) : Same3 P oper N G s a w b b' v st' := by
  simp only [checkOp] at hc
  split at hc
  case h_2 => cases hc
  rename_i op' t y ho
  simp only [Bool.and_eq_true, decide_eq_true_eq] at hc
  obtain ⟨rfl, hy⟩ := hc
  simp only [IOp.sem, Option.map_eq_some_iff, Prod.mk.injEq] at h
  obtain ⟨u, hu, rfl, rfl, rfl⟩ := h
  unfold unSem at hu
  simp only [xorK_eq, wrapK_eq] at hu
  split at hu
  · rename_i k n hv
    cases hu
    exact ⟨rfl, rfl, good_vr hS hd (by simp [execOp, ho, arg_int hS hy hv, Op.unary, Op.intArith]) (.int _ _)⟩
  · rename_i k n hv
    cases hu
    exact ⟨rfl, rfl, good_vr hS hd (by simp [execOp, ho, arg_int hS hy hv, Op.unary, Op.intBits]) (.int _ _)⟩
  · rename_i c hv
    cases hu
    exact ⟨rfl, rfl, good_vr hS hd (by simp [execOp, ho, arg_bool hS hy hv, Op.unary]) (.bool _)⟩
  · cases hu

theorem op_conv {k : IntKind} {x : Arg} (hS : Sim G N s a w) (hd : ∀ t, oper.dst = some t → t < N) (hc : checkOp P oper.op (.conv k x) = true) (h : (IOp.conv k x).sem s.fr b s.st = some (v, b', st')) : Same3 P oper N G s a w b b' v st' := by
  simp only [checkOp] at hc
  split at hc
  case h_2 => cases hc
  rename_i t d y ho
  simp only [Bool.and_eq_true, okConv] at hc
  obtain ⟨⟨h1, h2⟩, hy⟩ := hc
  simp only [IOp.sem, wrapK_eq] at h
  split at h
  case h_2 => cases h
  rename_i k0 n hv
  cases h
  unfold hasU at h1
  rw [Option.isSome_iff_exists] at h1
  obtain ⟨td, htd⟩ := h1
  split at h2
  case h_2 => cases h2
  rename_i k' hk'
  simp only [decide_eq_true_eq] at h2
  subst h2
  refine ⟨rfl, rfl, good_vr hS hd (mv := .int k (k.wrap n)) ?_ (.int _ _)⟩
  simp only [execOp, ho, convert, arg_int hS hy hv, Sem.run_bind, run_underlying htd, run_underlying hk', Result.andThen_ok]
  cases td <;> simp [Conv.intToInt]

theorem op_mkif {t : Nat} {x : Arg} (hS : Sim G N s a w) (hd : ∀ t, oper.dst = some t → t < N) (hc : checkOp P oper.op (.mkif t x) = true) (h : (IOp.mkif t x).sem s.fr b s.st = some (v, b', st')) : Same3 P oper N G s a w b b' v st' := by
  simp only [checkOp] at hc
  split at hc
  case h_2 => cases hc
  rename_i t' y ho
  simp only [Bool.and_eq_true, decide_eq_true_eq] at hc
  obtain ⟨⟨rfl, hy⟩, h2⟩ := hc
  simp only [IOp.sem] at h
  split at h
  case isFalse => cases h
  rename_i hvar
  cases h
  have hl : ∀ k off, x.val s.fr ≠ .lptr k off := by
    intro k off e; rw [e] at hvar; simp [strip, isVar, isCell] at hvar
  refine ⟨rfl, rfl, good_vr hS hd (mv := .iface t' (a.eval y)) ?_ (.iface (arg_vr hS hy hl))⟩
  unfold okIface at h2
  simp only [execOp, ho, Instr.makeInterface]
  cases hd : P.underlying t' with
  | none => rw [hd] at h2; cases h2
  | some d =>
    simp only [Sem.run_bind, run_underlying hd, Result.andThen_ok]
    cases d <;> simp [hd] at h2 ⊢

theorem okArgs_vr (hS : Sim G N s a w) : ∀ {xs : List Operand} {gs : List Arg}, okArgs xs gs = true → (gs.map fun g => strip (g.val s.fr)).all isVar = true →
    xs.length = gs.length ∧ ∀ (j : Nat) c x, (gs.map fun g => strip (g.val s.fr))[j]? = some c → (xs.map a.eval)[j]? = some x → VR (G.im w) (locOf G.loc s.st) c x
  | [], [], _, _ => ⟨rfl, fun j c x h => by simp at h⟩
  | [], _ :: _, h, _ => by simp [okArgs] at h
  | _ :: _, [], h, _ => by simp [okArgs] at h
  | y :: ys, g :: gs, h, hv => by
    simp only [okArgs, Bool.and_eq_true] at h
    simp only [List.map_cons, List.all_cons, Bool.and_eq_true] at hv
    obtain ⟨e1, e2⟩ := okArgs_vr hS h.2 hv.2
    refine ⟨by simp [e1], fun j c x hc hx => ?_⟩
    cases j with
    | zero =>
      simp at hc hx; subst hc; subst hx
      refine arg_vr hS h.1 ?_
      intro k off e; rw [e] at hv; simp [strip, isVar, isCell] at hv
    | succ j => exact e2 j c x (by simpa using hc) (by simpa using hx)

theorem op_mkfn {f : Nat} {first caps : List Arg} (hS : Sim G N s a w) (hd : ∀ t, oper.dst = some t → t < N) (hc : checkOp P oper.op (.mkfn f first caps) = true) (h : (IOp.mkfn f first caps).sem s.fr b s.st = some (v, b', st')) : Same3 P oper N G s a w b b' v st' := by
  simp only [checkOp] at hc
  split at hc
  case h_2 => cases hc
  rename_i f' fs cs ho
  simp only [Bool.and_eq_true, decide_eq_true_eq] at hc
  obtain ⟨⟨rfl, h1⟩, h2⟩ := hc
  simp only [IOp.sem] at h
  split at h
  case isFalse => cases h
  rename_i hvar
  simp only [Bool.and_eq_true] at hvar
  cases h
  obtain ⟨e1, e2⟩ := okArgs_vr hS h1 hvar.1
  obtain ⟨e3, e4⟩ := okArgs_vr hS h2 hvar.2
  refine ⟨rfl, rfl, good_vr hS hd (mv := .func (.func f') (fs.map a.eval) (cs.map a.eval)) (by simp [execOp, ho, Instr.makeFunc]) ?_⟩
  refine .fn (by simpa using e1) (fun j c x hc hx => e2 j c x hc (by simpa using hx)) (by simpa using e3) (fun j c x hc hx => e4 j c x hc (by simpa using hx))

theorem op_faddr {off : Nat} {x : Arg} (hS : Sim G N s a w) (hd : ∀ t, oper.dst = some t → t < N) (hc : checkOp P oper.op (.faddr off x) = true) (h : (IOp.faddr off x).sem s.fr b s.st = some (v, b', st')) : Same3 P oper N G s a w b b' v st' := by
  simp only [checkOp] at hc
  split at hc
  case h_2 => cases hc
  rename_i t y f ho
  simp only [Bool.and_eq_true, okField] at hc
  obtain ⟨hy, h2⟩ := hc
  split at h2
  case h_2 => cases h2
  rename_i fs hfs
  split at h2
  case h_2 => cases h2
  rename_i g hg
  simp only [Bool.and_eq_true, decide_eq_true_eq] at h2
  obtain ⟨rfl, h3⟩ := h2
  split at h3
  case h_2 => cases h3
  rename_i i hi
  have hne : i.size ≠ 0 := by simpa using h3
  have key : ∀ {bk o : Nat}, a.eval y = .pointer (some ⟨bk, o, none⟩) → (execOp a.eval oper).run P w = .ok (.value (.pointer (some ⟨bk, o + g.offset, none⟩))) w := by
    intro bk o e
    simp [execOp, ho, e, Instr.fieldAt, run_underlying hfs, hg, Instr.sureAddr, fieldPlace, Go.sizeOf, typeInfo, hi, hne, addr_add]
  simp only [IOp.sem] at h
  split at h
  · rename_i cs o hv
    cases h
    have hr := arg_at hS hy hv (by simp) (by simp)
    generalize hm : a.eval y = m at hr
    cases hr with
    | iptr f hi' hv' =>
      refine ⟨rfl, rfl, good_vr hS hd (key hm) ?_⟩
      rw [Nat.add_assoc]
      exact .iptr f hi' hv'
  · rename_i l i' o hv
    cases h
    have hr := arg_at hS hy hv (by simp) (by simp)
    generalize hm : a.eval y = m at hr
    cases hr with
    | ptr hh =>
      refine ⟨rfl, rfl, good_vr hS hd (key hm) ?_⟩
      rw [Nat.add_assoc]
      exact .ptr hh
  · rename_i k o hv
    cases h
    exact ⟨rfl, rfl, good_pure hS hd (key (arg_lptr hS hy hv)) (fun κ => rfl) (fun k' o' e => by cases e; exact arg_lp hS hy hv)⟩
  · cases h

theorem op_ext {x : Arg} {i : Nat} (hS : Sim G N s a w) (hd : ∀ t, oper.dst = some t → t < N) (hc : checkOp P oper.op (.ext x i) = true) (h : (IOp.ext x i).sem s.fr b s.st = some (v, b', st')) : Same3 P oper N G s a w b b' v st' := by
  simp only [checkOp] at hc
  split at hc
  case h_2 => cases hc
  rename_i y i' ho
  simp only [Bool.and_eq_true, decide_eq_true_eq] at hc
  obtain ⟨hy, rfl⟩ := hc
  simp only [IOp.sem] at h
  split at h
  case h_2 => cases h
  rename_i vs hv
  simp only [Option.map_eq_some_iff, Prod.mk.injEq] at h
  obtain ⟨u, hu, rfl, rfl, rfl⟩ := h
  have hr := arg_at hS hy hv (by simp) (by simp)
  generalize hm : a.eval y = m at hr
  cases hr with
  | tup hl hvs =>
    rename_i us
    have hi : i' < us.size := by rw [hl]; exact (List.getElem?_eq_some_iff.1 hu).1
    refine ⟨rfl, rfl, good_vr hS hd (mv := us[i']) (by simp [execOp, ho, hm, Instr.extract, hi]) (hvs i' u _ hu (by simp [hi]))⟩

theorem run_part {t sz : Nat} {ag : Bool} (hsz : szT P t sz = true) (hu : hasU P t = true) (hag : (isAggT P t == ag) = true) {cs : Array Value} {off : Nat} {mv : Value} (hl : LoadRes (fun j => cs[j]?) ag sz off mv) :
    (part t cs off).run P w = .ok mv w := by
  unfold part
  simp only [Sem.run_bind, run_isAgg hu hag]
  cases ag with
  | false =>
    simp only [LoadRes] at hl
    simp at hl
    simp [hl]
  | true =>
    simp only [LoadRes, if_true] at hl
    obtain ⟨vs, h1, h2, rfl⟩ := hl
    simp only [Result.andThen_ok, if_true, Sem.run_bind, run_sizeOf hsz, Sem.run_pure]
    congr 2
    have : off + sz ≤ cs.size ∨ sz = 0 := by
      by_cases h0 : sz = 0
      · exact .inr h0
      · left
        have := h2 (sz - 1) vs[sz - 1] (by simp [List.getElem?_eq_getElem (show sz - 1 < vs.length by omega)])
        have := (Array.getElem?_eq_some_iff.1 this).1
        omega
    apply Array.ext
    · simp; omega
    · intro j hj hj'
      simp at hj'
      have := h2 j vs[j] (by simp [List.getElem?_eq_getElem hj'])
      obtain ⟨q1, q2⟩ := Array.getElem?_eq_some_iff.1 this
      simp [q2]

theorem op_fld {ag : Bool} {off sz : Nat} {x : Arg} (hS : Sim G N s a w) (hd : ∀ t, oper.dst = some t → t < N) (hc : checkOp P oper.op (.fld ag off sz x) = true) (h : (IOp.fld ag off sz x).sem s.fr b s.st = some (v, b', st')) : Same3 P oper N G s a w b b' v st' := by
  simp only [checkOp] at hc
  split at hc
  case h_2 => cases hc
  rename_i t y f ho
  simp only [Bool.and_eq_true, okFieldV] at hc
  obtain ⟨hy, h2⟩ := hc
  split at h2
  case h_2 => cases h2
  rename_i fs hfs
  split at h2
  case h_2 => cases h2
  rename_i g hg
  simp only [Bool.and_eq_true, decide_eq_true_eq] at h2
  obtain ⟨⟨⟨rfl, h3⟩, h4⟩, h5⟩ := h2
  simp only [IOp.sem] at h
  split at h
  case h_2 => cases h
  rename_i cs hv
  simp only [Option.map_eq_some_iff, Prod.mk.injEq] at h
  obtain ⟨u, hu, rfl, rfl, rfl⟩ := h
  have hr := arg_at hS hy hv (by simp) (by simp)
  generalize hm : a.eval y = m at hr
  cases hr with
  | agg hl ho' hvs =>
    rename_i us
    obtain ⟨mv, hl', hr'⟩ := readCells_plain (src := fun j => us[j]?) (fun j c hj => by
      have hj' : j < us.size := by rw [hl]; exact (List.getElem?_eq_some_iff.1 hj).1
      exact ⟨us[j], by simp [hj'], ho' j _ (by simp [hj']), hvs j c _ hj (by simp [hj'])⟩) hu
    refine ⟨rfl, rfl, good_vr hS hd (mv := mv) ?_ hr'⟩
    simp [execOp, ho, hm, Instr.field, run_underlying hfs, hg, asAgg, run_part h3 h4 h5 hl']
end

end PE
