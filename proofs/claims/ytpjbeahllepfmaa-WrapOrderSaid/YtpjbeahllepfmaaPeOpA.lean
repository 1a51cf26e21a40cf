/-
  Operations that leave memory as it is: what the machine makes is what the plain reading makes.
-/
import Derived.Test.YtpjbeahllepfmaaPeCheck
set_option linter.unusedVariables false
set_option linter.unusedSimpArgs false
namespace PE
open Go

mutual
theorem okVal_vr {I : Im} {L : Loc} : ∀ (p : PV) (v : Value), okVal p v = true → VR I L p v
  | .undef, v, _ => .undef v
  | .bool a, v, h => by cases v <;> simp [okVal] at h; subst h; exact .bool _
  | .int k n, v, h => by cases v <;> simp [okVal] at h; obtain ⟨rfl, rfl⟩ := h; exact .int _ _
  | .str s, v, h => by
    cases v <;> simp [okVal] at h
    rename_i b
    have : b = ⟨s.toArray⟩ := by cases b; simp_all
    rw [this]; exact .str _
  | .nilp, v, h => by
    cases v <;> try (simp [okVal] at h)
    rename_i a; cases a <;> simp [okVal] at h
    exact .nilp
  | .nilfn, v, h => by cases v <;> simp [okVal] at h; exact .nilfn
  | .nilmap, v, h => by
    cases v <;> try (simp [okVal] at h)
    rename_i a; cases a <;> simp [okVal] at h
    exact .nilmap
  | .nilif, v, h => by cases v <;> simp [okVal] at h; exact .nilif
  | .slice k z l, v, h => by
    cases l with
    | cons x xs => cases v <;> simp [okVal] at h
    | nil =>
      cases v <;> try (simp [okVal] at h)
      rename_i a n c
      cases a <;> cases n <;> cases c <;> simp [okVal] at h
      exact .slice0 _ _ _ _ h (fun _ => rfl)
  | .agg cs, v, h => by
    cases v <;> simp [okVal] at h
    rename_i vs
    obtain ⟨h1, h2⟩ := h
    obtain ⟨e1, e2⟩ := okVals_vr cs vs.toList h2
    refine .agg (by simpa using e1) ?_ ?_
    · intro j v hv
      obtain ⟨hj, rfl⟩ := Array.getElem?_eq_some_iff.1 hv
      exact h1 j hj
    · intro j c v hc hv
      exact e2 j c v hc (by simpa using hv)
  | .iface t p, v, h => by
    cases v <;> simp [okVal] at h
    obtain ⟨rfl, h⟩ := h
    exact .iface (okVal_vr p _ h)
  | .ptr .., v, h => by cases v <;> simp [okVal] at h
  | .lptr .., v, h => by cases v <;> simp [okVal] at h
  | .iptr .., v, h => by cases v <;> simp [okVal] at h
  | .mslice .., v, h => by cases v <;> simp [okVal] at h
  | .tup .., v, h => by cases v <;> simp [okVal] at h
  | .fn .., v, h => by cases v <;> simp [okVal] at h
  | .mp .., v, h => by cases v <;> simp [okVal] at h
theorem okVals_vr {I : Im} {L : Loc} : ∀ (p : List PV) (v : List Value), okVals p v = true → v.length = p.length ∧ ∀ (j : Nat) c x, p[j]? = some c → v[j]? = some x → VR I L c x
  | [], [], _ => ⟨rfl, fun j c x h => by simp at h⟩
  | [], _ :: _, h => by simp [okVals] at h
  | _ :: _, [], h => by simp [okVals] at h
  | c :: cs, v :: vs, h => by
    simp [okVals] at h
    obtain ⟨e1, e2⟩ := okVals_vr (I := I) (L := L) cs vs h.2
    refine ⟨by simp [e1], fun j c' x hc hv => ?_⟩
    cases j with
    | zero => simp at hc hv; subst hc; subst hv; exact okVal_vr _ _ h.1
    | succ j => exact e2 j c' x (by simpa using hc) (by simpa using hv)
end

section
variable {P : Program} {G : Gh} {N : Nat} {s : St} {a : Act} {w : World}

theorem arg_tr (hS : Sim G N s a w) {x : Operand} {g : Arg} (h : okArg x g = true) : ∃ κ, TR G w (locOf G.loc s.st) κ (g.val s.fr) (a.eval x) := by
  cases x with
  | tmp t =>
    cases g <;> simp [okArg] at h
    subst h
    by_cases ht : t < N
    · exact ⟨_, hS.tmp t ht⟩
    · refine ⟨.prot, ?_⟩
      have e := hS.hi t (Nat.le_of_not_lt ht)
      simp only [Arg.val, e]
      exact VR.undef _
  | const v =>
    cases g with
    | t n => simp [okArg] at h
    | c p => exact ⟨.prot, (okVal_vr p v h).tr⟩
  | global g' => cases g <;> simp [okArg] at h
  | func f =>
    cases g with
    | t n => simp [okArg] at h
    | c p =>
      cases p <;> simp [okArg] at h
      rename_i f' fs cs
      cases fs <;> cases cs <;> simp [okArg] at h
      subst h
      exact ⟨.prot, VR.fn (by simp) (by simp) (by simp) (by simp)⟩

theorem arg_strip (hS : Sim G N s a w) {x : Operand} {g : Arg} (h : okArg x g = true) (κ' : Cl) : TR G w (locOf G.loc s.st) κ' (strip (g.val s.fr)) (a.eval x) := by
  obtain ⟨κ, hk⟩ := arg_tr hS h
  exact hk.strip κ'

/-- What is stripped, and is no address of a variable of one's own, is related. -/
theorem arg_vr (hS : Sim G N s a w) {x : Operand} {g : Arg} (h : okArg x g = true) (hl : ∀ k off, g.val s.fr ≠ .lptr k off) : VR (G.im w) (locOf G.loc s.st) (strip (g.val s.fr)) (a.eval x) := by
  refine (arg_strip hS h .prot).vr ?_ ?_
  · intro sz l
    cases g.val s.fr <;> simp [strip]
    rename_i k _ _; cases k <;> simp
  · intro k off
    cases hv : g.val s.fr <;> simp [strip]
    · exact fun h1 h2 => hl _ _ (by rw [hv])
    · rename_i k _ _; cases k <;> simp

theorem arg_at (hS : Sim G N s a w) {x : Operand} {g : Arg} (h : okArg x g = true) {v : PV} (hv : g.val s.fr = v) (ho : ∀ sz l, v ≠ .slice .own sz l) (hl : ∀ k off, v ≠ .lptr k off) : VR (G.im w) (locOf G.loc s.st) v (a.eval x) := by
  obtain ⟨κ, hk⟩ := arg_tr hS h
  rw [hv] at hk
  exact hk.vr ho hl

theorem VR.int_inv {I : Im} {L : Loc} {k : IntKind} {n : Int} {mv : Value} (h : VR I L (.int k n) mv) : mv = .int k n := by cases h; rfl
theorem VR.bool_inv {I : Im} {L : Loc} {b : Bool} {mv : Value} (h : VR I L (.bool b) mv) : mv = .bool b := by cases h; rfl
theorem VR.str_inv {I : Im} {L : Loc} {t : List UInt8} {mv : Value} (h : VR I L (.str t) mv) : mv = .string ⟨t.toArray⟩ := by cases h; rfl

theorem arg_int (hS : Sim G N s a w) {x : Operand} {g : Arg} (h : okArg x g = true) {k : IntKind} {n : Int} (hv : g.val s.fr = .int k n) : a.eval x = .int k n := by
  exact (arg_at hS h hv (by simp) (by simp)).int_inv
theorem arg_bool (hS : Sim G N s a w) {x : Operand} {g : Arg} (h : okArg x g = true) {b : Bool} (hv : g.val s.fr = .bool b) : a.eval x = .bool b := by
  exact (arg_at hS h hv (by simp) (by simp)).bool_inv
theorem arg_str (hS : Sim G N s a w) {x : Operand} {g : Arg} (h : okArg x g = true) {t : List UInt8} (hv : g.val s.fr = .str t) : a.eval x = .string ⟨t.toArray⟩ := by
  exact (arg_at hS h hv (by simp) (by simp)).str_inv
theorem arg_lptr (hS : Sim G N s a w) {x : Operand} {g : Arg} (h : okArg x g = true) {k off : Nat} (hv : g.val s.fr = .lptr k off) : a.eval x = .pointer (some ⟨G.box k, off, none⟩) := by
  obtain ⟨κ, hk⟩ := arg_tr hS h
  rw [hv] at hk; exact hk

theorem arg_lp (hS : Sim G N s a w) {x : Operand} {g : Arg} (h : okArg x g = true) {k off : Nat} (hv : g.val s.fr = .lptr k off) : s.bx k ≠ .no := by
  cases g with
  | t n => exact hS.lp n k off hv
  | c p =>
    simp only [Arg.val] at hv
    subst hv
    cases x <;> simp [okArg, okVal] at h

theorem strip_lptr {v : PV} {k off : Nat} (h : strip v = .lptr k off) : v = .lptr k off := by
  cases v with
  | slice k' _ _ => cases k' <;> simp [strip] at h
  | _ => exact h

theorem put_getD (a : Act) (d : Nat) (v : Value) (hd : d < a.tmps.size) (t : Nat) : (a.put (some d) v).tmps.getD t Go.undef = if t = d then v else a.tmps.getD t Go.undef := by
  simp only [Act.put, Array.getD_eq_getD_getElem?, Array.getElem?_setIfInBounds]
  by_cases h : t = d
  · subst h; simp [hd]
  · rw [if_neg (fun e => h e.symm), if_neg h]

theorem Sim.put (hS : Sim G N s a w) {d : Option Nat} (hd : ∀ t, d = some t → t < N) {v : PV} {mv : Value} (h : ∀ t, d = some t → TR G w (locOf G.loc s.st) (.ownT t) v mv) (hlp : ∀ k off, v = .lptr k off → s.bx k ≠ .no) :
    Sim G N { s with fr := setDst s.fr d v } (a.put d mv) w := by
  cases d with
  | none => exact hS
  | some d =>
    have hdN := hd d rfl
    refine ⟨hS.defers, by simp [Act.put, hS.size], ?_, ?_, ?_, hS.box, hS.store⟩
    · intro t ht
      rw [put_getD a d mv (by rw [hS.size]; exact hdN)]
      simp only [setDst, upd]
      by_cases e : t = d
      · simp only [e, if_true]; exact h d rfl
      · simp only [e, if_false]; exact hS.tmp t ht
    · intro t ht
      simp only [setDst, upd]
      rw [if_neg (by omega)]
      exact hS.hi t ht
    · intro t k off hk
      simp only [setDst, upd] at hk
      split at hk
      · exact hlp k off hk
      · exact hS.lp t k off hk

/-- What an operation comes to, for machine and plain reading alike. -/
def OpGood (P : Program) (oper : Oper) (N : Nat) (G : Gh) (s : St) (a : Act) (w : World) (v : PV) (fr : Fr) (bx : Bxs) (st : Store) : Prop :=
  ∃ nx mv w' G', (execOp a.eval oper).run P w = .ok nx w' ∧ (nx = .value mv ∨ (nx = .skip ∧ mv = Go.undef)) ∧
    Sim G' N { fr := setDst fr oper.dst v, bx := bx, st := st } (a.put oper.dst mv) w' ∧ Ext G s.st w G' st w'

theorem good_pure {oper : Oper} (hS : Sim G N s a w) (hd : ∀ t, oper.dst = some t → t < N) {v : PV} {mv : Value} (hrun : (execOp a.eval oper).run P w = .ok (.value mv) w)
    (hv : ∀ κ, TR G w (locOf G.loc s.st) κ v mv) (hlp : ∀ k off, v = .lptr k off → s.bx k ≠ .no) : OpGood P oper N G s a w v s.fr s.bx s.st :=
  ⟨_, mv, w, G, hrun, .inl rfl, hS.put hd (fun t _ => hv _) hlp, Ext.refl _ _ _⟩

theorem good_vr {oper : Oper} (hS : Sim G N s a w) (hd : ∀ t, oper.dst = some t → t < N) {v : PV} {mv : Value} (hrun : (execOp a.eval oper).run P w = .ok (.value mv) w)
    (hv : VR (G.im w) (locOf G.loc s.st) v mv) : OpGood P oper N G s a w v s.fr s.bx s.st :=
  good_pure hS hd hrun (fun _ => hv.tr) (fun k off e => by subst e; cases hv)

/-! #### reading cells -/

def LoadRes (src : Nat → Option Value) (ag : Bool) (sz off : Nat) (mv : Value) : Prop :=
  if ag then ∃ vs : List Value, vs.length = sz ∧ (∀ (j : Nat) v, vs[j]? = some v → src (off + j) = some v) ∧ mv = .agg vs.toArray else src off = some mv

theorem oneCell_not_agg {I : Im} {L : Loc} {cs : List PV} {mv : Value} (h : VR I L (.agg cs) mv) : mv.oneCell' = false := by cases h; rfl

theorem read_ok {I : Im} {L : Loc} {cs : List PV} {src : Nat → Option Value} (h : ∀ (j : Nat) c, cs[j]? = some c → ∃ mv, src j = some mv ∧ mv.oneCell' = true ∧ VR I L (strip c) mv)
    {ag : Bool} {sz off : Nat} {v : PV} (hr : readCells ag sz cs off = some v) : ∃ mv, LoadRes src ag sz off mv ∧ VR I L (stripA v) mv := by
  cases ag with
  | false =>
    simp only [readCells] at hr
    obtain ⟨mv, m1, m2, m3⟩ := h off v (by simpa using hr)
    refine ⟨mv, m1, ?_⟩
    cases v with
    | agg xs => simp only [strip] at m3; rw [oneCell_not_agg m3] at m2; cases m2
    | _ => exact m3
  | true =>
    simp only [readCells, if_true] at hr
    split at hr
    case isFalse => cases hr
    case isTrue hle =>
    cases hr
    have hex : ∀ j, j < sz → ∃ c mv, cs[off + j]? = some c ∧ src (off + j) = some mv ∧ mv.oneCell' = true ∧ VR I L (strip c) mv := by
      intro j hj
      have hl : off + j < cs.length := by omega
      obtain ⟨mv, m⟩ := h (off + j) _ (List.getElem?_eq_getElem hl)
      exact ⟨_, mv, List.getElem?_eq_getElem hl, m⟩
    let vs : List Value := (List.range sz).map fun j => (src (off + j)).getD Go.undef
    have hvs : ∀ (j : Nat) x, vs[j]? = some x → j < sz ∧ src (off + j) = some x := by
      intro j x hx
      simp only [vs, List.getElem?_map, Option.map_eq_some_iff] at hx
      obtain ⟨k, hk, rfl⟩ := hx
      obtain ⟨hk1, hk2⟩ := List.getElem?_eq_some_iff.1 hk
      simp at hk1 hk2
      subst hk2
      obtain ⟨c, mv, _, e, _⟩ := hex j hk1
      exact ⟨hk1, by rw [e]; rfl⟩
    refine ⟨.agg vs.toArray, ?_, ?_⟩
    · simp only [LoadRes, if_true]
      exact ⟨vs, by simp [vs], fun j v hv => (hvs j v hv).2, rfl⟩
    · simp only [stripA]
      refine .agg (by simp [vs]; omega) ?_ ?_
      · intro j v hv
        obtain ⟨h1, h2⟩ := hvs j v (by simpa using hv)
        obtain ⟨c, mv, _, e, o, _⟩ := hex j h1
        rw [h2] at e; cases e; exact o
      · intro j c v hc hv
        obtain ⟨h1, h2⟩ := hvs j v (by simpa using hv)
        obtain ⟨c', mv, e', e, o, r⟩ := hex j h1
        rw [h2] at e; cases e
        simp only [List.getElem?_map, List.getElem?_take, List.getElem?_drop, if_pos h1, e'] at hc
        simp at hc; subst hc; exact r

theorem readCells_plain {I : Im} {L : Loc} {cs : List PV} {src : Nat → Option Value} (h : ∀ (j : Nat) c, cs[j]? = some c → ∃ mv, src j = some mv ∧ mv.oneCell' = true ∧ VR I L c mv)
    {ag : Bool} {sz off : Nat} {v : PV} (hr : readCells ag sz cs off = some v) : ∃ mv, LoadRes src ag sz off mv ∧ VR I L v mv := by
  have hstrip : ∀ c mv, VR I L c mv → strip c = c := by
    intro c mv hc
    cases c with
    | slice k sz l => cases k <;> first | rfl | exact (VR.not_own hc).elim
    | _ => rfl
  obtain ⟨mv, h1, h2⟩ := read_ok (fun j c hc => by obtain ⟨mv, m1, m2, m3⟩ := h j c hc; exact ⟨mv, m1, m2, by rw [hstrip c mv m3]; exact m3⟩) hr
  refine ⟨mv, h1, ?_⟩
  suffices stripA v = v by rw [← this]; exact h2
  cases ag with
  | false =>
    simp only [readCells] at hr
    obtain ⟨mv', m1, m2, m3⟩ := h off v (by simpa using hr)
    cases v with
    | agg xs => rw [oneCell_not_agg m3] at m2; cases m2
    | _ => exact hstrip _ _ m3
  | true =>
    simp only [readCells, if_true] at hr
    split at hr
    case isFalse => cases hr
    case isTrue hle =>
    cases hr
    simp only [stripA, PV.agg.injEq]
    conv => rhs; rw [← List.map_id ((cs.drop off).take sz)]
    apply List.map_congr_left
    intro c hc
    obtain ⟨j, hj⟩ := List.mem_iff_getElem?.1 hc
    have : ∃ j : Nat, cs[j]? = some c := by
      rw [List.getElem?_take] at hj
      split at hj
      · rw [List.getElem?_drop] at hj; exact ⟨_, hj⟩
      · cases hj
    obtain ⟨j', hj'⟩ := this
    obtain ⟨mv', m1, m2, m3⟩ := h j' c hj'
    exact hstrip c mv' m3

theorem addr_add (b o j : Nat) : (⟨b, o, none⟩ : Addr).add j = ⟨b, o + j, none⟩ := by unfold Addr.add; split <;> simp_all

theorem szT_info {t sz : Nat} (h : szT P t sz = true) : ∃ i, P.info? t = some i ∧ i.size = sz := by
  unfold szT at h
  split at h
  · exact ⟨_, by assumption, by simpa using h⟩
  · cases h

theorem run_sizeOf {t sz : Nat} (h : szT P t sz = true) (w : World) : (Go.sizeOf t).run P w = Result.ok sz w := by
  obtain ⟨i, hi, rfl⟩ := szT_info h
  simp [Go.sizeOf, typeInfo, hi]

theorem run_isAgg {t : Nat} {ag : Bool} (hu : hasU P t = true) (h : (isAggT P t == ag) = true) (w : World) : (isAgg t).run P w = .ok ag w := by
  unfold hasU at hu
  rw [Option.isSome_iff_exists] at hu
  obtain ⟨d, hd⟩ := hu
  have e : isAggT P t = ag := by simpa using h
  rw [← e]
  unfold isAgg isAggT
  simp only [Sem.run_bind, underlying, run_program, hd]
  cases d <;> simp [hd]

theorem run_loadVar {t sz : Nat} {ag : Bool} (hsz : szT P t sz = true) (hu : hasU P t = true) (h : (isAggT P t == ag) = true) {w : World} {b off : Nat} {mv : Value}
    (hl : LoadRes (fun j => w.cell? ⟨b, j, none⟩) ag sz off mv) : (loadVar t ⟨b, off, none⟩).run P w = .ok mv w := by
  unfold loadVar
  simp only [Sem.run_bind, run_isAgg hu h]
  cases ag with
  | false =>
    simp only [LoadRes] at hl
    simp at hl
    simp [hl]
  | true =>
    simp only [LoadRes, if_true] at hl
    obtain ⟨vs, h1, h2, rfl⟩ := hl
    have := run_loadCells_list (P := P) w ⟨b, off, none⟩ vs (fun j v hv => by rw [addr_add]; exact h2 j v hv)
    simp [run_sizeOf hsz, ← h1, this]
end

end PE
