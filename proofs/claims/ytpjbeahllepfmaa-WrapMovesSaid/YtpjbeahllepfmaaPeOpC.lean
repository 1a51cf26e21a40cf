/-
  Operations that only reckon or read, continued: operators, indexes, lengths, maps.
-/
import Derived.Test.YtpjbeahllepfmaaPeOpB
set_option linter.unusedVariables false
set_option linter.unusedSimpArgs false
namespace PE
open Go

section
variable {P : Program} {G : Gh} {N : Nat} {s : St} {a : Act} {w : World} {oper : Oper} {b b' : Bx} {st' : Store} {v : PV}

theorem asNat_int {p : PV} {n : Nat} (h : asNat p = some n) : ∃ k, p = .int k n := by
  unfold asNat at h
  split at h
  · rename_i k z
    split at h
    · cases h
      refine ⟨k, ?_⟩
      rw [Int.toNat_of_nonneg (by assumption)]
    · cases h
  · cases h

theorem op_iaddr {sz : Nat} {x i : Arg} (hS : Sim G N s a w) (hd : ∀ t, oper.dst = some t → t < N) (hc : checkOp P oper.op (.iaddr sz x i) = true) (h : (IOp.iaddr sz x i).sem s.fr b s.st = some (v, b', st')) : Same3 P oper N G s a w b b' v st' := by
  simp only [checkOp] at hc
  split at hc
  case h_2 => cases hc
  rename_i t y i' ho
  simp only [Bool.and_eq_true] at hc
  obtain ⟨⟨h1, hy⟩, hi⟩ := hc
  split at h1
  case h_2 => cases h1
  rename_i e he
  have hu : P.underlying t = some (.slice e) := by
    unfold sliceT at he
    split at he
    · rename_i hh; cases he; exact hh
    · cases he
  have key : ∀ {n bk o len cap : Nat} {k : IntKind}, i.val s.fr = .int k n → n < len → a.eval y = .slice (some ⟨bk, o, none⟩) len cap →
      (execOp a.eval oper).run P w = .ok (.value (.pointer (some ⟨bk, o + n * sz, none⟩))) w := by
    intro n bk o len cap k hn hlt e'
    have : ((n : Int) < (len : Int)) := by omega
    simp [execOp, ho, Instr.indexAt, arg_int hS hi hn, asIntOf, e', run_underlying hu, Nat.not_le.2 hlt, hlt, run_sizeOf h1, addr_add]
  simp only [IOp.sem] at h
  split at h
  · rename_i n k sz' l hn hv
    obtain ⟨ki, hki⟩ := asNat_int hn
    split at h
    case isFalse => cases h
    rename_i hsz
    subst hsz
    simp only [Option.map_eq_some_iff, Prod.mk.injEq] at h
    obtain ⟨u, hu', rfl, rfl, rfl⟩ := h
    obtain ⟨κ, hk⟩ := arg_tr hS hy
    rw [hv] at hk
    have hpl : VR (G.im w) (locOf G.loc s.st) (.slice (if k = .own then .plain else k) sz' l) (a.eval y) := by
      cases k with
      | own => simpa using hk.choose_spec.choose_spec.choose_spec.choose_spec.2.2.2.2.2.2.2.2
      | plain => exact hk
      | fit => exact hk
    have hlt := (List.getElem?_eq_some_iff.1 hu').1
    generalize hm : a.eval y = m at hpl
    cases hpl with
    | slice0 => simp at hlt
    | slice hk' hf hcap f hz hi' hv' =>
      refine ⟨rfl, rfl, good_vr hS hd (key hki hlt hm) ?_⟩
      exact .iptr (fun j => f n j) (fun j c hj => hi' n u j c hu' hj) (fun j c hj => hv' n u j c hu' hj)
  · rename_i n l off ln sz' hn hv
    obtain ⟨ki, hki⟩ := asNat_int hn
    split at h
    case isFalse => cases h
    rename_i hsz
    obtain ⟨rfl, hlt⟩ := hsz
    cases h
    have hr := arg_at hS hy hv (by simp) (by simp)
    generalize hm : a.eval y = m at hr
    cases hr with
    | mslice hL hcp =>
      refine ⟨rfl, rfl, good_vr hS hd (key hki hlt hm) ?_⟩
      have e' : ∀ q, q * sz' + n * sz' = (q + n) * sz' + 0 := by intro q; rw [Nat.add_mul]; rfl
      rw [e']
      exact .ptr hL
    | mslice0 a' hL => omega
  · cases h

theorem arrT_info {t n sz e : Nat} (h : arrT P t n sz = some e) : P.underlying t = some (.array n e) ∧ szT P e sz = true := by
  unfold arrT at h
  split at h
  · rename_i m e' hh
    split at h
    · rename_i hc; cases h; obtain ⟨rfl, h2⟩ := hc; exact ⟨hh, h2⟩
    · cases h
  · cases h

theorem op_iaddrA {n sz : Nat} {x i : Arg} (hS : Sim G N s a w) (hd : ∀ t, oper.dst = some t → t < N) (hc : checkOp P oper.op (.iaddrA n sz x i) = true) (h : (IOp.iaddrA n sz x i).sem s.fr b s.st = some (v, b', st')) : Same3 P oper N G s a w b b' v st' := by
  simp only [checkOp] at hc
  split at hc
  case h_2 => cases hc
  rename_i t y i' ho
  simp only [Bool.and_eq_true, decide_eq_true_eq] at hc
  obtain ⟨⟨⟨h1, h0⟩, hy⟩, hi⟩ := hc
  rw [Option.isSome_iff_exists] at h1
  obtain ⟨e, he⟩ := h1
  obtain ⟨hu, hsz⟩ := arrT_info he
  have key : ∀ {j bk o : Nat} {k : IntKind}, i.val s.fr = .int k j → j < n → a.eval y = .pointer (some ⟨bk, o, none⟩) →
      (execOp a.eval oper).run P w = .ok (.value (.pointer (some ⟨bk, o + j * sz, none⟩))) w := by
    intro j bk o k hn hlt e'
    have : ((j : Int) < (n : Int)) := by omega
    simp [execOp, ho, Instr.indexAt, arg_int hS hi hn, asIntOf, e', run_underlying hu, Instr.sureAddr, Nat.not_le.2 hlt, hlt, run_sizeOf hsz, addr_add]
  simp only [IOp.sem] at h
  split at h
  · rename_i j cs o hn hv
    obtain ⟨ki, hki⟩ := asNat_int hn
    split at h
    case isFalse => cases h
    rename_i hlt
    cases h
    have hr := arg_at hS hy hv (by simp) (by simp)
    generalize hm : a.eval y = m at hr
    cases hr with
    | iptr f hi' hv' =>
      refine ⟨rfl, rfl, good_vr hS hd (key hki hlt hm) ?_⟩
      rw [Nat.add_assoc]
      exact .iptr f hi' hv'
  · rename_i j l i0 o hn hv
    obtain ⟨ki, hki⟩ := asNat_int hn
    split at h
    case isFalse => cases h
    rename_i hlt
    cases h
    have hr := arg_at hS hy hv (by simp) (by simp)
    generalize hm : a.eval y = m at hr
    cases hr with
    | ptr hh =>
      refine ⟨rfl, rfl, good_vr hS hd (key hki hlt hm) ?_⟩
      rw [Nat.add_assoc]
      exact .ptr hh
  · rename_i j k o hn hv
    obtain ⟨ki, hki⟩ := asNat_int hn
    split at h
    case isFalse => cases h
    rename_i hlt
    cases h
    exact ⟨rfl, rfl, good_pure hS hd (key hki hlt (arg_lptr hS hy hv)) (fun κ => rfl) (fun k' o' e => by cases e; exact arg_lp hS hy hv)⟩
  · cases h

theorem op_idxS {x i : Arg} (hS : Sim G N s a w) (hd : ∀ t, oper.dst = some t → t < N) (hc : checkOp P oper.op (.idxS x i) = true) (h : (IOp.idxS x i).sem s.fr b s.st = some (v, b', st')) : Same3 P oper N G s a w b b' v st' := by
  simp only [checkOp] at hc
  split at hc
  case h_2 => cases hc
  rename_i t y i' ho
  simp only [Bool.and_eq_true] at hc
  obtain ⟨⟨h1, hy⟩, hi⟩ := hc
  have hu : P.underlying t = some .string := by
    unfold isStrT at h1; split at h1; assumption; cases h1
  simp only [IOp.sem] at h
  split at h
  case h_2 => cases h
  rename_i l n hv hn
  obtain ⟨ki, hki⟩ := asNat_int hn
  simp only [Option.map_eq_some_iff, Prod.mk.injEq] at h
  obtain ⟨u, hu', rfl, rfl, rfl⟩ := h
  refine ⟨rfl, rfl, good_vr hS hd (mv := .int .u8 u.toNat) ?_ (.int _ _)⟩
  have hb : (⟨l.toArray⟩ : ByteArray)[n]? = some u := by
    obtain ⟨h1, h2⟩ := List.getElem?_eq_some_iff.1 hu'
    have hs : n < (⟨l.toArray⟩ : ByteArray).size := by rw [ba_size]; exact h1
    rw [getElem?_pos _ n hs]
    congr 1
  simp [execOp, ho, Instr.index, arg_int hS hi hki, arg_str hS hy hv, asIntOf, run_underlying hu, hb]

theorem op_idxA {n sz : Nat} {ag : Bool} {x i : Arg} (hS : Sim G N s a w) (hd : ∀ t, oper.dst = some t → t < N) (hc : checkOp P oper.op (.idxA n sz ag x i) = true) (h : (IOp.idxA n sz ag x i).sem s.fr b s.st = some (v, b', st')) : Same3 P oper N G s a w b b' v st' := by
  simp only [checkOp] at hc
  split at hc
  case h_2 => cases hc
  rename_i t y i' ho
  simp only [Bool.and_eq_true] at hc
  obtain ⟨⟨h1, hy⟩, hi⟩ := hc
  split at h1
  case h_2 => cases h1
  rename_i e he
  obtain ⟨hu, hsz⟩ := arrT_info he
  simp only [Bool.and_eq_true] at h1
  simp only [IOp.sem] at h
  split at h
  case h_2 => cases h
  rename_i cs j hv hn
  obtain ⟨ki, hki⟩ := asNat_int hn
  split at h
  case isFalse => cases h
  rename_i hlt
  simp only [Option.map_eq_some_iff, Prod.mk.injEq] at h
  obtain ⟨u, hu', rfl, rfl, rfl⟩ := h
  have hr := arg_at hS hy hv (by simp) (by simp)
  generalize hm : a.eval y = m at hr
  cases hr with
  | agg hl ho' hvs =>
    rename_i us
    obtain ⟨mv, hl', hr'⟩ := readCells_plain (src := fun j => us[j]?) (fun j c hj => by
      have hj' : j < us.size := by rw [hl]; exact (List.getElem?_eq_some_iff.1 hj).1
      exact ⟨us[j], by simp [hj'], ho' j _ (by simp [hj']), hvs j c _ hj (by simp [hj'])⟩) hu'
    refine ⟨rfl, rfl, good_vr hS hd (mv := mv) ?_ hr'⟩
    have : ((j : Int) < (n : Int)) := by omega
    simp [execOp, ho, Instr.index, arg_int hS hi hki, asIntOf, hm, run_underlying hu, Nat.not_le.2 hlt, hlt, run_sizeOf hsz, run_part hsz h1.1 h1.2 hl']

theorem op_len {tk : Nat} {x : Arg} (hS : Sim G N s a w) (hd : ∀ t, oper.dst = some t → t < N) (hc : checkOp P oper.op (.len tk x) = true) (h : (IOp.len tk x).sem s.fr b s.st = some (v, b', st')) : Same3 P oper N G s a w b b' v st' := by
  simp only [checkOp] at hc
  split at hc
  case h_2 => cases hc
  rename_i c ho
  split at hc
  case h_2 => cases hc
  rename_i hcal
  split at hc
  case h_2 => cases hc
  rename_i y t hargs hts
  simp only [Bool.and_eq_true, decide_eq_true_eq] at hc
  obtain ⟨hy, hT⟩ := hc
  have hargs' : c.args = #[y] := by
    have := congrArg List.toArray hargs; simpa using this
  have hts' : c.argTypes = #[t] := by
    have := congrArg List.toArray hts; simpa using this
  simp only [IOp.sem, Option.map_eq_some_iff, Prod.mk.injEq] at h
  obtain ⟨u, hu', rfl, rfl, rfl⟩ := h
  have hrun : (execOp a.eval oper).run P w = ((Builtin.len_ #[t] oper.type #[a.eval y]).run P w).andThen fun v w' => .ok (.value v) w' := by
    simp [execOp, ho, resolve, hcal, hargs', hts', invoke, builtin]
  have hslc : tk = 1 → ∃ p, P.underlying t = some (.slice p) := by
    rintro rfl
    unfold okLenT at hT
    split at hT <;> simp at hT
    exact ⟨_, by assumption⟩
  have hmap : tk = 2 → ∃ p q, P.underlying t = some (.map p q) := by
    rintro rfl
    unfold okLenT at hT
    split at hT <;> simp at hT
    exact ⟨_, _, by assumption⟩
  unfold lenSem at hu'
  split at hu'
  · rename_i l hv
    split at hu'
    case isFalse => cases hu'
    rename_i htk
    subst htk
    cases hu'
    have hst : P.underlying t = some .string := by
      unfold okLenT at hT
      split at hT <;> simp at hT
      assumption
    refine ⟨rfl, rfl, good_vr hS hd (mv := .int .i64 l.length) ?_ (.int _ _)⟩
    rw [hrun]
    simp [Builtin.len_, run_underlying hst, arg_str hS hy hv, goInt, ba_size]
  · rename_i k sz l hv
    split at hu'
    case isFalse => cases hu'
    rename_i htk
    cases hu'
    obtain ⟨p, hp⟩ := hslc htk
    obtain ⟨κ, hk⟩ := arg_tr hS hy
    rw [hv] at hk
    have : ∃ ad cap, a.eval y = .slice ad l.length cap := by
      cases k with
      | own => obtain ⟨b0, cap, arr, e, h1, _⟩ := hk; exact ⟨_, _, h1⟩
      | plain => generalize a.eval y = m at hk; cases hk <;> exact ⟨_, _, rfl⟩
      | fit => generalize a.eval y = m at hk; cases hk <;> exact ⟨_, _, rfl⟩
    obtain ⟨ad, cap, e⟩ := this
    refine ⟨rfl, rfl, good_vr hS hd (mv := .int .i64 l.length) ?_ (.int _ _)⟩
    rw [hrun]
    simp [Builtin.len_, run_underlying hp, e, goInt]
  · rename_i l off n sz hv
    split at hu'
    case isFalse => cases hu'
    rename_i htk
    cases hu'
    obtain ⟨p, hp⟩ := hslc htk
    have hk := arg_at hS hy hv (by simp) (by simp)
    have : ∃ ad cap, a.eval y = .slice ad n cap := by
      generalize a.eval y = m at hk; cases hk <;> exact ⟨_, _, rfl⟩
    obtain ⟨ad, cap, e⟩ := this
    refine ⟨rfl, rfl, good_vr hS hd (mv := .int .i64 n) ?_ (.int _ _)⟩
    rw [hrun]
    simp [Builtin.len_, run_underlying hp, e, goInt]
  · rename_i hv
    split at hu'
    case isFalse => cases hu'
    rename_i htk
    cases hu'
    obtain ⟨p, q, hp⟩ := hmap htk
    have hk := arg_at hS hy hv (by simp) (by simp)
    have e : a.eval y = .map none := by
      generalize a.eval y = m at hk; cases hk; rfl
    refine ⟨rfl, rfl, good_vr hS hd (mv := .int .i64 0) ?_ (.int _ _)⟩
    rw [hrun]
    simp [Builtin.len_, run_underlying hp, e, goInt]
  · rename_i r hv
    split at hu'
    case isFalse => cases hu'
    rename_i htk
    obtain ⟨p, q, hp⟩ := hmap htk
    split at hu'
    case h_2 => cases hu'
    rename_i es hst
    cases hu'
    obtain ⟨c1, c2, ents, clock, c3, c4, c5⟩ := hS.store.obj r _ hst
    have hk := arg_at hS hy hv (by simp) (by simp)
    have e : a.eval y = .map (some (G.loc r)) := by
      generalize a.eval y = m at hk
      cases hk with
      | mp hh => simp [locOf, hst] at hh; rw [hh.1]
    refine ⟨rfl, rfl, good_vr hS hd (mv := .int .i64 es.length) ?_ (.int _ _)⟩
    rw [hrun]
    simp [Builtin.len_, run_underlying hp, e, goInt, getObj, Sem.run, c3, c4]
  · cases hu'

theorem op_max2 {x y : Arg} (hS : Sim G N s a w) (hd : ∀ t, oper.dst = some t → t < N) (hc : checkOp P oper.op (.max2 x y) = true) (h : (IOp.max2 x y).sem s.fr b s.st = some (v, b', st')) : Same3 P oper N G s a w b b' v st' := by
  simp only [checkOp] at hc
  split at hc
  case h_2 => cases hc
  rename_i c ho
  split at hc
  case h_2 => cases hc
  rename_i hcal
  split at hc
  case h_2 => cases hc
  rename_i x' y' hargs
  simp only [Bool.and_eq_true] at hc
  have hargs' : c.args = #[x', y'] := by
    have := congrArg List.toArray hargs; simpa using this
  simp only [IOp.sem] at h
  split at h
  case h_2 => cases h
  rename_i k p k' q hv1 hv2
  split at h
  case isFalse => cases h
  cases h
  refine ⟨rfl, rfl, good_vr hS hd (mv := .int k (if p < q then q else p)) ?_ (.int _ _)⟩
  simp [execOp, ho, resolve, hcal, hargs', invoke, builtin, Builtin.max_, Builtin.max2, arg_int hS hc.1 hv1, arg_int hS hc.2 hv2]

theorem op_min2 {x y : Arg} (hS : Sim G N s a w) (hd : ∀ t, oper.dst = some t → t < N) (hc : checkOp P oper.op (.min2 x y) = true) (h : (IOp.min2 x y).sem s.fr b s.st = some (v, b', st')) : Same3 P oper N G s a w b b' v st' := by
  simp only [checkOp] at hc
  split at hc
  case h_2 => cases hc
  rename_i c ho
  split at hc
  case h_2 => cases hc
  rename_i hcal
  split at hc
  case h_2 => cases hc
  rename_i x' y' hargs
  simp only [Bool.and_eq_true] at hc
  have hargs' : c.args = #[x', y'] := by
    have := congrArg List.toArray hargs; simpa using this
  simp only [IOp.sem] at h
  split at h
  case h_2 => cases h
  rename_i k p k' q hv1 hv2
  split at h
  case isFalse => cases h
  cases h
  refine ⟨rfl, rfl, good_vr hS hd (mv := .int k (if q < p then q else p)) ?_ (.int _ _)⟩
  simp [execOp, ho, resolve, hcal, hargs', invoke, builtin, Builtin.min_, Builtin.min2, arg_int hS hc.1 hv1, arg_int hS hc.2 hv2]

theorem ba_append (x y : List UInt8) : (⟨(x ++ y).toArray⟩ : ByteArray) = ⟨x.toArray⟩ ++ ⟨y.toArray⟩ := by
  apply ByteArray.ext
  simp

theorem scalarEq_run {I : Im} {L : Loc} {d t k : Nat} {p q : PV} {x y : Value} (hp : VR I L p x) (hq : VR I L q y) {r : Bool} (h : scalarEq k p q = some r) (hT : kindT P t = some k) (w : World) :
    (Op.equalIn (d + 1) t x y).run P w = .ok r w := by
  unfold kindT at hT
  unfold scalarEq at h
  split at h
  · rename_i k n k' n'
    split at h <;> cases h
    rename_i hk
    subst hk
    rw [hp.int_inv, hq.int_inv]
    split at hT <;> simp at hT
    rename_i k' hk'
    rw [run_equalIn_int w d t k k' n n' hk']
    simp [BEq.beq]
  · cases h
    split at hT <;> simp at hT
    rename_i hk'
    rw [hp.bool_inv, hq.bool_inv, run_equalIn_bool' w d t _ _ hk']
  · cases h
    split at hT <;> simp at hT
    rename_i hk'
    rw [hp.str_inv, hq.str_inv, run_equalIn_string w d t _ _ hk', ba_toList, ba_toList]
    rename_i a1 b1 _
    congr 1
    by_cases e : a1 = b1 <;> simp [e]
  · cases h

theorem eqCells_cons {k : Nat} {ks : List Nat} {xs ys : List PV} {r : Bool} (h : eqCells (k :: ks) xs ys = some r) : ∃ x xs' y ys' b c, xs = x :: xs' ∧ ys = y :: ys' ∧ scalarEq k x y = some b ∧ eqCells ks xs' ys' = some c ∧ r = (b && c) := by
  cases xs with
  | nil => simp [eqCells] at h
  | cons x xs => cases ys with
    | nil => simp [eqCells] at h
    | cons y ys =>
      simp only [eqCells] at h
      split at h
      · rename_i b c hb hc
        cases h
        exact ⟨x, xs, y, ys, b, c, rfl, rfl, hb, hc, rfl⟩
      · cases h

theorem run_part_scalar {t : Nat} (hu : hasU P t = true) (hag : isAggT P t = false) {cs : Array Value} {off : Nat} {mv : Value} (hl : cs[off]? = some mv) (w : World) :
    (part t cs off).run P w = .ok mv w := by
  unfold part
  simp [run_isAgg (ag := false) hu (by simp [hag]), hl]

theorem eqFields_run {I : Im} {L : Loc} {xs ys : Array Value} {w : World} (d : Nat) : ∀ (fs : List Field) (i : Nat) (ks : List Nat) (cs ds : List PV) (r : Bool),
    flatFields P fs i ks = true → eqCells ks cs ds = some r →
    (∀ (j : Nat) c, cs[j]? = some c → ∃ x, xs[i + j]? = some x ∧ VR I L c x) → (∀ (j : Nat) c, ds[j]? = some c → ∃ x, ys[i + j]? = some x ∧ VR I L c x) →
    (Op.eqFields (d + 1) xs ys fs).run P w = .ok r w
  | [], i, ks, cs, ds, r, hf, he, hx, hy => by
    cases ks with
    | cons => simp [flatFields] at hf
    | nil => cases cs <;> cases ds <;> simp [eqCells] at he; subst he; simp [Op.eqFields]
  | f :: fs, i, [], cs, ds, r, hf, he, hx, hy => by simp [flatFields] at hf
  | f :: fs, i, k :: ks, cs, ds, r, hf, he, hx, hy => by
    obtain ⟨c, cs', e, ds', p, q, rfl, rfl, h1, h2, rfl⟩ := eqCells_cons he
    simp only [flatFields, Bool.and_eq_true, decide_eq_true_eq] at hf
    obtain ⟨⟨⟨⟨⟨f1, f2⟩, f3⟩, f4⟩, f5⟩, f6⟩ := hf
    have f5' : isAggT P f.type = false := by simpa using f5
    obtain ⟨x, x1, x2⟩ := hx 0 c (by simp)
    obtain ⟨y, y1, y2⟩ := hy 0 e (by simp)
    have ih := eqFields_run (I := I) (L := L) (xs := xs) (ys := ys) (w := w) d fs (i + 1) ks cs' ds' q f6 h2 (fun j c hc => by
      have := hx (j + 1) c (by simpa using hc)
      rwa [show i + (j + 1) = i + 1 + j from by omega] at this) (fun j c hc => by
      have := hy (j + 1) c (by simpa using hc)
      rwa [show i + (j + 1) = i + 1 + j from by omega] at this)
    rw [Nat.add_zero] at x1 y1
    subst f1
    simp only [Op.eqFields, if_pos f2, Sem.run_bind, run_part_scalar f4 f5' x1, run_part_scalar f4 f5' y1, Result.andThen_ok, scalarEq_run (d := d) x2 y2 h1 f3 w]
    cases p
    · simp
    · simp [ih]

theorem arrayEq_run {I : Im} {L : Loc} {xs ys : Array Value} {w : World} (d e : Nat) (hu : hasU P e = true) (hag : isAggT P e = false) {k : Nat} (hk : kindT P e = some k) :
    ∀ (n i : Nat) (cs ds : List PV) (r : Bool), eqCells (List.replicate n k) cs ds = some r →
    (∀ (j : Nat) c, cs[j]? = some c → ∃ x, xs[i + j]? = some x ∧ VR I L c x) → (∀ (j : Nat) c, ds[j]? = some c → ∃ x, ys[i + j]? = some x ∧ VR I L c x) →
    ∃ u, (forIn (List.range' i n) ((none, ()) : Option Bool × Unit) (fun i _ => do
        let a ← part e xs i
        let b ← part e ys i
        let x ← Op.equalIn (d + 1) e a b
        if x = false then pure (ForInStep.done (some false, ())) else pure (ForInStep.yield (none, ()))) : Sem (Option Bool × Unit)).run P w = .ok u w ∧ u.1 = if r then none else some false
  | 0, i, cs, ds, r, he, hx, hy => by
    cases cs <;> cases ds <;> simp [eqCells] at he; subst he
    exact ⟨_, by simp; rfl, rfl⟩
  | n + 1, i, cs, ds, r, he, hx, hy => by
    rw [List.replicate_succ] at he
    obtain ⟨c, cs', e', ds', p, q, rfl, rfl, h1, h2, rfl⟩ := eqCells_cons he
    obtain ⟨x, x1, x2⟩ := hx 0 c (by simp)
    obtain ⟨y, y1, y2⟩ := hy 0 e' (by simp)
    obtain ⟨u, ih1, ih2⟩ := arrayEq_run (I := I) (L := L) (xs := xs) (ys := ys) (w := w) d e hu hag hk n (i + 1) cs' ds' q h2 (fun j c hc => by
      have := hx (j + 1) c (by simpa using hc)
      rwa [show i + (j + 1) = i + 1 + j from by omega] at this) (fun j c hc => by
      have := hy (j + 1) c (by simpa using hc)
      rwa [show i + (j + 1) = i + 1 + j from by omega] at this)
    rw [Nat.add_zero] at x1 y1
    cases p
    · refine ⟨(some false, ()), ?_, rfl⟩
      simp [List.range'_succ, run_part_scalar hu hag x1, run_part_scalar hu hag y1, scalarEq_run (d := d) x2 y2 h1 hk w]
    · refine ⟨u, ?_, by simpa using ih2⟩
      simp [List.range'_succ, run_part_scalar hu hag x1, run_part_scalar hu hag y1, scalarEq_run (d := d) x2 y2 h1 hk w, ih1]

theorem bin_int {I : Im} {L : Loc} {tk : Nat} {ks : List Nat} {op : BinOp} {k k' : IntKind} {p q : Int} {u : PV} {t : Nat} (h : binSem tk ks op (.int k p) (.int k' q) = some u) (w : World) :
    ∃ mv, (binOp op t (.int k p) (.int k' q)).run P w = .ok mv w ∧ VR I L u mv := by
  simp only [binSem, andK_eq, orK_eq, xorK_eq, wrapK_eq, remK_eq, shrK_eq] at h
  split at h
  · split at h
    · cases h
    · rename_i hneg
      cases h
      exact ⟨_, by simp [binOp, Op.shift, hneg], .int _ _⟩
  · split at h
    · cases h
    · rename_i hneg
      cases h
      exact ⟨_, by simp [binOp, Op.shift, hneg], .int _ _⟩
  · split at h
    case isFalse => cases h
    rename_i hk
    subst hk
    split at h
    · cases h; exact ⟨_, by simp [binOp, Op.intArith], .int _ _⟩
    · cases h; exact ⟨_, by simp [binOp, Op.intArith], .int _ _⟩
    · cases h; exact ⟨_, by simp [binOp, Op.intArith], .int _ _⟩
    · split at h
      · cases h
      · rename_i hz; cases h; exact ⟨_, by simp [binOp, Op.intDiv, hz], .int _ _⟩
    · split at h
      · cases h
      · rename_i hz; cases h; exact ⟨_, by simp [binOp, Op.intDiv, hz], .int _ _⟩
    · cases h; exact ⟨_, by simp [binOp, Op.intBits], .int _ _⟩
    · cases h; exact ⟨_, by simp [binOp, Op.intBits], .int _ _⟩
    · cases h; exact ⟨_, by simp [binOp, Op.intBits], .int _ _⟩
    · cases h; exact ⟨.bool (decide (p = q)), by simp [binOp, Op.intCmp, BEq.beq], .bool _⟩
    · cases h; exact ⟨.bool (!decide (p = q)), by simp [binOp, Op.intCmp, bne, BEq.beq], .bool _⟩
    · cases h; exact ⟨_, by simp [binOp, Op.intCmp], .bool _⟩
    · cases h; exact ⟨_, by simp [binOp, Op.intCmp], .bool _⟩
    · cases h; exact ⟨.bool (decide (q < p)), by simp [binOp, Op.intCmp], .bool _⟩
    · cases h; exact ⟨.bool (decide (q ≤ p)), by simp [binOp, Op.intCmp], .bool _⟩
    · cases h

theorem run_equalIn_ptr_nil (w : World) (d t el : Nat) (x : Option Addr) (h : P.underlying t = some (.pointer el)) : (Op.equalIn (d + 1) t (.pointer x) (.pointer none)).run P w = .ok x.isNone w := by
  cases x <;> simp [Op.equalIn, run_underlying h]

theorem run_equal_ptr_nil (w : World) (t el : Nat) (x : Option Addr) (h : P.underlying t = some (.pointer el)) : (Op.equal t (.pointer x) (.pointer none)).run P w = .ok x.isNone w := run_equalIn_ptr_nil w 9999 t el x h

theorem okTk_ptr {op : BinOp} {t : Nat} {ks : List Nat} (hT : okTk P op t 3 ks = true) (hop : op = .eql ∨ op = .neq) : ∃ el, P.underlying t = some (.pointer el) := by
  unfold okTk at hT
  rcases hop with rfl | rfl
  all_goals
    simp only at hT
    split at hT <;> first | exact ⟨_, by assumption⟩ | simp at hT

theorem okTk_flat {op : BinOp} {t : Nat} {ks : List Nat} (hT : okTk P op t 4 ks = true) (hop : op = .eql ∨ op = .neq) : flatT P t ks = true := by
  unfold okTk at hT
  rcases hop with rfl | rfl
  all_goals
    simp only at hT
    split at hT <;> simp at hT <;> assumption

theorem bin_ptr {op' : BinOp} {t yt : Nat} {x' y' : Operand} (ho : oper.op = .binOp op' t x' y' yt) {x : Option Addr} (e1 : a.eval x' = .pointer x) (e2 : a.eval y' = .pointer none) (hop : op' = .eql ∨ op' = .neq)
    {ks : List Nat} (hT : okTk P op' t 3 ks = true) : (execOp a.eval oper).run P w = .ok (.value (.bool (if op' = .eql then x.isNone else !x.isNone))) w := by
  obtain ⟨el, hp⟩ := okTk_ptr hT hop
  rcases hop with rfl | rfl
  · simp [execOp, ho, e1, e2, eqGuard, binOp, run_equal_ptr_nil w t el x hp]
  · simp [execOp, ho, e1, e2, eqGuard, binOp, run_equal_ptr_nil w t el x hp]

theorem agg_core (D d : Nat) (hD : D = d + 1) {t : Nat} {ks : List Nat} {I : Im} {L : Loc} {cs ds : List PV} {us us' : Array Value} {w : World} (hf : flatT P t ks = true) {r : Bool} (hr : eqCells ks cs ds = some r)
    (cx : ∀ (j : Nat) c, cs[j]? = some c → ∃ x, us[0 + j]? = some x ∧ VR I L c x) (cy : ∀ (j : Nat) c, ds[j]? = some c → ∃ x, us'[0 + j]? = some x ∧ VR I L c x) :
    (Op.equalIn (D + 1) t (.agg us) (.agg us')).run P w = .ok r w := by
  unfold flatT at hf
  simp only [Bool.and_eq_true] at hf
  obtain ⟨_, hf⟩ := hf
  split at hf
  · rename_i fs hfs
    simp only [Bool.and_eq_true] at hf
    have hfo : P.fieldsOf t = fs := by simp [Program.fieldsOf, hfs]
    rw [run_equalIn_struct w D t us us' (by rw [hfo]; exact hfs) (by simpa using hf.2), hfo, hD]
    exact eqFields_run d _ 0 ks cs ds r hf.1 hr cx cy
  · rename_i n e hne
    simp only [Bool.and_eq_true] at hf
    obtain ⟨⟨⟨f1, f2⟩, f3⟩, f4⟩ := hf
    have f3' : isAggT P e = false := by simpa using f3
    split at f4
    case h_2 => cases f4
    rename_i k hk
    simp only [decide_eq_true_eq] at f4
    subst f4
    obtain ⟨u, a1, a2⟩ := arrayEq_run (w := w) d e f2 f3' hk n 0 cs ds r hr cx cy
    rw [← hD] at a1
    simp only [Op.equalIn, Sem.run_bind, run_underlying hne, Result.andThen_ok, run_sizeOf f1, Std.Legacy.Range.forIn_eq_forIn_range', Std.Legacy.Range.size, Nat.sub_zero, Nat.add_one_sub_one, Nat.div_one, Nat.mul_one, Bool.not_eq_true']
    rw [a1]
    simp only [Result.andThen_ok, a2]
    cases r <;> simp
  · cases hf

theorem eval_global (g : Nat) : a.eval (.global g) = .pointer (some ⟨g, 0, none⟩) := rfl

theorem op_bin {tk : Nat} {ks : List Nat} {op : BinOp} {x y : Arg} (hS : Sim G N s a w) (hd : ∀ t, oper.dst = some t → t < N) (hc : checkOp P oper.op (.bin tk ks op x y) = true) (h : (IOp.bin tk ks op x y).sem s.fr b s.st = some (v, b', st')) : Same3 P oper N G s a w b b' v st' := by
  simp only [checkOp] at hc
  split at hc
  case h_2 => cases hc
  rename_i op' t x' y' yt ho
  simp only [Bool.and_eq_true, decide_eq_true_eq] at hc
  obtain ⟨⟨⟨rfl, hx⟩, hy⟩, hT⟩ := hc
  simp only [IOp.sem, Option.map_eq_some_iff, Prod.mk.injEq] at h
  obtain ⟨u, hu, rfl, rfl, rfl⟩ := h
  have hu0 := hu
  unfold binSem at hu
  simp only [andK_eq, orK_eq, xorK_eq, wrapK_eq, remK_eq, shrK_eq] at hu
  split at hu
  · rename_i k p k' q hv1 hv2
    clear hu
    have e1 := arg_int hS hx hv1
    have e2 := arg_int hS hy hv2
    rw [hv1, hv2] at hu0
    obtain ⟨mv, m1, m2⟩ := bin_int (P := P) (I := G.im w) (L := locOf G.loc s.st) (t := t) hu0 w
    refine ⟨rfl, rfl, good_vr hS hd (mv := mv) ?_ m2⟩
    simp only [execOp, ho, e1, e2, Sem.run_bind, eqGuard]
    split <;> simp [m1]
  · rename_i l1 l2 hv1 hv2
    have e1 := arg_str hS hx hv1
    have e2 := arg_str hS hy hv2
    have hex : (execOp a.eval oper).run P w = ((Op.stringOp op' ⟨l1.toArray⟩ ⟨l2.toArray⟩).run P w).andThen fun v w' => .ok (.value v) w' := by
      simp only [execOp, ho, e1, e2, Sem.run_bind, eqGuard]
      split <;> simp [binOp]
    split at hu
    · split at hu <;> cases hu
      rename_i hle
      refine ⟨rfl, rfl, good_vr hS hd (mv := .string ⟨(l1 ++ l2).toArray⟩) ?_ (.str _)⟩
      rw [hex, ba_append]
      have : ¬ (((⟨l1.toArray⟩ : ByteArray).size + (⟨l2.toArray⟩ : ByteArray).size : Nat) : Int) > IntKind.i64.max := by
        rw [ba_size, ba_size]; show ¬ _ > (9223372036854775807 : Int); omega
      simp only [Op.stringOp, this, if_false, Sem.run_pure, Result.andThen_ok]
    · cases hu
      refine ⟨rfl, rfl, good_vr hS hd (mv := .bool (decide (l1 = l2))) ?_ (.bool _)⟩
      rw [hex]
      simp [Op.stringOp, ba_toList]
      by_cases e : l1 = l2 <;> simp [e]
    · cases hu
      refine ⟨rfl, rfl, good_vr hS hd (mv := .bool (!decide (l1 = l2))) ?_ (.bool _)⟩
      rw [hex]
      simp [Op.stringOp, ba_toList]
      by_cases e : l1 = l2 <;> simp [e]
    · cases hu
  · rename_i p q hv1 hv2
    have e1 := arg_bool hS hx hv1
    have e2 := arg_bool hS hy hv2
    split at hu
    case isFalse => cases hu
    rename_i htk
    subst htk
    have hbt : op' = .eql ∨ op' = .neq → P.underlying t = some .bool := by
      intro hop
      unfold okTk at hT
      rcases hop with rfl | rfl
      all_goals
        simp only at hT
        split at hT <;> first | assumption | simp at hT
    split at hu
    · cases hu
      refine ⟨rfl, rfl, good_vr hS hd (mv := .bool (p == q)) ?_ (.bool _)⟩
      simp [execOp, ho, e1, e2, eqGuard, binOp, run_equal_bool w t p q (hbt (.inl rfl))]
    · cases hu
      refine ⟨rfl, rfl, good_vr hS hd (mv := .bool (!(p == q))) ?_ (.bool _)⟩
      simp [execOp, ho, e1, e2, eqGuard, binOp, run_equal_bool w t p q (hbt (.inr rfl))]
    · cases hu
  · rename_i hv1 hv2
    split at hu
    case isFalse => cases hu
    rename_i htk
    subst htk
    have e1 : a.eval x' = .pointer none := by
      have := arg_at hS hx hv1 (by simp) (by simp)
      generalize a.eval x' = m at this; cases this; rfl
    have e2 : a.eval y' = .pointer none := by
      have := arg_at hS hy hv2 (by simp) (by simp)
      generalize a.eval y' = m at this; cases this; rfl
    split at hu
    · cases hu
      exact ⟨rfl, rfl, good_vr hS hd (bin_ptr ho e1 e2 (.inl rfl) hT) (.bool _)⟩
    · cases hu
      exact ⟨rfl, rfl, good_vr hS hd (bin_ptr ho e1 e2 (.inr rfl) hT) (.bool _)⟩
    · cases hu
  · rename_i cs off hv1 hv2
    split at hu
    case isFalse => cases hu
    rename_i htk
    subst htk
    obtain ⟨bk, o, e1, _⟩ := iptr_cells (arg_at hS hx hv1 (by simp) (by simp))
    have e2 : a.eval y' = .pointer none := by
      have := arg_at hS hy hv2 (by simp) (by simp)
      generalize a.eval y' = m at this; cases this; rfl
    split at hu
    · cases hu
      exact ⟨rfl, rfl, good_vr hS hd (bin_ptr ho e1 e2 (.inl rfl) hT) (.bool _)⟩
    · cases hu
      exact ⟨rfl, rfl, good_vr hS hd (bin_ptr ho e1 e2 (.inr rfl) hT) (.bool _)⟩
    · cases hu
  · rename_i l i off hv1 hv2
    split at hu
    case isFalse => cases hu
    rename_i htk
    subst htk
    obtain ⟨ad, e1⟩ : ∃ ad, a.eval x' = .pointer (some ad) := by
      have := arg_at hS hx hv1 (by simp) (by simp)
      generalize a.eval x' = m at this; cases this; exact ⟨_, rfl⟩
    have e2 : a.eval y' = .pointer none := by
      have := arg_at hS hy hv2 (by simp) (by simp)
      generalize a.eval y' = m at this; cases this; rfl
    split at hu
    · cases hu
      exact ⟨rfl, rfl, good_vr hS hd (bin_ptr ho e1 e2 (.inl rfl) hT) (.bool _)⟩
    · cases hu
      exact ⟨rfl, rfl, good_vr hS hd (bin_ptr ho e1 e2 (.inr rfl) hT) (.bool _)⟩
    · cases hu
  · rename_i cs ds hv1 hv2
    split at hu
    case isFalse => cases hu
    rename_i htk
    subst htk
    have r1 := arg_at hS hx hv1 (by simp) (by simp)
    have r2 := arg_at hS hy hv2 (by simp) (by simp)
    generalize e1 : a.eval x' = m1 at r1
    generalize e2 : a.eval y' = m2 at r2
    cases r1 with
    | agg hl ho1 hvs =>
    cases r2 with
    | agg hl' ho2 hvs' =>
    rename_i us us'
    have cx : ∀ (j : Nat) c, cs[j]? = some c → ∃ x, us[0 + j]? = some x ∧ VR (G.im w) (locOf G.loc s.st) c x := fun j c hj => by
      have hj' : j < us.size := by rw [hl]; exact (List.getElem?_eq_some_iff.1 hj).1
      exact ⟨us[j], by simp [hj'], hvs j c _ hj (by simp [hj'])⟩
    have cy : ∀ (j : Nat) c, ds[j]? = some c → ∃ x, us'[0 + j]? = some x ∧ VR (G.im w) (locOf G.loc s.st) c x := fun j c hj => by
      have hj' : j < us'.size := by rw [hl']; exact (List.getElem?_eq_some_iff.1 hj).1
      exact ⟨us'[j], by simp [hj'], hvs' j c _ hj (by simp [hj'])⟩
    have hgd : (op' = .eql ∨ op' = .neq) → (eqGuard op' t x' y' (.agg us) (.agg us')).run P w = .ok () w := by
      intro hop
      have hf := okTk_flat hT hop
      unfold flatT at hf
      simp only [Bool.and_eq_true] at hf
      have hg : P.eqGuardType P.depth t = false := by simpa using hf.1
      rcases hop with rfl | rfl <;> simp [eqGuard, hg]
    split at hu
    · simp only [Option.map_eq_some_iff] at hu
      obtain ⟨r, hr, rfl⟩ := hu
      refine ⟨rfl, rfl, good_vr hS hd (mv := .bool r) ?_ (.bool _)⟩
      have : (Op.equalIn 10000 t (.agg us) (.agg us')).run P w = .ok r w := agg_core 9999 9998 rfl (okTk_flat hT (.inl rfl)) hr cx cy
      simp only [execOp, ho, e1, e2, Sem.run_bind, hgd (.inl rfl), Result.andThen_ok, run_eql_struct]
      rw [this]
      simp
    · simp only [Option.map_eq_some_iff] at hu
      obtain ⟨r, hr, rfl⟩ := hu
      refine ⟨rfl, rfl, good_vr hS hd (mv := .bool (!r)) ?_ (.bool _)⟩
      have : (Op.equalIn 10000 t (.agg us) (.agg us')).run P w = .ok r w := agg_core 9999 9998 rfl (okTk_flat hT (.inr rfl)) hr cx cy
      simp only [execOp, ho, e1, e2, Sem.run_bind, hgd (.inr rfl), Result.andThen_ok, run_neq_struct]
      rw [this]
      simp
    · cases hu
  · cases hu

end

end PE
