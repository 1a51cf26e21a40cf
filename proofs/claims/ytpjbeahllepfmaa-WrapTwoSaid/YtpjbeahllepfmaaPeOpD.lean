/-
  Parts of texts and slices; what a map holds.
-/
import Derived.Test.YtpjbeahllepfmaaPeOpC
set_option linter.unusedVariables false
set_option linter.unusedSimpArgs false
namespace PE
open Go

section
variable {P : Program} {G : Gh} {N : Nat} {s : St} {a : Act} {w : World} {oper : Oper} {b b' : Bx} {st' : Store} {v : PV}

theorem sliceT_info {t e : Nat} (he : sliceT P t = some e) : P.underlying t = some (.slice e) := by
  unfold sliceT at he
  split at he
  · rename_i hh; cases he; exact hh
  · cases he

/-- A bound of a slice expression, where it is given. -/
theorem optNat_some (hS : Sim G N s a w) {x : Option Operand} {g : Option Arg} (h : okOpt x g = true) {d n : Nat} (hn : optNat s.fr g d = some n) :
    (x = none ∧ g = none ∧ n = d) ∨ ∃ y k, x = some y ∧ a.eval y = .int k n := by
  cases x with
  | none => cases g with
    | none => simp only [optNat, Option.some.injEq] at hn; exact .inl ⟨rfl, rfl, hn.symm⟩
    | some g => simp [okOpt] at h
  | some y => cases g with
    | none => simp [okOpt] at h
    | some g =>
      simp only [optNat] at hn
      obtain ⟨k, hk⟩ := asNat_int hn
      exact .inr ⟨y, k, rfl, arg_int hS h hk⟩

theorem run_sliceBound {x : Value} {k : IntKind} {n y : Nat} (hx : x = .int k n) (hle : n ≤ y) (c : BoundsCode) (w : World) : (Instr.sliceBound x y c).run P w = .ok n w := by
  subst hx
  simp [Instr.sliceBound, asIntOf, Int.ofNat_le.2 hle, Nat.not_lt.2 hle, hle]

theorem run_sliceBounds (hS : Sim G N s a w) {lo hi : Option Operand} {lo' hi' : Option Arg} (hlo : okOpt lo lo' = true) (hhi : okOpt hi hi' = true) {len cap l h : Nat}
    (el : optNat s.fr lo' 0 = some l) (eh : optNat s.fr hi' len = some h) (h1 : l ≤ h) (h2 : h ≤ cap) (isS : Bool) :
    (Instr.sliceBounds isS len cap (lo.map a.eval) (hi.map a.eval) none).run P w = .ok (l, h, cap) w := by
  rcases optNat_some hS hlo el with ⟨rfl, rfl, rfl⟩ | ⟨y, k, rfl, e⟩ <;> rcases optNat_some hS hhi eh with ⟨rfl, rfl, rfl⟩ | ⟨z, k', rfl, e'⟩
  · simp [Instr.sliceBounds]
  · simp [Instr.sliceBounds, run_sliceBound e' h2]
  · simp [Instr.sliceBounds, run_sliceBound e h1]
  · simp [Instr.sliceBounds, run_sliceBound e' h2, run_sliceBound e h1]

theorem run_sliceBounds3 (hS : Sim G N s a w) {lo hi : Option Operand} {lo' hi' : Option Arg} (hlo : okOpt lo lo' = true) (hhi : okOpt hi hi' = true) {len cap l h : Nat}
    (el : optNat s.fr lo' 0 = some l) (eh : optNat s.fr hi' len = some h) (h1 : l ≤ h) (h2 : h ≤ cap) {mx : Value} {k0 : IntKind} (em : mx = .int k0 h) (hsome : hi ≠ none) :
    (Instr.sliceBounds true len cap (lo.map a.eval) (hi.map a.eval) (some mx)).run P w = .ok (l, h, h) w := by
  rcases optNat_some hS hlo el with ⟨rfl, rfl, rfl⟩ | ⟨y, k, rfl, e⟩ <;> rcases optNat_some hS hhi eh with ⟨rfl, rfl, rfl⟩ | ⟨z, k', rfl, e'⟩
  · exact absurd rfl hsome
  · simp [Instr.sliceBounds, run_sliceBound em h2, run_sliceBound e' (Nat.le_refl h)]
  · exact absurd rfl hsome
  · simp [Instr.sliceBounds, run_sliceBound em h2, run_sliceBound e' (Nat.le_refl h), run_sliceBound e h1]

theorem VR.slice_part {I : Im} {L : Loc} {sz lo hi : Nat} {l : List PV} {b o cap : Nat} (k' : SK) (hk' : k' ≠ .own) {k : SK} (h : VR I L (.slice k sz l) (.slice (some ⟨b, o, none⟩) l.length cap)) (h1 : lo ≤ hi) (h2 : hi ≤ l.length)
    {m : Nat} (hm : hi ≤ m) (hf : k' = .fit → m = hi) (hl : l ≠ []) :
    VR I L (.slice k' sz ((l.take hi).drop lo)) (.slice (if m = lo then some ⟨b, o, none⟩ else (some (⟨b, o, none⟩ : Addr)).map (·.add (lo * sz))) (hi - lo) (m - lo)) := by
  have hlen : ((l.take hi).drop lo).length = hi - lo := by simp; omega
  by_cases he : (l.take hi).drop lo = []
  · rw [he]
    have : hi - lo = 0 := by rw [← hlen, he]; rfl
    rw [this]
    exact .slice0 _ _ _ _ hk' (fun e => by have := hf e; omega)
  · have hne : m ≠ lo := by
      intro e
      apply he
      apply List.eq_nil_of_length_eq_zero
      omega
    rw [if_neg hne]
    simp only [Option.map_some, addr_add]
    rw [← hlen]
    cases h with
    | slice0 => exact absurd rfl hl
    | slice hk hf' hc f hz hi' hv =>
      have hget : ∀ (i : Nat) e, ((l.take hi).drop lo)[i]? = some e → l[lo + i]? = some e := by
        intro i e hie
        rw [List.getElem?_drop, List.getElem?_take] at hie
        split at hie
        · exact hie
        · cases hie
      refine .slice hk' (fun e => by have := hf e; omega) (by omega) (fun i j => f (lo + i) j) (fun i e hie => hz _ e (hget i e hie)) (fun i e j c hie hj => ?_) (fun i e j c hie hj => hv _ e j c (hget i e hie) hj)
      have := hi' _ e j c (hget i e hie) hj
      rwa [show o + (lo + i) * sz + j = o + lo * sz + i * sz + j from by rw [Nat.add_mul]; omega] at this

theorem op_slc {isS : Bool} {z : Nat} {x : Arg} {lo hi mx : Option Arg} (hS : Sim G N s a w) (hd : ∀ t, oper.dst = some t → t < N) (hc : checkOp P oper.op (.slc isS z x lo hi mx) = true) (h : (IOp.slc isS z x lo hi mx).sem s.fr b s.st = some (v, b', st')) : Same3 P oper N G s a w b b' v st' := by
  simp only [checkOp] at hc
  split at hc
  case h_2 => cases hc
  rename_i t y lo' hi' mx' ho
  simp only [Bool.and_eq_true, decide_eq_true_eq] at hc
  obtain ⟨⟨⟨⟨⟨⟨hT, hz⟩, hy⟩, hlo⟩, hhi⟩, hmx⟩, hmh⟩ := hc
  simp only [IOp.sem] at h
  split at h
  case h_2 => cases h
  rename_i l hh m el eh em
  simp only [Option.map_eq_some_iff, Prod.mk.injEq] at h
  obtain ⟨u, hu, rfl, rfl, rfl⟩ := h
  have hnotarr : ∀ (X : Value) (A B C : Option Value), (Instr.sliceAt t X A B C).run P w = (Instr.slice t X A B C).run P w := by
    intro X A B C
    unfold okSlcT at hT
    unfold Instr.sliceAt
    split at hT
    · rename_i hh'
      simp only [Sem.run_bind, run_underlying hh', Result.andThen_ok]
    · rename_i hh'
      simp only [Sem.run_bind, run_underlying hh', Result.andThen_ok]
    · cases hT
  have hslT : isS = false → ∃ e, P.underlying t = some (.slice e) ∧ szT P e z = true := by
    rintro rfl
    simp only [Bool.false_or] at hz
    split at hz
    · rename_i e he
      exact ⟨e, sliceT_info he, hz⟩
    · cases hz
  unfold slcSem at hu
  split at hu
  · rename_i sl hv
    split at hu
    case isFalse => cases hu
    rename_i hle
    obtain ⟨h1, h2, rfl⟩ := hle
    cases hu
    have hst : P.underlying t = some .string := by
      unfold okSlcT at hT
      split at hT <;> simp at hT
      assumption
    have hmx' : mx' = none := by
      cases mx with
      | some _ =>
        simp only at em
        cases hq : asNat (Arg.val s.fr ‹Arg›) <;> simp [hq] at em
      | none => cases mx' with
        | none => rfl
        | some _ => simp [okOpt] at hmx
    subst hmx'
    rw [hv] at eh
    refine ⟨rfl, rfl, good_vr hS hd (mv := .string ⟨((sl.take hh).drop l).toArray⟩) ?_ (.str _)⟩
    have hb := run_sliceBounds (P := P) hS hlo hhi (len := (⟨sl.toArray⟩ : ByteArray).size) (cap := (⟨sl.toArray⟩ : ByteArray).size) el (by rw [ba_size]; exact eh) h1 (by rw [ba_size]; exact h2) false
    have hx : ((⟨sl.toArray⟩ : ByteArray).extract l hh) = ⟨((sl.take hh).drop l).toArray⟩ := by
      apply ByteArray.ext
      simp [ByteArray.data_extract, List.extract_eq_take_drop, List.drop_take]
    simp only [execOp, ho, arg_str hS hy hv, Sem.run_bind, hnotarr]
    simp only [Instr.slice, Sem.run_bind, run_underlying hst, Result.andThen_ok, Option.map_none, Option.isSome_none, Bool.false_eq_true, if_false, Sem.run_pure, hb, hx]
  · rename_i k sz sl hv
    obtain ⟨e, hst, hsz⟩ := hslT rfl
    obtain ⟨κ, hk⟩ := arg_tr hS hy
    rw [hv] at hk
    have hpl : ∃ ad cap, a.eval y = .slice ad sl.length cap ∧ sl.length ≤ cap ∧ (sl ≠ [] → ∃ bk o k', ad = some ⟨bk, o, none⟩ ∧ VR (G.im w) (locOf G.loc s.st) (.slice k' sz sl) (.slice (some ⟨bk, o, none⟩) sl.length cap)) := by
      have hp : VR (G.im w) (locOf G.loc s.st) (.slice (if k = .own then .plain else k) sz sl) (a.eval y) := by
        cases k with
        | own => simpa using hk.choose_spec.choose_spec.choose_spec.choose_spec.2.2.2.2.2.2.2.2
        | plain => exact hk
        | fit => exact hk
      generalize a.eval y = mm at hp
      cases hp with
      | slice0 => exact ⟨_, _, rfl, by simp, fun hh => absurd rfl hh⟩
      | slice hk' hf hc f hz' hi'' hv' => exact ⟨_, _, rfl, hc, fun _ => ⟨_, _, _, rfl, .slice hk' hf hc f hz' hi'' hv'⟩⟩
    obtain ⟨ad, cap, e1, hcap, hne⟩ := hpl
    rw [hv] at eh
    split at hu
    · split at hu
      case isFalse => cases hu
      rename_i hle
      obtain ⟨h1, h2, rfl⟩ := hle
      cases hu
      have hmx' : mx' = none := by
        cases mx with
        | some _ =>
          simp only at em
          cases hq : asNat (Arg.val s.fr ‹Arg›) <;> simp [hq] at em
        | none => cases mx' with
          | none => rfl
          | some _ => simp [okOpt] at hmx
      subst hmx'
      have hb := run_sliceBounds (P := P) hS hlo hhi (len := sl.length) (cap := cap) el eh h1 (by omega) true
      refine ⟨rfl, rfl, good_vr hS hd (mv := .slice (if cap = l then ad else ad.map (·.add (l * z))) (hh - l) (cap - l)) ?_ ?_⟩
      · simp only [execOp, ho, e1, Sem.run_bind, hnotarr]
        simp only [Instr.slice, Sem.run_bind, run_underlying hst, Result.andThen_ok, Option.map_none, Sem.run_pure, hb, run_sizeOf hsz]
      · by_cases hnil : sl = []
        · subst hnil
          have : hh - l = 0 := by simp at h2; omega
          rw [this]
          simp only [List.take_nil, List.drop_nil]
          exact .slice0 _ _ _ _ (by simp) (by simp)
        · obtain ⟨bk, o, k', rfl, hvr⟩ := hne hnil
          exact VR.slice_part .plain (by simp) hvr h1 h2 (by omega) (by simp) hnil
    · rename_i m0
      split at hu
      case isFalse => cases hu
      rename_i hle
      obtain ⟨h1, rfl, h2, rfl⟩ := hle
      cases hu
      cases mx with
      | none => simp at em
      | some g =>
        simp only [Option.map_eq_some_iff, Option.some.injEq] at em
        obtain ⟨q, hq, rfl⟩ := em
        cases mx' with
        | none => simp [okOpt] at hmx
        | some y3 =>
          obtain ⟨k3, hk3⟩ := asNat_int hq
          have e3 := arg_int hS hmx hk3
          have hhs : hi' ≠ none := by
            rintro rfl
            simp at hmh
          have hb := run_sliceBounds3 (P := P) hS hlo hhi (len := sl.length) (cap := cap) el eh h1 (by omega) e3 hhs
          refine ⟨rfl, rfl, good_vr hS hd (mv := .slice (if q = l then ad else ad.map (·.add (l * z))) (q - l) (q - l)) ?_ ?_⟩
          · simp only [execOp, ho, e1, Sem.run_bind, hnotarr]
            simp only [Instr.slice, Sem.run_bind, run_underlying hst, Result.andThen_ok, Option.map_some, Sem.run_pure, hb, run_sizeOf hsz]
          · by_cases hnil : sl = []
            · subst hnil
              have : q - l = 0 := by simp at h2; omega
              rw [this]
              simp only [List.take_nil, List.drop_nil]
              exact .slice0 _ _ _ _ (by simp) (by simp)
            · obtain ⟨bk, o, k', rfl, hvr⟩ := hne hnil
              exact VR.slice_part .fit (by simp) hvr h1 h2 (Nat.le_refl _) (fun _ => rfl) hnil
  · rename_i l0 off n sz hv
    split at hu
    case isFalse => cases hu
    rename_i hle
    obtain ⟨h1, h2, h3, rfl, rfl⟩ := hle
    cases hu
    obtain ⟨e, hst, hsz⟩ := hslT rfl
    have hr := arg_at hS hy hv (by simp) (by simp)
    have hmx' : mx' = none := by
      cases mx with
      | some _ =>
        simp only at em
        cases hq : asNat (Arg.val s.fr ‹Arg›) <;> simp [hq] at em
      | none => cases mx' with
        | none => rfl
        | some _ => simp [okOpt] at hmx
    subst hmx'
    rw [hv] at eh
    generalize hm : a.eval y = mm at hr
    cases hr with
    | mslice0 => omega
    | mslice hL hcp =>
      rename_i bk cap
      have hb := run_sliceBounds (P := P) hS hlo hhi (len := n) (cap := cap) el eh h1 (by omega) true
      refine ⟨rfl, rfl, good_vr hS hd (mv := .slice (some ⟨bk, (off + l) * z, none⟩) (hh - l) (cap - l)) ?_ (.mslice hL (by omega))⟩
      have hne : ¬ (cap = l) := by omega
      simp only [execOp, ho, hm, Sem.run_bind, hnotarr]
      simp only [Instr.slice, Sem.run_bind, run_underlying hst, Result.andThen_ok, Option.map_none, Sem.run_pure, hb, run_sizeOf hsz, if_neg hne, Option.map_some, addr_add]
      rw [Nat.add_mul]
  · cases hu

/-! #### maps -/

theorem run_checkKey {kt : Nat} {ks : Bool} (hk : (ks = false ∧ ∃ k, P.underlying kt = some (.int k)) ∨ (ks = true ∧ P.underlying kt = some .string)) (e : Bool) (d : Nat) (v : Value) (w : World) :
    (Instr.checkKey e (d + 1) kt v).run P w = .ok () w := by
  rcases hk with ⟨_, k, hk⟩ | ⟨_, hk⟩
  · simp [Instr.checkKey, run_underlying hk]
  · simp [Instr.checkKey, run_underlying hk]

theorem keyEq_now {I : Im} {L : Loc} {ks : Bool} {dsc : TypeDesc} (hk : (ks = false ∧ ∃ k, dsc = .int k) ∨ (ks = true ∧ dsc = .string)) {p q : PV} {x y : Value} (hp : VR I L p x) (hq : VR I L q y) {r : Bool}
    (h : keyEq ks p q = some r) : Instr.sameNow dsc x y = some r := by
  unfold keyEq at h
  split at h
  · split at h <;> cases h
    rename_i hc
    obtain ⟨rfl, rfl⟩ := hc
    rw [hp.int_inv, hq.int_inv]
    rcases hk with ⟨_, k, rfl⟩ | ⟨hh, _⟩
    · simp [Instr.sameNow, BEq.beq]
    · cases hh
  · split at h <;> cases h
    rename_i hc
    subst hc
    rw [hp.str_inv, hq.str_inv]
    rcases hk with ⟨hh, _⟩ | ⟨_, rfl⟩
    · cases hh
    · rename_i l1 l2 _
      simp only [Instr.sameNow, beq_toListBytes, ba_toList]
      by_cases e : l1 = l2 <;> simp [e]
  · cases h

theorem mapFind_now {I : Im} {L : Loc} {ks : Bool} {dsc : TypeDesc} (hk : (ks = false ∧ ∃ k, dsc = .int k) ∨ (ks = true ∧ dsc = .string)) {p : PV} {x : Value} (hp : VR I L p x) :
    ∀ (es : List (PV × PV)) (ents : List MapEntry) (i : Nat) (r : Option PV), ents.length = es.length →
      (∀ (j : Nat) k v, es[j]? = some (k, v) → ∃ en, ents[j]? = some en ∧ VR I L k en.key ∧ VR I L v en.val) → mapFind ks p es = some r →
      match r with
      | some v => ∃ j mv k', Instr.findNow dsc x ents i = some (some (i + j, mv)) ∧ VR I L v mv ∧ es[j]? = some (k', v) ∧ keyEq ks p k' = some true
      | none => Instr.findNow dsc x ents i = some none
  | [], [], i, r, _, _, h => by simp [mapFind] at h; subst h; simp [Instr.findNow]
  | [], _ :: _, i, r, hl, _, h => by simp at hl
  | _ :: _, [], i, r, hl, _, h => by simp at hl
  | (k, v) :: es, en :: ents, i, r, hl, hr, h => by
    obtain ⟨en', e1, e2, e3⟩ := hr 0 k v (by simp)
    simp at e1; subst e1
    simp only [mapFind] at h
    split at h
    · rename_i hke
      cases h
      refine ⟨0, en.val, k, ?_, e3, by simp, hke⟩
      simp [Instr.findNow, keyEq_now hk hp e2 hke]
    · rename_i hke
      have ih := mapFind_now hk hp es ents (i + 1) r (by simpa using hl) (fun j k' v' hj => by
        obtain ⟨en', a1, a2⟩ := hr (j + 1) k' v' (by simpa using hj)
        exact ⟨en', by simpa using a1, a2⟩) h
      cases r with
      | none => simp only at ih ⊢; simp [Instr.findNow, keyEq_now hk hp e2 hke, ih]
      | some v0 =>
        obtain ⟨j, mv, k', f1, f2, f3, f4⟩ := ih
        refine ⟨j + 1, mv, k', ?_, f2, by simpa using f3, f4⟩
        simp only [Instr.findNow, keyEq_now hk hp e2 hke]
        rw [f1, show i + 1 + j = i + (j + 1) from by omega]
    · cases h

theorem mapT_info {t e : Nat} {ks : Bool} (h : mapT P t = some (ks, e)) : ∃ kt, P.underlying t = some (.map kt e) ∧ ((ks = false ∧ ∃ k, P.underlying kt = some (.int k)) ∨ (ks = true ∧ P.underlying kt = some .string)) := by
  unfold mapT at h
  split at h
  · rename_i kt e' hh
    split at h
    · rename_i k hk; cases h; exact ⟨kt, hh, .inl ⟨rfl, k, hk⟩⟩
    · rename_i hk; cases h; exact ⟨kt, hh, .inr ⟨rfl, hk⟩⟩
    · cases h
  · cases h

theorem zeroT_info {t : Nat} {z : PV} (h : zeroT P t z = true) : ∃ i v, P.info? t = some i ∧ i.zero = some v ∧ okVal z v = true ∧ (cellsOf z).length = i.size ∧ isVar z = true ∧ (cellsOf z).all isCell = true := by
  unfold zeroT at h
  split at h
  · rename_i i hi
    split at h
    · rename_i v hv
      simp only [Bool.and_eq_true, decide_eq_true_eq] at h
      exact ⟨i, v, hi, hv, h.1.1.1, h.1.1.2, h.1.2, h.2⟩
    · cases h
  · cases h

theorem run_zeroValue {t : Nat} {z : PV} (h : zeroT P t z = true) (I : Im) (L : Loc) (w : World) : ∃ v, (zeroValue t).run P w = .ok v w ∧ VR I L z v := by
  obtain ⟨i, v, h1, h2, h3, _⟩ := zeroT_info h
  exact ⟨v, by simp [zeroValue, typeInfo, h1, h2], okVal_vr z v h3⟩

theorem run_findKey {I : Im} {L : Loc} {kt : Nat} {ks : Bool} (hk : (ks = false ∧ ∃ k, P.underlying kt = some (.int k)) ∨ (ks = true ∧ P.underlying kt = some .string)) {p : PV} {x : Value} (hp : VR I L p x)
    {es : List (PV × PV)} {ents : List MapEntry} (hl : ents.length = es.length)
    (hr : ∀ (j : Nat) k v, es[j]? = some (k, v) → ∃ en, ents[j]? = some en ∧ VR I L k en.key ∧ VR I L v en.val) {r : Option PV} (h : mapFind ks p es = some r) (w : World) :
    match r with
    | some v => ∃ j mv k', (Instr.findKey kt x ents).run P w = .ok (some (j, mv)) w ∧ VR I L v mv ∧ es[j]? = some (k', v) ∧ keyEq ks p k' = some true
    | none => (Instr.findKey kt x ents).run P w = .ok none w := by
  have hk' : ∀ dsc, P.underlying kt = some dsc → ((ks = false ∧ ∃ k, dsc = .int k) ∨ (ks = true ∧ dsc = .string)) := by
    intro dsc hd
    rcases hk with ⟨a, k, e⟩ | ⟨a, e⟩
    · rw [e] at hd; cases hd; exact .inl ⟨a, k, rfl⟩
    · rw [e] at hd; cases hd; exact .inr ⟨a, rfl⟩
  obtain ⟨dsc, hd⟩ : ∃ dsc, P.underlying kt = some dsc := by
    rcases hk with ⟨_, k, e⟩ | ⟨_, e⟩ <;> exact ⟨_, e⟩
  have := mapFind_now (hk' dsc hd) hp es ents 0 r hl hr h
  cases r with
  | none =>
    simp only at this ⊢
    simp [Instr.findKey, run_underlying hd, this]
  | some v =>
    obtain ⟨j, mv, k', a1, a2, a3, a4⟩ := this
    refine ⟨j, mv, k', ?_, a2, a3, a4⟩
    simp [Instr.findKey, run_underlying hd, a1]

theorem op_lookup {ks ok : Bool} {zero : PV} {m k : Arg} (hS : Sim G N s a w) (hd : ∀ t, oper.dst = some t → t < N) (hc : checkOp P oper.op (.lookup ks ok zero m k) = true) (h : (IOp.lookup ks ok zero m k).sem s.fr b s.st = some (v, b', st')) : Same3 P oper N G s a w b b' v st' := by
  simp only [checkOp] at hc
  split at hc
  case h_2 => cases hc
  rename_i t m' k' ok' ho
  simp only [Bool.and_eq_true] at hc
  obtain ⟨⟨⟨hT, hok⟩, hm⟩, hk⟩ := hc
  have hok' : ok = ok' := by cases ok <;> cases ok' <;> simp_all
  subst hok'
  split at hT
  case h_2 => cases hT
  rename_i ks' e hmt
  simp only [Bool.and_eq_true] at hT
  have hks : ks = ks' := by simpa using hT.1
  subst hks
  obtain ⟨kt, hu, hkt⟩ := mapT_info hmt
  obtain ⟨zv, hz1, hz2⟩ := run_zeroValue hT.2 (G.im w) (locOf G.loc s.st) w
  have tupv : ∀ {p : PV} {mv : Value} (c : Bool), VR (G.im w) (locOf G.loc s.st) p mv → VR (G.im w) (locOf G.loc s.st) (if ok then .tup [p, .bool c] else p) (if ok then .tuple #[mv, .bool c] else mv) := by
    intro p mv c hp
    cases ok
    · exact hp
    · refine .tup (by simp) ?_
      intro j c' v' h1 h2
      match j with
      | 0 => simp at h1 h2; subst h1; subst h2; exact hp
      | 1 => simp at h1 h2; subst h1; subst h2; exact .bool _
      | j + 2 => simp at h1
  simp only [IOp.sem] at h
  split at h
  case isFalse => cases h
  rename_i hko
  have hkey : VR (G.im w) (locOf G.loc s.st) (k.val s.fr) (a.eval k') := by
    refine arg_at hS hk rfl ?_ ?_
    · intro sz l e; rw [e] at hko; cases hko
    · intro q off e; rw [e] at hko; cases hko
  split at h
  · rename_i hv
    have e1 : a.eval m' = .map none := by
      have := arg_at hS hm hv (by simp) (by simp)
      generalize a.eval m' = mm at this; cases this; rfl
    have hv' : v = (if ok then .tup [zero, .bool false] else zero) ∧ b' = b ∧ st' = s.st := by
      cases ok <;> simp at h <;> obtain ⟨rfl, rfl, rfl⟩ := h <;> exact ⟨rfl, rfl, rfl⟩
    obtain ⟨rfl, rfl, rfl⟩ := hv'
    refine ⟨rfl, rfl, good_vr hS hd (mv := if ok then .tuple #[zv, .bool false] else zv) ?_ (tupv false hz2)⟩
    have hck := run_checkKey (P := P) hkt true 9999 (a.eval k') w
    have hfk : (Instr.findKey kt (a.eval k') []).run P w = .ok none w := by
      rcases hkt with ⟨_, kk, e⟩ | ⟨_, e⟩ <;> simp [Instr.findKey, run_underlying e, Instr.findNow]
    simp only [execOp, ho, e1]
    simp only [Instr.lookup, Sem.run_bind, run_underlying hu, Result.andThen_ok, Sem.run_pure, Array.isEmpty_empty, hck, hfk, hz1]
  · rename_i r hv
    have hr := arg_at hS hm hv (by simp) (by simp)
    split at h
    case h_2 => cases h
    rename_i es hst
    obtain ⟨c1, c2, ents, clock, c3, c4, c5⟩ := hS.store.obj r _ hst
    have e1 : a.eval m' = .map (some (G.loc r)) := by
      generalize a.eval m' = mm at hr
      cases hr with
      | mp hh => simp [locOf, hst] at hh; rw [hh.1]
    simp only [Option.map_eq_some_iff] at h
    obtain ⟨rr, hrr, h⟩ := h
    have hck := fun e' => run_checkKey (P := P) hkt e' 9999 (a.eval k') w
    by_cases hes : es = []
    · subst hes
      have hents : ents = #[] := by
        apply Array.eq_empty_of_size_eq_zero; simpa using c4
      subst hents
      simp [mapFind] at hrr
      subst hrr
      simp only [Prod.mk.injEq] at h
      obtain ⟨rfl, rfl, rfl⟩ := h
      refine ⟨rfl, rfl, good_vr hS hd (mv := if ok then .tuple #[zv, .bool false] else zv) ?_ (tupv false hz2)⟩
      have hfk : (Instr.findKey kt (a.eval k') []).run P w = .ok none w := by
        rcases hkt with ⟨_, kk, e⟩ | ⟨_, e⟩ <;> simp [Instr.findKey, run_underlying e, Instr.findNow]
      simp only [execOp, ho, e1]
      simp only [Instr.lookup, Sem.run_bind, run_underlying hu, Result.andThen_ok, Sem.run_pure, getObj, Sem.run, c3, hck, hfk, hz1]
    · have hf := run_findKey hkt hkey (es := es) (ents := ents.toList) (by simpa using c4) (fun j k0 v0 hj => by
        obtain ⟨en, m1, m2⟩ := c5 j k0 v0 hj
        exact ⟨en, by simpa using m1, m2⟩) hrr w
      cases rr with
      | none =>
        simp only at hf h
        simp only [Prod.mk.injEq] at h
        obtain ⟨rfl, rfl, rfl⟩ := h
        refine ⟨rfl, rfl, good_vr hS hd (mv := if ok then .tuple #[zv, .bool false] else zv) ?_ (tupv false hz2)⟩
        simp only [execOp, ho, e1]
        simp only [Instr.lookup, Sem.run_bind, run_underlying hu, Result.andThen_ok, Sem.run_pure, getObj, Sem.run, c3, hck, hf, hz1]
      | some v0 =>
        obtain ⟨j, mv, k0, f1, f2, f3, f4⟩ := hf
        simp only at h
        simp only [Prod.mk.injEq] at h
        obtain ⟨rfl, rfl, rfl⟩ := h
        refine ⟨rfl, rfl, good_vr hS hd (mv := if ok then .tuple #[mv, .bool true] else mv) ?_ (tupv true f2)⟩
        simp only [execOp, ho, e1]
        simp only [Instr.lookup, Sem.run_bind, run_underlying hu, Result.andThen_ok, Sem.run_pure, getObj, Sem.run, c3, hck, f1]
  · cases h

end

end PE
