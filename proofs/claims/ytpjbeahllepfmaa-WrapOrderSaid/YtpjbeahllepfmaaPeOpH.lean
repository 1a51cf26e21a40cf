/-
  Operations that write, continued: rows that grow, maps, iterators.
-/
import Derived.Test.YtpjbeahllepfmaaPeOpG
import Derived.Laws.AppendOwn
set_option linter.unusedVariables false
set_option linter.unusedSimpArgs false
namespace PE
open Go

section
variable {P : Program} {G G' : Gh} {N : Nat} {s : St} {a : Act} {w w' : World} {oper : Oper} {b b' : Bx} {st' : Store} {v : PV}

theorem op_next {k : Nat} {x : Arg} (hS : Sim G N s a w) (hd : ∀ t, oper.dst = some t → t < N) (hc : checkOp P oper.op (.next k x) = true) (h : (IOp.next k x).sem s.fr (s.bx k) s.st = some (v, b', st')) : Box3 P oper N G s a w k b' v st' := by
  simp only [checkOp] at hc
  split at hc
  case h_2 => cases hc
  rename_i y ho
  simp only [IOp.sem] at h
  split at h
  case h_2 => cases h
  rename_i str pos k' hb hv
  split at h
  case isFalse => cases h
  rename_i hk
  subst hk
  have hbx := hS.box k
  rw [hb] at hbx
  obtain ⟨e1, e2, e3⟩ := hbx
  have hev := arg_lptr hS hc hv
  have hget : (getObj (G.box k)).run P w = .ok (.stringIter ⟨str.toArray⟩ pos) w := by simp [getObj, Sem.run, e3]
  split at h
  · rename_i hlt
    cases h
    let o' : Go.Obj := .stringIter ⟨str.toArray⟩ (pos + (Utf8.decode ⟨str.toArray⟩ pos).2)
    have hset : ∀ o', (setObj (G.box k) o').run P w = .ok () { w with heap := w.heap.setIfInBounds (G.box k) o' } := by intro o'; simp [setObj, Sem.run, e3]
    have hb0 : G.box k < w.heap.size := (Array.getElem?_eq_some_iff.1 e3).1
    have ht : Turned w { w with heap := w.heap.setIfInBounds (G.box k) o' } (G.box k) o' :=
      ⟨by simp [hb0], fun b hb => by simp [Array.getElem?_setIfInBounds, Ne.symm hb], by simp, rfl, rfl, fun x => by
        by_cases hx : x.block = G.box k
        · rw [frozen_calm (o := o') (by simp [hb0]) trivial x hx, frozen_calm e3 trivial x hx]
        · exact World.frozen?_of_block (by simp [Array.getElem?_setIfInBounds, Ne.symm hx])⟩
    obtain ⟨hS', hI⟩ := hS.writeBox (bn := .iter str (pos + (Utf8.decode ⟨str.toArray⟩ pos).2)) ht e1 e2 ⟨e1, e2, ht.here⟩ (by simp)
    refine good_mem (s1 := { s with bx := upd s.bx k _ }) (mv := .tuple #[.bool true, .int .i64 pos, .int .i32 (Utf8.decode ⟨str.toArray⟩ pos).1]) hd ?_ hS' (ext_turned ht e1 (by simp) hI (Loc.le_refl _)) (fun κ => VR.tr ?_) (by simp)
    · have hlt' : pos < (⟨str.toArray⟩ : ByteArray).size := by rw [ba_size]; exact hlt
      simp only [execOp, ho, hev, Instr.next, Sem.run_bind, hget, Result.andThen_ok, hlt', if_true, hset, Sem.run_pure, goInt]
      rfl
    · refine .tup (by simp) ?_
      intro j c x hc hx
      match j with
      | 0 => simp at hc hx; subst hc; subst hx; exact .bool _
      | 1 => simp at hc hx; subst hc; subst hx; exact .int _ _
      | 2 => simp at hc hx; subst hc; subst hx; exact .int _ _
      | j + 3 => simp at hc
  · rename_i hlt
    cases h
    have hS' : Sim G N { s with bx := upd s.bx k (.iter str pos) } a w := by
      have : upd s.bx k (.iter str pos) = s.bx := by funext q; unfold upd; split; rename_i e; rw [e, hb]; rfl
      rw [this]; exact hS
    rw [hb]
    refine good_mem (s1 := { s with bx := upd s.bx k _ }) (mv := .tuple #[.bool false]) hd ?_ hS' (Ext.refl _ _ _) (fun κ => VR.tr ?_) (by simp)
    · have hlt' : ¬ pos < (⟨str.toArray⟩ : ByteArray).size := by rw [ba_size]; exact hlt
      simp only [execOp, ho, hev, Instr.next, Sem.run_bind, hget, Result.andThen_ok, hlt', if_false, Sem.run_pure]
    · refine .tup (by simp) ?_
      intro j c x hc hx
      match j with
      | 0 => simp at hc hx; subst hc; subst hx; exact .bool _
      | j + 1 => simp at hc

theorem sameBits_key {I : Im} {L : Loc} {ks : Bool} {p q : PV} {x y : Value} (hp : VR I L p x) (hq : VR I L q y) (h : keyEq ks p q = some true) (n : Nat) : Instr.sameBits n y x = true ∧ VR I L p x ∧ y = x := by
  unfold keyEq at h
  split at h
  · split at h <;> simp at h
    rename_i hc
    obtain ⟨rfl, rfl⟩ := hc
    subst h
    rw [hp.int_inv, hq.int_inv]
    exact ⟨by simp [Instr.sameBits], .int _ _, rfl⟩
  · split at h <;> simp at h
    subst h
    rw [hp.str_inv, hq.str_inv]
    exact ⟨by simp only [Instr.sameBits, beq_toListBytes]; simp, .str _, rfl⟩
  · cases h

theorem mapSet_found {ks : Bool} {p v : PV} : ∀ (es : List (PV × PV)) (es' : List (PV × PV)) (u : PV), mapSet ks p v es = some es' → mapFind ks p es = some (some u) →
    ∃ j k', es[j]? = some (k', u) ∧ keyEq ks p k' = some true ∧ (∀ i k'' v'', i < j → es[i]? = some (k'', v'') → keyEq ks p k'' = some false) ∧ es' = es.set j (p, v)
  | [], es', u, _, h => by simp [mapFind] at h
  | (k, x) :: es, es', u, h1, h2 => by
    simp only [mapSet] at h1
    simp only [mapFind] at h2
    split at h1
    · rename_i hk
      cases h1
      rw [hk] at h2
      simp at h2
      subst h2
      exact ⟨0, k, by simp, hk, by intro i _ _ hi; omega, by simp⟩
    · rename_i hk
      rw [hk] at h2
      simp at h2
      simp only [Option.map_eq_some_iff] at h1
      obtain ⟨es1, h3, rfl⟩ := h1
      obtain ⟨j, k', f1, f2, f3, f4⟩ := mapSet_found es es1 u h3 h2
      refine ⟨j + 1, k', by simpa using f1, f2, ?_, by simp [f4]⟩
      intro i k'' v'' hi he
      cases i with
      | zero => simp at he; obtain ⟨rfl, rfl⟩ := he; exact hk
      | succ i => exact f3 i k'' v'' (by omega) (by simpa using he)
    · cases h1

theorem mapSet_new {ks : Bool} {p v : PV} : ∀ (es : List (PV × PV)) (es' : List (PV × PV)), mapSet ks p v es = some es' → mapFind ks p es = some none → es' = es ++ [(p, v)]
  | [], es', h, _ => by simp [mapSet] at h; simp [← h]
  | (k, x) :: es, es', h1, h2 => by
    simp only [mapSet] at h1
    simp only [mapFind] at h2
    split at h1
    · rename_i hk
      rw [hk] at h2
      simp at h2
    · rename_i hk
      rw [hk] at h2
      simp at h2
      simp only [Option.map_eq_some_iff] at h1
      obtain ⟨es1, h3, rfl⟩ := h1
      rw [mapSet_new es es1 h3 h2]
      simp
    · cases h1

theorem mapSet_find {ks : Bool} {p v : PV} : ∀ (es es' : List (PV × PV)), mapSet ks p v es = some es' → ∃ r, mapFind ks p es = some r
  | [], _, _ => ⟨none, rfl⟩
  | (k, x) :: es, es', h => by
    simp only [mapSet] at h
    simp only [mapFind]
    split at h
    · exact ⟨_, rfl⟩
    · rename_i hk
      simp only [Option.map_eq_some_iff] at h
      obtain ⟨es1, h1, _⟩ := h
      exact mapSet_find es es1 h1
    · cases h

/-- As 'mapFind_now', with the first place. -/
theorem mapFind_first {I : Im} {L : Loc} {ks : Bool} {dsc : TypeDesc} (hk : (ks = false ∧ ∃ k, dsc = .int k) ∨ (ks = true ∧ dsc = .string)) {p : PV} {x : Value} (hp : VR I L p x) :
    ∀ (j : Nat) (es : List (PV × PV)) (ents : List MapEntry) (i : Nat) (k' u : PV), ents.length = es.length →
      (∀ (j : Nat) k v, es[j]? = some (k, v) → ∃ en, ents[j]? = some en ∧ VR I L k en.key ∧ VR I L v en.val) → es[j]? = some (k', u) → keyEq ks p k' = some true →
      (∀ i k'' v'', i < j → es[i]? = some (k'', v'') → keyEq ks p k'' = some false) → ∃ mv, Instr.findNow dsc x ents i = some (some (i + j, mv))
  | 0, [], _, _, _, _, _, _, h, _, _ => by simp at h
  | 0, (k, v) :: es, [], _, _, _, hl, _, _, _, _ => by simp at hl
  | 0, (k, v) :: es, en :: ents, i, k', u, hl, hr, h1, h2, h3 => by
    obtain ⟨en', e1, e2, e3⟩ := hr 0 k v (by simp)
    simp at e1 h1; subst e1
    obtain ⟨rfl, rfl⟩ := h1
    exact ⟨en.val, by simp [Instr.findNow, keyEq_now hk hp e2 h2]⟩
  | j + 1, [], _, _, _, _, _, _, h, _, _ => by simp at h
  | j + 1, (k, v) :: es, [], _, _, _, hl, _, _, _, _ => by simp at hl
  | j + 1, (k, v) :: es, en :: ents, i, k', u, hl, hr, h1, h2, h3 => by
    obtain ⟨en', e1, e2, e3⟩ := hr 0 k v (by simp)
    simp at e1; subst e1
    obtain ⟨mv, hm⟩ := mapFind_first hk hp j es ents (i + 1) k' u (by simpa using hl) (fun j k' v' hj => by
      obtain ⟨en', a1, a2⟩ := hr (j + 1) k' v' (by simpa using hj)
      exact ⟨en', by simpa using a1, a2⟩) (by simpa using h1) h2 (fun i' k'' v'' hi he => h3 (i' + 1) k'' v'' (by omega) (by simpa using he))
    refine ⟨mv, ?_⟩
    simp only [Instr.findNow, keyEq_now hk hp e2 (h3 0 k v (by omega) (by simp)), hm]
    congr 3
    omega

theorem op_mapset {ks : Bool} {m k x : Arg} (hS : Sim G N s a w) (hd : ∀ t, oper.dst = some t → t < N) (hc : checkOp P oper.op (.mapset ks m k x) = true) (h : (IOp.mapset ks m k x).sem s.fr b s.st = some (v, b', st')) :
    v = .undef ∧ b' = b ∧ OpGood P oper N G s a w v s.fr s.bx st' := by
  simp only [checkOp] at hc
  obtain ⟨t, m', k', x', hrun0, hT, hm, hk, hx⟩ : ∃ t m' k' x', (execOp a.eval oper) = (do Instr.mapUpdate t (a.eval m') (a.eval k') (a.eval x'); pure .skip) ∧ (match mapT P t with
      | some (ks', _) => ks == ks'
      | none => false) = true ∧ okArg m' m = true ∧ okArg k' k = true ∧ okArg x' x = true := by
    split at hc
    · rename_i t m' k' x' ho
      simp only [Bool.and_eq_true] at hc
      exact ⟨t, m', k', x', by simp [execOp, ho], hc.1.1.1, hc.1.1.2, hc.1.2, hc.2⟩
    · rename_i t m' k' x' ho
      simp only [Bool.and_eq_true] at hc
      exact ⟨t, m', k', x', by simp [execOp, ho], hc.1.1.1, hc.1.1.2, hc.1.2, hc.2⟩
    · cases hc
  split at hT
  case h_2 => cases hT
  rename_i ks' e hmt
  have hks : ks = ks' := by simpa using hT
  subst hks
  obtain ⟨kt, hu, hkt⟩ := mapT_info hmt
  simp only [IOp.sem] at h
  split at h
  case isFalse => cases h
  rename_i hvar
  simp only [Bool.and_eq_true] at hvar
  obtain ⟨hvar, hko⟩ := hvar
  have hkey : VR (G.im w) (locOf G.loc s.st) (k.val s.fr) (a.eval k') := by
    refine arg_at hS hk rfl ?_ ?_
    · intro sz l e; rw [e] at hko; cases hko
    · intro q off e; rw [e] at hko; cases hko
  have hval := arg_vr hS hx (not_lptr_of_isVar hvar)
  split at h
  case h_2 => cases h
  rename_i r hv
  split at h
  case h_2 => cases h
  rename_i es hst
  simp only [Option.map_eq_some_iff, Prod.mk.injEq] at h
  obtain ⟨es', hes, rfl, rfl, rfl⟩ := h
  have hr := arg_at hS hm hv (by simp) (by simp)
  obtain ⟨c1, c2, ents, clock, c3, c4, c5⟩ := hS.store.obj r _ hst
  have e1 : a.eval m' = .map (some (G.loc r)) := by
    generalize a.eval m' = mm at hr
    cases hr with
    | mp hh => simp [locOf, hst] at hh; rw [hh.1]
  have hget : (getObj (G.loc r)).run P w = .ok (.map ents clock) w := by simp [getObj, Sem.run, c3]
  have hck := run_checkKey (P := P) hkt false 9999 (a.eval k') w
  obtain ⟨rr, hrr⟩ := mapSet_find es es' hes
  have hf := run_findKey hkt hkey (es := es) (ents := ents.toList) (by simpa using c4) (fun j k0 v0 hj => by
    obtain ⟨en, m1, m2⟩ := c5 j k0 v0 hj
    exact ⟨en, by simpa using m1, m2⟩) hrr w
  have hset : ∀ o', (setObj (G.loc r) o').run P w = .ok () { w with heap := w.heap.setIfInBounds (G.loc r) o' } := by intro o'; simp [setObj, Sem.run, c3]
  have hb0 : G.loc r < w.heap.size := (Array.getElem?_eq_some_iff.1 c3).1
  have ht : ∀ es' clock', Turned w { w with heap := w.heap.setIfInBounds (G.loc r) (.map es' clock') } (G.loc r) (.map es' clock') := fun es' clock' =>
    ⟨by simp [hb0], fun b hb => by simp [Array.getElem?_setIfInBounds, Ne.symm hb], by simp, rfl, rfl, fun x => by
        by_cases hx : x.block = G.loc r
        · rw [frozen_calm (o := .map es' clock') (by simp [hb0]) trivial x hx, frozen_calm c3 trivial x hx]
        · exact World.frozen?_of_block (by simp [Array.getElem?_setIfInBounds, Ne.symm hx])⟩
  have hI : ∀ es' clock', (G.im w).le (G.im { w with heap := w.heap.setIfInBounds (G.loc r) (.map es' clock') }) := fun es' clock' => im_turned (ht es' clock') (fun j hj => by rw [c2] at hj; omega)
  have fin : ∀ (ents' : Array MapEntry) (clock' : Nat), (Instr.mapUpdate t (a.eval m') (a.eval k') (a.eval x')).run P w = .ok () { w with heap := w.heap.setIfInBounds (G.loc r) (.map ents' clock') } → ents'.size = es'.length →
      (∀ (i : Nat) k v, es'[i]? = some (k, v) → ∃ en, ents'[i]? = some en ∧ VR (G.im w) (locOf G.loc s.st) k en.key ∧ VR (G.im w) (locOf G.loc s.st) v en.val) → OpGood P oper N G s a w .undef s.fr s.bx (s.st.set r (.mp es')) := by
    intro ents' clock' hrun hsz hrel
    obtain ⟨hS', _⟩ := hS.writeObj (on := .mp es') hst rfl (ht ents' clock') c1 c2 ⟨c1, c2, ents', clock', (ht _ _).here, hsz, fun i k v hi => by
      obtain ⟨en, q1, q2, q3⟩ := hrel i k v hi
      exact ⟨en, q1, q2.mono (hI _ _) (Loc.le_refl _), q3.mono (hI _ _) (Loc.le_refl _)⟩⟩
    refine good_write (s1 := { s with st := s.st.set r _ }) hd ?_ hS' (ext_turned (ht _ _) c1 (by simp) (hI _ _) (locOf_le_set G.loc s.st hst rfl))
    rw [hrun0]
    simp only [Sem.run_bind, hrun, Result.andThen_ok, Sem.run_pure]
  refine ⟨rfl, rfl, ?_⟩
  cases rr with
  | none =>
    have hnew := mapSet_new es es' hes hrr
    subst hnew
    refine fin (ents.push { key := a.eval k', val := a.eval x', born := clock }) (clock + 1) ?_ (by simp [c4]) ?_
    · simp only at hf
      simp only [e1, Instr.mapUpdate, Sem.run_bind, run_underlying hu, Result.andThen_ok, hget, hck, hf, hset]
    · intro i k0 v0 hi
      rcases Nat.lt_or_ge i es.length with hlt | hge
      · rw [List.getElem?_append_left hlt] at hi
        obtain ⟨en, q1, q2, q3⟩ := c5 i k0 v0 hi
        exact ⟨en, by rw [Array.getElem?_push, if_neg (by omega)]; exact q1, q2, q3⟩
      · have : i = es.length := by
          have := (List.getElem?_eq_some_iff.1 hi).1
          simp at this; omega
        subst this
        simp at hi
        obtain ⟨rfl, rfl⟩ := hi
        exact ⟨_, by rw [Array.getElem?_push, if_pos c4.symm], hkey, hval⟩
  | some u =>
    obtain ⟨j, k1, f1, f2, f3, f4⟩ := mapSet_found es es' u hes hrr
    have hk' : ∀ dsc, P.underlying kt = some dsc → ((ks = false ∧ ∃ k, dsc = .int k) ∨ (ks = true ∧ dsc = .string)) := by
      intro dsc hd
      rcases hkt with ⟨a, k, e⟩ | ⟨a, e⟩
      · rw [e] at hd; cases hd; exact .inl ⟨a, k, rfl⟩
      · rw [e] at hd; cases hd; exact .inr ⟨a, rfl⟩
    obtain ⟨dsc, hdsc⟩ : ∃ dsc, P.underlying kt = some dsc := by
      rcases hkt with ⟨_, k, e⟩ | ⟨_, e⟩ <;> exact ⟨_, e⟩
    obtain ⟨mv, hfn⟩ := mapFind_first (hk' dsc hdsc) hkey j es ents.toList 0 k1 u (by simpa using c4) (fun j k0 v0 hj => by
      obtain ⟨en, m1, m2⟩ := c5 j k0 v0 hj
      exact ⟨en, by simpa using m1, m2⟩) f1 f2 f3
    rw [Nat.zero_add] at hfn
    have hfk : (Instr.findKey kt (a.eval k') ents.toList).run P w = .ok (some (j, mv)) w := by simp [Instr.findKey, run_underlying hdsc, hfn]
    obtain ⟨en, q1, q2, q3⟩ := c5 j k1 u f1
    obtain ⟨sb, _, hkk⟩ := sameBits_key hkey q2 f2 10000
    have hjlt : j < ents.size := (Array.getElem?_eq_some_iff.1 q1).1
    have hkts : (Instr.keyThatStays (((ents[j]?).map (·.key)).getD (a.eval k')) (a.eval k')).run P w = .ok (a.eval k') w := by
      rw [q1]
      simp only [Option.map_some, Option.getD_some, Instr.keyThatStays]
      rw [if_pos sb]
      rfl
    subst f4
    refine fin (ents.modify j fun e => { e with key := a.eval k', val := a.eval x' }) clock ?_ (by simp [c4]) ?_
    · simp only [e1, Instr.mapUpdate, Sem.run_bind, run_underlying hu, Result.andThen_ok, hget, hck, hfk, hkts, hset]
    · intro i k0 v0 hi
      by_cases hij : j = i
      · subst hij
        rw [List.getElem?_set_self (by rw [← c4]; exact hjlt)] at hi
        cases hi
        exact ⟨{ en with key := a.eval k', val := a.eval x' }, by simp [Array.getElem?_modify, q1], hkey, hval⟩
      · rw [List.getElem?_set_ne hij] at hi
        obtain ⟨en', p1, p2, p3⟩ := c5 i k0 v0 hi
        exact ⟨en', by simp [Array.getElem?_modify, hij, p1], p2, p3⟩

/-! #### rows that grow -/

theorem vr_row {I : Im} {L : Loc} {k : SK} {sz : Nat} {l : List PV} {mv : Value} (hpos : 0 < sz) (h : VR I L (.slice k sz l) mv) : ∃ ad cap, mv = .slice ad l.length cap ∧ l.length ≤ cap ∧
    ((l = []) ∨ ∃ b o, ad = some ⟨b, o, none⟩ ∧ ∃ news : List Value, news.length = l.length * sz ∧ (∀ (q : Nat) x, news[q]? = some x → I b (o + q) = some x) ∧ RowR I L sz l news.toArray) := by
  cases h with
  | slice0 => exact ⟨_, _, rfl, by simp, .inl rfl⟩
  | slice hk hf hc f hz hi hv =>
    rename_i b o cap
    refine ⟨_, _, rfl, hc, .inr ⟨b, o, rfl, (List.range (l.length * sz)).map (fun q => f (q / sz) (q % sz)), by simp, ?_, by simp, hz, ?_, ?_⟩⟩
    · intro q x hq
      simp only [List.getElem?_map, Option.map_eq_some_iff] at hq
      obtain ⟨q', h1, h2⟩ := hq
      obtain ⟨h3, h4⟩ := List.getElem?_eq_some_iff.1 h1
      simp at h3 h4
      subst h4
      have hlt : q / sz < l.length := (Nat.div_lt_iff_lt_mul hpos).2 h3
      have e1 : l[q / sz]? = some l[q / sz] := by simp [hlt]
      have hm : q % sz < (cellsOf l[q / sz]).length := by rw [(hz _ _ e1).1]; exact Nat.mod_lt _ hpos
      have := (hi (q / sz) _ (q % sz) _ e1 (List.getElem?_eq_getElem hm)).1
      have e2 : o + q / sz * sz + q % sz = o + q := by rw [Nat.add_assoc, Nat.mul_comm, Nat.div_add_mod]
      rw [e2, h2] at this
      exact this
    · intro q x hq
      simp only [List.getElem?_toArray, List.getElem?_map, Option.map_eq_some_iff] at hq
      obtain ⟨q', h1, h2⟩ := hq
      obtain ⟨h3, h4⟩ := List.getElem?_eq_some_iff.1 h1
      simp at h3 h4
      subst h4
      have hlt : q / sz < l.length := (Nat.div_lt_iff_lt_mul hpos).2 h3
      have e1 : l[q / sz]? = some l[q / sz] := by simp [hlt]
      have hm : q % sz < (cellsOf l[q / sz]).length := by rw [(hz _ _ e1).1]; exact Nat.mod_lt _ hpos
      have := (hi (q / sz) _ (q % sz) _ e1 (List.getElem?_eq_getElem hm)).2
      rw [h2] at this; exact this
    · intro i e j c x he hc' hx
      have hj : j < sz := by rw [← (hz i e he).1]; exact (List.getElem?_eq_some_iff.1 hc').1
      simp only [List.getElem?_toArray, List.getElem?_map, Option.map_eq_some_iff] at hx
      obtain ⟨q', h1, h2⟩ := hx
      obtain ⟨h3, h4⟩ := List.getElem?_eq_some_iff.1 h1
      simp at h4
      subst h4
      have d1 : (i * sz + j) / sz = i := by rw [Nat.add_comm, Nat.add_mul_div_right _ _ hpos, Nat.div_eq_of_lt hj, Nat.zero_add]
      have d2 : (i * sz + j) % sz = j := by rw [Nat.add_comm, Nat.add_mul_mod_self_right, Nat.mod_eq_of_lt hj]
      rw [d1, d2] at h2
      rw [← h2]
      exact hv i e j c he hc'

theorem stripA_cells (p : PV) : cellsOf (stripA p) = (cellsOf p).map strip := by
  cases p with
  | agg cs => rfl
  | slice k _ _ => cases k <;> rfl
  | _ => rfl

theorem stripA_var {p : PV} (h : isVar p = true) : isVar (stripA p) = true := by
  cases p with
  | slice k _ _ => cases k <;> rfl
  | _ => first | rfl | exact h

/-- What stands behind an append's second operand. -/
theorem src_run {y : Operand} {g : Arg} {sz : Nat} {l' : List PV} (hS : Sim G N s a w) (hy : okArg y g = true) (hpos : 0 < sz) (h : srcElems s.st sz (g.val s.fr) = some l') :
    (Builtin.lenOf (a.eval y)).run P w = .ok l'.length w ∧ ∃ news : List Value, news.length = l'.length * sz ∧ RowR (G.im w) (locOf G.loc s.st) sz l' news.toArray ∧
      ∀ W : World, (∀ b, b < w.heap.size → W.heap[b]? = w.heap[b]?) → (Builtin.firstCells sz l'.length (a.eval y)).run P W = .ok news.toArray W := by
  have same : ∀ {W : World}, (∀ b, b < w.heap.size → W.heap[b]? = w.heap[b]?) → ∀ {bk o : Nat} {x : Value}, w.cell? ⟨bk, o, none⟩ = some x → W.cell? ⟨bk, o, none⟩ = some x := by
    intro W hW bk o x hx
    have := World.block_lt_of_cell? w _ hx
    rw [World.cell?_of_block (a := ⟨bk, o, none⟩) (hW bk this)]
    exact hx
  have emptyRow : RowR (G.im w) (locOf G.loc s.st) sz [] (([] : List Value).toArray) := ⟨by simp, by simp, by simp, by simp⟩
  unfold srcElems at h
  split at h
  · rename_i k sz' l hv
    split at h
    case isFalse => cases h
    rename_i hz
    subst hz
    cases h
    obtain ⟨κ, hk⟩ := arg_tr hS hy
    rw [hv] at hk
    have hp : VR (G.im w) (locOf G.loc s.st) (.slice (if k = .own then .plain else k) sz l') (a.eval y) := by
      cases k with
      | own => simpa using strip_own_vr hk
      | plain => exact hk
      | fit => exact hk
    obtain ⟨ad, cap, e, hcap, hcase⟩ := vr_row hpos hp
    refine ⟨by rw [e]; simp [Builtin.lenOf], ?_⟩
    rcases hcase with rfl | ⟨bk, o, rfl, news, h1, h2, h3⟩
    · refine ⟨[], by simp, emptyRow, fun W _ => ?_⟩
      rw [e]
      cases ad <;> simp [Builtin.firstCells, loadCells, loadCellsFrom]
    · refine ⟨news, h1, h3, fun W hW => ?_⟩
      rw [e]
      exact run_firstCells_some W sz l'.length ⟨bk, o, none⟩ l'.length cap news h1 (fun j x hj => by rw [addr_add]; exact same hW (im_cell (h2 j x hj)))
  · rename_i l off ln sz' hv
    split at h
    case isFalse => cases h
    rename_i hz
    subst hz
    split at h
    case h_2 => cases h
    rename_i s0 es hst
    split at h
    case isFalse => cases h
    rename_i hc
    simp only [Bool.and_eq_true, beq_iff_eq, decide_eq_true_eq] at hc
    obtain ⟨rfl, hle⟩ := hc
    cases h
    have hr := arg_at hS hy hv (by simp) (by simp)
    obtain ⟨c1, c2, arr, e, c3, c4, c5⟩ := hS.store.obj l _ hst
    have hlen : (((es.drop off).take ln).map stripA).length = ln := by simp; omega
    have hev : ∃ ad cap, a.eval y = .slice ad ln cap ∧ (ln ≠ 0 → ad = some ⟨G.loc l, off * s0, none⟩) := by
      generalize a.eval y = m at hr
      cases hr with
      | mslice hL hc' => simp [locOf, hst, Obj.sz] at hL; obtain ⟨rfl⟩ := hL; exact ⟨_, _, rfl, fun _ => rfl⟩
      | mslice0 ad hL => exact ⟨_, _, rfl, fun hh => absurd rfl hh⟩
    obtain ⟨ad, cap, e1, e2⟩ := hev
    refine ⟨by rw [e1, hlen]; simp [Builtin.lenOf], ?_⟩
    rw [hlen]
    by_cases h0 : ln = 0
    · subst h0
      refine ⟨[], by simp, by simpa using emptyRow, fun W _ => ?_⟩
      rw [e1]
      cases ad <;> simp [Builtin.firstCells, loadCells, loadCellsFrom]
    · have hb : off * s0 + ln * s0 ≤ arr.size := by
        rw [c4, ← Nat.add_mul]; exact Nat.mul_le_mul_right _ hle
      have hget : ∀ (q : Nat) x, (arr.toList.drop (off * s0) |>.take (ln * s0))[q]? = some x → q < ln * s0 ∧ arr[off * s0 + q]? = some x := by
        intro q x hq
        rw [List.getElem?_take] at hq
        split at hq
        · rename_i hlt; rw [List.getElem?_drop] at hq; exact ⟨hlt, by simpa using hq⟩
        · cases hq
      have hlen2 : ((arr.toList.drop (off * s0)).take (ln * s0)).length = ln * s0 := by simp; omega
      refine ⟨(arr.toList.drop (off * s0)).take (ln * s0), hlen2, ⟨by rw [List.size_toArray, hlen2, hlen], ?_, ?_, ?_⟩, fun W hW => ?_⟩
      · intro i p hp
        simp only [List.getElem?_map, List.getElem?_take, List.getElem?_drop, Option.map_eq_some_iff] at hp
        obtain ⟨p0, hp0, rfl⟩ := hp
        split at hp0
        · obtain ⟨q1, q2, q3⟩ := c5 _ p0 hp0
          exact ⟨by rw [stripA_cells, List.length_map, q1], stripA_var q2⟩
        · cases hp0
      · intro q x hq
        obtain ⟨h1, h2⟩ := hget q x (by simpa using hq)
        have hlt : off * s0 + q < arr.size := (Array.getElem?_eq_some_iff.1 h2).1
        have hdiv : (off * s0 + q) / s0 < es.length := (Nat.div_lt_iff_lt_mul hpos).2 (by rw [← c4]; exact hlt)
        have e3 : es[(off * s0 + q) / s0]? = some es[(off * s0 + q) / s0] := by simp [hdiv]
        obtain ⟨q1, q2, q3⟩ := c5 _ _ e3
        have hm : (off * s0 + q) % s0 < (cellsOf es[(off * s0 + q) / s0]).length := by rw [q1]; exact Nat.mod_lt _ hpos
        obtain ⟨mv, m1, m2⟩ := q3 _ _ (List.getElem?_eq_getElem hm)
        rw [Nat.mul_comm, Nat.div_add_mod, h2] at m1
        cases m1
        exact m2.1
      · intro i p j c x hp hc' hx
        simp only [List.getElem?_map, List.getElem?_take, List.getElem?_drop, Option.map_eq_some_iff] at hp
        obtain ⟨p0, hp0, rfl⟩ := hp
        split at hp0
        case isFalse => cases hp0
        rename_i hi
        obtain ⟨q1, q2, q3⟩ := c5 _ p0 hp0
        obtain ⟨h1, h2⟩ := hget _ x (by simpa using hx)
        rw [stripA_cells, List.getElem?_map, Option.map_eq_some_iff] at hc'
        obtain ⟨c0, hc0, rfl⟩ := hc'
        obtain ⟨mv, m1, m2⟩ := q3 j c0 hc0
        rw [show (off + i) * s0 + j = off * s0 + (i * s0 + j) from by rw [Nat.add_mul]; omega, h2] at m1
        cases m1
        exact m2.strip
      · rw [e1, e2 h0]
        have := run_firstCells_some (P := P) W s0 ln ⟨G.loc l, off * s0, none⟩ ln cap ((arr.toList.drop (off * s0)).take (ln * s0)) hlen2 (fun j x hj => by
          rw [addr_add]
          exact same hW (by rw [cell_row c3]; exact (hget j x hj).2))
        exact this
  · rename_i str hv
    split at h
    case isFalse => cases h
    rename_i hz
    subst hz
    cases h
    have e := arg_str hS hy hv
    refine ⟨by rw [e]; simp [Builtin.lenOf, ba_size], str.map (fun b => Value.int .u8 b.toNat), by simp, ⟨by simp, ?_, ?_, ?_⟩, fun W _ => ?_⟩
    · intro i p hp
      simp only [List.getElem?_map, Option.map_eq_some_iff] at hp
      obtain ⟨c, _, rfl⟩ := hp
      exact ⟨rfl, rfl⟩
    · intro j x hx
      simp only [List.getElem?_toArray, List.getElem?_map, Option.map_eq_some_iff] at hx
      obtain ⟨c, _, rfl⟩ := hx
      rfl
    · intro i p j c x hp hc hx
      simp only [List.getElem?_map, Option.map_eq_some_iff] at hp
      obtain ⟨c0, hc0, rfl⟩ := hp
      cases j with
      | succ j => simp [cellsOf] at hc
      | zero =>
        simp [cellsOf] at hc
        subst hc
        simp only [Nat.mul_one, Nat.add_zero, List.getElem?_toArray, List.getElem?_map, hc0, Option.map_some] at hx
        cases hx
        exact .int _ _
    · rw [e]
      simp only [Builtin.firstCells, Sem.run_pure, List.length_map]
      congr 1
      apply Array.ext'
      simp [ByteArray.data_extract]
  · cases h

end

end PE
