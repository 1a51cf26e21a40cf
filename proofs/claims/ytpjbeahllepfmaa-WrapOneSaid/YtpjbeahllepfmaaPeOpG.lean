/-
  Operations that write.
-/
import Derived.Test.YtpjbeahllepfmaaPeOpF
import Derived.Laws.CopyRow
set_option linter.unusedVariables false
set_option linter.unusedSimpArgs false
namespace PE
open Go

theorem splice_get {α : Type} (l vs : List α) (o : Nat) (h : o + vs.length ≤ l.length) (i : Nat) : (l.take o ++ vs ++ l.drop (o + vs.length))[i]? = if o ≤ i ∧ i < o + vs.length then vs[i - o]? else l[i]? := by
  by_cases h1 : i < o
  · rw [if_neg (by omega), List.append_assoc, List.getElem?_append_left (by simp; omega), List.getElem?_take, if_pos h1]
  · by_cases h2 : i < o + vs.length
    · rw [if_pos ⟨by omega, h2⟩, List.getElem?_append_left (by simp; omega), List.getElem?_append_right (by simp; omega)]
      simp [show min o l.length = o from by omega]
    · rw [if_neg (by omega), List.getElem?_append_right (by simp; omega), List.getElem?_drop]
      congr 1
      simp [show min o l.length = o from by omega]
      omega

def spliceA (arr : Array Value) (o : Nat) (vs : List Value) : Array Value := (arr.toList.take o ++ vs ++ arr.toList.drop (o + vs.length)).toArray

theorem spliceA_get {arr : Array Value} {o : Nat} {vs : List Value} (h : o + vs.length ≤ arr.size) (i : Nat) : (spliceA arr o vs)[i]? = if o ≤ i ∧ i < o + vs.length then vs[i - o]? else arr[i]? := by
  unfold spliceA
  have := splice_get arr.toList vs o (by simpa using h) i
  simpa using this

theorem spliceA_size {arr : Array Value} {o : Nat} {vs : List Value} (h : o + vs.length ≤ arr.size) : (spliceA arr o vs).size = arr.size := by
  simp [spliceA]; omega

section
variable {P : Program} {G G' : Gh} {N : Nat} {s : St} {a : Act} {w w' : World} {oper : Oper} {b b' : Bx} {st' : Store} {v : PV}

/-- A world in which one block is another. -/
structure Turned (w w' : World) (b0 : Nat) (o : Go.Obj) : Prop where
  here : w'.heap[b0]? = some o
  other : ∀ b, b ≠ b0 → w'.heap[b]? = w.heap[b]?
  size : w'.heap.size = w.heap.size
  os : w'.os = w.os
  output : w'.output = w.output
  frozen : ∀ x, w'.frozen? x = w.frozen? x

theorem turned_setRow {w : World} {b0 : Nat} {cur : Array Value} {e : Nat} {fr : Nat × Nat} (h : w.heap[b0]? = some (.cells cur e fr)) (cs : Array Value) : Turned w (w.setRow b0 cs) b0 (.cells cs e fr) :=
  ⟨setRow_heap w b0 cur cs e fr h, fun b hb => setRow_other w b0 b cs hb, size_setRow w b0 cs, rfl, rfl, fun x => by
    by_cases hx : x.block = b0
    · simp [World.frozen?, hx, h, setRow_heap w b0 cur cs e fr h]
    · simp [World.frozen?, setRow_other w b0 x.block cs hx]⟩

theorem keeps_turned {b0 : Nat} {o : Go.Obj} {κ0 κ : Cl} (ht : Turned w w' b0 o) (h0 : G.cl b0 = some κ0) (hne : κ ≠ κ0) : Keeps G w G w' κ := by
  intro bk hb
  refine ⟨hb, rfl, ht.other bk ?_⟩
  rintro rfl
  rw [h0] at hb; cases hb; exact hne rfl

theorem im_turned {b0 : Nat} {o : Go.Obj} (ht : Turned w w' b0 o) (h : ∀ j, j < G.fz b0 → w'.cell? ⟨b0, j, none⟩ = w.cell? ⟨b0, j, none⟩) : (G.im w).le (G.im w') := by
  intro bk of x hx
  unfold Gh.im at hx ⊢
  split at hx
  · rename_i hlt
    rw [if_pos hlt]
    by_cases hb : bk = b0
    · subst hb; rw [h of hlt]; exact hx
    · rw [World.cell?_of_block (a := ⟨bk, of, none⟩) (ht.other bk hb)]; exact hx
  · cases hx

theorem ext_turned {b0 : Nat} {o : Go.Obj} {κ0 : Cl} (ht : Turned w w' b0 o) (h0 : G.cl b0 = some κ0) (hp : κ0 ≠ .prot) (hI : (G.im w).le (G.im w')) {st st' : Store} (hL : (locOf G.loc st).le (locOf G.loc st')) : Ext G st w G st' w' :=
  ⟨hI, hL, fun bk hb => keeps_turned ht h0 (fun e => hp e.symm) bk hb, by rw [ht.size]; exact Nat.le_refl _, ht.os, ht.output, ht.frozen⟩

theorem fresh_turned {b0 : Nat} {o : Go.Obj} (hS : SimS G s.st w) (ht : Turned w w' b0 o) : ∀ b, w'.heap.size ≤ b → G.fz b = 0 ∧ G.cl b = none := by
  intro bk hb
  rw [ht.size] at hb
  exact hS.fresh bk hb

/-- A variable of one's own is written. -/
theorem Sim.writeBox (hS : Sim G N s a w) {k : Nat} {o : Go.Obj} {bn : Bx} (ht : Turned w w' (G.box k) o) (h0 : G.cl (G.box k) = some (.box k)) (hf : G.fz (G.box k) = 0)
    (hbn : BxR G w' (locOf G.loc s.st) k bn) (hne : bn ≠ .no) : Sim G N { s with bx := upd s.bx k bn } a w' ∧ (G.im w).le (G.im w') := by
  have hI : (G.im w).le (G.im w') := im_turned ht (fun j hj => by rw [hf] at hj; omega)
  refine ⟨⟨hS.defers, hS.size, ?_, hS.hi, ?_, ?_, ?_⟩, hI⟩
  · exact fun t h => (hS.tmp t h).mono hI (Loc.le_refl _) (keeps_turned ht h0 (by simp)) (fun _ _ _ => rfl)
  · intro t k' off h
    simp only [upd]
    split
    · exact hne
    · exact hS.lp t k' off h
  · intro k'
    simp only [upd]
    split
    · rename_i e; subst e; exact hbn
    · rename_i e
      exact (hS.box k').mono hI (Loc.le_refl _) rfl (keeps_turned ht h0 (by simp [e])) (fun _ => keeps_turned ht h0 (by simp))
  · exact ⟨fun l ob hl => (hS.store.obj l ob hl).mono hI (Loc.le_refl _) rfl (keeps_turned ht h0 (by simp)) (fun _ _ => keeps_turned ht h0 (by simp)), fresh_turned hS.store ht⟩

theorem locOf_set (loc : Nat → Nat) (st : Store) {l : Nat} {o o' : Obj} (h : st[l]? = some o) (hs : o'.sz = o.sz) : locOf loc (st.set l o') = locOf loc st := by
  funext l'
  unfold locOf
  by_cases e : l = l'
  · subst e
    rw [List.getElem?_set_self (List.getElem?_eq_some_iff.1 h).1, h]
    simp [hs]
  · rw [List.getElem?_set_ne e]

theorem locOf_le_set (loc : Nat → Nat) (st : Store) {l : Nat} {o o' : Obj} (h : st[l]? = some o) (hs : o'.sz = o.sz) : (locOf loc st).le (locOf loc (st.set l o')) := by
  rw [locOf_set loc st h hs]; exact Loc.le_refl _

/-- An object of the store is written. -/
theorem Sim.writeObj (hS : Sim G N s a w) {l : Nat} {ob on : Obj} {o : Go.Obj} (hl : s.st[l]? = some ob) (hs : on.sz = ob.sz) (ht : Turned w w' (G.loc l) o) (h0 : G.cl (G.loc l) = some (.loc l)) (hf : G.fz (G.loc l) = 0)
    (hon : ObjR G w' (locOf G.loc s.st) l on) : Sim G N { s with st := s.st.set l on } a w' ∧ (G.im w).le (G.im w') := by
  have hI : (G.im w).le (G.im w') := im_turned ht (fun j hj => by rw [hf] at hj; omega)
  have hL := locOf_set G.loc s.st hl hs
  refine ⟨⟨hS.defers, hS.size, ?_, hS.hi, hS.lp, ?_, ?_⟩, hI⟩
  · intro t h
    show TR _ _ (locOf G.loc (s.st.set l on)) _ _ _
    rw [hL]
    exact (hS.tmp t h).mono hI (Loc.le_refl _) (keeps_turned ht h0 (by simp)) (fun _ _ _ => rfl)
  · intro k'
    show BxR _ _ (locOf G.loc (s.st.set l on)) _ _
    rw [hL]
    exact (hS.box k').mono hI (Loc.le_refl _) rfl (keeps_turned ht h0 (by simp)) (fun _ => keeps_turned ht h0 (by simp))
  · refine ⟨fun l' ob' hl' => ?_, fresh_turned hS.store ht⟩
    show ObjR _ _ (locOf G.loc (s.st.set l on)) _ _
    rw [hL]
    simp only at hl'
    by_cases e : l = l'
    · subst e
      rw [List.getElem?_set_self (List.getElem?_eq_some_iff.1 hl).1] at hl'
      cases hl'
      exact hon
    · rw [List.getElem?_set_ne e] at hl'
      exact (hS.store.obj l' ob' hl').mono hI (Loc.le_refl _) rfl (keeps_turned ht h0 (by simp; exact fun e' => e e'.symm)) (fun _ _ => keeps_turned ht h0 (by simp))

/-- What a writing comes to. -/
theorem good_write {oper : Oper} (hdn : ∀ t, oper.dst = some t → t < N) {s1 : St} (hrun : (execOp a.eval oper).run P w = .ok .skip w') (hS' : Sim G' N s1 a w') (hE : Ext G s.st w G' s1.st w') : OpGood P oper N G s a w .undef s1.fr s1.bx s1.st :=
  ⟨_, Go.undef, w', G', hrun, .inr ⟨rfl, rfl⟩, hS'.put hdn (fun t _ => VR.undef _) (by simp), hE⟩

theorem run_storeVar {t sz : Nat} (hsz : szT P t sz = true) {mv : Value} (hm : mv.cells.size = sz) (ho : ∀ (j : Nat) x, mv.cells[j]? = some x → x.oneCell' = true) {w : World} {g o : Nat} {cur : Array Value} {e : Nat} (hg : w.heap[g]? = some (.cells cur e (0, 0))) (hle : o + sz ≤ cur.size) :
    (storeVar t ⟨g, o, none⟩ mv).run P w = .ok () (w.setRow g (spliceA cur o mv.cells.toList)) := by
  have hlen : mv.cells.toList.length = sz := by simpa using hm
  have := run_storeCells_at P g o e mv.cells.toList 0 cur w hg (by rw [hlen]; simpa using hle) (fun x hx => by
    obtain ⟨j, hj⟩ := List.mem_iff_getElem?.1 hx
    exact ho j x (by simpa using hj))
  simp only [Nat.add_zero] at this
  unfold storeVar
  simp only [Sem.run_bind, run_sizeOf hsz, Result.andThen_ok, hm, ne_eq, not_true_eq_false, if_false, Sem.run_pure]
  exact this

theorem cr_keep {κ : Cl} {L : Loc} (hI : (G.im w).le (G.im w')) {b0 : Nat} {o : Go.Obj} {κ0 : Cl} (ht : Turned w w' b0 o) (h0 : G.cl b0 = some κ0) (hne : κ ≠ κ0) {c : PV} {mv : Value} (h : CR G w L κ c mv) : CR G w' L κ c mv :=
  h.mono hI (Loc.le_refl _) (keeps_turned ht h0 hne)

/-- Cells with some turned. -/
theorem cells_splice {κ : Nat → Cl} {L : Loc} {κ0 : Cl} {b0 : Nat} {o : Go.Obj} (hI : (G.im w).le (G.im w')) (ht : Turned w w' b0 o) (h0 : G.cl b0 = some κ0) (hne : ∀ j, κ j ≠ κ0)
    {cs vs : List PV} {arr : Array Value} {base off : Nat} {xs : List Value} (hcs : ∀ (j : Nat) c, cs[j]? = some c → ∃ mv, arr[base + j]? = some mv ∧ CR G w L (κ j) c mv)
    (hle : off + vs.length ≤ cs.length) (hsz : base + off + xs.length ≤ arr.size) (hlen : xs.length = vs.length)
    (hvs : ∀ (j : Nat) c x, vs[j]? = some c → xs[j]? = some x → CR G w' L (κ (off + j)) c x) :
    ∀ (j : Nat) c, (setAt cs off vs)[j]? = some c → ∃ mv, (spliceA arr (base + off) xs)[base + j]? = some mv ∧ CR G w' L (κ j) c mv := by
  intro j c hc
  rw [setAt_get hle] at hc
  rw [spliceA_get hsz]
  split at hc
  · rename_i hj
    rw [if_pos ⟨by omega, by omega⟩]
    have hlt : j - off < xs.length := by omega
    refine ⟨xs[j - off], by rw [show base + j - (base + off) = j - off from by omega]; simp [hlt], ?_⟩
    have := hvs (j - off) c xs[j - off] hc (by simp [hlt])
    rwa [show off + (j - off) = j from by omega] at this
  · rename_i hj
    rw [if_neg (by omega)]
    obtain ⟨mv, m1, m2⟩ := hcs j c hc
    exact ⟨mv, m1, cr_keep hI ht h0 (hne j) m2⟩

theorem op_store {wh : Where} {sz : Nat} {x y : Arg} (hS : Sim G N s a w) (hd : ∀ t, oper.dst = some t → t < N) (hc : checkOp P oper.op (.store wh sz x y) = true)
    (h : (IOp.store wh sz x y).sem s.fr (getBx s.bx wh.box?) s.st = some (v, b', st')) : v = .undef ∧ OpGood P oper N G s a w v s.fr (setBx s.bx wh.box? b') st' := by
  simp only [checkOp] at hc
  split at hc
  case h_2 => cases hc
  rename_i t ad vl ho
  simp only [Bool.and_eq_true] at hc
  obtain ⟨⟨h1, h2⟩, h3⟩ := hc
  simp only [IOp.sem] at h
  split at h
  case isFalse => cases h
  rename_i hvar
  simp only [Bool.and_eq_true, beq_iff_eq] at hvar
  obtain ⟨hvar, hsz⟩ := hvar
  have hvr := arg_vr hS h2 (not_lptr_of_isVar hvar)
  obtain ⟨c1, c2, c3⟩ := vr_cells hvar hvr
  have hms : (a.eval vl).cells.size = sz := by rw [c1, hsz]
  have hlen : (a.eval vl).cells.toList.length = sz := by simpa using hms
  split at h
  · rename_i k k' off hv
    split at h
    case isFalse => cases h
    rename_i hk
    subst hk
    split at h
    case h_2 => cases h
    rename_i cs hb
    split at h
    case isFalse => cases h
    rename_i hle
    cases h
    simp only [getBx, Where.box?] at hb
    have hbx := hS.box k
    rw [hb] at hbx
    obtain ⟨e1, e2, arr, e, e3, e4, e5⟩ := hbx
    have hrun := run_storeVar (P := P) h3 hms c2 e3 (o := off) (by rw [e4]; exact hle)
    have ht := turned_setRow e3 (spliceA arr off (a.eval vl).cells.toList)
    have hI : (G.im w).le (G.im (w.setRow (G.box k) (spliceA arr off (a.eval vl).cells.toList))) := im_turned ht (fun j hj => by rw [e2] at hj; omega)
    have hcells := cells_splice (G := G) (κ := fun j => .ownB k j) (base := 0) (off := off) (xs := (a.eval vl).cells.toList) (vs := cellsOf (strip (y.val s.fr))) hI ht e1 (by simp)
      (fun j c hj => by simpa using e5 j c hj) (by rw [hsz]; exact hle) (by rw [e4, hlen]; omega) (by rw [hlen, hsz])
      (fun j c x hc hx => ((c3 j c x hc (by simpa using hx)).mono hI (Loc.le_refl _)).cr (c2 j x (by simpa using hx)))
    simp only [Nat.zero_add] at hcells
    obtain ⟨hS', _⟩ := hS.writeBox (bn := .cells (setAt cs off (cellsOf (strip (y.val s.fr))))) ht e1 e2 ⟨e1, e2, _, e, ht.here, by rw [spliceA_size (by rw [e4, hlen]; exact hle), setAt_length (by rw [hsz]; exact hle), e4], hcells⟩ (by simp)
    refine ⟨rfl, good_write (s1 := { s with bx := upd s.bx k _ }) hd ?_ hS' (ext_turned ht e1 (by simp) hI (Loc.le_refl _))⟩
    simp [execOp, ho, Instr.storeAt, arg_lptr hS h1 hv, Instr.sureAddr, hrun]
  · rename_i l i off hv
    split at h
    case h_2 => cases h
    rename_i sz' es hst
    split at h
    case h_2 => cases h
    rename_i e0 he0
    split at h
    case isFalse => cases h
    rename_i hle
    obtain ⟨hle, hkind⟩ := hle
    cases h
    have hptr := arg_at hS h1 hv (by simp) (by simp)
    obtain ⟨e1, e2, arr, e, e3, e4, e5⟩ := hS.store.obj l _ hst
    obtain ⟨d1, d2, d3⟩ := e5 i e0 he0
    have hloc : locOf G.loc s.st l = some (G.loc l, sz') := by simp [locOf, hst, Obj.sz]
    have heval : a.eval ad = .pointer (some ⟨G.loc l, i * sz' + off, none⟩) := by
      generalize a.eval ad = m at hptr
      cases hptr with
      | ptr hh => rw [hloc] at hh; cases hh; rfl
    have hi : i < es.length := (List.getElem?_eq_some_iff.1 he0).1
    have hbound : (i + 1) * sz' ≤ es.length * sz' := Nat.mul_le_mul_right _ hi
    rw [Nat.add_mul, Nat.one_mul] at hbound
    have hle2 : i * sz' + off + sz ≤ arr.size := by rw [e4]; rw [d1] at hle; omega
    have hrun := run_storeVar (P := P) h3 hms c2 e3 (o := i * sz' + off) hle2
    have ht := turned_setRow e3 (spliceA arr (i * sz' + off) (a.eval vl).cells.toList)
    have hI : (G.im w).le (G.im (w.setRow (G.loc l) (spliceA arr (i * sz' + off) (a.eval vl).cells.toList))) := im_turned ht (fun j hj => by rw [e2] at hj; omega)
    have hcells := cells_splice (G := G) (κ := fun j => .ownS l i j) (base := i * sz') (off := off) (xs := (a.eval vl).cells.toList) (vs := cellsOf (strip (y.val s.fr))) hI ht e1 (by simp)
      (fun j c hj => d3 j c hj) (by rw [hsz]; exact hle) (by rw [hlen]; exact hle2) (by rw [hlen, hsz])
      (fun j c x hc hx => ((c3 j c x hc (by simpa using hx)).mono hI (Loc.le_refl _)).cr (c2 j x (by simpa using hx)))
    have hreb : cellsOf (rebuild e0 (setAt (cellsOf e0) off (cellsOf (strip (y.val s.fr))))) = setAt (cellsOf e0) off (cellsOf (strip (y.val s.fr))) ∧ isVar (rebuild e0 (setAt (cellsOf e0) off (cellsOf (strip (y.val s.fr))))) = true := by
      cases e0 with
      | agg cs0 => exact ⟨rfl, rfl⟩
      | _ =>
        simp only [isAggV, Bool.false_or] at hkind
        have hcv : cellsOf (strip (y.val s.fr)) = [strip (y.val s.fr)] := by
          cases hq : strip (y.val s.fr) <;> first | rfl | (rw [hq] at hkind; cases hkind)
        rw [hcv] at hsz ⊢
        simp only [cellsOf, List.length_cons, List.length_nil] at hle hsz
        have h0 : off = 0 := by omega
        subst h0
        exact ⟨hcv, hvar⟩
    obtain ⟨hS', _⟩ := hS.writeObj (on := .arr sz' (es.set i (rebuild e0 (setAt (cellsOf e0) off (cellsOf (strip (y.val s.fr))))))) hst rfl ht e1 e2 (by
      refine ⟨e1, e2, _, e, ht.here, by rw [spliceA_size (by rw [hlen]; exact hle2), e4]; simp, ?_⟩
      intro i' p hp
      by_cases hii : i = i'
      · subst hii
        rw [List.getElem?_set_self hi] at hp
        cases hp
        rw [hreb.1]
        exact ⟨by rw [setAt_length (by rw [hsz]; exact hle), d1], hreb.2, hcells⟩
      · rw [List.getElem?_set_ne hii] at hp
        obtain ⟨q1, q2, q3⟩ := e5 i' p hp
        refine ⟨q1, q2, fun j c hj => ?_⟩
        obtain ⟨mv, m1, m2⟩ := q3 j c hj
        refine ⟨mv, ?_, cr_keep hI ht e1 (by simp) m2⟩
        rw [spliceA_get (by rw [hlen]; exact hle2), if_neg, m1]
        have hj' : j < sz' := by rw [← q1]; exact (List.getElem?_eq_some_iff.1 hj).1
        rw [hlen]
        rw [d1] at hle
        rcases Nat.lt_or_ge i i' with hlt | hge
        · have : (i + 1) * sz' ≤ i' * sz' := Nat.mul_le_mul_right _ hlt
          rw [Nat.add_mul] at this; omega
        · have : (i' + 1) * sz' ≤ i * sz' := Nat.mul_le_mul_right _ (by omega)
          rw [Nat.add_mul] at this; omega)
    refine ⟨rfl, good_write (s1 := { s with st := s.st.set l _ }) hd ?_ hS' (ext_turned ht e1 (by simp) hI (locOf_le_set G.loc s.st hst rfl))⟩
    simp [execOp, ho, Instr.storeAt, heval, Instr.sureAddr, hrun]
  · cases h

/-! #### what owns its room changes hands -/

theorem ownR_claim {κ κ' : Cl} {L : Loc} {sz : Nat} {l : List PV} {mv : Value} (h : OwnR G w L κ sz l mv) : ∃ b0, G.cl b0 = some κ ∧
    ∀ G', G'.cl b0 = some κ' → G'.fz = G.fz → OwnR G' w L κ' sz l mv := by
  obtain ⟨b0, cap, arr, e, h1, h2, h3, h5, h6, h7, h8, h9, h10⟩ := h
  refine ⟨b0, h2, fun G' hc hf => ⟨b0, cap, arr, e, h1, hc, h3, h5, h6, h7, by rw [hf]; exact h8, h9, ?_⟩⟩
  have : G'.im w = G.im w := by unfold Gh.im; rw [hf]
  rw [this]; exact h10

/-- The claim on a block is handed on. -/
def handOn (G : Gh) (b0 : Nat) (κ' : Cl) : Gh := { G with cl := upd G.cl b0 (some κ') }

theorem im_handOn (G : Gh) (w : World) (b0 : Nat) (κ' : Cl) : (handOn G b0 κ').im w = G.im w := rfl

theorem keeps_handOn {b0 : Nat} {κ0 κ' κ : Cl} (h0 : G.cl b0 = some κ0) (hne : κ ≠ κ0) : Keeps G w (handOn G b0 κ') w κ := by
  intro bk hb
  refine ⟨?_, rfl, rfl⟩
  unfold handOn
  simp only
  rw [upd_ne]
  · exact hb
  · rintro rfl; rw [h0] at hb; cases hb; exact hne rfl

theorem ext_handOn {b0 : Nat} {κ0 κ' : Cl} (h0 : G.cl b0 = some κ0) (hp : κ0 ≠ .prot) {st st' : Store} (hL : (locOf G.loc st).le (locOf G.loc st')) : Ext G st w (handOn G b0 κ') st' w :=
  ⟨Im.le_refl _, hL, fun bk hb => keeps_handOn h0 (fun e => hp e.symm) bk hb, Nat.le_refl _, rfl, rfl, fun _ => rfl⟩

theorem strip_own_vr {L : Loc} {κ : Cl} {sz : Nat} {l : List PV} {mv : Value} (h : OwnR G w L κ sz l mv) : VR (G.im w) L (.slice .plain sz l) mv :=
  h.choose_spec.choose_spec.choose_spec.choose_spec.2.2.2.2.2.2.2.2

/-- The temporaries, where one has handed on what it owned. -/
theorem tmp_handOn (hS : Sim G N s a w) {src : Nat} {b0 : Nat} {κ' : Cl} (h0 : G.cl b0 = some (.ownT src)) : ∀ t, t < N → TR (handOn G b0 κ') w (locOf G.loc s.st) (.ownT t) (upd s.fr src (strip (s.fr src)) t) (a.tmps.getD t Go.undef) := by
  intro t ht
  simp only [upd]
  split
  · rename_i e
    subst e
    have := (hS.tmp t ht).strip (.ownT t)
    have hs : ∀ sz l, strip (s.fr t) ≠ .slice .own sz l := by
      intro sz l
      cases s.fr t <;> simp [strip]
      rename_i k _ _; cases k <;> simp
    cases hv : strip (s.fr t) with
    | slice k sz l =>
      rw [hv] at this
      cases k with
      | own => exact absurd hv (hs _ _)
      | plain => exact this
      | fit => exact this
    | lptr k off => rw [hv] at this; exact this
    | _ => rw [hv] at this; exact this
  · rename_i e
    exact (hS.tmp t ht).mono (G := G) (G' := handOn G b0 κ') (w := w) (w' := w) (Im.le_refl _) (Loc.le_refl _) (keeps_handOn (κ := .ownT t) h0 (by simp [e])) (fun _ _ _ => rfl)

theorem Sim.handOn (hS : Sim G N s a w) {src b0 : Nat} {κ' : Cl} (h0 : G.cl b0 = some (.ownT src)) : Sim (handOn G b0 κ') N { s with fr := upd s.fr src (strip (s.fr src)) } a w := by
  refine ⟨hS.defers, hS.size, tmp_handOn hS h0, ?_, ?_, ?_, ?_⟩
  · intro t ht
    simp only [upd]
    split
    · rename_i e; rw [← e, hS.hi t ht]; rfl
    · exact hS.hi t ht
  · intro t k off h
    simp only [upd] at h
    split at h
    · rename_i e; exact hS.lp src k off (strip_lptr h)
    · exact hS.lp t k off h
  · exact fun k => (hS.box k).mono (G := G) (G' := PE.handOn G b0 κ') (w := w) (w' := w) (Im.le_refl _) (Loc.le_refl _) rfl (keeps_handOn (κ := .box k) h0 (by simp)) (fun j => keeps_handOn (κ := .ownB k j) h0 (by simp))
  · exact ⟨fun l o hl => (hS.store.obj l o hl).mono (G := G) (G' := PE.handOn G b0 κ') (w := w) (w' := w) (Im.le_refl _) (Loc.le_refl _) rfl (keeps_handOn (κ := .loc l) h0 (by simp)) (fun i j => keeps_handOn (κ := .ownS l i j) h0 (by simp)), fun bk hb => by
      refine ⟨(hS.store.fresh bk hb).1, ?_⟩
      unfold PE.handOn
      simp only
      rw [upd_ne]
      · exact (hS.store.fresh bk hb).2
      · rintro rfl; rw [(hS.store.fresh _ hb).2] at h0; cases h0⟩

theorem Sim.stripTmp (hS : Sim G N s a w) (src : Nat) : Sim G N { s with fr := upd s.fr src (strip (s.fr src)) } a w := by
  refine ⟨hS.defers, hS.size, ?_, ?_, ?_, hS.box, hS.store⟩
  · intro t ht
    simp only [upd]
    split
    · rename_i e; subst e; exact (hS.tmp t ht).strip _
    · exact hS.tmp t ht
  · intro t ht
    simp only [upd]
    split
    · rename_i e; rw [← e, hS.hi t ht]; rfl
    · exact hS.hi t ht
  · intro t k off h
    simp only [upd] at h
    split at h
    · exact hS.lp src k off (strip_lptr h)
    · exact hS.lp t k off h

theorem op_take {src : Nat} (hS : Sim G N s a w) (hd : ∀ t, oper.dst = some t → t < N) (hdn : oper.dst ≠ none) (hc : checkOp P oper.op (.take src) = true) (h : (IOp.take src).sem s.fr b s.st = some (v, b', st')) :
    b' = b ∧ st' = s.st ∧ OpGood P oper N G s a w v (upd s.fr src (strip (s.fr src))) s.bx s.st := by
  simp only [IOp.sem, Option.some.injEq, Prod.mk.injEq] at h
  obtain ⟨rfl, rfl, rfl⟩ := h
  refine ⟨rfl, rfl, ?_⟩
  simp only [checkOp] at hc
  obtain ⟨x, hx, hrun⟩ : ∃ x, okArg x (.t src) = true ∧ (execOp a.eval oper).run P w = .ok (.value (a.eval x)) w := by
    split at hc
    · rename_i y ho; exact ⟨y, hc, by simp [execOp, ho]⟩
    · rename_i y ho; exact ⟨y, hc, by simp [execOp, ho]⟩
    · cases hc
  cases x <;> simp [okArg] at hx
  rename_i t0
  subst hx
  by_cases hN : t0 < N
  · have htr := hS.tmp t0 hN
    have hev : a.eval (.tmp t0) = a.tmps.getD t0 Go.undef := rfl
    rw [hev] at hrun
    by_cases hown : ∃ sz l, s.fr t0 = .slice .own sz l
    · obtain ⟨sz, l, ho⟩ := hown
      rw [ho] at htr
      obtain ⟨d, hdd⟩ := Option.ne_none_iff_exists'.1 hdn
      obtain ⟨b0, h0, hnew⟩ := ownR_claim (κ' := .ownT d) htr
      have hS' := hS.handOn (κ' := .ownT d) h0
      refine ⟨_, a.tmps.getD t0 Go.undef, w, PE.handOn G b0 (.ownT d), hrun, .inl rfl, hS'.put hd ?_ (by rw [ho]; simp), ext_handOn h0 (by simp) (Loc.le_refl _)⟩
      intro t ht
      rw [hdd] at ht; cases ht
      rw [ho]
      exact hnew _ (by simp [PE.handOn, upd]) rfl
    · have hS' := hS.stripTmp t0
      refine ⟨_, a.tmps.getD t0 Go.undef, w, G, hrun, .inl rfl, hS'.put hd ?_ (fun k off e => hS.lp t0 k off e), Ext.refl _ _ _⟩
      intro t ht
      have hs : strip (s.fr t0) = s.fr t0 := by
        cases hq : s.fr t0 with
        | slice k sz l => cases k <;> first | rfl | exact absurd ⟨_, _, hq⟩ hown
        | _ => rfl
      have := htr.strip (.ownT t)
      rw [hs] at this
      exact this
  · have hu := hS.hi t0 (Nat.le_of_not_lt hN)
    have hS' := hS.stripTmp t0
    refine ⟨_, _, w, G, hrun, .inl rfl, hS'.put hd ?_ (by rw [hu]; simp), Ext.refl _ _ _⟩
    intro t ht
    rw [hu]
    exact VR.undef _

end

end PE
