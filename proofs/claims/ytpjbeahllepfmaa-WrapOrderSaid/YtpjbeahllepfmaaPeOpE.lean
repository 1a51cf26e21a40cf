/-
  Operations that make memory.
-/
import Derived.Test.YtpjbeahllepfmaaPeOpD
set_option linter.unusedVariables false
set_option linter.unusedSimpArgs false
namespace PE
open Go

section
variable {P : Program} {G G' : Gh} {N : Nat} {s : St} {a : Act} {w w' : World} {oper : Oper} {b b' : Bx} {st' : Store} {v : PV}

theorem locOf_congr {f g : Nat → Nat} {st : Store} (h : ∀ l o, st[l]? = some o → g l = f l) : locOf g st = locOf f st := by
  funext l
  unfold locOf
  cases e : st[l]? with
  | none => rfl
  | some o => simp [h l o e]

theorem fresh_ne (hS : SimS G s.st w) {bk : Nat} {κ : Cl} (h : G.cl bk = some κ) : bk < w.heap.size := by
  rcases Nat.lt_or_ge bk w.heap.size with h1 | h1
  · exact h1
  · rw [(hS.fresh bk h1).2] at h; cases h

theorem heap_alloc_old' (w : World) (o : Go.Obj) {i : Nat} (h : i < w.heap.size) : (w.alloc o).heap[i]? = w.heap[i]? := heap_alloc_old w o i h

theorem im_alloc (hS : SimS G s.st w) (o : Go.Obj) (hfz : ∀ b, b ≠ w.heap.size → G'.fz b = G.fz b) : (G.im w).le (G'.im (w.alloc o)) := by
  intro bk of x hx
  unfold Gh.im at hx ⊢
  split at hx
  · rename_i hlt
    have hne : bk ≠ w.heap.size := by
      rintro rfl
      rw [(hS.fresh _ (Nat.le_refl _)).1] at hlt
      omega
    rw [hfz bk hne, if_pos hlt]
    rw [World.cell?_alloc_old]
    · exact hx
    · exact hne
  · cases hx

theorem keeps_alloc (hS : SimS G s.st w) (o : Go.Obj) (hfz : ∀ b, b ≠ w.heap.size → G'.fz b = G.fz b) (hcl : ∀ b, b ≠ w.heap.size → G'.cl b = G.cl b) (κ : Cl) : Keeps G w G' (w.alloc o) κ := by
  intro bk hb
  have h1 := fresh_ne hS hb
  have hne : bk ≠ w.heap.size := by omega
  exact ⟨by rw [hcl bk hne]; exact hb, hfz bk hne, heap_alloc_old' w o h1⟩

theorem Sim.alloc (hS : Sim G N s a w) (o : Go.Obj) (hcalm : Calm o) (hfz : ∀ b, b ≠ w.heap.size → G'.fz b = G.fz b) (hcl : ∀ b, b ≠ w.heap.size → G'.cl b = G.cl b)
    (hloc : ∀ l o, s.st[l]? = some o → G'.loc l = G.loc l) (hbox : ∀ k, s.bx k ≠ .no → G'.box k = G.box k) : Sim G' N s a (w.alloc o) ∧ Ext G s.st w G' s.st (w.alloc o) := by
  have hI := im_alloc hS.store o hfz
  have hK := keeps_alloc hS.store o hfz hcl
  have hL : locOf G'.loc s.st = locOf G.loc s.st := locOf_congr hloc
  refine ⟨⟨hS.defers, hS.size, ?_, hS.hi, hS.lp, ?_, ?_, ?_⟩, ?_⟩
  · intro t ht
    rw [hL]
    exact (hS.tmp t ht).mono hI (Loc.le_refl _) (hK _) (fun k off e => hbox k (hS.lp t k off e))
  · intro k
    rw [hL]
    by_cases hk : s.bx k = .no
    · rw [hk]; trivial
    · exact (hS.box k).mono hI (Loc.le_refl _) (hbox k hk) (hK _) (fun j => hK _)
  · intro l ob hl
    rw [hL]
    exact (hS.store.obj l ob hl).mono hI (Loc.le_refl _) (hloc l ob hl) (hK _) (fun i j => hK _)
  · intro bk hb
    simp at hb
    have hne : bk ≠ w.heap.size := by omega
    rw [hfz bk hne, hcl bk hne]
    exact hS.store.fresh bk (by omega)
  · refine ⟨hI, by rw [hL]; exact Loc.le_refl _, fun bk hb => ?_, by simp, rfl, rfl, fun x => ?_⟩
    · exact hK _ bk hb
    · by_cases hx : x.block = w.heap.size
      · rw [frozen_calm (heap_alloc_new w o) hcalm x hx, frozen_none x (by rw [hx]; simp)]
      · rw [World.frozen?_alloc_old w o x hx]

theorem locOf_push (loc : Nat → Nat) (st : Store) (o : Obj) : (locOf loc st).le (locOf loc (st ++ [o])) := by
  intro l x h
  unfold locOf at h ⊢
  rw [Option.map_eq_some_iff] at h
  obtain ⟨ob, h1, h2⟩ := h
  rw [List.getElem?_append_left (List.getElem?_eq_some_iff.1 h1).1, h1]
  simp [h2]

theorem Sim.push (hS : Sim G N s a w) (o : Obj) (ho : ObjR G w (locOf G.loc (s.st ++ [o])) s.st.length o) : Sim G N { s with st := s.st ++ [o] } a w := by
  have hL := locOf_push G.loc s.st o
  refine ⟨hS.defers, hS.size, ?_, hS.hi, hS.lp, ?_, ?_, hS.store.fresh⟩
  · exact fun t ht => (hS.tmp t ht).mono (Im.le_refl _) hL (Keeps.refl _ _ _) (fun _ _ _ => rfl)
  · exact fun k => (hS.box k).mono (Im.le_refl _) hL rfl (Keeps.refl _ _ _) (fun _ => Keeps.refl _ _ _)
  · intro l ob hl
    rcases Nat.lt_or_ge l s.st.length with h1 | h1
    · simp only at hl
      rw [List.getElem?_append_left h1] at hl
      exact (hS.store.obj l ob hl).mono (Im.le_refl _) hL rfl (Keeps.refl _ _ _) (fun _ _ => Keeps.refl _ _ _)
    · simp only at hl
      have : l = s.st.length := by
        have := (List.getElem?_eq_some_iff.1 hl).1
        simp at this; omega
      subst this
      simp at hl
      subst hl
      exact ho

theorem Sim.setBox (hS : Sim G N s a w) {k : Nat} {o : Bx} (ho : BxR G w (locOf G.loc s.st) k o) (hne : o ≠ .no) : Sim G N { s with bx := upd s.bx k o } a w := by
  refine ⟨hS.defers, hS.size, hS.tmp, hS.hi, ?_, ?_, hS.store⟩
  · intro t k' off h
    simp only [upd]
    split
    · exact hne
    · exact hS.lp t k' off h
  · intro k'
    simp only [upd]
    split
    · rename_i e; subst e; exact ho
    · exact hS.box k'

theorem vr_cells {I : Im} {L : Loc} {p : PV} {mv : Value} (hv : isVar p = true) (h : VR I L p mv) : mv.cells.size = (cellsOf p).length ∧ (∀ (j : Nat) x, mv.cells[j]? = some x → x.oneCell' = true) ∧
    ∀ (j : Nat) c x, (cellsOf p)[j]? = some c → mv.cells[j]? = some x → VR I L c x := by
  have one : ∀ {p : PV} {mv : Value}, VR I L p mv → mv.cells = #[mv] → mv.oneCell' = true → cellsOf p = [p] → mv.cells.size = (cellsOf p).length ∧ (∀ (j : Nat) x, mv.cells[j]? = some x → x.oneCell' = true) ∧
      ∀ (j : Nat) c x, (cellsOf p)[j]? = some c → mv.cells[j]? = some x → VR I L c x := by
    intro p mv h e1 e2 e3
    rw [e1, e3]
    refine ⟨rfl, ?_, ?_⟩
    · intro j x hx
      match j with
      | 0 => simp at hx; subst hx; exact e2
      | j + 1 => simp at hx
    · intro j c x hc hx
      match j with
      | 0 => simp at hc hx; subst hc; subst hx; exact h
      | j + 1 => simp at hx
  cases h with
  | undef => simp [isVar, isCell] at hv
  | tup => simp [isVar, isCell] at hv
  | agg hl ho hvs => exact ⟨hl, ho, hvs⟩
  | bool b => exact one (.bool b) rfl rfl rfl
  | int k n => exact one (.int k n) rfl rfl rfl
  | str s => exact one (.str s) rfl rfl rfl
  | nilp => exact one .nilp rfl rfl rfl
  | ptr h => exact one (.ptr h) rfl rfl rfl
  | iptr f hi hv' => exact one (.iptr f hi hv') rfl rfl rfl
  | slice0 k sz a cap hk hf => exact one (.slice0 k sz a cap hk hf) rfl rfl rfl
  | slice hk hf hc f hz hi hv' => exact one (.slice hk hf hc f hz hi hv') rfl rfl rfl
  | mslice h hc => exact one (.mslice h hc) rfl rfl rfl
  | mslice0 a h => exact one (.mslice0 a h) rfl rfl rfl
  | fn hl hv1 hl' hv2 => exact one (.fn hl hv1 hl' hv2) rfl rfl rfl
  | nilfn => exact one .nilfn rfl rfl rfl
  | mp h => exact one (.mp h) rfl rfl rfl
  | nilmap => exact one .nilmap rfl rfl rfl
  | iface h => exact one (.iface h) rfl rfl rfl
  | nilif => exact one .nilif rfl rfl rfl

theorem not_lptr_of_isVar {v : PV} (h : isVar (strip v) = true) : ∀ k off, v ≠ .lptr k off := by
  rintro k off rfl
  simp [strip, isVar, isCell] at h

/-- What 'box' and 'alloc' do to memory. -/
theorem run_box {x : Arg} (hS : Sim G N s a w) (hc : (match oper.op with
    | .alloc e => (match x with | .c z => zeroT P e z | _ => false)
    | .box _ y => okArg y x
    | _ => false) = true) (hvar : isVar (strip (x.val s.fr)) = true) :
    ∃ mv e, (execOp a.eval oper).run P w = .ok (.value (.pointer (some ⟨w.heap.size, 0, none⟩))) (w.alloc (.cells mv.cells e)) ∧ VR (G.im w) (locOf G.loc s.st) (strip (x.val s.fr)) mv := by
  split at hc
  · rename_i e ho
    split at hc
    case h_2 => cases hc
    rename_i z
    obtain ⟨i, zv, h1, h2, h3, h4, h5, h6⟩ := zeroT_info hc
    refine ⟨zv, e, ?_, ?_⟩
    · simp [execOp, ho, Instr.alloc, zeroValue, typeInfo, h1, h2, newVar, newRow]
    · simp only [Arg.val] at hvar ⊢
      have := okVal_vr (I := G.im w) (L := locOf G.loc s.st) z zv h3
      have e : strip z = z := by
        cases z with
        | slice k _ _ => cases k <;> first | rfl | exact (VR.not_own this).elim
        | _ => rfl
      rw [e]; exact this
  · rename_i e y ho
    refine ⟨a.eval y, e, ?_, arg_vr hS hc (not_lptr_of_isVar hvar)⟩
    simp [execOp, ho, Instr.box, newVar, newRow]
  · cases hc

/-- What a reckoning hands on that has made memory. -/
theorem good_mem {oper : Oper} (hd : ∀ t, oper.dst = some t → t < N) {v : PV} {mv : Value} {s1 : St} (hrun : (execOp a.eval oper).run P w = .ok (.value mv) w') (hS' : Sim G' N s1 a w') (hE : Ext G s.st w G' s1.st w')
    (hv : ∀ κ, TR G' w' (locOf G'.loc s1.st) κ v mv) (hlp : ∀ k off, v = .lptr k off → s1.bx k ≠ .no) : OpGood P oper N G s a w v s1.fr s1.bx s1.st :=
  ⟨_, mv, w', G', hrun, .inl rfl, hS'.put hd (fun t _ => hv _) hlp, hE⟩

/-- A new block's cells. -/
theorem im_new (G : Gh) (w : World) (cs : Array Value) (e : Nat) {n j : Nat} {x : Value} (hn : j < n) (hx : cs[j]? = some x) : ({ G with fz := upd G.fz w.heap.size n } : Gh).im (w.alloc (.cells cs e)) w.heap.size j = some x := by
  unfold Gh.im
  simp only [upd, if_true]
  rw [if_pos hn]
  exact (World.cell?_alloc_new w cs e j).trans hx

theorem op_boxI {x : Arg} (hS : Sim G N s a w) (hd : ∀ t, oper.dst = some t → t < N) (hc : checkOp P oper.op (.boxI x) = true) (h : (IOp.boxI x).sem s.fr b s.st = some (v, b', st')) : Same3 P oper N G s a w b b' v st' := by
  simp only [checkOp] at hc
  simp only [IOp.sem] at h
  split at h
  case isFalse => cases h
  rename_i hvar
  cases h
  obtain ⟨mv, e, hrun, hr⟩ := run_box hS hc hvar
  obtain ⟨c1, c2, c3⟩ := vr_cells hvar hr
  obtain ⟨hS', hE⟩ := hS.alloc (.cells mv.cells e) (by first | rfl | trivial) (G' := { G with fz := upd G.fz w.heap.size mv.cells.size }) (fun b hb => upd_ne _ _ hb) (fun _ _ => rfl) (fun _ _ _ => rfl) (fun _ _ => rfl)
  refine ⟨rfl, rfl, good_mem hd hrun hS' hE (fun κ => VR.tr ?_) (by simp)⟩
  refine .iptr (o := 0) (fun j => mv.cells.getD j Go.undef) ?_ ?_
  · intro j c hj
    have hlt : j < mv.cells.size := by rw [c1]; exact (List.getElem?_eq_some_iff.1 hj).1
    have e1 : mv.cells[j]? = some mv.cells[j] := by simp [hlt]
    simp only [Nat.zero_add]
    rw [im_new G w mv.cells e hlt e1]
    refine ⟨by simp [hlt], ?_⟩
    have := c2 j _ e1
    simpa [hlt] using this
  · intro j c hj
    have hlt : j < mv.cells.size := by rw [c1]; exact (List.getElem?_eq_some_iff.1 hj).1
    have := c3 j c mv.cells[j] hj (by simp [hlt])
    simp only [Array.getD_eq_getD_getElem?, hlt, Array.getElem?_eq_getElem, Option.getD_some]
    exact this.mono hE.im hE.loc

/-- What an operation that touches one variable of one's own comes to. -/
def Box3 (P : Program) (oper : Oper) (N : Nat) (G : Gh) (s : St) (a : Act) (w : World) (k : Nat) (b' : Bx) (v : PV) (st' : Store) : Prop :=
  OpGood P oper N G s a w v s.fr (upd s.bx k b') st'

theorem op_boxL {k : Nat} {x : Arg} (hS : Sim G N s a w) (hd : ∀ t, oper.dst = some t → t < N) (hc : checkOp P oper.op (.boxL k x) = true) (h : (IOp.boxL k x).sem s.fr (s.bx k) s.st = some (v, b', st')) : Box3 P oper N G s a w k b' v st' := by
  simp only [checkOp] at hc
  simp only [IOp.sem] at h
  split at h
  case h_2 => cases h
  rename_i hno
  split at h
  case isFalse => cases h
  rename_i hvar
  cases h
  obtain ⟨mv, e, hrun, hr⟩ := run_box hS hc hvar
  obtain ⟨c1, c2, c3⟩ := vr_cells hvar hr
  obtain ⟨hS', hE⟩ := hS.alloc (.cells mv.cells e) (by first | rfl | trivial) (G' := { G with cl := upd G.cl w.heap.size (some (.box k)), box := upd G.box k w.heap.size }) (fun _ _ => rfl) (fun b hb => upd_ne _ _ hb) (fun _ _ _ => rfl)
    (fun k' hk' => upd_ne _ _ (by rintro rfl; exact hk' hno))
  have hbx : BxR { G with cl := upd G.cl w.heap.size (some (.box k)), box := upd G.box k w.heap.size } (w.alloc (.cells mv.cells e)) (locOf G.loc s.st) k (.cells (cellsOf (strip (x.val s.fr)))) := by
    refine ⟨by simp [upd], by simp only [upd, if_true]; exact (hS.store.fresh _ (Nat.le_refl _)).1, mv.cells, e, by simp only [upd, if_true]; exact heap_alloc_new w _, c1, ?_⟩
    intro j c hj
    have hlt : j < mv.cells.size := by rw [c1]; exact (List.getElem?_eq_some_iff.1 hj).1
    exact ⟨mv.cells[j], by simp [hlt], ((c3 j c _ hj (by simp [hlt])).mono hE.im hE.loc).cr (c2 j _ (by simp [hlt]))⟩
  refine good_mem (s1 := { s with bx := upd s.bx k _ }) hd hrun (hS'.setBox hbx (by simp)) hE (fun κ => ?_) ?_
  · simp [TR, upd]
  · intro k' off e'; cases e'; simp [upd]

theorem op_boxS {sz : Nat} {x : Arg} (hS : Sim G N s a w) (hd : ∀ t, oper.dst = some t → t < N) (hc : checkOp P oper.op (.boxS sz x) = true) (h : (IOp.boxS sz x).sem s.fr b s.st = some (v, b', st')) :
    b' = b ∧ OpGood P oper N G s a w v s.fr s.bx st' := by
  simp only [checkOp] at hc
  simp only [IOp.sem] at h
  split at h
  case isFalse => cases h
  rename_i hvar
  simp only [Bool.and_eq_true, beq_iff_eq] at hvar
  obtain ⟨hvar, hsz⟩ := hvar
  cases h
  obtain ⟨mv, e, hrun, hr⟩ := run_box hS hc hvar
  obtain ⟨c1, c2, c3⟩ := vr_cells hvar hr
  obtain ⟨hS', hE⟩ := hS.alloc (.cells mv.cells e) (by first | rfl | trivial) (G' := { G with cl := upd G.cl w.heap.size (some (.loc s.st.length)), loc := upd G.loc s.st.length w.heap.size }) (fun _ _ => rfl) (fun b hb => upd_ne _ _ hb)
    (fun l o hl => upd_ne _ _ (by have := (List.getElem?_eq_some_iff.1 hl).1; omega)) (fun _ _ => rfl)
  have hpush := hS'.push (.arr sz [strip (x.val s.fr)]) (by
    refine ⟨by simp [upd], by simp only [upd, if_true]; exact (hS.store.fresh _ (Nat.le_refl _)).1, mv.cells, e, by simp only [upd, if_true]; exact heap_alloc_new w _, by simp [c1, hsz], ?_⟩
    intro i p hi
    match i with
    | 0 =>
      simp at hi; subst hi
      refine ⟨hsz, hvar, fun j c hj => ?_⟩
      have hlt : j < mv.cells.size := by rw [c1]; exact (List.getElem?_eq_some_iff.1 hj).1
      refine ⟨mv.cells[j], by simp [hlt], ((c3 j c _ hj (by simp [hlt])).mono hE.im (Loc.le_trans hE.loc (locOf_push _ _ _))).cr (c2 j _ (by simp [hlt]))⟩
    | i + 1 => simp at hi)
  refine ⟨rfl, good_mem (s1 := { s with st := s.st ++ [_] }) hd hrun hpush ⟨hE.im, Loc.le_trans hE.loc (locOf_push _ _ _), hE.prot, hE.size, hE.os, hE.output, hE.frozen⟩ (fun κ => VR.tr ?_) (by simp)⟩
  have := @VR.ptr (({ G with cl := upd G.cl w.heap.size (some (.loc s.st.length)), loc := upd G.loc s.st.length w.heap.size } : Gh).im (w.alloc (.cells mv.cells e))) (locOf (upd G.loc s.st.length w.heap.size) (s.st ++ [.arr sz [strip (x.val s.fr)]])) s.st.length 0 0 w.heap.size sz
    (by simp [locOf, upd, Obj.sz])
  simpa using this

theorem op_mkmap (hS : Sim G N s a w) (hd : ∀ t, oper.dst = some t → t < N) (hc : checkOp P oper.op .mkmap = true) (h : (IOp.mkmap).sem s.fr b s.st = some (v, b', st')) :
    b' = b ∧ OpGood P oper N G s a w v s.fr s.bx st' := by
  simp only [checkOp] at hc
  split at hc
  case h_2 => cases hc
  rename_i t ho
  simp only [IOp.sem] at h
  cases h
  obtain ⟨hS', hE⟩ := hS.alloc (.map #[] 0) (by first | rfl | trivial) (G' := { G with cl := upd G.cl w.heap.size (some (.loc s.st.length)), loc := upd G.loc s.st.length w.heap.size }) (fun _ _ => rfl) (fun b hb => upd_ne _ _ hb)
    (fun l o hl => upd_ne _ _ (by have := (List.getElem?_eq_some_iff.1 hl).1; omega)) (fun _ _ => rfl)
  have hpush := hS'.push (.mp []) (by
    refine ⟨by simp [upd], by simp only [upd, if_true]; exact (hS.store.fresh _ (Nat.le_refl _)).1, #[], 0, by simp only [upd, if_true]; exact heap_alloc_new w _, rfl, by simp⟩)
  refine ⟨rfl, good_mem (s1 := { s with st := s.st ++ [_] }) (mv := .map (some w.heap.size)) hd (by simp [execOp, ho, Instr.makeMap]) hpush ⟨hE.im, Loc.le_trans hE.loc (locOf_push _ _ _), hE.prot, hE.size, hE.os, hE.output, hE.frozen⟩ (fun κ => VR.tr ?_) (by simp)⟩
  exact .mp (sz := 0) (by simp [locOf, upd, Obj.sz])

theorem op_rng {k : Nat} {x : Arg} (hS : Sim G N s a w) (hd : ∀ t, oper.dst = some t → t < N) (hc : checkOp P oper.op (.rng k x) = true) (h : (IOp.rng k x).sem s.fr (s.bx k) s.st = some (v, b', st')) : Box3 P oper N G s a w k b' v st' := by
  simp only [checkOp] at hc
  split at hc
  case h_2 => cases hc
  rename_i t y ho
  simp only [Bool.and_eq_true] at hc
  obtain ⟨h1, hy⟩ := hc
  have hu : P.underlying t = some .string := by
    unfold isStrT at h1; split at h1; assumption; cases h1
  simp only [IOp.sem] at h
  split at h
  case h_2 => cases h
  rename_i str hno hv
  cases h
  obtain ⟨hS', hE⟩ := hS.alloc (.stringIter ⟨str.toArray⟩ 0) (by first | rfl | trivial) (G' := { G with cl := upd G.cl w.heap.size (some (.box k)), box := upd G.box k w.heap.size }) (fun _ _ => rfl) (fun b hb => upd_ne _ _ hb) (fun _ _ _ => rfl)
    (fun k' hk' => upd_ne _ _ (by rintro rfl; exact hk' hno))
  have hbx : BxR { G with cl := upd G.cl w.heap.size (some (.box k)), box := upd G.box k w.heap.size } (w.alloc (.stringIter ⟨str.toArray⟩ 0)) (locOf G.loc s.st) k (.iter str 0) := by
    refine ⟨by simp [upd], by simp only [upd, if_true]; exact (hS.store.fresh _ (Nat.le_refl _)).1, by simp only [upd, if_true]; exact heap_alloc_new w _⟩
  refine good_mem (s1 := { s with bx := upd s.bx k _ }) (mv := .pointer (some ⟨w.heap.size, 0, none⟩)) hd ?_ (hS'.setBox hbx (by simp)) hE (fun κ => ?_) ?_
  · simp [execOp, ho, Instr.range, run_underlying hu, arg_str hS hy hv]
  · simp [TR, upd]
  · intro k' off e'; cases e'; simp [upd]

end

end PE
