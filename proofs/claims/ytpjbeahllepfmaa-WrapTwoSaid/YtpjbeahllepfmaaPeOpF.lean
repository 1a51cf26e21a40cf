/-
  Operations that put aggregates and rows together.
-/
import Derived.Test.YtpjbeahllepfmaaPeOpE
import Derived.IntWalk
set_option linter.unusedVariables false
set_option linter.unusedSimpArgs false
namespace PE
open Go

/-- Cells, related one by one. -/
def CellsR (I : Im) (L : Loc) (cs : List PV) (arr : Array Value) : Prop :=
  arr.size = cs.length ∧ (∀ (j : Nat) x, arr[j]? = some x → x.oneCell' = true) ∧ ∀ (j : Nat) c x, cs[j]? = some c → arr[j]? = some x → VR I L c x

def setCells (arr : Array Value) (off : Nat) (vs : Array Value) : Array Value := vs.zipIdx.foldl (fun cs (c, j) => cs.setIfInBounds (off + j) c) arr

theorem foldl_set_aux (off : Nat) : ∀ (l : List Value) (k : Nat) (arr : Array Value),
    ((l.zipIdx k).foldl (fun cs (x : Value × Nat) => cs.setIfInBounds (off + x.2) x.1) arr).size = arr.size ∧
    ∀ i, ((l.zipIdx k).foldl (fun cs (x : Value × Nat) => cs.setIfInBounds (off + x.2) x.1) arr)[i]? = if off + k ≤ i ∧ i < off + k + l.length ∧ i < arr.size then l[i - (off + k)]? else arr[i]?
  | [], k, arr => ⟨rfl, fun i => by
      have : ¬ (off + k ≤ i ∧ i < off + k + ([] : List Value).length ∧ i < arr.size) := by simp; omega
      rw [if_neg this]; rfl⟩
  | c :: l, k, arr => by
    obtain ⟨h1, h2⟩ := foldl_set_aux off l (k + 1) (arr.setIfInBounds (off + k) c)
    refine ⟨by simp only [List.zipIdx_cons, List.foldl_cons]; rw [h1]; simp, fun i => ?_⟩
    simp only [List.zipIdx_cons, List.foldl_cons]
    rw [h2]
    simp only [Array.size_setIfInBounds, List.length_cons]
    by_cases hi : i = off + k
    · subst hi
      have : ¬ (off + (k + 1) ≤ off + k ∧ off + k < off + (k + 1) + l.length ∧ off + k < arr.size) := by omega
      rw [if_neg this]
      by_cases hs : off + k < arr.size
      · rw [if_pos ⟨Nat.le_refl _, by omega, hs⟩]
        simp [hs]
      · rw [if_neg (by omega)]
        simp [hs]
    · by_cases hc : off + (k + 1) ≤ i ∧ i < off + (k + 1) + l.length ∧ i < arr.size
      · rw [if_pos hc, if_pos ⟨by omega, by omega, hc.2.2⟩]
        rw [show i - (off + k) = (i - (off + (k + 1))) + 1 from by omega]
        rfl
      · rw [if_neg hc, if_neg (by omega)]
        rw [Array.getElem?_setIfInBounds_ne (by omega)]

theorem setCells_size (arr : Array Value) (off : Nat) (vs : Array Value) : (setCells arr off vs).size = arr.size := by
  unfold setCells
  rw [← Array.foldl_toList, Array.toList_zipIdx]
  exact (foldl_set_aux off vs.toList 0 arr).1

theorem setCells_get (arr : Array Value) (off : Nat) (vs : Array Value) (i : Nat) : (setCells arr off vs)[i]? = if off ≤ i ∧ i < off + vs.size ∧ i < arr.size then vs[i - off]? else arr[i]? := by
  unfold setCells
  rw [← Array.foldl_toList, Array.toList_zipIdx]
  have := (foldl_set_aux off vs.toList 0 arr).2 i
  simpa using this

theorem setAt_length {cs vs : List PV} {off : Nat} (h : off + vs.length ≤ cs.length) : (setAt cs off vs).length = cs.length := by
  simp [setAt]; omega

theorem setAt_get {cs vs : List PV} {off : Nat} (h : off + vs.length ≤ cs.length) (i : Nat) : (setAt cs off vs)[i]? = if off ≤ i ∧ i < off + vs.length then vs[i - off]? else cs[i]? := by
  unfold setAt
  by_cases h1 : i < off
  · rw [if_neg (by omega), List.append_assoc, List.getElem?_append_left (by simp; omega), List.getElem?_take, if_pos h1]
  · by_cases h2 : i < off + vs.length
    · rw [if_pos ⟨by omega, h2⟩, List.getElem?_append_left (by simp; omega), List.getElem?_append_right (by simp; omega)]
      simp [show min off cs.length = off from by omega]
    · rw [if_neg (by omega), List.getElem?_append_right (by simp; omega), List.getElem?_drop]
      congr 1
      simp [show min off cs.length = off from by omega]
      omega

theorem CellsR.set {I : Im} {L : Loc} {cs vs : List PV} {arr xs : Array Value} {off : Nat} (h : CellsR I L cs arr) (h' : CellsR I L vs xs) (hle : off + vs.length ≤ cs.length) : CellsR I L (setAt cs off vs) (setCells arr off xs) := by
  obtain ⟨a1, a2, a3⟩ := h
  obtain ⟨b1, b2, b3⟩ := h'
  refine ⟨by rw [setCells_size, setAt_length hle, a1], ?_, ?_⟩
  · intro j x hx
    rw [setCells_get] at hx
    split at hx
    · exact b2 _ x hx
    · exact a2 _ x hx
  · intro j c x hc hx
    rw [setCells_get] at hx
    rw [setAt_get hle] at hc
    split at hc
    · rename_i hh
      rw [if_pos ⟨hh.1, by rw [b1]; exact hh.2, by rw [a1]; omega⟩] at hx
      exact b3 _ c x hc hx
    · rename_i hh
      rw [if_neg (by rw [b1]; omega)] at hx
      exact a3 _ c x hc hx

section
variable {P : Program} {G G' : Gh} {N : Nat} {s : St} {a : Act} {w w' : World} {oper : Oper} {b b' : Bx} {st' : Store} {v : PV}

theorem cellsR_of_var {I : Im} {L : Loc} {p : PV} {mv : Value} (hv : isVar p = true) (h : VR I L p mv) : CellsR I L (cellsOf p) mv.cells := by
  obtain ⟨h1, h2, h3⟩ := vr_cells hv h
  exact ⟨h1, h2, h3⟩

theorem fill_ok (hS : Sim G N s a w) {place : Nat → Option (Nat × Nat)} : ∀ (parts : List (Nat × Operand)) (parts' : List (Nat × Nat × Arg)) (cs : List PV) (arr : Array Value) (cs' : List PV),
    okParts P place parts parts' = true → CellsR (G.im w) (locOf G.loc s.st) cs arr → fillParts s.fr cs parts' = some cs' →
    ∃ arr', Instr.fill place arr (parts.map fun (i, x) => (i, a.eval x)) = some arr' ∧ CellsR (G.im w) (locOf G.loc s.st) cs' arr'
  | [], [], cs, arr, cs', _, hr, h => by simp [fillParts] at h; subst h; exact ⟨arr, rfl, hr⟩
  | [], _ :: _, cs, arr, cs', h, _, _ => by simp [okParts] at h
  | _ :: _, [], cs, arr, cs', h, _, _ => by simp [okParts] at h
  | (i, x) :: parts, (off, sz, g) :: parts', cs, arr, cs', hok, hr, h => by
    simp only [okParts, Bool.and_eq_true, decide_eq_true_eq] at hok
    obtain ⟨⟨hp, hx⟩, hrest⟩ := hok
    simp only [fillParts] at h
    split at h
    case isFalse => cases h
    rename_i hc
    simp only [Bool.and_eq_true, beq_iff_eq, decide_eq_true_eq] at hc
    obtain ⟨⟨hvar, hsz⟩, hle⟩ := hc
    have hv := arg_vr hS hx (not_lptr_of_isVar hvar)
    have hcr := cellsR_of_var hvar hv
    have hset := hr.set hcr (off := off) (by rw [hsz]; exact hle)
    obtain ⟨arr', f1, f2⟩ := fill_ok hS parts parts' _ _ cs' hrest hset h
    refine ⟨arr', ?_, f2⟩
    simp only [List.map_cons, Instr.fill, hp]
    have e1 : (a.eval x).cells.size = sz := by rw [hcr.1, hsz]
    have e2 : ¬ (off + (a.eval x).cells.size > arr.size) := by rw [e1, hr.1]; omega
    simp only [e1, ne_eq, not_true_eq_false, decide_false, Bool.false_or, decide_eq_true_eq]
    rw [if_neg (by rw [hr.1]; omega)]
    exact f1

/-- The fields' places, as the machine lists them. -/
theorem run_places (fs : List Field) (w : World) (h : (fs.all fun f => (P.info? f.type).isSome) = true) :
    (fs.mapM fun f => (do pure (f.offset, ← Go.sizeOf f.type) : Sem (Nat × Nat))).run P w = .ok (fs.map fun f => (f.offset, ((P.info? f.type).map (·.size)).getD 0)) w := by
  induction fs with
  | nil => simp
  | cons f fs ih =>
    simp only [List.all_cons, Bool.and_eq_true] at h
    obtain ⟨i, hi⟩ := Option.isSome_iff_exists.1 h.1
    have hso : (Go.sizeOf f.type).run P w = Result.ok i.size w := by simp [Go.sizeOf, typeInfo, hi]
    simp only [List.mapM_cons, Sem.run_bind, hso, Result.andThen_ok, Sem.run_pure, ih h.2, List.map_cons, hi, Option.map_some, Option.getD_some]

theorem op_build {zero : List PV} {parts : List (Nat × Nat × Arg)} (hS : Sim G N s a w) (hd : ∀ t, oper.dst = some t → t < N) (hc : checkOp P oper.op (.build zero parts) = true) (h : (IOp.build zero parts).sem s.fr b s.st = some (v, b', st')) : Same3 P oper N G s a w b b' v st' := by
  simp only [checkOp] at hc
  split at hc
  case h_2 => cases hc
  rename_i t ps ho
  simp only [Bool.and_eq_true] at hc
  obtain ⟨⟨hz, hsz⟩, hp⟩ := hc
  simp only [IOp.sem, Option.map_eq_some_iff, Prod.mk.injEq] at h
  obtain ⟨cs, hcs, rfl, rfl, rfl⟩ := h
  obtain ⟨i, zv, z1, z2, z3, z4, z5, z6⟩ := zeroT_info hz
  have hzr := okVal_vr (I := G.im w) (L := locOf G.loc s.st) _ _ z3
  have hcr := cellsR_of_var z5 hzr
  obtain ⟨arr', f1, f2⟩ := fill_ok (P := P) hS ps.toList parts zero zv.cells cs hp hcr hcs
  have hzrun : (zeroValue t).run P w = .ok zv w := by simp [zeroValue, typeInfo, z1, z2]
  refine ⟨rfl, rfl, good_vr hS hd (mv := .agg arr') ?_ (.agg f2.1 f2.2.1 f2.2.2)⟩
  have hmap : (ps.map fun (i, x) => (i, a.eval x)).toList = ps.toList.map fun (i, x) => (i, a.eval x) := by simp
  unfold allSized at hsz
  split at hsz
  · rename_i fs hfs
    have hpl : (fs.mapM fun f => (do pure (f.offset, ← Go.sizeOf f.type) : Sem (Nat × Nat))).run P w = .ok (fs.map fun f => (f.offset, ((P.info? f.type).map (·.size)).getD 0)) w := by
      rw [Array.mapM_eq_mapM_toList]
      simp only [Sem.run_map, run_places fs.toList w hsz, Result.andThen_ok]
      congr 1
      apply Array.ext'
      simp
    have hplace : (fun i : Nat => (fs.map fun f => (f.offset, ((P.info? f.type).map (·.size)).getD 0))[i]?) = fieldPlaces P t := by
      funext i
      unfold fieldPlaces
      rw [hfs]
      simp only [Array.getElem?_map]
      cases hi : fs[i]? with
      | none => rfl
      | some f =>
        have : (P.info? f.type).isSome = true := by
          rw [List.all_eq_true] at hsz
          refine hsz f ?_
          have := Array.mem_of_getElem? hi
          simpa using this
        obtain ⟨j, hj⟩ := Option.isSome_iff_exists.1 this
        simp [hj]
    simp only [execOp, ho, Instr.build, Sem.run_bind, hzrun, Result.andThen_ok, run_underlying hfs, hpl, hmap]
    rw [hplace, f1]
    simp
  · rename_i n e hne
    obtain ⟨j, hj⟩ := Option.isSome_iff_exists.1 hsz
    have hplace : (fun i : Nat => some (i * j.size, j.size)) = fieldPlaces P t := by
      funext i
      unfold fieldPlaces
      rw [hne]
      simp [hj]
    simp only [execOp, ho, Instr.build, Sem.run_bind, hzrun, Result.andThen_ok, run_underlying hne, Go.sizeOf, typeInfo, run_program, hj, Sem.run_pure, hmap]
    rw [hplace, f1]
    simp
  · cases hsz

/-! #### rows -/

/-- A row's elements, related cell by cell. -/
def RowR (I : Im) (L : Loc) (sz : Nat) (es : List PV) (arr : Array Value) : Prop :=
  arr.size = es.length * sz ∧ (∀ (i : Nat) e, es[i]? = some e → (cellsOf e).length = sz ∧ isVar e = true) ∧ (∀ (j : Nat) x, arr[j]? = some x → x.oneCell' = true) ∧
  ∀ (i : Nat) e (j : Nat) c x, es[i]? = some e → (cellsOf e)[j]? = some c → arr[i * sz + j]? = some x → VR I L c x

theorem RowR.set {I : Im} {L : Loc} {sz : Nat} {es : List PV} {arr : Array Value} (h : RowR I L sz es arr) {i : Nat} (hi : i < es.length) {p : PV} {xs : Array Value} (hvar : isVar p = true) (hl : (cellsOf p).length = sz) (hc : CellsR I L (cellsOf p) xs) :
    RowR I L sz (es.set i p) (setCells arr (i * sz) xs) := by
  obtain ⟨a1, a2, a3, a4⟩ := h
  obtain ⟨b1, b2, b3⟩ := hc
  refine ⟨by rw [setCells_size, a1]; simp, ?_, ?_, ?_⟩
  · intro i' e he
    by_cases hii : i = i'
    · subst hii; rw [List.getElem?_set_self hi] at he; cases he; exact ⟨hl, hvar⟩
    · rw [List.getElem?_set_ne hii] at he; exact a2 i' e he
  · intro j x hx
    rw [setCells_get] at hx
    split at hx
    · exact b2 _ x hx
    · exact a3 _ x hx
  · intro i' e j c x he hcj hx
    have hjs : j < sz := by
      by_cases hii : i = i'
      · subst hii; rw [List.getElem?_set_self hi] at he; cases he; rw [← hl]; exact (List.getElem?_eq_some_iff.1 hcj).1
      · rw [List.getElem?_set_ne hii] at he; rw [← (a2 i' e he).1]; exact (List.getElem?_eq_some_iff.1 hcj).1
    rw [setCells_get] at hx
    by_cases hii : i = i'
    · subst hii
      rw [List.getElem?_set_self hi] at he
      cases he
      rw [if_pos ⟨by omega, by rw [b1, hl]; omega, by
        rw [a1]
        have : (i + 1) * sz ≤ es.length * sz := Nat.mul_le_mul_right _ hi
        rw [Nat.add_mul] at this; omega⟩] at hx
      rw [show i * sz + j - i * sz = j from by omega] at hx
      exact b3 j c x hcj hx
    · rw [List.getElem?_set_ne hii] at he
      have hcond : ¬ (i * sz ≤ i' * sz + j ∧ i' * sz + j < i * sz + xs.size ∧ i' * sz + j < arr.size) := by
        rw [b1, hl]
        rcases Nat.lt_or_ge i i' with hlt | hge
        · have : (i + 1) * sz ≤ i' * sz := Nat.mul_le_mul_right _ hlt
          rw [Nat.add_mul] at this; omega
        · have : (i' + 1) * sz ≤ i * sz := Nat.mul_le_mul_right _ (by omega)
          rw [Nat.add_mul] at this; omega
      rw [if_neg hcond] at hx
      exact a4 i' e j c x he hcj hx

theorem fillElems_ok (hS : Sim G N s a w) {sz : Nat} : ∀ (parts : List (Nat × Operand)) (parts' : List (Nat × Arg)) (es : List PV) (arr : Array Value) (es' : List PV),
    okElems parts parts' = true → RowR (G.im w) (locOf G.loc s.st) sz es arr → fillElems s.fr sz es parts' = some es' →
    ∃ arr', Instr.fill (fun i => some (i * sz, sz)) arr (parts.map fun (i, x) => (i, a.eval x)) = some arr' ∧ RowR (G.im w) (locOf G.loc s.st) sz es' arr' ∧ es'.length = es.length
  | [], [], es, arr, es', _, hr, h => by simp [fillElems] at h; subst h; exact ⟨arr, rfl, hr, rfl⟩
  | [], _ :: _, cs, arr, cs', h, _, _ => by simp [okElems] at h
  | _ :: _, [], cs, arr, cs', h, _, _ => by simp [okElems] at h
  | (i, x) :: parts, (i', g) :: parts', es, arr, es', hok, hr, h => by
    simp only [okElems, Bool.and_eq_true, decide_eq_true_eq] at hok
    obtain ⟨⟨rfl, hx⟩, hrest⟩ := hok
    simp only [fillElems] at h
    split at h
    case isFalse => cases h
    rename_i hc
    simp only [Bool.and_eq_true, beq_iff_eq, decide_eq_true_eq] at hc
    obtain ⟨⟨hvar, hsz⟩, hle⟩ := hc
    have hv := arg_vr hS hx (not_lptr_of_isVar hvar)
    have hcr := cellsR_of_var hvar hv
    have hset := hr.set hle hvar hsz hcr
    obtain ⟨arr', f1, f2, f3⟩ := fillElems_ok hS parts parts' _ _ es' hrest hset h
    refine ⟨arr', ?_, f2, by rw [f3]; simp⟩
    simp only [List.map_cons, Instr.fill]
    have e1 : (a.eval x).cells.size = sz := by rw [hcr.1, hsz]
    simp only [e1, ne_eq, not_true_eq_false, decide_false, Bool.false_or, decide_eq_true_eq]
    rw [if_neg (by
      rw [hr.1]
      have : (i + 1) * sz ≤ es.length * sz := Nat.mul_le_mul_right _ hle
      rw [Nat.add_mul] at this; omega)]
    exact f1

/-- A row of nothing but zeros. -/
theorem rowR_zero {I : Im} {L : Loc} {t sz : Nat} {z : PV} {zv : Value} (hsz : szT P t sz = true) (hz : zeroT P t z = true) (hpos : 0 < sz) (hzv : VR I L z zv) (n : Nat) :
    RowR I L sz (List.replicate n z) ((Array.range (n * sz)).map (zv.cells[· % zv.cells.size]!)) ∧ zv.cells.size = sz := by
  obtain ⟨i, zv', z1, z2, z3, z4, z5, z6⟩ := zeroT_info hz
  obtain ⟨i', i1, i2⟩ := szT_info hsz
  rw [z1] at i1; cases i1
  have hcr := cellsR_of_var z5 hzv
  have hs : zv.cells.size = sz := by rw [hcr.1, z4, i2]
  have hget : ∀ (j : Nat) x, ((Array.range (n * sz)).map (zv.cells[· % zv.cells.size]!))[j]? = some x → j < n * sz ∧ zv.cells[j % sz]? = some x := by
    intro j x hx
    rw [Array.getElem?_map] at hx
    rw [Option.map_eq_some_iff] at hx
    obtain ⟨k, hk1, hk2⟩ := hx
    obtain ⟨q1, q2⟩ := Array.getElem?_eq_some_iff.1 hk1
    simp at q1 q2
    subst q2
    refine ⟨q1, ?_⟩
    rw [hs] at hk2
    have : j % sz < zv.cells.size := by rw [hs]; exact Nat.mod_lt _ hpos
    rw [getElem!_pos zv.cells (j % sz) this] at hk2
    rw [Array.getElem?_eq_getElem this, hk2]
  refine ⟨⟨by simp, ?_, ?_, ?_⟩, hs⟩
  · intro i e he
    rw [List.getElem?_replicate] at he
    split at he
    · cases he; exact ⟨by rw [z4, i2], z5⟩
    · cases he
  · intro j x hx
    exact hcr.2.1 _ x (hget j x hx).2
  · intro i e j c x he hcj hx
    rw [List.getElem?_replicate] at he
    split at he
    · cases he
      obtain ⟨h1, h2⟩ := hget _ x hx
      have hj : j < sz := by
        have := (List.getElem?_eq_some_iff.1 hcj).1
        rw [z4, i2] at this; exact this
      rw [Nat.add_comm, Nat.add_mul_mod_self_right, Nat.mod_eq_of_lt hj] at h2
      exact hcr.2.2 j c x hcj h2
    · cases he

theorem RowR.mono {I I' : Im} {L L' : Loc} (hI : I.le I') (hL : L.le L') {sz : Nat} {es : List PV} {arr : Array Value} (h : RowR I L sz es arr) : RowR I' L' sz es arr :=
  ⟨h.1, h.2.1, h.2.2.1, fun i e j c x h1 h2 h3 => (h.2.2.2 i e j c x h1 h2 h3).mono hI hL⟩

/-- A new row that is not written any more is a list. -/
theorem rowR_slice {G : Gh} {w : World} {L L' : Loc} {sz : Nat} {es : List PV} {arr : Array Value} (e : Nat) (h : RowR (G.im w) L sz es arr) (hpos : 0 < sz) {k : SK} (hk : k ≠ .own) {n cap : Nat} (hn : es.length * sz ≤ n) (hcap : es.length ≤ cap) (hf : k = .fit → cap = es.length)
    {arr' : Array Value} (harr : ∀ (j : Nat) x, arr[j]? = some x → arr'[j]? = some x)
    (hI : (G.im w).le (({ G with fz := upd G.fz w.heap.size n } : Gh).im (w.alloc (.cells arr' e)))) (hL : L.le L') :
    VR (({ G with fz := upd G.fz w.heap.size n } : Gh).im (w.alloc (.cells arr' e))) L' (.slice k sz es) (.slice (some ⟨w.heap.size, 0, none⟩) es.length cap) := by
  have hlt : ∀ (i : Nat) e (j : Nat) c, es[i]? = some e → (cellsOf e)[j]? = some c → i * sz + j < arr.size := by
    intro i e j c he hc
    have h1 := (List.getElem?_eq_some_iff.1 he).1
    have h2 := (List.getElem?_eq_some_iff.1 hc).1
    rw [(h.2.1 i e he).1] at h2
    rw [h.1]
    have : (i + 1) * sz ≤ es.length * sz := Nat.mul_le_mul_right _ h1
    rw [Nat.add_mul] at this; omega
  refine .slice hk hf hcap (fun i j => arr.getD (i * sz + j) Go.undef) h.2.1 ?_ ?_
  · intro i e' j c he hc
    have h1 := hlt i e' j c he hc
    have e1 : arr[i * sz + j]? = some arr[i * sz + j] := by simp [h1]
    have := im_new G w arr' e (n := n) (by rw [h.1] at h1; omega) (harr _ _ e1)
    rw [Nat.zero_add, this]
    refine ⟨by simp [h1], ?_⟩
    have := h.2.2.1 _ _ e1
    simpa [h1] using this
  · intro i e' j c he hc
    have h1 := hlt i e' j c he hc
    have e1 : arr[i * sz + j]? = some arr[i * sz + j] := by simp [h1]
    have := h.2.2.2 i e' j c _ he hc e1
    simp only [Array.getD_eq_getD_getElem?, e1, Option.getD_some]
    exact this.mono hI hL

theorem run_bslice {sz n : Nat} {zero : PV} {parts' : List (Nat × Arg)} {es : List PV} (hS : Sim G N s a w) {t n' : Nat} {parts : Array (Nat × Operand)} {e : Nat} (he : sliceT P t = some e) (h1 : n' = n) (h2 : szT P e sz = true) (h3 : zeroT P e zero = true) (h4 : 0 < sz) (h5 : n * sz ≤ 16777216)
    (h6 : okElems parts.toList parts' = true) (ho : oper.op = .buildSlice t n' parts) (h : fillElems s.fr sz (List.replicate n zero) parts' = some es) :
    ∃ arr, (execOp a.eval oper).run P w = .ok (.value (.slice (some ⟨w.heap.size, 0, none⟩) n n)) (w.alloc (.cells arr e)) ∧ RowR (G.im w) (locOf G.loc s.st) sz es arr ∧ es.length = n := by
  subst h1
  obtain ⟨zv, z1, z2⟩ := run_zeroValue h3 (G.im w) (locOf G.loc s.st) w
  obtain ⟨hz1, hz2⟩ := rowR_zero h2 h3 h4 z2 n'
  obtain ⟨arr', f1, f2, f3⟩ := fillElems_ok hS parts.toList parts' _ _ es h6 hz1 h
  have hlen : es.length = n' := by rw [f3]; simp
  refine ⟨arr', ?_, f2, hlen⟩
  have hmap : (parts.map fun (i, x) => (i, a.eval x)).toList = parts.toList.map fun (i, x) => (i, a.eval x) := by simp
  have hbig : ¬ (n' * sz > 2 ^ 24) := by omega
  simp only [execOp, ho, Instr.buildSlice, Sem.run_bind, run_underlying (sliceT_info he), Result.andThen_ok, run_sizeOf h2, if_neg hbig, Sem.run_pure, hmap]
  by_cases h0 : n' * sz = 0
  · have : n' = 0 := by
      rcases Nat.mul_eq_zero.1 h0 with h | h
      · exact h
      · omega
    subst this
    have e0 : (Array.range (0 * sz)).map (zv.cells[· % zv.cells.size]!) = #[] := by simp
    rw [e0] at f1
    have hpure : (pure #[] : Sem (Array Value)).run P w = .ok #[] w := rfl
    have e1 : ∀ z : Array Value, (Array.range 0).map (fun x => z[x % z.size]!) = #[] := fun z => by simp
    simp only [h0, if_true, Sem.run_bind, hpure, Result.andThen_ok, e1]
    rw [f1]
    simp [newRow]
  · simp only [h0, if_false, Sem.run_bind, z1, Result.andThen_ok, Sem.run_pure]
    rw [f1]
    simp [newRow]

theorem op_bslice {sz n : Nat} {zero : PV} {parts : List (Nat × Arg)} (hS : Sim G N s a w) (hd : ∀ t, oper.dst = some t → t < N) (hc : checkOp P oper.op (.bslice sz zero n parts) = true) (h : (IOp.bslice sz zero n parts).sem s.fr b s.st = some (v, b', st')) : Same3 P oper N G s a w b b' v st' := by
  simp only [checkOp] at hc
  split at hc
  case h_2 => cases hc
  rename_i t n' ps ho
  split at hc
  case h_2 => cases hc
  rename_i e he
  simp only [Bool.and_eq_true, decide_eq_true_eq] at hc
  obtain ⟨⟨⟨⟨⟨rfl, h2⟩, h3⟩, h4⟩, h5⟩, h6⟩ := hc
  simp only [IOp.sem, Option.map_eq_some_iff, Prod.mk.injEq] at h
  obtain ⟨es, hes, rfl, rfl, rfl⟩ := h
  obtain ⟨arr, hrun, hrow, hlen⟩ := run_bslice hS he rfl h2 h3 h4 h5 h6 ho hes
  obtain ⟨hS', hE⟩ := hS.alloc (.cells arr e) (by first | rfl | trivial) (G' := { G with fz := upd G.fz w.heap.size (es.length * sz) }) (fun b hb => upd_ne _ _ hb) (fun _ _ => rfl) (fun _ _ _ => rfl) (fun _ _ => rfl)
  refine ⟨rfl, rfl, good_mem hd hrun hS' hE (fun κ => VR.tr ?_) (by simp)⟩
  have := rowR_slice (L' := locOf G.loc s.st) (arr' := arr) e hrow h4 (k := .fit) (by simp) (Nat.le_refl _) (Nat.le_refl _) (fun _ => rfl) (fun _ _ h => h) hE.im (Loc.le_refl _)
  rw [hlen] at this ⊢
  exact this

theorem rowR_obj {I : Im} {L : Loc} {G' : Gh} {w' : World} {L' : Loc} {sz l : Nat} {es : List PV} {arr : Array Value} {e : Nat} (h : RowR I L sz es arr) (hI : I.le (G'.im w')) (hL : L.le L') (h1 : G'.cl (G'.loc l) = some (.loc l)) (h2 : G'.fz (G'.loc l) = 0)
    (h3 : w'.heap[G'.loc l]? = some (.cells arr e (0, 0))) : ObjR G' w' L' l (.arr sz es) := by
  refine ⟨h1, h2, arr, e, h3, h.1, fun i p hp => ⟨(h.2.1 i p hp).1, (h.2.1 i p hp).2, fun j c hc => ?_⟩⟩
  have hlt : i * sz + j < arr.size := by
    have q1 := (List.getElem?_eq_some_iff.1 hp).1
    have q2 := (List.getElem?_eq_some_iff.1 hc).1
    rw [(h.2.1 i p hp).1] at q2
    rw [h.1]
    have : (i + 1) * sz ≤ es.length * sz := Nat.mul_le_mul_right _ q1
    rw [Nat.add_mul] at this; omega
  have e1 : arr[i * sz + j]? = some arr[i * sz + j] := by simp [hlt]
  exact ⟨_, e1, ((h.2.2.2 i p j c _ hp hc e1).mono hI hL).cr (h.2.2.1 _ _ e1)⟩

theorem good_row {sz n : Nat} {es : List PV} {arr : Array Value} {e : Nat} (hS : Sim G N s a w) (hd : ∀ t, oper.dst = some t → t < N) (hrow : RowR (G.im w) (locOf G.loc s.st) sz es arr) (hlen : es.length = n)
    (hrun : (execOp a.eval oper).run P w = .ok (.value (.slice (some ⟨w.heap.size, 0, none⟩) n n)) (w.alloc (.cells arr e))) :
    OpGood P oper N G s a w (.mslice s.st.length 0 n sz) s.fr s.bx (s.st ++ [.arr sz es]) := by
  obtain ⟨hS', hE⟩ := hS.alloc (.cells arr e) (by first | rfl | trivial) (G' := { G with cl := upd G.cl w.heap.size (some (.loc s.st.length)), loc := upd G.loc s.st.length w.heap.size }) (fun _ _ => rfl) (fun b hb => upd_ne _ _ hb)
    (fun l o hl => upd_ne _ _ (by have := (List.getElem?_eq_some_iff.1 hl).1; omega)) (fun _ _ => rfl)
  have hpush := hS'.push (.arr sz es) (by
    refine rowR_obj (e := e) hrow hE.im (Loc.le_trans hE.loc (locOf_push _ _ _)) (by simp [upd]) ?_ (by simp only [upd, if_true]; exact heap_alloc_new w _)
    simp only [upd, if_true]; exact (hS.store.fresh _ (Nat.le_refl _)).1)
  refine good_mem (s1 := { s with st := s.st ++ [_] }) hd hrun hpush ⟨hE.im, Loc.le_trans hE.loc (locOf_push _ _ _), hE.prot, hE.size, hE.os, hE.output, hE.frozen⟩ (fun κ => VR.tr ?_) (by simp)
  have := @VR.mslice (({ G with cl := upd G.cl w.heap.size (some (.loc s.st.length)), loc := upd G.loc s.st.length w.heap.size } : Gh).im (w.alloc (.cells arr e))) (locOf (upd G.loc s.st.length w.heap.size) (s.st ++ [.arr sz es])) s.st.length 0 n sz w.heap.size n
    (by simp [locOf, upd, Obj.sz]) (Nat.le_refl _)
  simpa using this

theorem op_bsliceS {sz n : Nat} {zero : PV} {parts : List (Nat × Arg)} (hS : Sim G N s a w) (hd : ∀ t, oper.dst = some t → t < N) (hc : checkOp P oper.op (.bsliceS sz zero n parts) = true) (h : (IOp.bsliceS sz zero n parts).sem s.fr b s.st = some (v, b', st')) :
    b' = b ∧ OpGood P oper N G s a w v s.fr s.bx st' := by
  simp only [checkOp] at hc
  split at hc
  case h_2 => cases hc
  rename_i t n' ps ho
  split at hc
  case h_2 => cases hc
  rename_i e he
  simp only [Bool.and_eq_true, decide_eq_true_eq] at hc
  obtain ⟨⟨⟨⟨⟨rfl, h2⟩, h3⟩, h4⟩, h5⟩, h6⟩ := hc
  simp only [IOp.sem, Option.map_eq_some_iff, Prod.mk.injEq] at h
  obtain ⟨es, hes, rfl, rfl, rfl⟩ := h
  obtain ⟨arr, hrun, hrow, hlen⟩ := run_bslice hS he rfl h2 h3 h4 h5 h6 ho hes
  exact ⟨rfl, good_row hS hd hrow hlen hrun⟩

theorem run_mkslice {sz by_ : Nat} {zero : PV} {ln cp : Arg} {n : Int} (hS : Sim G N s a w) {t : Nat} {l c : Operand} {e : Nat} (he : sliceT P t = some e) (h2 : szT P e sz = true) (h3 : zeroT P e zero = true) (hb : bytesT P e by_ = true) (h4 : 0 < sz)
    (hl : okArg l ln = true) (hc : okArg c cp = true) (ho : oper.op = .makeSlice t l c) (el : ln.val s.fr = .int .i64 n) (ec : cp.val s.fr = .int .i64 n) (h0 : 0 ≤ n) (hm : n ≤ 9223372036854775807) (hby : by_ * n ≤ 281474976710656) :
    ∃ arr, (execOp a.eval oper).run P w = .ok (.value (.slice (some ⟨w.heap.size, 0, none⟩) n.toNat n.toNat)) (w.alloc (.cells arr e)) ∧ RowR (G.im w) (locOf G.loc s.st) sz (List.replicate n.toNat zero) arr := by
  obtain ⟨zv, z1, z2⟩ := run_zeroValue h3 (G.im w) (locOf G.loc s.st) w
  obtain ⟨hz1, hz2⟩ := rowR_zero h2 h3 h4 z2 n.toNat
  refine ⟨_, ?_, hz1⟩
  have hbi : ∃ i, P.info? e = some i ∧ i.bytes = by_ := by
    unfold bytesT at hb
    split at hb
    · exact ⟨_, by assumption, by simpa using hb⟩
    · cases hb
  obtain ⟨i, hi, rfl⟩ := hbi
  have hw : IntKind.i64.wrap n = n := IntWalk.i64_in n (by omega)
  have ht1 : (decide (n < 0) || decide ((i.bytes : Int) * n > 2 ^ 48)) = false := by
    simp; omega
  simp only [execOp, ho, arg_int hS hl el, arg_int hS hc ec]
  simp only [Instr.makeSlice, Sem.run_bind, run_underlying (sliceT_info he), Result.andThen_ok, asInt, asIntOf, Sem.run_pure, typeInfo, run_program, hi, hw, ht1]
  have hneg : ¬ (n < 0) := by omega
  simp only [hneg, decide_false, Bool.false_or, Int.lt_irrefl, gt_iff_lt, Bool.false_eq_true, if_false, Sem.run_pure, Sem.run_bind, Result.andThen_ok, run_askRoom, run_sizeOf h2]
  by_cases hz : n.toNat * sz = 0
  · have : n.toNat = 0 := by
      rcases Nat.mul_eq_zero.1 hz with h | h
      · exact h
      · omega
    have e1 : ∀ f : Nat → Value, (Array.range 0).map f = #[] := fun f => by simp
    rw [this]
    simp [newRow, e1]
  · simp [hz, z1, newRow]

theorem op_mkslice {sz by_ : Nat} {zero : PV} {ln cp : Arg} (hS : Sim G N s a w) (hd : ∀ t, oper.dst = some t → t < N) (hc : checkOp P oper.op (.mkslice sz zero by_ ln cp) = true) (h : (IOp.mkslice sz zero by_ ln cp).sem s.fr b s.st = some (v, b', st')) : Same3 P oper N G s a w b b' v st' := by
  simp only [checkOp] at hc
  split at hc
  case h_2 => cases hc
  rename_i t l c ho
  simp only [Bool.and_eq_true] at hc
  obtain ⟨⟨hT, hl⟩, hcp⟩ := hc
  split at hT
  case h_2 => cases hT
  rename_i e he
  simp only [Bool.and_eq_true, decide_eq_true_eq] at hT
  obtain ⟨⟨⟨h2, h3⟩, hb⟩, h4⟩ := hT
  simp only [IOp.sem] at h
  split at h
  case h_2 => cases h
  rename_i n c' el ec
  split at h
  case isFalse => cases h
  rename_i hcond
  obtain ⟨rfl, h0, hm, hby⟩ := hcond
  cases h
  obtain ⟨arr, hrun, hrow⟩ := run_mkslice hS he h2 h3 hb h4 hl hcp ho el ec h0 hm hby
  obtain ⟨hS', hE⟩ := hS.alloc (.cells arr e) (by first | rfl | trivial) (G' := { G with fz := upd G.fz w.heap.size (n.toNat * sz) }) (fun b hb => upd_ne _ _ hb) (fun _ _ => rfl) (fun _ _ _ => rfl) (fun _ _ => rfl)
  refine ⟨rfl, rfl, good_mem hd hrun hS' hE (fun κ => VR.tr ?_) (by simp)⟩
  have := rowR_slice (L' := locOf G.loc s.st) (arr' := arr) e hrow h4 (k := .fit) (n := n.toNat * sz) (cap := n.toNat) (by simp) (by simp) (by simp) (fun _ => by simp) (fun _ _ h => h) hE.im (Loc.le_refl _)
  simpa using this

theorem op_mksliceS {sz by_ : Nat} {zero : PV} {ln cp : Arg} (hS : Sim G N s a w) (hd : ∀ t, oper.dst = some t → t < N) (hc : checkOp P oper.op (.mksliceS sz zero by_ ln cp) = true) (h : (IOp.mksliceS sz zero by_ ln cp).sem s.fr b s.st = some (v, b', st')) :
    b' = b ∧ OpGood P oper N G s a w v s.fr s.bx st' := by
  simp only [checkOp] at hc
  split at hc
  case h_2 => cases hc
  rename_i t l c ho
  simp only [Bool.and_eq_true] at hc
  obtain ⟨⟨hT, hl⟩, hcp⟩ := hc
  split at hT
  case h_2 => cases hT
  rename_i e he
  simp only [Bool.and_eq_true, decide_eq_true_eq] at hT
  obtain ⟨⟨⟨h2, h3⟩, hb⟩, h4⟩ := hT
  simp only [IOp.sem] at h
  split at h
  case h_2 => cases h
  rename_i n c' el ec
  split at h
  case isFalse => cases h
  rename_i hcond
  obtain ⟨rfl, h0, hm, hby⟩ := hcond
  cases h
  obtain ⟨arr, hrun, hrow⟩ := run_mkslice hS he h2 h3 hb h4 hl hcp ho el ec h0 hm hby
  exact ⟨rfl, good_row hS hd hrow (by simp) hrun⟩

end

end PE
