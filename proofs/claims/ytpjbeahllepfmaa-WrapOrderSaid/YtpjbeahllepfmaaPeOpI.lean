/-
  Appending; and cells whose rows own their room.
-/
import Derived.Test.YtpjbeahllepfmaaPeOpH
set_option linter.unusedVariables false
set_option linter.unusedSimpArgs false
namespace PE
open Go

section
variable {P : Program} {G G' : Gh} {N : Nat} {s : St} {a : Act} {w w' : World} {oper : Oper} {b b' : Bx} {st' : Store} {v : PV}

theorem run_append_inplace {t u ty e sz e0 : Nat} (ht : P.underlying t = some (.slice e)) (hu : ∃ d, P.underlying u = some d ∧ (d matches .int _) = false) (hsz : szT P e sz = true) {bk n cap : Nat} {arr : Array Value} (hg : w.heap[bk]? = some (.cells arr e0 (0, 0)))
    {y : Value} {m : Nat} {news : List Value} (hl : (Builtin.lenOf y).run P w = .ok m w) (hf : (Builtin.firstCells sz m y).run P w = .ok news.toArray w) (hn : news.length = m * sz) (h1 : ∀ x ∈ news, x.oneCell' = true)
    (hroom : n + m ≤ cap) (hfit : n * sz + news.length ≤ arr.size) :
    (Builtin.append_ #[t, u] ty #[.slice (some ⟨bk, 0, none⟩) n cap, y]).run P w = .ok (.slice (some ⟨bk, 0, none⟩) (n + m) cap) (w.setRow bk (spliceA arr (n * sz) news)) := by
  obtain ⟨d, hd, hd'⟩ := hu
  have hst := run_storeCells_at P bk (n * sz) e0 news 0 arr w hg (by simpa using hfit) h1
  simp only [Nat.add_zero] at hst
  have hz : (decide False) = false := rfl
  unfold Builtin.append_
  simp only [List.getElem?_toArray, List.getElem?_cons_zero, List.getElem?_cons_succ, Sem.run_bind, run_underlying ht, Result.andThen_ok, run_sizeOf hsz, run_underlying hd, Sem.run_pure]
  cases d <;> first | (simp at hd'; done) | skip
  all_goals
    simp only [Bool.false_eq_true, if_false, hl, Result.andThen_ok, Bool.not_false, if_true, hroom, Sem.run_bind, hf, addr_add, Nat.zero_add, Sem.run_pure, hst]
    rfl

theorem run_append_grow' {t u ty e sz : Nat} {i : TypeInfo} {z : Value} (ht : P.underlying t = some (.slice e)) (hu : ∃ d, P.underlying u = some d ∧ (d matches .int _) = false) (hsz : szT P e sz = true) (hi : P.info? e = some i) (hz : i.zero = some z)
    {ad : Option Addr} {n cap : Nat} {y : Value} {m : Nat} {olds news : List Value} (hl : (Builtin.lenOf y).run P w = .ok m w) (hf : (Builtin.firstCells sz m y).run P w.drew = .ok news.toArray w.drew)
    (ho : (Builtin.firstCells sz n (.slice ad n cap)).run P w.drew = .ok olds.toArray w.drew) (hb : 0 < i.bytes) (hroom : cap < n + m) (hby : (n + m) * i.bytes ≤ 140737488355328) :
    (Builtin.append_ #[t, u] ty #[.slice ad n cap, y]).run P w = .ok (.slice (some ⟨w.heap.size, 0, none⟩) (n + m) (grownCap w (n + m) cap e))
      (w.drew.alloc (.cells (olds.toArray ++ news.toArray ++ Builtin.zeroCells z.cells (grownCap w (n + m) cap e - (n + m))) e)) := by
  obtain ⟨d, hd, hd'⟩ := hu
  have hn : ¬ (n + m ≤ cap) := by omega
  have h48 : ¬ (Builtin.nextslicecap (n + m) cap * i.bytes > 2 ^ 48) := by
    have := growslice_fits hroom hby
    omega
  have hti : (typeInfo e).run P w = .ok i w := by simp [typeInfo, hi]
  have htd : ∀ W, (typeInfo e).run P W = .ok i W := fun W => by simp [typeInfo, hi]
  have hzv : ∀ W, (zeroValue e).run P W = .ok z W := fun W => by simp [zeroValue, typeInfo, hi, hz]
  have hch : (choose (.appendCap (n + m) cap e)).run P w = .ok (grownCap w (n + m) cap e) w.drew := by simp [Question.forced, grownCap]
  have hb0 : ¬ (i.bytes = 0) := by omega
  unfold Builtin.append_
  simp only [List.getElem?_toArray, List.getElem?_cons_zero, List.getElem?_cons_succ, Sem.run_bind, run_underlying ht, Result.andThen_ok, run_sizeOf hsz, run_underlying hd, Sem.run_pure]
  cases d <;> first | (simp at hd'; done) | skip
  all_goals
    simp only [Bool.false_eq_true, if_false, hl, Result.andThen_ok, Bool.not_false, if_true, hn, Sem.run_bind, htd, hb0, false_or, and_false, Sem.run_pure, h48, hch, run_askRoom, ho, hf, hzv, newRow, run_newObj]
    rfl

theorem run_append_empty {t u ty e sz : Nat} (ht : P.underlying t = some (.slice e)) (hu : ∃ d, P.underlying u = some d ∧ (d matches .int _) = false) (hsz : szT P e sz = true) {ad : Option Addr} {n cap : Nat}
    {y : Value} (hl : (Builtin.lenOf y).run P w = .ok 0 w) (hf : (Builtin.firstCells sz 0 y).run P w = .ok #[] w) (hroom : n ≤ cap) :
    (Builtin.append_ #[t, u] ty #[.slice ad n cap, y]).run P w = .ok (.slice ad n cap) w := by
  obtain ⟨d, hd, hd'⟩ := hu
  unfold Builtin.append_
  simp only [List.getElem?_toArray, List.getElem?_cons_zero, List.getElem?_cons_succ, Sem.run_bind, run_underlying ht, Result.andThen_ok, run_sizeOf hsz, run_underlying hd, Sem.run_pure]
  cases d <;> first | (simp at hd'; done) | skip
  all_goals
    simp only [Bool.false_eq_true, if_false, hl, Result.andThen_ok, Bool.not_false, if_true, Nat.add_zero, hroom, Sem.run_bind, hf]
    cases ad <;> simp [storeCells]

theorem RowR.append {I : Im} {L : Loc} {sz : Nat} {l l' : List PV} {xs ys : List Value} (h : RowR I L sz l xs.toArray) (h' : RowR I L sz l' ys.toArray) : RowR I L sz (l ++ l') (xs ++ ys).toArray := by
  obtain ⟨a1, a2, a3, a4⟩ := h
  obtain ⟨b1, b2, b3, b4⟩ := h'
  simp only [List.size_toArray] at a1 b1
  refine ⟨by simp [a1, b1, Nat.add_mul], ?_, ?_, ?_⟩
  · intro i e he
    rw [List.getElem?_append] at he
    split at he
    · exact a2 i e he
    · exact b2 _ e he
  · intro j x hx
    simp only [List.getElem?_toArray] at hx
    rw [List.getElem?_append] at hx
    split at hx
    · exact a3 j x (by simpa using hx)
    · exact b3 _ x (by simpa using hx)
  · intro i e j c x he hc hx
    simp only [List.getElem?_toArray] at hx
    rw [List.getElem?_append] at he
    split at he
    · rename_i hi
      have hj : j < sz := by rw [← (a2 i e he).1]; exact (List.getElem?_eq_some_iff.1 hc).1
      have hb : (i + 1) * sz ≤ l.length * sz := Nat.mul_le_mul_right _ hi
      rw [Nat.add_mul] at hb
      rw [List.getElem?_append_left (by omega)] at hx
      exact a4 i e j c x he hc (by simpa using hx)
    · rename_i hi
      have hb : l.length * sz ≤ i * sz := Nat.mul_le_mul_right _ (by omega)
      rw [List.getElem?_append_right (by omega)] at hx
      refine b4 (i - l.length) e j c x he hc ?_
      simp only [List.getElem?_toArray]
      rw [← hx]
      congr 1
      rw [Nat.sub_mul]
      omega

/-- A row in a block, as a list. -/
theorem slice_of_row {I I' : Im} {L : Loc} {sz : Nat} {l : List PV} {xs : List Value} {bk cap : Nat} (h : RowR I L sz l xs.toArray) (hI : I.le I') (hc : l.length ≤ cap) (hcells : ∀ (q : Nat) x, xs[q]? = some x → I' bk q = some x) {k : SK} (hk : k ≠ .own) (hf : k = .fit → cap = l.length) :
    VR I' L (.slice k sz l) (.slice (some ⟨bk, 0, none⟩) l.length cap) := by
  obtain ⟨a1, a2, a3, a4⟩ := h
  have hlt : ∀ (i : Nat) e (j : Nat) c, l[i]? = some e → (cellsOf e)[j]? = some c → i * sz + j < xs.length := by
    intro i e j c he hcj
    have h1 := (List.getElem?_eq_some_iff.1 he).1
    have h2 := (List.getElem?_eq_some_iff.1 hcj).1
    rw [(a2 i e he).1] at h2
    have : (i + 1) * sz ≤ l.length * sz := Nat.mul_le_mul_right _ h1
    rw [Nat.add_mul] at this
    simp only [List.size_toArray] at a1
    omega
  refine .slice hk hf hc (fun i j => xs.getD (i * sz + j) Go.undef) a2 ?_ ?_
  · intro i e j c he hcj
    have h1 := hlt i e j c he hcj
    have e1 : xs[i * sz + j]? = some xs[i * sz + j] := by simp [h1]
    refine ⟨by rw [Nat.zero_add, hcells _ _ e1]; simp [h1], ?_⟩
    have := a3 (i * sz + j) xs[i * sz + j] (by simp)
    simpa [h1] using this
  · intro i e j c he hcj
    have h1 := hlt i e j c he hcj
    have e1 : xs[i * sz + j]? = some xs[i * sz + j] := by simp [h1]
    have := a4 i e j c xs[i * sz + j] he hcj (by simp)
    simp only [List.getD_eq_getElem?_getD, e1, Option.getD_some]
    exact this.mono hI (Loc.le_refl _)

theorem okVal_own {z : Nat} {l : List PV} {v : Value} (h : okVal (.slice .own z l) v = true) : False :=
  VR.not_own (okVal_vr (I := fun _ _ => none) (L := fun _ => none) _ _ h)

theorem Sim.drew (hS : Sim G N s a w) : Sim G N s a w.drew := by
  have hK : ∀ κ, Keeps G w G w.drew κ := fun κ bk hb => ⟨hb, rfl, rfl⟩
  have hI : (G.im w).le (G.im w.drew) := fun bk of x hx => hx
  exact ⟨hS.defers, hS.size, fun t ht => (hS.tmp t ht).mono (G' := G) (w' := w.drew) hI (Loc.le_refl _) (hK _) (fun _ _ _ => rfl), hS.hi, hS.lp,
    fun k => (hS.box k).mono (G' := G) (w' := w.drew) hI (Loc.le_refl _) rfl (hK _) (fun _ => hK _),
    ⟨fun l o hl => (hS.store.obj l o hl).mono (G' := G) (w' := w.drew) hI (Loc.le_refl _) rfl (hK _) (fun _ _ => hK _), hS.store.fresh⟩⟩

theorem okAppT_info {ts : List Nat} {sz by_ : Nat} (h : okAppT P ts sz by_ = true) : ∃ t u e i z, ts = [t, u] ∧ P.underlying t = some (.slice e) ∧ (∃ d, P.underlying u = some d ∧ (d matches .int _) = false) ∧ szT P e sz = true ∧ P.info? e = some i ∧ i.bytes = by_ ∧ 0 < by_ ∧ 0 < sz ∧ i.zero = some z ∧ z.cells.size = sz := by
  unfold okAppT at h
  split at h
  case h_2 => cases h
  rename_i t u
  simp only [Bool.and_eq_true] at h
  obtain ⟨h1, h2⟩ := h
  split at h1
  case h_2 => cases h1
  rename_i e he
  simp only [Bool.and_eq_true, decide_eq_true_eq] at h1
  obtain ⟨⟨⟨⟨q1, q2⟩, q3⟩, q4⟩, q5⟩ := h1
  split at q5
  case h_2 => cases q5
  rename_i i hi
  split at q5
  case h_2 => cases q5
  rename_i z hz
  refine ⟨t, u, e, i, z, rfl, sliceT_info he, ?_, q1, hi, ?_, q3, q4, hz, by simpa using q5⟩
  · unfold okSlcT at h2
    split at h2
    · rename_i hh; exact ⟨_, hh, rfl⟩
    · rename_i hh; exact ⟨_, hh, rfl⟩
    · cases h2
  · unfold bytesT at q2
    rw [hi] at q2
    simpa using q2

/-- Where a row grows into new memory. -/
theorem append_new (hS : Sim G N s a w) (hd : ∀ t, oper.dst = some t → t < N) {d : Nat} (hdd : oper.dst = some d) {sz e : Nat} {l l' : List PV} {olds news rest : List Value} {cap : Nat} (hpos : 0 < sz)
    (hrun : (execOp a.eval oper).run P w = .ok (.value (.slice (some ⟨w.heap.size, 0, none⟩) (l.length + l'.length) cap)) (w.drew.alloc (.cells (olds ++ news ++ rest).toArray e)))
    (hro : RowR (G.im w) (locOf G.loc s.st) sz l olds.toArray) (hrn : RowR (G.im w) (locOf G.loc s.st) sz l' news.toArray) (hcap : l.length + l'.length ≤ cap) (hmax : cap ≤ maxLen) (hsize : (olds ++ news ++ rest).length = cap * sz)
    {fr' : Fr} (hfr : fr' = s.fr ∨ ∃ t0, fr' = upd s.fr t0 (strip (s.fr t0))) : OpGood P oper N G s a w (.slice .own sz (l ++ l')) fr' s.bx s.st := by
  have hSd : Sim G N s a w.drew := hS.drew
  obtain ⟨hS', hE⟩ := hSd.alloc (.cells (olds ++ news ++ rest).toArray e) (by first | rfl | trivial) (G' := { G with fz := upd G.fz w.heap.size ((l ++ l').length * sz), cl := upd G.cl w.heap.size (some (.ownT d)) }) (fun b hb => upd_ne _ _ hb) (fun b hb => upd_ne _ _ hb) (fun _ _ _ => rfl) (fun _ _ => rfl)
  have hrow := hro.append hrn
  have hlen : (olds ++ news).length = (l ++ l').length * sz := by
    have := hrow.1
    simpa using this
  have hvr := slice_of_row (bk := w.heap.size) (cap := cap) (k := .plain) hrow hE.im (by simp; omega) (fun q x hq => by
    have hlt : q < (l ++ l').length * sz := by rw [← hlen]; exact (List.getElem?_eq_some_iff.1 hq).1
    unfold Gh.im
    simp only [upd, if_true]
    rw [if_pos hlt]
    refine (World.cell?_alloc_new w.drew _ e q).trans ?_
    simp only [List.getElem?_toArray]
    rw [List.getElem?_append_left (List.getElem?_eq_some_iff.1 hq).1]
    exact hq) (by simp) (by simp)
  have hown : TR { G with fz := upd G.fz w.heap.size ((l ++ l').length * sz), cl := upd G.cl w.heap.size (some (.ownT d)) } (w.drew.alloc (.cells (olds ++ news ++ rest).toArray e)) (locOf G.loc s.st) (.ownT d) (.slice .own sz (l ++ l')) (.slice (some ⟨w.heap.size, 0, none⟩) (l.length + l'.length) cap) := by
    refine ⟨w.heap.size, cap, _, e, by simp, by simp [upd], heap_alloc_new w.drew _, by rw [List.size_toArray, hsize], by simp; omega, hmax, by simp [upd], hpos, by rw [← List.length_append]; exact hvr⟩
  have fin : ∀ {s1 : St}, s1.bx = s.bx → s1.st = s.st → Sim { G with fz := upd G.fz w.heap.size ((l ++ l').length * sz), cl := upd G.cl w.heap.size (some (.ownT d)) } N s1 a (w.drew.alloc (.cells (olds ++ news ++ rest).toArray e)) →
      OpGood P oper N G s a w (.slice .own sz (l ++ l')) s1.fr s.bx s.st := by
    intro s1 e1 e2 hS1
    refine ⟨_, _, _, { G with fz := upd G.fz w.heap.size ((l ++ l').length * sz), cl := upd G.cl w.heap.size (some (.ownT d)) }, hrun, .inl rfl, ?_, ⟨hE.im, hE.loc, hE.prot, hE.size, hE.os, hE.output, hE.frozen⟩⟩
    have := hS1.put hd (v := .slice .own sz (l ++ l')) (mv := .slice (some ⟨w.heap.size, 0, none⟩) (l.length + l'.length) cap) (fun t ht => by
      rw [hdd] at ht; cases ht
      rw [e2]; exact hown) (by simp)
    rw [e1, e2] at this
    exact this
  rcases hfr with rfl | ⟨t0, rfl⟩
  · exact fin rfl rfl hS'
  · exact fin (s1 := { s with fr := upd s.fr t0 (strip (s.fr t0)) }) rfl rfl (hS'.stripTmp t0)

theorem op_append {sz by_ : Nat} {x y : Arg} (hS : Sim G N s a w) (hd : ∀ t, oper.dst = some t → t < N) (hdn : oper.dst ≠ none) (hc : checkOp P oper.op (.append sz by_ x y) = true) (h : (IOp.append sz by_ x y).sem s.fr b s.st = some (v, b', st')) :
    b' = b ∧ st' = s.st ∧ OpGood P oper N G s a w v (stripAll s.fr (IOp.append sz by_ x y).takes) s.bx s.st := by
  simp only [checkOp] at hc
  split at hc
  case h_2 => cases hc
  rename_i c ho
  split at hc
  case h_2 => cases hc
  rename_i hcal
  simp only [Bool.and_eq_true] at hc
  obtain ⟨hargs, hT⟩ := hc
  split at hargs
  case h_2 => cases hargs
  rename_i x' y' hxy
  simp only [Bool.and_eq_true] at hargs
  obtain ⟨hx, hy⟩ := hargs
  obtain ⟨t, u, e, i, z, hts, ht, hu, hsz, hi, hby, hbp, hpos, hz, hzs⟩ := okAppT_info hT
  have hargs' : c.args = #[x', y'] := by
    have := congrArg List.toArray hxy; simpa using this
  have hts' : c.argTypes = #[t, u] := by
    have := congrArg List.toArray hts; simpa using this
  have hrun : (execOp a.eval oper).run P w = ((Builtin.append_ #[t, u] oper.type #[a.eval x', a.eval y']).run P w).andThen fun v w' => .ok (.value v) w' := by
    simp [execOp, ho, resolve, hcal, hargs', hts', invoke, builtin]
  obtain ⟨d, hdd⟩ := Option.ne_none_iff_exists'.1 hdn
  have hfrs : stripAll s.fr (IOp.append sz by_ x y).takes = s.fr ∨ ∃ t0, stripAll s.fr (IOp.append sz by_ x y).takes = upd s.fr t0 (strip (s.fr t0)) := by
    cases x with
    | t t0 => exact .inr ⟨t0, rfl⟩
    | c p => exact .inl rfl
  subst hby
  simp only [IOp.sem] at h
  split at h
  · -- its room is its own
    rename_i sz' l hv
    split at h
    case isFalse => cases h
    rename_i hz'
    obtain rfl : sz = sz' := hz'.symm
    simp only [Option.bind_eq_some_iff] at h
    obtain ⟨l', hl', h⟩ := h
    split at h
    case isFalse => cases h
    rename_i hbound
    cases h
    refine ⟨rfl, rfl, ?_⟩
    obtain ⟨s1, news, s2, s3, s4⟩ := src_run (P := P) hS hy hpos hl'
    cases x with
    | c p =>
      simp only [Arg.val] at hv
      subst hv
      cases x' <;> simp [okArg] at hx
      exact (okVal_own hx).elim
    | t t0 =>
    simp only [Arg.val] at hv
    cases x' <;> simp [okArg] at hx
    rename_i t0'
    subst hx
    have htN : t0' < N := by
      rcases Nat.lt_or_ge t0' N with h | h
      · exact h
      · rw [hS.hi t0' h] at hv; cases hv
    have htr := hS.tmp t0' htN
    rw [hv] at htr
    have hev : a.eval (.tmp t0') = a.tmps.getD t0' Go.undef := rfl
    obtain ⟨b0, cap, arr, e', h1, h2, h3, h5, h6, h7, h8, h9, h10⟩ := htr
    obtain ⟨ad, cap', q1, q2, q3⟩ := vr_row hpos h10
    rw [h1] at q1
    cases q1
    -- what it holds so far
    have hol : ∃ olds : List Value, olds.length = l.length * sz ∧ (∀ (q : Nat) x, olds[q]? = some x → G.im w b0 q = some x) ∧ RowR (G.im w) (locOf G.loc s.st) sz l olds.toArray := by
      rcases q3 with rfl | ⟨bb, oo, r1, olds, r2, r3, r4⟩
      · exact ⟨[], by simp, by simp, ⟨by simp, by simp, by simp, by simp⟩⟩
      · cases r1
        exact ⟨olds, r2, fun q x hq => by have := r3 q x hq; rwa [Nat.zero_add] at this, r4⟩
    obtain ⟨olds, o1, o2, o3⟩ := hol
    by_cases hroom : l.length + l'.length ≤ cap
    · have hfit : l.length * sz + news.length ≤ arr.size := by rw [s2, h5, ← Nat.add_mul]; exact Nat.mul_le_mul_right _ hroom
      have hr := run_append_inplace (P := P) (ty := oper.type) ht hu hsz h3 s1 (s4 w (fun _ _ => rfl)) s2 (fun x hx => by
        obtain ⟨j, hj⟩ := List.mem_iff_getElem?.1 hx
        exact s3.2.2.1 j x (by simpa using hj)) hroom hfit
      let w1 := w.setRow b0 (spliceA arr (l.length * sz) news)
      let G1 : Gh := { G with cl := upd G.cl b0 (some (.ownT d)), fz := upd G.fz b0 ((l ++ l').length * sz) }
      have htn := turned_setRow h3 (spliceA arr (l.length * sz) news)
      have hI : (G.im w).le (G1.im w1) := by
        intro bk of x hx
        unfold Gh.im at hx ⊢
        split at hx
        · rename_i hlt
          by_cases hbb : bk = b0
          · subst hbb
            rw [h8] at hlt
            have hfz : G1.fz bk = (l ++ l').length * sz := by simp [G1, upd]
            rw [if_pos (by rw [hfz]; simp only [List.length_append, Nat.add_mul]; omega)]
            show (w.setRow bk _).cell? _ = _
            rw [cell_row htn.here, spliceA_get hfit, if_neg (by omega), ← cell_row h3]
            exact hx
          · have hfz : G1.fz bk = G.fz bk := upd_ne _ _ hbb
            rw [if_pos (by rw [hfz]; exact hlt)]
            show (w.setRow b0 _).cell? _ = _
            rw [World.cell?_of_block (a := ⟨bk, of, none⟩) (htn.other bk hbb)]
            exact hx
        · cases hx
      have hK : ∀ κ, κ ≠ .ownT t0' → Keeps G w G1 w1 κ := by
        intro κ hne bk hb
        have hbb : bk ≠ b0 := by rintro rfl; rw [h2] at hb; cases hb; exact hne rfl
        exact ⟨by simp only [G1]; rw [upd_ne _ _ hbb]; exact hb, by simp only [G1]; rw [upd_ne _ _ hbb], htn.other bk hbb⟩
      have hS1 : Sim G1 N { s with fr := upd s.fr t0' (strip (s.fr t0')) } a w1 := by
        refine ⟨hS.defers, hS.size, ?_, ?_, ?_, ?_, ?_, ?_⟩
        · intro q hq
          simp only [upd]
          split
          · rename_i eq; subst eq
            rw [hv]
            have : VR (G.im w) (locOf G.loc s.st) (.slice .plain sz l) (a.tmps.getD q Go.undef) := h10
            exact this.mono hI (Loc.le_refl _)
          · rename_i eq
            exact (hS.tmp q hq).mono (G' := G1) (w' := w1) hI (Loc.le_refl _) (hK _ (by simp [eq])) (fun _ _ _ => rfl)
        · intro q hq
          simp only [upd]
          split
          · rename_i eq
            subst eq
            exact absurd htN (Nat.not_lt.2 hq)
          · exact hS.hi q hq
        · intro q k off hk
          simp only [upd] at hk
          split at hk
          · rw [hv] at hk; cases hk
          · exact hS.lp q k off hk
        · exact fun k => (hS.box k).mono (G' := G1) (w' := w1) hI (Loc.le_refl _) rfl (hK _ (by simp)) (fun _ => hK _ (by simp))
        · exact fun l0 ob hl0 => (hS.store.obj l0 ob hl0).mono (G' := G1) (w' := w1) hI (Loc.le_refl _) rfl (hK _ (by simp)) (fun _ _ => hK _ (by simp))
        · intro bk hb
          have hb' : w.heap.size ≤ bk := by
            have := htn.size
            show w.heap.size ≤ bk
            rw [← this]; exact hb
          have hbb : bk ≠ b0 := by
            rintro rfl
            have := (Array.getElem?_eq_some_iff.1 h3).1; omega
          simp only [G1]
          rw [upd_ne _ _ hbb, upd_ne _ _ hbb]
          exact hS.store.fresh bk hb'
      have hE : Ext G s.st w G1 s.st w1 := ⟨hI, Loc.le_refl _, fun bk hb => hK .prot (by simp) bk hb, by show _ ≤ w1.heap.size; rw [htn.size]; exact Nat.le_refl _, rfl, rfl, fun x => htn.frozen x⟩
      refine ⟨_, .slice (some ⟨b0, 0, none⟩) (l.length + l'.length) cap, w1, G1, ?_, .inl rfl, ?_, hE⟩
      · rw [hrun, hev, h1, hr]
        rfl
      · refine hS1.put hd (fun q hq => ?_) (by simp)
        rw [hdd] at hq; cases hq
        have hrow := o3.append s3
        have hlen : (olds ++ news).length = (l ++ l').length * sz := by
          have := hrow.1
          simpa using this
        have hvr := slice_of_row (bk := b0) (cap := cap) (k := .plain) hrow hI (by simpa using hroom) (fun q x hq => by
          have hlt : q < (l ++ l').length * sz := by rw [← hlen]; exact (List.getElem?_eq_some_iff.1 hq).1
          by_cases hq1 : q < olds.length
          · rw [List.getElem?_append_left hq1] at hq
            exact hI _ _ _ (o2 q x hq)
          · rw [List.getElem?_append_right (by omega)] at hq
            unfold Gh.im
            have hfz : G1.fz b0 = (l ++ l').length * sz := by simp [G1, upd]
            rw [if_pos (by rw [hfz]; exact hlt)]
            show (w.setRow b0 _).cell? _ = _
            have hq2 := (List.getElem?_eq_some_iff.1 hq).1
            rw [cell_row htn.here, spliceA_get hfit, if_pos ⟨by omega, by omega⟩, ← o1]
            exact hq) (by simp) (by simp)
        rw [← List.length_append]
        refine ⟨b0, cap, _, e', rfl, by simp [G1, upd], htn.here, by rw [spliceA_size hfit, h5], by simpa using hroom, h7, by simp [G1, upd], hpos, hvr⟩
    · -- new memory
      have hfo : (Builtin.firstCells sz l.length (.slice (some ⟨b0, 0, none⟩) l.length cap)).run P w.drew = .ok olds.toArray w.drew :=
        run_firstCells_some w.drew sz l.length ⟨b0, 0, none⟩ l.length cap olds o1 (fun j x hj => by rw [addr_add, Nat.zero_add]; exact im_cell (o2 j x hj))
      have hr := run_append_grow' (P := P) (ty := oper.type) ht hu hsz hi hz s1 (s4 w.drew (fun _ _ => rfl)) hfo hbp (by omega) hbound
      have hneed : l.length + l'.length ≤ maxLen := by
        have : (l.length + l'.length) * 1 ≤ (l.length + l'.length) * i.bytes := Nat.mul_le_mul_left _ hbp
        simp only [roomMax] at hbound
        simp only [maxLen]; omega
      refine append_new hS hd hdd (cap := grownCap w (l.length + l'.length) cap e) (e := e) (olds := olds) (news := news) (rest := (Builtin.zeroCells z.cells (grownCap w (l.length + l'.length) cap e - (l.length + l'.length))).toList) hpos ?_ o3 s3 (grownCap_ge _ _ _ _) (grownCap_le_maxLen _ _ _ _ hneed) ?_ hfrs
      · rw [hrun, hev, h1, hr]
        simp only [Result.andThen_ok]
        congr 3
        apply Array.ext'
        simp
      · have := size_zeroCells z.cells (grownCap w (l.length + l'.length) cap e - (l.length + l'.length))
        simp only [List.length_append, o1, s2, Array.length_toList, this, hzs]
        have hge := grownCap_ge w (l.length + l'.length) cap e
        rw [Nat.sub_mul, Nat.add_mul]
        have := Nat.mul_le_mul_right sz hge
        rw [Nat.add_mul] at this
        omega
  · -- it has no room
    rename_i sz' l hv
    split at h
    case isFalse => cases h
    rename_i hz'
    obtain rfl : sz = sz' := hz'.symm
    simp only [Option.bind_eq_some_iff] at h
    obtain ⟨l', hl', h⟩ := h
    obtain ⟨s1, news, s2, s3, s4⟩ := src_run (P := P) hS hy hpos hl'
    have hvr := arg_at hS hx hv (by simp) (by simp)
    obtain ⟨ad, cap, q1, q2, q3⟩ := vr_row hpos hvr
    have hcap : cap = l.length := by
      rw [q1] at hvr
      cases hvr with
      | slice0 _ _ _ _ hk hf => exact hf rfl
      | slice hk hf => exact hf rfl
    have hS' : ∃ s1 : St, s1.fr = stripAll s.fr (IOp.append sz i.bytes x y).takes ∧ s1.bx = s.bx ∧ s1.st = s.st ∧ Sim G N s1 a w := by
      rcases hfrs with h | ⟨t0, h⟩
      · exact ⟨s, h.symm, rfl, rfl, hS⟩
      · exact ⟨{ s with fr := upd s.fr t0 (strip (s.fr t0)) }, h.symm, rfl, rfl, hS.stripTmp t0⟩
    split at h
    · rename_i hnil
      cases h
      subst hnil
      refine ⟨rfl, rfl, ?_⟩
      have hn0 : news = [] := List.eq_nil_of_length_eq_zero (by simpa using s2)
      subst hn0
      have hr := run_append_empty (P := P) (ty := oper.type) ht hu hsz (ad := ad) (n := l.length) (cap := cap) s1 (s4 w (fun _ _ => rfl)) q2
      obtain ⟨s1', f1, f2, f3, f4⟩ := hS'
      refine ⟨_, .slice ad l.length cap, w, G, by rw [hrun, q1, hr]; rfl, .inl rfl, ?_, Ext.refl _ _ _⟩
      have := f4.put hd (v := .slice .fit sz l) (mv := .slice ad l.length cap) (fun q hq => by rw [f3]; rw [q1] at hvr; exact hvr) (by simp)
      rw [f1, f2, f3] at this
      exact this
    · rename_i hnil
      split at h
      case isFalse => cases h
      rename_i hbound
      cases h
      refine ⟨rfl, rfl, ?_⟩
      have hl0 : 0 < l'.length := List.length_pos_iff.2 hnil
      have hol : ∃ olds : List Value, RowR (G.im w) (locOf G.loc s.st) sz l olds.toArray ∧ (Builtin.firstCells sz l.length (.slice ad l.length cap)).run P w.drew = .ok olds.toArray w.drew ∧ olds.length = l.length * sz := by
        rcases q3 with rfl | ⟨bb, oo, rfl, olds, r2, r3, r4⟩
        · refine ⟨[], ⟨by simp, by simp, by simp, by simp⟩, ?_, by simp⟩
          cases ad <;> simp [Builtin.firstCells, loadCells, loadCellsFrom]
        · exact ⟨olds, r4, run_firstCells_some w.drew sz l.length ⟨bb, oo, none⟩ l.length cap olds r2 (fun j x hj => by rw [addr_add]; exact im_cell (r3 j x hj)), r2⟩
      obtain ⟨olds, o3, hfo, o1⟩ := hol
      have hr := run_append_grow' (P := P) (ty := oper.type) ht hu hsz hi hz s1 (s4 w.drew (fun _ _ => rfl)) hfo hbp (by omega) hbound
      have hneed : l.length + l'.length ≤ maxLen := by
        have : (l.length + l'.length) * 1 ≤ (l.length + l'.length) * i.bytes := Nat.mul_le_mul_left _ hbp
        simp only [roomMax] at hbound
        simp only [maxLen]; omega
      refine append_new hS hd hdd (cap := grownCap w (l.length + l'.length) cap e) (e := e) (olds := olds) (news := news) (rest := (Builtin.zeroCells z.cells (grownCap w (l.length + l'.length) cap e - (l.length + l'.length))).toList) hpos ?_ o3 s3 (grownCap_ge _ _ _ _) (grownCap_le_maxLen _ _ _ _ hneed) ?_ hfrs
      · rw [hrun, q1, hr]
        simp only [Result.andThen_ok]
        congr 3
        apply Array.ext'
        simp
      · have := size_zeroCells z.cells (grownCap w (l.length + l'.length) cap e - (l.length + l'.length))
        simp only [List.length_append, o1, s2, Array.length_toList, this, hzs]
        have hge := grownCap_ge w (l.length + l'.length) cap e
        rw [Nat.sub_mul, Nat.add_mul]
        have := Nat.mul_le_mul_right sz hge
        rw [Nat.add_mul] at this
        omega
  · cases h

theorem setAt_one {cs : List PV} {off : Nat} (h : off < cs.length) (p : PV) : setAt cs off [p] = cs.set off p := by
  apply List.ext_getElem?
  intro i
  rw [setAt_get (by simp; omega)]
  by_cases hi : i = off
  · subst hi
    rw [if_pos (by simp), List.getElem?_set_self h]
    simp
  · rw [if_neg (by simp; omega), List.getElem?_set_ne (Ne.symm hi)]

theorem run_storeOne {t : Nat} (hsz : szT P t 1 = true) {mv : Value} (hm : mv.cells = #[mv]) (ho : mv.oneCell' = true) {w : World} {g o : Nat} {cur : Array Value} {e : Nat} (hg : w.heap[g]? = some (.cells cur e (0, 0))) (hle : o < cur.size) :
    (storeVar t ⟨g, o, none⟩ mv).run P w = .ok () (w.setRow g (spliceA cur o [mv])) := by
  have := run_storeVar (P := P) hsz (mv := mv) (by rw [hm]; rfl) (fun j x hx => by
    rw [hm] at hx
    match j with
    | 0 => simp at hx; subst hx; exact ho
    | j + 1 => simp at hx) hg (o := o) (by omega)
  rw [hm] at this
  exact this

/-- A row that owns its room is laid into a cell. -/
theorem op_storeT {wh : Where} {x : Arg} {t0 : Nat} (hS : Sim G N s a w) (hd : ∀ t, oper.dst = some t → t < N) (hc : checkOp P oper.op (.storeT wh x t0) = true)
    (h : (IOp.storeT wh x t0).sem s.fr (getBx s.bx wh.box?) s.st = some (v, b', st')) : v = .undef ∧ OpGood P oper N G s a w v (upd s.fr t0 (strip (s.fr t0))) (setBx s.bx wh.box? b') st' := by
  simp only [checkOp] at hc
  split at hc
  case h_2 => cases hc
  rename_i t ad vl ho
  simp only [Bool.and_eq_true] at hc
  obtain ⟨⟨h1, h2⟩, h3⟩ := hc
  simp only [IOp.sem] at h
  split at h
  case h_2 => cases h
  rename_i z l hv0
  cases vl <;> simp [okArg] at h2
  rename_i t0'
  subst h2
  have htN : t0' < N := by
    rcases Nat.lt_or_ge t0' N with h | h
    · exact h
    · rw [hS.hi t0' h] at hv0; cases hv0
  have htr := hS.tmp t0' htN
  rw [hv0] at htr
  have hev : a.eval (.tmp t0') = a.tmps.getD t0' Go.undef := rfl
  have hmv : ∃ ad n c, a.tmps.getD t0' Go.undef = .slice ad n c := by
    obtain ⟨b0, cap, arr, e', q1, _⟩ := htr
    exact ⟨_, _, _, q1⟩
  obtain ⟨sa, sn, sc, hmv⟩ := hmv
  have hone : (a.tmps.getD t0' Go.undef).oneCell' = true := by rw [hmv]; rfl
  have hcells : (a.tmps.getD t0' Go.undef).cells = #[a.tmps.getD t0' Go.undef] := by rw [hmv]; rfl
  split at h
  · rename_i k k' off hv
    split at h
    case isFalse => cases h
    rename_i hk
    subst hk
    split at h
    case h_2 => cases h
    rename_i cs hb
    split at h
    case isFalse => cases h
    rename_i hle
    cases h
    simp only [getBx, Where.box?] at hb
    obtain ⟨b0, h0, hnew⟩ := ownR_claim (κ' := .ownB k off) htr
    have hS1 := hS.handOn (κ' := .ownB k off) h0
    have hbx := hS1.box k
    simp only [hb] at hbx
    obtain ⟨e1, e2, arr, e, e3, e4, e5⟩ := hbx
    have hrun := run_storeOne (P := P) h3 hcells hone e3 (o := off) (by rw [e4]; exact hle)
    have ht := turned_setRow e3 (spliceA arr off [a.tmps.getD t0' Go.undef])
    have hI : ((PE.handOn G b0 (.ownB k off)).im w).le ((PE.handOn G b0 (.ownB k off)).im (w.setRow (G.box k) (spliceA arr off [a.tmps.getD t0' Go.undef]))) := im_turned ht (fun j hj => by rw [e2] at hj; omega)
    have hown : OwnR (PE.handOn G b0 (.ownB k off)) w (locOf G.loc s.st) (.ownB k off) z l (a.tmps.getD t0' Go.undef) := hnew _ (by simp [PE.handOn, upd]) rfl
    have hcs := cells_splice (G := PE.handOn G b0 (.ownB k off)) (κ := fun j => .ownB k j) (L := locOf G.loc s.st) (base := 0) (off := off) (xs := [a.tmps.getD t0' Go.undef]) (vs := [.slice .own z l]) hI ht e1 (by simp)
      (fun j c hj => by have := e5 j c hj; rw [Nat.zero_add]; exact this) (by simp; omega) (by rw [e4]; simp; omega) rfl
      (fun j c x hc hx => by
        match j with
        | 0 =>
          simp only [List.getElem?_cons_zero, Option.some.injEq] at hc hx; subst hc; subst hx
          exact ⟨hone, hown.mono hI (Loc.le_refl _) (keeps_turned ht e1 (by simp))⟩
        | j + 1 => simp at hc)
    simp only [Nat.zero_add] at hcs
    rw [setAt_one hle] at hcs
    obtain ⟨hS', _⟩ := hS1.writeBox (bn := .cells (cs.set off (.slice .own z l))) ht e1 e2 ⟨e1, e2, _, e, ht.here, by rw [spliceA_size (by rw [e4]; simp; omega), List.length_set, e4], hcs⟩ (by simp)
    refine ⟨rfl, good_write (s1 := { s with fr := upd s.fr t0' (strip (s.fr t0')), bx := upd s.bx k _ }) hd ?_ hS' ((ext_handOn h0 (by simp) (Loc.le_refl _)).trans (ext_turned ht e1 (by simp) hI (Loc.le_refl _)))⟩
    simp [execOp, ho, Instr.storeAt, arg_lptr hS h1 hv, Instr.sureAddr, hev]
    have : (PE.handOn G b0 (.ownB k off)).box k = G.box k := rfl
    rw [this] at hrun
    simp only [Array.getD_eq_getD_getElem?] at hrun
    rw [hrun]
    rfl
  · rename_i l' i off hv
    split at h
    case h_2 => cases h
    rename_i sz' es hst
    split at h
    case h_2 => cases h
    rename_i e0 he0
    split at h
    case isFalse => cases h
    rename_i hle
    cases h
    obtain ⟨b0, h0, hnew⟩ := ownR_claim (κ' := .ownS l' i off) htr
    have hS1 := hS.handOn (κ' := .ownS l' i off) h0
    have hptr := arg_at hS h1 hv (by simp) (by simp)
    obtain ⟨e1, e2, arr, e, e3, e4, e5⟩ := hS1.store.obj l' _ hst
    obtain ⟨d1, d2, d3⟩ := e5 i e0 he0
    have hloc : locOf G.loc s.st l' = some (G.loc l', sz') := by simp [locOf, hst, Obj.sz]
    have heval : a.eval ad = .pointer (some ⟨G.loc l', i * sz' + off, none⟩) := by
      generalize a.eval ad = m at hptr
      cases hptr with
      | ptr hh => rw [hloc] at hh; cases hh; rfl
    have hi : i < es.length := (List.getElem?_eq_some_iff.1 he0).1
    have hbound : (i + 1) * sz' ≤ es.length * sz' := Nat.mul_le_mul_right _ hi
    rw [Nat.add_mul, Nat.one_mul] at hbound
    have hle2 : i * sz' + off < arr.size := by rw [e4]; rw [d1] at hle; omega
    have hrun := run_storeOne (P := P) h3 hcells hone e3 (o := i * sz' + off) hle2
    have ht := turned_setRow e3 (spliceA arr (i * sz' + off) [a.tmps.getD t0' Go.undef])
    have hI : ((PE.handOn G b0 (.ownS l' i off)).im w).le ((PE.handOn G b0 (.ownS l' i off)).im (w.setRow (G.loc l') (spliceA arr (i * sz' + off) [a.tmps.getD t0' Go.undef]))) := im_turned ht (fun j hj => by rw [e2] at hj; omega)
    have hown : OwnR (PE.handOn G b0 (.ownS l' i off)) w (locOf G.loc s.st) (.ownS l' i off) z l (a.tmps.getD t0' Go.undef) := hnew _ (by simp [PE.handOn, upd]) rfl
    have hcs := cells_splice (G := PE.handOn G b0 (.ownS l' i off)) (κ := fun j => .ownS l' i j) (L := locOf G.loc s.st) (base := i * sz') (off := off) (xs := [a.tmps.getD t0' Go.undef]) (vs := [.slice .own z l]) hI ht e1 (by simp)
      (fun j c hj => d3 j c hj) (by simp; omega) (by simp; omega) rfl
      (fun j c x hc hx => by
        match j with
        | 0 =>
          simp only [List.getElem?_cons_zero, Option.some.injEq] at hc hx; subst hc; subst hx
          exact ⟨hone, hown.mono hI (Loc.le_refl _) (keeps_turned ht e1 (by simp))⟩
        | j + 1 => simp at hc)
    rw [setAt_one hle] at hcs
    have hreb : cellsOf (rebuild e0 ((cellsOf e0).set off (.slice .own z l))) = (cellsOf e0).set off (.slice .own z l) ∧ isVar (rebuild e0 ((cellsOf e0).set off (.slice .own z l))) = true := by
      cases e0 with
      | agg cs0 => exact ⟨rfl, rfl⟩
      | _ =>
        simp only [cellsOf, List.length_cons, List.length_nil] at hle
        have h0 : off = 0 := by omega
        subst h0
        exact ⟨rfl, rfl⟩
    obtain ⟨hS', _⟩ := hS1.writeObj (on := .arr sz' (es.set i (rebuild e0 ((cellsOf e0).set off (.slice .own z l))))) hst rfl ht e1 e2 (by
      refine ⟨e1, e2, _, e, ht.here, by rw [spliceA_size (by simp; omega), e4]; simp, ?_⟩
      intro i' p hp
      by_cases hii : i = i'
      · subst hii
        rw [List.getElem?_set_self hi] at hp
        cases hp
        rw [hreb.1]
        exact ⟨by rw [List.length_set, d1], hreb.2, hcs⟩
      · rw [List.getElem?_set_ne hii] at hp
        obtain ⟨q1, q2, q3⟩ := e5 i' p hp
        refine ⟨q1, q2, fun j c hj => ?_⟩
        obtain ⟨mv, m1, m2⟩ := q3 j c hj
        refine ⟨mv, ?_, cr_keep hI ht e1 (by simp) m2⟩
        rw [spliceA_get (by simp; omega), if_neg, m1]
        have hj' : j < sz' := by rw [← q1]; exact (List.getElem?_eq_some_iff.1 hj).1
        rw [d1] at hle
        simp only [List.length_cons, List.length_nil]
        rcases Nat.lt_or_ge i i' with hlt | hge
        · have : (i + 1) * sz' ≤ i' * sz' := Nat.mul_le_mul_right _ hlt
          rw [Nat.add_mul] at this; omega
        · have : (i' + 1) * sz' ≤ i * sz' := Nat.mul_le_mul_right _ (by omega)
          rw [Nat.add_mul] at this; omega)
    refine ⟨rfl, good_write (s1 := { s with fr := upd s.fr t0' (strip (s.fr t0')), st := s.st.set l' _ }) hd ?_ hS' ((ext_handOn h0 (by simp) (Loc.le_refl _)).trans (ext_turned ht e1 (by simp) hI (locOf_le_set G.loc s.st hst rfl)))⟩
    simp [execOp, ho, Instr.storeAt, heval, Instr.sureAddr, hev]
    have : (PE.handOn G b0 (.ownS l' i off)).loc l' = G.loc l' := rfl
    rw [this] at hrun
    simp only [Array.getD_eq_getD_getElem?] at hrun
    rw [hrun]
    rfl
  · cases h

theorem strip_not_own (p : PV) : (∃ z l, p = .slice .own z l) ∨ strip p = p := by
  cases p with
  | slice k z l => cases k <;> first | exact .inl ⟨_, _, rfl⟩ | exact .inr rfl
  | _ => exact .inr rfl

theorem keeps_fresh {b0 : Nat} {κ0 κ' : Cl} (hS : SimS G s.st w) (h0 : G.cl b0 = some κ0) : ∀ bk, w.heap.size ≤ bk → (handOn G b0 κ').fz bk = 0 ∧ (handOn G b0 κ').cl bk = none := by
  intro bk hb
  refine ⟨(hS.fresh bk hb).1, ?_⟩
  unfold handOn
  simp only
  rw [upd_ne]
  · exact (hS.fresh bk hb).2
  · rintro rfl; rw [(hS.fresh _ hb).2] at h0; cases h0

/-- A row that owns its room is taken out of a cell. -/
theorem op_loadT {wh : Where} {x : Arg} (hS : Sim G N s a w) (hd : ∀ t, oper.dst = some t → t < N) (hdn : oper.dst ≠ none) (hc : checkOp P oper.op (.loadT wh x) = true)
    (h : (IOp.loadT wh x).sem s.fr (getBx s.bx wh.box?) s.st = some (v, b', st')) : OpGood P oper N G s a w v s.fr (setBx s.bx wh.box? b') st' := by
  simp only [checkOp] at hc
  split at hc
  case h_2 => cases hc
  rename_i t y ho
  simp only [Bool.and_eq_true] at hc
  obtain ⟨⟨⟨h1, h2⟩, h3⟩, h4⟩ := hc
  obtain ⟨d, hdd⟩ := Option.ne_none_iff_exists'.1 hdn
  have key : ∀ {bk off : Nat} {mv : Value}, a.eval y = .pointer (some ⟨bk, off, none⟩) → w.cell? ⟨bk, off, none⟩ = some mv → (execOp a.eval oper).run P w = .ok (.value mv) w := by
    intro bk off mv e hl
    have hl' : LoadRes (fun j => w.cell? ⟨bk, j, none⟩) false 1 off mv := hl
    simp [execOp, ho, Instr.loadAt, Instr.sureAddr, e, run_loadVar h2 h3 h4 hl']
  simp only [IOp.sem] at h
  split at h
  · rename_i k k' off hv
    split at h
    case isFalse => cases h
    rename_i hk
    subst hk
    split at h
    case h_2 => cases h
    rename_i cs hb
    simp only [Option.map_eq_some_iff, Prod.mk.injEq] at h
    obtain ⟨u, hu, rfl, rfl, rfl⟩ := h
    simp only [getBx, Where.box?] at hb
    have hbx := hS.box k
    rw [hb] at hbx
    obtain ⟨e1, e2, arr, e, e3, e4, e5⟩ := hbx
    obtain ⟨mv, m1, m2⟩ := e5 off u hu
    have hrun := key (arg_lptr hS h1 hv) (by rw [cell_row e3]; exact m1)
    have hlt : off < cs.length := (List.getElem?_eq_some_iff.1 hu).1
    rcases strip_not_own u with ⟨z, l, rfl⟩ | hst
    · obtain ⟨b0, h0, hnew⟩ := ownR_claim (κ' := .ownT d) m2.2
      have hK : ∀ κ, κ ≠ .ownB k off → Keeps G w (handOn G b0 (.ownT d)) w κ := fun κ hne => keeps_handOn h0 hne
      have hS1 : Sim (handOn G b0 (.ownT d)) N { s with bx := upd s.bx k (.cells (cs.set off (.slice .plain z l))) } a w := by
        refine ⟨hS.defers, hS.size, fun t ht => (hS.tmp t ht).mono (G := G) (G' := handOn G b0 (.ownT d)) (w := w) (w' := w) (Im.le_refl _) (Loc.le_refl _) (hK _ (by simp)) (fun _ _ _ => rfl), hS.hi, ?_, ?_, ?_⟩
        · intro t k' o' hk'
          simp only [upd]
          split
          · simp
          · exact hS.lp t k' o' hk'
        · intro k'
          simp only [upd]
          split
          · rename_i ek
            subst ek
            obtain ⟨k1, k2, k3⟩ := hK (.box k') (by simp) _ e1
            refine ⟨k1, e2, arr, e, e3, by rw [List.length_set, e4], fun j c hj => ?_⟩
            by_cases hjo : off = j
            · subst hjo
              rw [List.getElem?_set_self hlt] at hj
              cases hj
              exact ⟨mv, m1, m2.1, strip_own_vr (G := G) m2.2⟩
            · rw [List.getElem?_set_ne hjo] at hj
              obtain ⟨mv', n1, n2⟩ := e5 j c hj
              exact ⟨mv', n1, n2.mono (G := G) (G' := handOn G b0 (.ownT d)) (w := w) (w' := w) (Im.le_refl _) (Loc.le_refl _) (hK _ (by simp; omega))⟩
          · rename_i ek
            exact (hS.box k').mono (G := G) (G' := handOn G b0 (.ownT d)) (w := w) (w' := w) (Im.le_refl _) (Loc.le_refl _) rfl (hK _ (by simp)) (fun j => hK _ (by simp [ek]))
        · exact ⟨fun l0 ob hl0 => (hS.store.obj l0 ob hl0).mono (G := G) (G' := handOn G b0 (.ownT d)) (w := w) (w' := w) (Im.le_refl _) (Loc.le_refl _) rfl (hK _ (by simp)) (fun _ _ => hK _ (by simp)), keeps_fresh hS.store h0⟩
      refine ⟨_, mv, w, handOn G b0 (.ownT d), hrun, .inl rfl, ?_, ext_handOn h0 (by simp) (Loc.le_refl _)⟩
      exact hS1.put hd (fun q hq => by rw [hdd] at hq; cases hq; exact hnew _ (by simp [handOn, upd]) rfl) (by simp)
    · have hvr := m2.strip
      rw [hst] at hvr ⊢
      have hset : cs.set off u = cs := by
        apply List.ext_getElem?
        intro i
        by_cases hi : off = i
        · subst hi; rw [List.getElem?_set_self hlt, hu]
        · rw [List.getElem?_set_ne hi]
      have hsame : setBx s.bx (Where.box k).box? (.cells (cs.set off u)) = s.bx := by
        rw [hset]
        funext q
        simp only [setBx, Where.box?, upd]
        split
        · rename_i eq; rw [eq, hb]
        · rfl
      rw [hsame]
      exact good_vr hS hd hrun hvr
  · rename_i l' i off hv
    split at h
    case h_2 => cases h
    rename_i sz' es hst
    split at h
    case h_2 => cases h
    rename_i e0 he0
    simp only [Option.map_eq_some_iff, Prod.mk.injEq] at h
    obtain ⟨u, hu, rfl, rfl, rfl⟩ := h
    have hptr := arg_at hS h1 hv (by simp) (by simp)
    obtain ⟨e1, e2, arr, e, e3, e4, e5⟩ := hS.store.obj l' _ hst
    obtain ⟨d1, d2, d3⟩ := e5 i e0 he0
    have hloc : locOf G.loc s.st l' = some (G.loc l', sz') := by simp [locOf, hst, Obj.sz]
    have heval : a.eval y = .pointer (some ⟨G.loc l', i * sz' + off, none⟩) := by
      generalize a.eval y = m at hptr
      cases hptr with
      | ptr hh => rw [hloc] at hh; cases hh; rfl
    obtain ⟨mv, m1, m2⟩ := d3 off u hu
    have hrun := key heval (by rw [cell_row e3]; exact m1)
    have hi : i < es.length := (List.getElem?_eq_some_iff.1 he0).1
    have hlt : off < (cellsOf e0).length := (List.getElem?_eq_some_iff.1 hu).1
    rcases strip_not_own u with ⟨z, l, rfl⟩ | hst'
    · obtain ⟨b0, h0, hnew⟩ := ownR_claim (κ' := .ownT d) m2.2
      have hK : ∀ κ, κ ≠ .ownS l' i off → Keeps G w (handOn G b0 (.ownT d)) w κ := fun κ hne => keeps_handOn h0 hne
      have hreb : cellsOf (rebuild e0 ((cellsOf e0).set off (.slice .plain z l))) = (cellsOf e0).set off (.slice .plain z l) ∧ isVar (rebuild e0 ((cellsOf e0).set off (.slice .plain z l))) = true := by
        cases e0 with
        | agg cs0 => exact ⟨rfl, rfl⟩
        | _ =>
          simp only [cellsOf, List.length_cons, List.length_nil] at hlt
          have h0 : off = 0 := by omega
          subst h0
          exact ⟨rfl, rfl⟩
      have hLs : locOf G.loc (s.st.set l' (.arr sz' (es.set i (rebuild e0 ((cellsOf e0).set off (.slice .plain z l)))))) = locOf G.loc s.st := locOf_set G.loc s.st hst rfl
      have hS1 : Sim (handOn G b0 (.ownT d)) N { s with st := s.st.set l' (.arr sz' (es.set i (rebuild e0 ((cellsOf e0).set off (.slice .plain z l))))) } a w := by
        refine ⟨hS.defers, hS.size, ?_, hS.hi, hS.lp, ?_, ?_⟩
        · intro t ht
          show TR _ _ (locOf G.loc (s.st.set l' _)) _ _ _
          rw [hLs]
          exact (hS.tmp t ht).mono (G := G) (G' := handOn G b0 (.ownT d)) (w := w) (w' := w) (Im.le_refl _) (Loc.le_refl _) (hK _ (by simp)) (fun _ _ _ => rfl)
        · intro k
          show BxR _ _ (locOf G.loc (s.st.set l' _)) _ _
          rw [hLs]
          exact (hS.box k).mono (G := G) (G' := handOn G b0 (.ownT d)) (w := w) (w' := w) (Im.le_refl _) (Loc.le_refl _) rfl (hK _ (by simp)) (fun j => hK _ (by simp))
        · refine ⟨fun l0 ob hl0 => ?_, keeps_fresh hS.store h0⟩
          show ObjR _ _ (locOf G.loc (s.st.set l' _)) _ _
          rw [hLs]
          simp only at hl0
          by_cases hll : l' = l0
          · subst hll
            rw [List.getElem?_set_self (List.getElem?_eq_some_iff.1 hst).1] at hl0
            cases hl0
            obtain ⟨k1, k2, k3⟩ := hK (.loc l') (by simp) _ e1
            refine ⟨k1, e2, arr, e, e3, by simp [e4], fun i' p hp => ?_⟩
            by_cases hii : i = i'
            · subst hii
              rw [List.getElem?_set_self hi] at hp
              cases hp
              rw [hreb.1]
              refine ⟨by rw [List.length_set, d1], hreb.2, fun j c hj => ?_⟩
              by_cases hjo : off = j
              · subst hjo
                rw [List.getElem?_set_self hlt] at hj
                cases hj
                exact ⟨mv, m1, m2.1, strip_own_vr (G := G) m2.2⟩
              · rw [List.getElem?_set_ne hjo] at hj
                obtain ⟨mv', n1, n2⟩ := d3 j c hj
                exact ⟨mv', n1, n2.mono (G := G) (G' := handOn G b0 (.ownT d)) (w := w) (w' := w) (Im.le_refl _) (Loc.le_refl _) (hK _ (by simp; omega))⟩
            · rw [List.getElem?_set_ne hii] at hp
              obtain ⟨q1, q2, q3⟩ := e5 i' p hp
              refine ⟨q1, q2, fun j c hj => ?_⟩
              obtain ⟨mv', n1, n2⟩ := q3 j c hj
              exact ⟨mv', n1, n2.mono (G := G) (G' := handOn G b0 (.ownT d)) (w := w) (w' := w) (Im.le_refl _) (Loc.le_refl _) (hK _ (by simp; omega))⟩
          · rw [List.getElem?_set_ne hll] at hl0
            exact (hS.store.obj l0 ob hl0).mono (G := G) (G' := handOn G b0 (.ownT d)) (w := w) (w' := w) (Im.le_refl _) (Loc.le_refl _) rfl (hK _ (by simp)) (fun i0 j0 => hK _ (by simp; omega))
      refine ⟨_, mv, w, handOn G b0 (.ownT d), hrun, .inl rfl, ?_, ext_handOn h0 (by simp) (locOf_le_set G.loc s.st hst rfl)⟩
      exact hS1.put hd (fun q hq => by
        rw [hdd] at hq; cases hq
        show TR _ _ (locOf G.loc (s.st.set l' _)) _ _ _
        rw [hLs]
        exact hnew _ (by simp [handOn, upd]) rfl) (by simp)
    · have hvr := m2.strip
      rw [hst'] at hvr ⊢
      have hset : (cellsOf e0).set off u = cellsOf e0 := by
        apply List.ext_getElem?
        intro i
        by_cases hi : off = i
        · subst hi; rw [List.getElem?_set_self hlt, hu]
        · rw [List.getElem?_set_ne hi]
      have hreb : rebuild e0 (cellsOf e0) = e0 := by cases e0 <;> rfl
      have hes : es.set i e0 = es := by
        apply List.ext_getElem?
        intro j
        by_cases hj : i = j
        · subst hj; rw [List.getElem?_set_self hi, he0]
        · rw [List.getElem?_set_ne hj]
      have hsame : s.st.set l' (.arr sz' es) = s.st := by
        apply List.ext_getElem?
        intro j
        by_cases hj : l' = j
        · subst hj; rw [List.getElem?_set_self (List.getElem?_eq_some_iff.1 hst).1, hst]
        · rw [List.getElem?_set_ne hj]
      rw [hset, hreb, hes, hsame]
      exact good_vr hS hd hrun hvr
  · cases h

end

end PE
