/-
  Texts joined by program: PfRead.
-/
import Derived.Test.YtpfhhhdnbnbpiaaDoorB03
set_option linter.unusedVariables false
set_option linter.unusedSectionVars false
set_option linter.unusedSimpArgs false
namespace PE
open Go Go.RowKit
def packT (P : Program) (e : TypeId) (l : List PV) : PV := match P.underlying e with
 | some (.struct _) => .agg l
 | _ => l.headD .undef
def CellsT (P : Program) : Nat -> TypeId -> List PV -> Prop
 | 0, _, _ => False
 | n + 1, t, l => match P.underlying t with
  | some (.int k) => ∃ z, l = [.int k z] /\ (Lit.int k z).wf = true
  | some .bool => ∃ b, l = [.bool b]
  | some .string => ∃ s : List UInt8, l = [.str s] /\ s.length <= maxLen
  | some (.struct fs) => l.length = P.cellsOf t /\ ∀ f ∈ fs.toList, CellsT P n f.type ((l.drop f.offset).take (P.cellsOf f.type))
  | some (.slice e) => ∃ es : List (List PV), l = [.slice .plain (P.cellsOf e) (es.map (packT P e))] /\ es.length <= maxLen /\ ∀ c ∈ es, CellsT P n e c
  | _ => False
def layB (P : Program) : List Field -> Nat -> Nat -> Bool
 | [], o, total => o == total
 | f :: r, o, total => f.offset == o && layB P r (o + P.cellsOf f.type) total
def plainB (P : Program) (S : List TypeId) : Bool := S.all fun t => match P.underlying t with
 | some (.int _) => P.cellsOf t == 1
 | some .bool => P.cellsOf t == 1
 | some .string => P.cellsOf t == 1
 | some (.struct fs) => fs.toList.all (fun f => S.contains f.type) && layB P fs.toList 0 (P.cellsOf t)
 | some (.slice e) => S.contains e && decide (0 < P.cellsOf e) && (P.cellsOf t == 1)
 | _ => false
def R1 (w : World) (c : PV) (v : Value) : Prop := VR ((gh0 w).im w) (fun _ => none) c v /\ isCell c = true /\ v.oneCell' = true
def Rs (w : World) (l : List PV) (cs : List Value) : Prop := l.length = cs.length /\ ∀ (j : Nat) c v, l[j]? = some c -> cs[j]? = some v -> R1 w c v
theorem Rs.one {w : World} {c : PV} {v : Value} (h : R1 w c v) : Rs w [c] [v] := by
 refine ⟨rfl, fun j c' v' hc hv => ?_⟩
 cases j with
 | zero => cases hc; cases hv; exact h
 | succ j => simp at hc
theorem Rs.append {w : World} {l l' : List PV} {cs cs' : List Value} (h : Rs w l cs) (h' : Rs w l' cs') : Rs w (l ++ l') (cs ++ cs') := by
 refine ⟨by simp [h.1, h'.1], fun j c v hc hv => ?_⟩
 by_cases hj : j < l.length
 ·rw [List.getElem?_append_left hj] at hc
  rw [List.getElem?_append_left (by rw [<- h.1]; exact hj)] at hv
  exact h.2 j c v hc hv
 ·rw [List.getElem?_append_right (by omega)] at hc
  rw [List.getElem?_append_right (by rw [<- h.1]; omega)] at hv
  rw [<- h.1] at hv
  exact h'.2 _ c v hc hv
theorem lay_join {P : Program} {w : World} {n : Nat} {cs : List Value} : ∀ (fs : List Field) (o total : Nat), layB P fs o total = true -> total = cs.length →
  (∀ f ∈ fs, ∃ l, Rs w l ((cs.drop f.offset).take (P.cellsOf f.type)) /\ CellsT P n f.type l) →
  ∃ l, Rs w l (cs.drop o) /\ ∀ f ∈ fs, o <= f.offset /\ CellsT P n f.type ((l.drop (f.offset - o)).take (P.cellsOf f.type)) := by
 intro fs
 induction fs with
 | nil =>
  intro o total hl ht _
  simp only [layB, beq_iff_eq] at hl
  refine ⟨[], ⟨?_, fun j c v hc => by simp at hc⟩, fun f hf => by simp at hf⟩
  simp; omega
 | cons f r ih =>
  intro o total hl ht hf
  simp only [layB, Bool.and_eq_true, beq_iff_eq] at hl
  obtain ⟨ho, hl⟩ := hl
  obtain ⟨l1, h1, c1⟩ := hf f (by simp)
  obtain ⟨l2, h2, c2⟩ := ih _ _ hl ht (fun g hg => hf g (by simp [hg]))
  have hle : ∀ (fs : List Field) (o total : Nat), layB P fs o total = true -> o <= total := by
   intro fs
   induction fs with
   | nil => intro o total h; simp only [layB, beq_iff_eq] at h; omega
   | cons g s ihs =>
    intro o total h
    simp only [layB, Bool.and_eq_true, beq_iff_eq] at h
    have := ihs _ _ h.2; omega
  have hn := hle _ _ _ hl
  have hlen1 : l1.length = P.cellsOf f.type := by
   rw [h1.1, List.length_take, List.length_drop, ho]; omega
  refine ⟨l1 ++ l2, ?_, ?_⟩
  ·have : cs.drop o = (cs.drop f.offset).take (P.cellsOf f.type) ++ cs.drop (o + P.cellsOf f.type) := by
    rw [ho, <- List.drop_drop, List.take_append_drop]
   rw [this]
   exact h1.append h2
  ·intro g hg
   rcases List.mem_cons.1 hg with rfl | hg
   ·refine ⟨by omega, ?_⟩
    rw [ho, Nat.sub_self, List.drop_zero, List.take_append_of_le_length (by omega), <- hlen1, List.take_length]
    exact c1
   ·obtain ⟨h3, h4⟩ := c2 g hg
    refine ⟨by omega, ?_⟩
    have : (l1 ++ l2).drop (g.offset - o) = l2.drop (g.offset - (o + P.cellsOf f.type)) := by
     rw [List.drop_append, List.drop_of_length_le (by omega), List.nil_append]
     congr 1; omega
    rw [this]; exact h4
theorem cells_packed {P : Program} {n : Nat} {e : TypeId} {l : List PV} {w : World} {cs : List Value} (hr : Rs w l cs) (h : CellsT P n e l) (hsz : cs.length = P.cellsOf e) : cellsOf (packT P e l) = l /\ zp (packT P e l) = true := by
 cases n with
 | zero => exact h.elim
 | succ n =>
  unfold CellsT at h
  unfold packT
  split at h
  ·rename_i hu; rw [hu]; obtain ⟨z, rfl, _⟩ := h; exact ⟨rfl, rfl⟩
  ·rename_i hu; rw [hu]; obtain ⟨z, rfl⟩ := h; exact ⟨rfl, rfl⟩
  ·rename_i hu; rw [hu]; obtain ⟨z, rfl, _⟩ := h; exact ⟨rfl, rfl⟩
  ·rename_i hu; rw [hu]; exact ⟨rfl, rfl⟩
  ·rename_i hu; rw [hu]; obtain ⟨z, rfl, _⟩ := h; exact ⟨rfl, rfl⟩
  ·exact h.elim
theorem cells?_get {w : World} {a : Addr} {n : Nat} {cs : List Value} (h : w.cells? 0 a n = some cs) : cs.length = n /\ ∀ (j : Nat) v, cs[j]? = some v -> w.cell? (a.add j) = some v := by
 unfold World.cells? at h
 rw [if_pos (Nat.zero_le _)] at h
 have hl := mapM_some_length h
 rw [List.length_range] at hl
 refine ⟨hl, fun j v hv => ?_⟩
 have hj : j < n := by rw [<- hl]; exact (List.getElem?_eq_some_iff.1 hv).1
 have := mapM_some_get h j j (by rw [List.getElem?_range hj])
 rw [this, hv]
theorem add_add (a : Addr) (ha : a.spot = none) (x : Nat) : a.add x = ⟨a.block, a.off + x, none⟩ := by
 obtain ⟨b, o, s⟩ := a
 simp only at ha
 subst ha
 unfold Addr.add
 by_cases h : x = 0 <;> simp [h]
theorem read_cells {P : Program} {S : List TypeId} (hp : plainB P S = true) {H : Type} {enc : TypeId × Value -> H} {w : World} {sp : Nat -> Bool} : ∀ (n : Nat) (t : TypeId) (cs : List Value) (x : DataW H × List MemPlace), t ∈ S →
  DataW.trod enc P w 0 sp true n t cs = some x -> ∃ l, Rs w l cs /\ CellsT P n t l /\ cs.length = P.cellsOf t := by
 intro n
 induction n with
 | zero => intro t cs x _ h; simp [DataW.trod] at h
 | succ n ih =>
  intro t cs x ht h
  have hp' := List.all_eq_true.1 hp t ht
  split at hp'
  ·rename_i k hu
   obtain ⟨z, rfl, _, hw⟩ := DataW.trod_int hu h
   simp only [beq_iff_eq] at hp'
   exact ⟨[.int k z], Rs.one ⟨.int _ _, rfl, rfl⟩, by unfold CellsT; rw [hu]; exact ⟨z, rfl, hw⟩, by simp [hp']⟩
  ·rename_i hu
   obtain ⟨z, rfl, _⟩ := DataW.trod_bool hu h
   simp only [beq_iff_eq] at hp'
   exact ⟨[.bool z], Rs.one ⟨.bool _, rfl, rfl⟩, by unfold CellsT; rw [hu]; exact ⟨z, rfl⟩, by simp [hp']⟩
  ·rename_i hu
   obtain ⟨s, rfl, _, hm⟩ := DataW.trod_string hu h
   simp only [beq_iff_eq] at hp'
   exact ⟨[.str s.data.toList], Rs.one ⟨str_vr _ _, rfl, rfl⟩, by unfold CellsT; rw [hu]; exact ⟨_, rfl, str_len hm⟩, by simp [hp']⟩
  ·rename_i fs hu
   simp only [Bool.and_eq_true, List.all_eq_true, List.contains_iff_mem] at hp'
   obtain ⟨hS, hlay⟩ := hp'
   obtain ⟨xs, m, hm, _, hlen, hxs, hget⟩ := DataW.trod_struct hu h
   cases hm
   obtain ⟨l, hl, hc⟩ := lay_join (w := w) (n := n) (cs := cs) fs.toList 0 _ hlay hlen.symm (by
    intro f hf
    obtain ⟨i, hi⟩ := List.getElem?_of_mem hf
    have hi' : fs[i]? = some f := by simpa using hi
    have hg := hget i f hi'
    have hlt : i < xs.length := by rw [hxs]; simpa using (List.getElem?_eq_some_iff.1 hi).1
    rw [List.getElem?_eq_getElem hlt] at hg
    obtain ⟨l, h1, h2, _⟩ := ih _ _ _ (hS f hf) hg
    exact ⟨l, h1, h2⟩)
   rw [List.drop_zero] at hl
   refine ⟨l, hl, ?_, hlen⟩
   unfold CellsT
   rw [hu]
   exact ⟨by rw [hl.1, hlen], fun f hf => by have := (hc f hf).2; rwa [Nat.sub_zero] at this⟩
  ·rename_i e hu
   simp only [Bool.and_eq_true, List.contains_iff_mem, decide_eq_true_eq, beq_iff_eq] at hp'
   obtain ⟨⟨hS, hpos⟩, h1⟩ := hp'
   rcases DataW.trod_slice hu h with ⟨rfl, _⟩ | ⟨a, len, cap, elems, rest, m, hm, rfl, _, _, hle, hcap, hel, hget, _, _⟩
   ·exact ⟨[.slice .plain (P.cellsOf e) []], Rs.one ⟨.slice0 _ _ _ _ (by simp) (by simp), rfl, rfl⟩, by unfold CellsT; rw [hu]; exact ⟨[], rfl, by simp, by simp⟩, by simp [h1]⟩
   ·cases hm
    have key : ∀ i, i < len -> ∃ l : List PV, l.length = P.cellsOf e /\ CellsT P n e l /\ cellsOf (packT P e l) = l /\ zp (packT P e l) = true /\ ∀ (j : Nat) c, l[j]? = some c -> ∃ v, w.cell? ((a.add (i * P.cellsOf e)).add j) = some v /\ R1 w c v := by
     intro i hi
     have hg := hget i hi
     have hlt : i < elems.length := by omega
     rw [List.getElem?_eq_getElem hlt, Option.bind_eq_some_iff] at hg
     obtain ⟨cs', h2, h3⟩ := hg
     obtain ⟨l, h4, h5, h6⟩ := ih _ _ _ hS h3
     obtain ⟨h7, h8⟩ := cells?_get h2
     obtain ⟨h9, h10⟩ := cells_packed h4 h5 h6
     refine ⟨l, by rw [h4.1, h6], h5, h9, h10, fun j c hc => ?_⟩
     have hj : j < cs'.length := by rw [<- h4.1]; exact (List.getElem?_eq_some_iff.1 hc).1
     exact ⟨cs'[j], h8 j _ (List.getElem?_eq_getElem hj), h4.2 j c _ hc (List.getElem?_eq_getElem hj)⟩
    let g : Nat -> List PV := fun i => if hi : i < len then (key i hi).choose else []
    have hg : ∀ i, i < len -> (g i).length = P.cellsOf e /\ CellsT P n e (g i) /\ cellsOf (packT P e (g i)) = g i /\ zp (packT P e (g i)) = true /\ ∀ (j : Nat) c, (g i)[j]? = some c -> ∃ v, w.cell? ((a.add (i * P.cellsOf e)).add j) = some v /\ R1 w c v := by
     intro i hi
     have := (key i hi).choose_spec
     simp only [g, dif_pos hi]
     exact this
    have hel' : ∀ (i : Nat) x, (((List.range len).map g).map (packT P e))[i]? = some x -> i < len /\ x = packT P e (g i) := by
     intro i x hx
     rw [List.map_map, List.getElem?_map, Option.map_eq_some_iff] at hx
     obtain ⟨k, hk, rfl⟩ := hx
     obtain ⟨hk1, hk2⟩ := List.getElem?_eq_some_iff.1 hk
     rw [List.length_range] at hk1
     rw [List.getElem_range] at hk2
     subst hk2
     exact ⟨hk1, rfl⟩
    refine ⟨[.slice .plain (P.cellsOf e) (((List.range len).map g).map (packT P e))], Rs.one ⟨?_, rfl, rfl⟩, ?_, by simp [h1]⟩
    ·by_cases h0 : len = 0
     ·subst h0
      exact .slice0 _ _ _ _ (by simp) (by simp)
     ·obtain ⟨q1, q2, q3, q4, q5⟩ := hg 0 (by omega)
      have hspot : a.spot = none := by
       have hlt : 0 < (g 0).length := by omega
       obtain ⟨v, hv, _⟩ := q5 0 _ (List.getElem?_eq_getElem hlt)
       have hsp := World.cell?_spot hv
       obtain ⟨b, o, s⟩ := a
       simpa [Addr.add] using hsp
      obtain ⟨b, o, s⟩ := a
      simp only at hspot
      subst hspot
      have hcell : ∀ (i : Nat) x (j : Nat) c, (((List.range len).map g).map (packT P e))[i]? = some x -> (cellsOf x)[j]? = some c -> ∃ v, (gh0 w).im w b (o + i * P.cellsOf e + j) = some v /\ R1 w c v := by
       intro i x j c hx hc
       obtain ⟨hi, rfl⟩ := hel' i x hx
       obtain ⟨r1, r2, r3, r4, r5⟩ := hg i hi
       rw [r3] at hc
       obtain ⟨v, hv, hr⟩ := r5 j c hc
       refine ⟨v, gh0_im ?_, hr⟩
       rw [add_add ⟨b, o, none⟩ rfl, add_add ⟨b, o + i * P.cellsOf e, none⟩ rfl] at hv
       exact hv
      have hlen : (((List.range len).map g).map (packT P e)).length = len := by simp
      have := VR.slice (I := (gh0 w).im w) (L := fun _ => none) (k := .plain) (sz := P.cellsOf e) (l := ((List.range len).map g).map (packT P e)) (b := b) (o := o) (cap := cap)
       (by simp) (by simp) (by rw [hlen]; exact hle) (fun i j => ((gh0 w).im w b (o + i * P.cellsOf e + j)).getD (.bool false)) ?_ ?_ ?_
      ·rw [hlen] at this; exact this
      ·intro i x hx
       obtain ⟨hi, rfl⟩ := hel' i x hx
       obtain ⟨r1, r2, r3, r4, r5⟩ := hg i hi
       exact ⟨by rw [r3, r1], r4⟩
      ·intro i x j c hx hc
       obtain ⟨v, hv, hr⟩ := hcell i x j c hx hc
       simp only [hv, Option.getD_some]
       exact ⟨trivial, hr.2.2⟩
      ·intro i x j c hx hc
       obtain ⟨v, hv, hr⟩ := hcell i x j c hx hc
       simp only [hv, Option.getD_some]
       exact hr.1
    ·unfold CellsT
     rw [hu]
     refine ⟨(List.range len).map g, rfl, by simp; omega, ?_⟩
     intro c hc
     rw [List.mem_map] at hc
     obtain ⟨i, hi, rfl⟩ := hc
     exact (hg i (List.mem_range.1 hi)).2.1
  ·cases hp'
theorem packT_struct {P : Program} {e : TypeId} {fs : Array Field} (hu : P.underlying e = some (.struct fs)) (l : List PV) : packT P e l = .agg l := by
 unfold packT; rw [hu]
theorem le_max {n : Nat} (h : n <= maxLen) : n <= 9223372036854775807 := by rw [maxLen_eq] at h; exact h
theorem read_row {P : Program} {S : List TypeId} (hp : plainB P S = true) {H : Type} {enc : TypeId × Value -> H} {w : World} {sp : Nat -> Bool} {t e : TypeId} (hu : P.underlying t = some (.slice e)) (ht : t ∈ S) {v : Value} {d : DataW H} {ps : List MemPlace} (h : DataW.Trod enc P w 0 sp true t v d ps) {a : Option Addr} {len cap : Nat} (hv : v = .slice a len cap) :
  ∃ (n : Nat) (es : List (List PV)), VR ((gh0 w).im w) (fun _ => none) (.slice .plain (P.cellsOf e) (es.map (packT P e))) v /\ es.length <= maxLen /\ ∀ c ∈ es, CellsT P n e c := by
 subst hv
 obtain ⟨n, hf⟩ := h
 obtain ⟨l, h1, h2, h3⟩ := read_cells hp n t _ _ ht hf
 cases n with
 | zero => exact h2.elim
 | succ n =>
  unfold CellsT at h2
  rw [hu] at h2
  obtain ⟨es, rfl, hm, hc⟩ := h2
  exact ⟨n, es, (h1.2 0 _ _ rfl (by simp [Value.cells])).1, hm, hc⟩
end PE
