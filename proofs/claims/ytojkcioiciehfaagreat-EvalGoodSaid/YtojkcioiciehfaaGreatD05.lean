/-
  Texts joined by program: A7T10, A7T11, A7P21, A7P22, A7P23, A7P24, A7P25, A7P26, A7P27, A7P28, A7P29, A7T13a, A7W1, A7V1, A7V2, A7V3, A7V4, A7V5, A7V6, A7V7, A7V8, A7V9, A7V10, A7R1, A7R2, A7R3, A7R4, A7R5.
-/
import Derived.Test.YtojkcioiciehfaaGreatD04
import Derived.Laws.BitsLemmas
set_option linter.unusedVariables false
set_option linter.unusedSectionVars false
set_option linter.unusedSimpArgs false
namespace PE.U
open Go PE
abbrev Cnt := List (List UInt8 × Int)
def zFd (l : Cnt) : List (PV × PV) := l.map fun x => (.str x.1, .int .i64 x.2)
def getC (nm : List UInt8) : Cnt -> Int
 | [] => 0
 | x :: r => if nm = x.1 then x.2 else getC nm r
def hasC (nm : List UInt8) (l : Cnt) : Bool := l.any fun x => decide (nm = x.1)
def setC (nm : List UInt8) (v : Int) : Cnt -> Cnt
 | [] => [(nm, v)]
 | x :: r => if nm = x.1 then (nm, v) :: r else x :: setC nm v r
theorem find_cnt (nm : List UInt8) (l : Cnt) : zY true (.str nm) (zFd l) = some (if hasC nm l then some (.int .i64 (getC nm l)) else none) := by
 induction l with
 | nil => simp [zFd, hasC]
 | cons x r ih =>
  have ih' : zY true (.str nm) (r.map fun x => (PV.str x.1, PV.int .i64 x.2)) = _ := ih
  simp only [zFd, List.map_cons, zY, zWc, if_true]
  by_cases h : nm = x.1
  ·simp [h, hasC, getC]
  ·have hd : decide (nm = x.1) = false := decide_eq_false h
   simp only [decide_eq_false h, ih', getC, if_neg h, hasC, List.any_cons, Bool.false_or]
   rfl
theorem set_cnt (nm : List UInt8) (v : Int) (l : Cnt) : zHb true (.str nm) (.int .i64 v) (zFd l) = some (zFd (setC nm v l)) := by
 induction l with
 | nil => simp [zFd, setC]
 | cons x r ih =>
  have ih' : zHb true (.str nm) (.int .i64 v) (r.map fun x => (PV.str x.1, PV.int .i64 x.2)) = _ := ih
  simp only [zFd, List.map_cons, zHb, zWc, if_true]
  by_cases h : nm = x.1
  ·simp [h, setC]
  ·simp [h, ih', setC, zFd]
noncomputable def bump (l : Cnt) (nm : List UInt8) : Cnt := setC nm (zB .i64 (getC nm l + 1)) l
noncomputable def zaa (l : Cnt) (d : List (List UInt8)) : Cnt := d.foldl bump l
theorem zMe (l : Cnt) (d : List (List UInt8)) (x : List UInt8) : zaa l (d ++ [x]) = bump (zaa l d) x := by simp [zaa]
theorem getC_none {nm : List UInt8} {l : Cnt} (h : hasC nm l = false) : getC nm l = 0 := by
 induction l with
 | nil => rfl
 | cons x r ih =>
  simp [hasC] at h ih
  rw [getC, if_neg h.1]
  exact ih (by simpa [hasC] using h.2)
theorem setC_keys (nm : List UInt8) (v : Int) (l : Cnt) : (setC nm v l).length = (if hasC nm l then l.length else l.length + 1) /\ ∀ y, hasC y (setC nm v l) = (decide (y = nm) || hasC y l) := by
 induction l with
 | nil => simp [setC, hasC]
 | cons x r ih =>
  obtain ⟨i1, i2⟩ := ih
  unfold setC
  by_cases h : nm = x.1
  ·rw [if_pos h]
   subst h
   refine ⟨by simp [hasC], fun y => ?_⟩
   simp [hasC]
  ·rw [if_neg h]
   refine ⟨?_, fun y => ?_⟩
   ·have : hasC nm (x :: r) = hasC nm r := by simp [hasC, h]
    rw [List.length_cons, i1, this]
    split <;> simp
   ·have e1 : hasC y (x :: setC nm v r) = (decide (y = x.1) || hasC y (setC nm v r)) := by simp [hasC]
    have e2 : hasC y (x :: r) = (decide (y = x.1) || hasC y r) := by simp [hasC]
    rw [e1, e2, i2]
    cases decide (y = x.1) <;> simp
theorem counts_len (d : List (List UInt8)) : (zaa [] d).length <= d.length /\ ((zaa [] d).length = d.length <-> d.Nodup) /\ ∀ y, hasC y (zaa [] d) = decide (y ∈ d) := by
 suffices h : ∀ d : List (List UInt8), (zaa [] d.reverse).length <= d.length /\ ((zaa [] d.reverse).length = d.length <-> d.Nodup) /\ ∀ y, hasC y (zaa [] d.reverse) = decide (y ∈ d) by
  have := h d.reverse
  rw [(List.reverse_perm d).nodup_iff] at this
  simpa using this
 intro d
 induction d with
 | nil => simp [zaa, hasC]
 | cons x r ih =>
  obtain ⟨i1, i2, i3⟩ := ih
  rw [List.reverse_cons, zMe]
  unfold bump
  obtain ⟨k1, k2⟩ := setC_keys x (zB .i64 (getC x (zaa [] r.reverse) + 1)) (zaa [] r.reverse)
  rw [i3] at k1
  refine ⟨?_, ?_, ?_⟩
  ·rw [k1]; split <;> simp <;> omega
  ·rw [k1, List.nodup_cons]
   by_cases hx : x ∈ r
   ·simp [hx]; omega
   ·simp [hx]; exact i2
  ·intro y
   rw [k2, i3]
   simp
theorem mapLen (l : Cnt) : (zFd l).length = l.length := by simp [zFd]
def twiceM (l : List Par) : Bool := !decide ((l.map (·.name)).Nodup)
set_option maxHeartbeats 1000000 in
theorem twice_spec (l : List Par) (hl : l.length < 1099511000000) : zi E 63 [parsV l] [] = some (.ret (.bool (twiceM l)), []) := by
 refine zd rfl rfl rfl (by simp [parsV]) ?_
 simp [F63, parsV]
 refine zI l K63_0 B63_0 (fun d => [(9, .int .i64 d.length)]) (fun d => [.mp (zFd (zaa [] (d.map (·.name))))]) (fun _ => True) (by omega) (by simp [zaa, zFd]) ?_ ?_
 ·intros d x r s1 hl' hlt hget hget' hw1 hp h1 h2 h3 h4
  simp at h1 h2 h3 h4
  have f1 := find_cnt x.name (zaa [] (d.map (·.name)))
  have s1' := set_cnt x.name (zB .i64 (getC x.name (zaa [] (d.map (·.name))) + 1)) (zaa [] (d.map (·.name)))
  have e1 : zaa [] ((d ++ [x]).map (·.name)) = setC x.name (zB .i64 (getC x.name (zaa [] (d.map (·.name))) + 1)) (zaa [] (d.map (·.name))) := by rw [List.map_append, List.map_cons, List.map_nil, zMe]; rfl
  have e2 := getC_none (nm := x.name) (l := zaa [] (d.map (·.name)))
  generalize zaa [] (d.map (·.name)) = c at *
  clear hl'
  cases hh : hasC x.name c
  ·rw [hh] at f1
   have e2 := e2 hh
   rw [e2] at s1' e1
   simp at f1 s1' e1
   simp [*, encPar]
  ·rw [hh] at f1
   clear e2
   simp at f1 s1' e1
   simp [*, encPar]
 ·intros s1 hp h1 h2 h3 h4
  simp at h1 h2 h3 h4
  obtain ⟨c1, c2, c3⟩ := counts_len (l.map (·.name))
  have hlen := mapLen (zaa [] (l.map (·.name)))
  simp only [List.length_map] at c1 c2
  generalize zaa [] (l.map (·.name)) = c at *
  have hR : twiceM l = decide ((c.length : Int) < l.length) := by
   unfold twiceM
   rw [<- decide_not, decide_eq_decide, <- c2]; omega
  clear c1 c2 c3 hp
  simp [*]
def zMb : List UInt8 := [109, 97, 105, 110]
def zVc (p : Prog) : Bool := decide ((p.arrays.map (·.name) ++ p.funcs.map (·.name)).Nodup) && (match zSa p zMb with
 | some f => decide (f.type = 1) && decide (f.params = [])
 | none => false)
set_option maxHeartbeats 4000000 in
theorem tnamed_spec (p : Prog) (hz : Fit p) : zi E 62 [zf p] [] = some (.ret (.bool (zVc p)), []) := by
 have ha := hz.a
 have hf := hz.f
 have hpl := zje p zMb [] (by omega)
 have hsum : zB .i64 ((p.arrays.length : Int) + p.funcs.length) = (p.arrays.length : Int) + p.funcs.length := zj (by omega) (by omega)
 refine zd rfl rfl rfl (by simp [zf]) ?_
 simp [F62, zf, zga, funcs]
 refine zI p.arrays K62_0 B62_0 (fun d => [(13, .int .i64 d.length)]) (fun d => [.mp (zFd (zaa [] (d.map (·.name))))]) (fun _ => True) (by omega) (by simp [zaa, zFd]) ?_ ?_
 ·intros d x r s1 hl' hlt hget hget' hw1 hp h1 h2 h3 h4
  simp at h1 h2 h3 h4
  have f1 := find_cnt x.name (zaa [] (d.map (·.name)))
  have s1' := set_cnt x.name (zB .i64 (getC x.name (zaa [] (d.map (·.name))) + 1)) (zaa [] (d.map (·.name)))
  have e1 : zaa [] ((d ++ [x]).map (·.name)) = setC x.name (zB .i64 (getC x.name (zaa [] (d.map (·.name))) + 1)) (zaa [] (d.map (·.name))) := by rw [List.map_append, List.map_cons, List.map_nil, zMe]; rfl
  have e2 := getC_none (nm := x.name) (l := zaa [] (d.map (·.name)))
  generalize zaa [] (d.map (·.name)) = c at *
  clear hl' hpl hsum ha hf
  cases hh : hasC x.name c
  ·rw [hh] at f1
   have e2 := e2 hh
   rw [e2] at s1' e1
   simp at f1 s1' e1
   simp [*, zU]
  ·rw [hh] at f1
   clear e2
   simp at f1 s1' e1
   simp [*, zU]
 intros s1 hp h1 h2 h3 h4
 simp at h1 h2 h3 h4
 clear hp
 simp [*]
 refine zI p.funcs K62_1 B62_1 (fun d => [(26, .int .i64 d.length)]) (fun d => [.mp (zFd (zaa [] (p.arrays.map (·.name) ++ d.map (·.name))))]) (fun _ => True) (by omega) ?_ ?_ ?_
 ·simp [*]
 ·intros d x r s2 hl' hlt hget hget' hw1 hp g1 g2 g3 g4
  simp at g1 g2 g3 g4
  have f1 := find_cnt x.name (zaa [] (p.arrays.map (·.name) ++ d.map (·.name)))
  have s1' := set_cnt x.name (zB .i64 (getC x.name (zaa [] (p.arrays.map (·.name) ++ d.map (·.name))) + 1)) (zaa [] (p.arrays.map (·.name) ++ d.map (·.name)))
  have e1 : zaa [] (p.arrays.map (·.name) ++ (d ++ [x]).map (·.name)) = setC x.name (zB .i64 (getC x.name (zaa [] (p.arrays.map (·.name) ++ d.map (·.name))) + 1)) (zaa [] (p.arrays.map (·.name) ++ d.map (·.name))) := by rw [List.map_append, List.map_cons, List.map_nil, <- List.append_assoc, zMe]; rfl
  have e2 := getC_none (nm := x.name) (l := zaa [] (p.arrays.map (·.name) ++ d.map (·.name)))
  generalize zaa [] (p.arrays.map (·.name) ++ d.map (·.name)) = c at *
  clear hl' hpl hsum ha hf h1 h2 h4
  cases hh : hasC x.name c
  ·rw [hh] at f1
   have e2 := e2 hh
   rw [e2] at s1' e1
   simp at f1 s1' e1
   simp [*, zm]
  ·rw [hh] at f1
   clear e2
   simp at f1 s1' e1
   simp [*, zm]
 ·intros s2 hp g1 g2 g3 g4
  simp at g1 g2 g3 g4
  obtain ⟨c1, c2, c3⟩ := counts_len (p.arrays.map (·.name) ++ p.funcs.map (·.name))
  have hlen := mapLen (zaa [] (p.arrays.map (·.name) ++ p.funcs.map (·.name)))
  simp only [List.length_map, List.length_append] at c1 c2
  unfold zVc
  have hR : decide ((p.arrays.map (·.name) ++ p.funcs.map (·.name)).Nodup) = decide (((zaa [] (p.arrays.map (·.name) ++ p.funcs.map (·.name))).length : Int) = (p.arrays.length : Int) + p.funcs.length) := by
   rw [decide_eq_decide, <- c2]; omega
  rw [hR]
  generalize zaa [] (p.arrays.map (·.name) ++ p.funcs.map (·.name)) = c at *
  clear c1 c2 c3 hp h1 h2 h4 hR
  simp [zf, zMb, zga, funcs] at hpl
  rcases zkb (fun f : Func => decide (f.name = zMb)) p.funcs with ⟨a1, a2⟩ | ⟨n, f, a1, a2, a3, a4, a5⟩
  ·have a1 : zla p zMb = -1 := a1
   have a2 : zSa p zMb = none := a2
   simp [zMb] at a1
   rw [a1] at hpl
   rw [a2]
   clear ha hf a2 a1
   by_cases hq : (c.length : Int) = (p.arrays.length : Int) + p.funcs.length
   ·replace hq := eqp hq
    simp [*]
   ·replace hq := eqn hq
    simp [*]
  ·have a1 : zla p zMb = n := a1
   have a3 : zSa p zMb = some f := a3
   simp [zMb] at a1
   rw [a1] at hpl
   rw [a3]
   clear ha hf a3 a4 a5 a1
   by_cases hq : (c.length : Int) = (p.arrays.length : Int) + p.funcs.length
   ·replace hq := eqp hq
    by_cases ht : f.type = 1
    ·replace ht := eqp ht
     simp [*, zm, parsV]
    ·replace ht := eqn ht
     simp [*, zm, parsV]
   ·replace hq := eqn hq
    simp [*]
end PE.U

namespace PE.U
open Go PE
def zAb (p : Prog) (f : Func) : Int × Int :=
 if twiceM f.params then (50, 0)
 else
  let q := zma p f.type f.body (zja f.params) 1 false 0
  (if q.1 = 0 /\ zcc f.body = false then 52 else q.1, q.2)
def zHd (p : Prog) : List Func -> Int -> Int × Int × Int
 | [], _ => (0, 0, 0)
 | f :: r, i => if (zAb p f).1 ≠ 0 then ((zAb p f).1, i, (zAb p f).2) else zHd p r (i + 1)
def zse (p : Prog) : Int × Int × Int := if zrc p then if zVc p then zHd p p.funcs 0 else (50, 0, 0) else (1, 0, 0)
def zwa (r : Int × Int × Int) : PV := .tup [.int .i64 r.1, .agg [.int .i64 r.2.1, .int .i64 r.2.2]]
theorem zGd (p : Prog) (r : List Func) : ∀ (d : List Func) (i : Int), (∀ f ∈ d, (zAb p f).1 = 0) -> zHd p (d ++ r) i = zHd p r (i + d.length)
 | [], i, _ => by simp
 | f :: d, i, h => by
  have h1 := h f (by simp)
  rw [List.cons_append, zHd, if_neg (by rw [h1]; simp), zGd p r d (i + 1) (fun g hg => h g (by simp [hg]))]
  rw [List.length_cons]
  congr 1; omega
theorem PSz.fit {p : Prog} (h : PSz p) : Fit p := ⟨h.1, h.2.1, fun f hf => (h.2.2 f hf).2⟩
set_option maxRecDepth 20000 in
set_option maxHeartbeats 8000000 in
theorem check_spec (p : Prog) (hz : PSz p) : zi E 31 [zf p] [] = some (.ret (zwa (zse p)), []) := by
 have hfit := hz.fit
 obtain ⟨z1, z2, z3⟩ := hz
 have hr := tright_spec p ⟨z1, z2, z3⟩
 have hn := tnamed_spec p hfit
 refine zd rfl rfl rfl (by simp [zf]) ?_
 unfold zse
 cases hR : zrc p
 ·rw [hR] at hr
  clear hn hfit z3
  simp [zf] at hr
  simp [*, F31, zf, zwa]
 cases hN : zVc p
 ·rw [hR] at hr
  rw [hN] at hn
  clear hfit z3
  simp [zf] at hr hn
  simp [*, F31, zf, zwa]
 rw [hR] at hr
 rw [hN] at hn
 simp [zf, funcs] at hr hn
 simp [hr, hn, F31, zf, funcs]
 refine zye p.funcs K31_0 B31_0 (fun d => [(21, .int .i64 d.length)]) (fun d => [(3, .cells [.int .i64 0, .int .i64 0])]) (fun d => d.map fun f => fob p f.type (zAb p f).2) (fun d => ∀ f ∈ d, (zAb p f).1 = 0) (by omega) (by simp) ?_ ?_
 ·intros d x r s1 hl' hlt hget hget' hw1 hp h1 h2 h3 h5 h4
  have hC := zGd p (x :: r) d 0 hp
  rw [<- hl'.eq, zHd, Int.zero_add] at hC
  obtain ⟨y1, y2⟩ := z3 x hl'.mem
  have hbR : zT x.body 100 = true := by
   unfold zrc at hR
   rw [Bool.and_eq_true, List.all_eq_true, List.all_eq_true] at hR
   have := hR.2 x hl'.mem
   unfold zpe at this
   simp only [Bool.and_eq_true] at this
   exact this.2.2.2.1
  have e1 := twice_spec x.params (by omega)
  have e2 := scoped_spec x.params [] (by omega)
  have e3 := ends_spec x.body 100 y1 hbR
  have hlen : (d.map fun f => fob p f.type (zAb p f).2).length = d.length := by simp
  have e4 := block_spec' (wtSs x.body) p x.type x.body (zja x.params) 1 100 0 false ((d.map fun f => fob p f.type (zAb p f).2) ++ [fob p x.type 0]) d.length (Nat.le_refl _) y1 hfit hbR (by omega) (by omega) (by omega) (by omega) (by omega) (by rw [List.getElem?_append_right (by omega), hlen]; simp)
  have hnx : (zAb p x).1 = 0 -> ∀ f ∈ d ++ [x], (zAb p f).1 = 0 := by
   intro h f hf
   rcases List.mem_append.1 hf with hf | hf
   ·exact hp f hf
   ·rw [List.mem_singleton.1 hf]; exact h
  have hset : ∀ v, ((d.map fun f => fob p f.type (zAb p f).2) ++ [fob p x.type 0]).set d.length v = (d.map fun f => fob p f.type (zAb p f).2) ++ [v] := by
   intro v
   rw [List.set_append_right _ _ (by omega), hlen]; simp
  have hmap : (d ++ [x]).map (fun f => fob p f.type (zAb p f).2) = (d.map fun f => fob p f.type (zAb p f).2) ++ [fob p x.type (zAb p x).2] := by simp
  rw [hset] at e4
  have h1x : zAb p x = if twiceM x.params then (50, 0) else (if (zma p x.type x.body (zja x.params) 1 false 0).1 = 0 /\ zcc x.body = false then 52 else (zma p x.type x.body (zja x.params) 1 false 0).1, (zma p x.type x.body (zja x.params) 1 false 0).2) := rfl
  generalize hfx : zAb p x = fx at *
  generalize zma p x.type x.body (zja x.params) 1 false 0 = q at *
  generalize twiceM x.params = tw at *
  generalize zcc x.body = en at *
  obtain ⟨f, n⟩ := q
  obtain ⟨fe, fn⟩ := fx
  simp only at e4 hC hnx hmap h1x
  generalize hσ : (d.map fun f => fob p f.type (zAb p f).2) = σ at *
  have hget0 : (σ ++ [fob p x.type n])[d.length]? = some (fob p x.type n) := by rw [List.getElem?_append_right (by omega), hlen]; simp
  simp at h1 h2 h3 h4 h5
  simp [parsV] at e1 e2
  simp [zh] at e3 e4
  clear hl' hR hN hset hbR y1 y2 z1 z2 z3 hfit hp
  unfold fob at *
  simp only [funcs] at e4 hget0 hmap
  cases tw
  case true =>
   simp at h1x
   obtain ⟨rfl, rfl⟩ := h1x
   simp at hC
   clear e2 e3 e4 hnx hmap hget0 hlen hfx
   simp [*, zm, parsV, zh, zwa]
  simp at h1x
  obtain ⟨ha, rfl⟩ := h1x
  by_cases hf : f = 0
  ·subst hf
   cases en
   ·simp at ha
    subst ha
    simp at hC
    clear hnx hmap hfx
    simp [*, zm, parsV, zh, zwa]
   ·simp at ha
    subst ha
    replace hnx := hnx rfl
    have keep : fn = (zAb p x).2 /\ ∀ g, g ∈ d \/ g = x -> (zAb p g).1 = 0 := ⟨by rw [hfx], fun g hg => hnx g (by simpa using hg)⟩
    clear hC hnx hfx hmap
    simp [*, -keep, zm, parsV, zh, zwa]
    exact ⟨⟨rfl, keep.1⟩, keep.2⟩
  ·simp [hf] at ha
   subst ha
   simp [hf] at hC
   replace hf := eqn hf
   clear hnx hmap hfx
   simp [*, zm, parsV, zh, zwa]
 ·intros s1 hp h1 h2 h3 h5 h4
  have hC := zGd p [] p.funcs 0 hp
  rw [List.append_nil, zHd] at hC
  rw [hC]
  simp at h1 h2 h3 h4 h5
  clear hp hC z3
  simp [*, zwa]
end PE.U

namespace PE.U
open Go PE
def left (T : List Tok) (p : PS) : Nat := T.length - p.at'
def Fw (p q : PS) : Prop := p.at' <= q.at' /\ (zNa p = true -> zNa q = true)
theorem Fw.refl (p : PS) : Fw p p := ⟨Nat.le_refl _, id⟩
theorem Fw.trans {p q r : PS} (a : Fw p q) (b : Fw q r) : Fw p r := ⟨Nat.le_trans a.1 b.1, fun h => b.2 (a.2 h)⟩
theorem zN (p : PS) : Fw p (adv p) := ⟨Nat.le_succ _, id⟩
theorem zn (T : List Tok) (s : List UInt8) (p : PS) : Fw p (zxa T s p) := by
 unfold zxa
 split
 ·exact ⟨Nat.le_succ _, id⟩
 ·split
  ·exact Fw.refl _
  ·exact ⟨Nat.le_refl _, fun _ => rfl⟩
theorem zNc (T : List Tok) (k : Int) (p : PS) : Fw p (zfa T k p).2 := by
 unfold zfa
 split
 ·exact Fw.refl _
 ·split
  ·exact ⟨Nat.le_succ _, id⟩
  ·exact ⟨Nat.le_refl _, fun _ => rfl⟩
theorem fw_typed (T : List Tok) (p : PS) : Fw p (zia T p).2 := by
 unfold zia
 split
 ·exact zN p
 ·exact zn T _ p
theorem fw_deepF (d : Int) (p : PS) : Fw p (deepF d p) := by
 unfold deepF
 split
 ·split
  ·exact Fw.refl _
  ·exact ⟨Nat.le_refl _, fun _ => by simp [zNa]⟩
 ·exact Fw.refl _
theorem fw_deepS (d : Int) (p : PS) : Fw p (deepS d p) := by
 unfold deepS
 split
 ·exact ⟨Nat.le_refl _, fun _ => by simp [zNa]⟩
 ·exact Fw.refl _
theorem zvb {T : List Tok} {p : PS} {s : List UInt8} (I : Inv1 T p) (h : isF T s p = true) : left T (adv p) + 1 = left T p := by
 have := I.lt
 unfold left adv; simp only; omega
theorem zCa {T : List Tok} {p q : PS} (h : Fw p q) : left T q <= left T p := by
 unfold left; have := h.1; omega
structure Enough (T : List Tok) (n : Nat) : Prop where
 primary : ∀ d p, Inv1 T p -> 64 * left T p + 1 <= n -> ∃ v p', zSc T n d p = some (v, p') /\ Inv1 T p' /\ Fw p p'
 unary : ∀ d p, Inv1 T p -> 64 * left T p + 2 <= n -> ∃ v p', unaryF T n d p = some (v, p') /\ Inv1 T p' /\ Fw p p'
 expr : ∀ (k : Nat) L d p, Inv1 T p -> L = 11 - (k : Int) -> k <= 10 -> 64 * left T p + 3 + 2 * k <= n -> ∃ v p', zzc T n L d p = some (v, p') /\ Inv1 T p' /\ Fw p p'
 loop : ∀ (k : Nat) L d a p, Inv1 T p -> L = 11 - (k : Int) -> 1 <= k -> k <= 10 -> 64 * left T p + 2 + 2 * k <= n -> ∃ v p', zab T n L d a p = some (v, p') /\ Inv1 T p' /\ Fw p p'
 args : ∀ d p, Inv1 T p -> 64 * left T p + 26 <= n -> ∃ v p', argsF T n d p = some (v, p') /\ Inv1 T p' /\ Fw p p'
 al : ∀ d l (f : Bool) p, Inv1 T p -> 64 * left T p + 24 + f.toNat <= n -> ∃ v p', zra T n d l f p = some (v, p') /\ Inv1 T p' /\ Fw p p'
theorem enough_of {T : List Tok} {n : Nat} (E : Enough T n) : Enough T (n + 1) := by
 refine ⟨?_, ?_, ?_, ?_, ?_, ?_⟩
 ·intro d p I h
  simp only [zSc]
  split
  ·exact ⟨_, _, rfl, I, Fw.refl _⟩
  split
  ·rename_i hc
   have hl := zvb I hc
   obtain ⟨v, p', e, I', F⟩ := E.expr 10 1 (d + 1) (adv p) (I.adv _ hc) (by omega) (by omega) (by omega)
   rw [e]
   exact ⟨_, _, rfl, I'.must _, ((zN p).trans F).trans (zn _ _ _)⟩
  split
  ·rename_i hc; exact ⟨_, _, rfl, I.adv _ hc, zN p⟩
  split
  ·rename_i hc; exact ⟨_, _, rfl, I.adv _ hc, zN p⟩
  split
  ·rename_i hc; exact ⟨_, _, rfl, ((I.adv _ hc).must _).must _, ((zN p).trans (zn _ _ _)).trans (zn _ _ _)⟩
  split
  ·rename_i hc; exact ⟨_, _, rfl, I.next (by rw [hc]; decide) _ _, zN p⟩
  have I1 := I.text 1 (by decide)
  have F1 := zNc T 1 p
  have hl1 := zCa (T := T) F1
  split
  ·rename_i hc
   have hl := zvb I1 hc
   obtain ⟨v, p', e, I', F⟩ := E.args (d + 1) _ (I1.adv _ hc) (by omega)
   rw [e]
   exact ⟨_, _, rfl, I', (F1.trans (zN _)).trans F⟩
  split
  ·rename_i hc
   have hl := zvb I1 hc
   obtain ⟨v, p', e, I', F⟩ := E.expr 10 1 (d + 1) _ (I1.adv _ hc) (by omega) (by omega) (by omega)
   rw [e]
   exact ⟨_, _, rfl, I'.must _, ((F1.trans (zN _)).trans F).trans (zn _ _ _)⟩
  exact ⟨_, _, rfl, I1, F1⟩
 ·intro d p I h
  simp only [unaryF]
  have I1 := I.deepF d
  have F1 := fw_deepF d p
  have hl1 := zCa (T := T) F1
  cases hu : unF T (deepF d p) with
  | none =>
   simp only
   obtain ⟨v, p', e, I', F⟩ := E.primary d _ I1 (by omega)
   exact ⟨v, p', e, I', F1.trans F⟩
  | some i =>
   simp only
   have hi : isF T (signR ((i + 20 : Nat) : Int)) (deepF d p) = true := (unF_get hu).2.1
   have hl := zvb I1 hi
   split
   ·have F2 := zn T [40] (adv (deepF d p))
    have hl2 := zCa (T := T) F2
    obtain ⟨v, p', e, I', F⟩ := E.expr 10 1 (d + 1) _ ((I1.adv _ hi).must [40]) (by omega) (by omega) (by omega)
    rw [e]
    exact ⟨_, _, rfl, I'.must _, (((F1.trans (zN _)).trans F2).trans F).trans (zn _ _ _)⟩
   ·obtain ⟨v, p', e, I', F⟩ := E.unary (d + 1) _ (I1.adv _ hi) (by omega)
    rw [e]
    exact ⟨_, _, rfl, I', (F1.trans (zN _)).trans F⟩
 ·intro k L d p I hL hk h
  simp only [zzc]
  split
  ·exact E.unary d p I (by omega)
  ·rename_i h10
   obtain ⟨v, p', e, I', F⟩ := E.expr (k - 1) (L + 1) d p I (by omega) (by omega) (by omega)
   rw [e]
   have hl := zCa (T := T) F
   obtain ⟨v2, p2, e2, I2, F2⟩ := E.loop k L d v p' I' hL (by omega) hk (by omega)
   exact ⟨v2, p2, e2, I2, F.trans F2⟩
 ·intro k L d a p I hL hk1 hk h
  simp only [zab]
  split
  ·exact ⟨_, _, rfl, I, Fw.refl _⟩
  ·rename_i hne
   obtain ⟨s, hs⟩ := opF_pos hne
   have hl := zvb I hs
   obtain ⟨v, p', e, I', F⟩ := E.expr (k - 1) (L + 1) d (adv p) (I.adv _ hs) (by omega) (by omega) (by omega)
   rw [e]
   have hl2 := zCa (T := T) F
   obtain ⟨v2, p2, e2, I2, F2⟩ := E.loop k L d _ p' I' hL hk1 hk (by omega)
   exact ⟨v2, p2, e2, I2, ((zN p).trans F).trans F2⟩
 ·intro d p I h
  simp only [argsF]
  split
  ·rename_i hc; exact ⟨_, _, rfl, I.adv _ hc, zN p⟩
  ·obtain ⟨v, p', e, I', F⟩ := E.al d [] true p I (by simp; omega)
   rw [e]
   exact ⟨_, _, rfl, I'.must _, F.trans (zn _ _ _)⟩
 ·intro d l f p I h
  simp only [zra]
  have fin : ∀ q : PS, Inv1 T q -> Fw p q -> 64 * left T q + 24 <= n -> ∃ v p', (if zNa q then some (l, q) else match zzc T n 1 d q with | none => none | some x => zra T n d (l ++ [x.1]) false x.2) = some (v, p') /\ Inv1 T p' /\ Fw p p' := by
   intro q Iq Fq hq
   split
   ·exact ⟨_, _, rfl, Iq, Fq⟩
   ·obtain ⟨v, p', e, I', F⟩ := E.expr 10 1 d q Iq (by omega) (by omega) (by omega)
    rw [e]
    have hl := zCa (T := T) F
    obtain ⟨v2, p2, e2, I2, F2⟩ := E.al d (l ++ [v]) false p' I' (by simp; omega)
    exact ⟨v2, p2, e2, I2, (Fq.trans F).trans F2⟩
  cases f
  ·cases c2 : isF T [44] p
   ·exact ⟨l, p, rfl, I, Fw.refl _⟩
   ·have hl := zvb I c2
    replace h : 64 * left T p + 24 <= n + 1 := by simpa using h
    have hh := fin (adv p) (I.adv _ c2) (zN p) (by omega)
    exact hh
  ·simp at h
   have hh := fin p I (Fw.refl _) (by omega)
   exact hh
theorem enough (T : List Tok) : ∀ n, Enough T n
 | 0 => ⟨fun _ _ _ h => by omega, fun _ _ _ h => by omega, fun _ _ _ _ _ _ _ h => by omega, fun _ _ _ _ _ _ _ _ _ h => by omega, fun _ _ _ h => by omega, fun _ _ _ _ _ h => by omega⟩
 | n + 1 => enough_of (enough T n)
end PE.U

namespace PE.U
open Go PE
theorem zgc {T : List Tok} {n : Nat} {p : PS} (I : Inv1 T p) (h : 64 * left T p + 23 <= n) : ∃ v p', zzc T n 1 1 p = some (v, p') /\ Inv1 T p' /\ Fw p p' :=
 (enough T n).expr 10 1 1 p I (by omega) (by omega) (by omega)
theorem zFe {T : List Tok} {n : Nat} {p : PS} (I : Inv1 T p) (h : 64 * left T p + 23 <= n) : ∃ v p', zGe T n p = some (v, p') /\ Inv1 T p' /\ Fw p p' := by
 unfold zGe
 have hl := zCa (T := T) (zn T [40] p)
 obtain ⟨v, p', e, I', F⟩ := zgc (n := n) (I.must [40]) (by omega)
 rw [e]
 exact ⟨_, _, rfl, I'.must _, ((zn _ _ _).trans F).trans (zn _ _ _)⟩
def Go1 (p q : PS) : Prop := p.at' < q.at' \/ zNa q = true
theorem text_go {T : List Tok} {k : Int} {p : PS} : Go1 p (zfa T k p).2 := by
 unfold zfa
 split
 ·rename_i h; exact Or.inr h
 ·split
  ·exact Or.inl (Nat.lt_succ_self _)
  ·exact Or.inr (by simp [zNa])
theorem must_go {T : List Tok} {s : List UInt8} {p : PS} : Go1 p (zxa T s p) := by
 unfold zxa
 split
 ·exact Or.inl (Nat.lt_succ_self _)
 ·split
  ·rename_i h; exact Or.inr (by simp [zNa, h])
  ·exact Or.inr (by simp [zNa])
theorem typed_go {T : List Tok} {p : PS} : Go1 p (zia T p).2 := by
 unfold zia
 split
 ·exact Or.inl (Nat.lt_succ_self _)
 ·exact must_go
theorem adv_go (p : PS) : Go1 p (adv p) := Or.inl (Nat.lt_succ_self _)
theorem Go1.fw {p q r : PS} (h : Go1 p q) (f : Fw q r) : Go1 p r := by
 rcases h with h | h
 ·exact Or.inl (Nat.lt_of_lt_of_le h f.1)
 ·exact Or.inr (f.2 h)
theorem Fw.go {p q r : PS} (f : Fw p q) (h : Go1 q r) : Go1 p r := by
 rcases h with h | h
 ·exact Or.inl (Nat.lt_of_le_of_lt f.1 h)
 ·exact Or.inr h
theorem named_enough {T : List Tok} {n : Nat} {p : PS} (I : Inv1 T p) (h : 64 * left T p + 26 <= n) : ∃ v p', namedF T n p = some (v, p') /\ Inv1 T p' /\ Fw p p' /\ Go1 p p' := by
 unfold namedF
 have I1 := I.text 1 (by decide)
 have F1 := zNc T 1 p
 have G1 := text_go (T := T) (k := 1) (p := p)
 have hl1 := zCa (T := T) F1
 split
 ·rename_i hc
  have hl := zvb I1 hc
  obtain ⟨v, p', e, I', F⟩ := (enough T n).args 2 _ (I1.adv _ hc) (by omega)
  rw [e]
  exact ⟨_, _, rfl, I', (F1.trans (zN _)).trans F, G1.fw ((zN _).trans F)⟩
 split
 ·rename_i hc
  have hl := zvb I1 hc
  obtain ⟨v, p', e, I', F⟩ := zgc (n := n) (I1.adv _ hc) (by omega)
  rw [e]
  simp only
  have F2 := (zn T [93] p').trans (zn T [61] _)
  have hl2 := zCa (T := T) F
  have hl3 := zCa (T := T) F2
  obtain ⟨v2, p2, e2, I2, F3⟩ := zgc (n := n) ((I'.must [93]).must [61]) (by omega)
  rw [e2]
  exact ⟨_, _, rfl, I2, (((F1.trans (zN _)).trans F).trans F2).trans F3, G1.fw ((((zN _).trans F).trans F2).trans F3)⟩
 ·have F2 := zn T [61] (zfa T 1 p).2
  have hl3 := zCa (T := T) F2
  obtain ⟨v2, p2, e2, I2, F3⟩ := zgc (n := n) (I1.must [61]) (by omega)
  rw [e2]
  exact ⟨_, _, rfl, I2, (F1.trans F2).trans F3, G1.fw (F2.trans F3)⟩
structure EnoughS (T : List Tok) (n : Nat) : Prop where
 stmt : ∀ d p, Inv1 T p -> 64 * left T p + 28 <= n -> ∃ v p', stmtF T n d p = some (v, p') /\ Inv1 T p' /\ Fw p p' /\ Go1 p p'
 block : ∀ d l p, Inv1 T p -> 64 * left T p + 30 <= n -> ∃ v p', zJb T n d l p = some (v, p') /\ Inv1 T p' /\ Fw p p'
 over : ∀ d l p, Inv1 T p -> 1 <= n -> zNa p = true -> ∃ v p', zJb T n d l p = some (v, p') /\ Inv1 T p' /\ Fw p p'
theorem enoughS_of {T : List Tok} {n : Nat} (E : EnoughS T n) : EnoughS T (n + 1) := by
 refine ⟨?_, ?_, ?_⟩
 ·intro d p I0 h
  simp only [stmtF]
  have I := I0.deepS d
  have F0 := fw_deepS d p
  have hl0 := zCa (T := T) F0
  generalize deepS d p = q at *
  have fin : ∀ r, Fw q r -> Go1 q r -> Fw p r /\ Go1 p r := fun r a b => ⟨F0.trans a, F0.go b⟩
  split
  ·have G1 := typed_go (T := T) (p := q)
   have F1 := ((fw_typed T q).trans (zNc T 1 _)).trans (zn T [61] _)
   have hl := zCa (T := T) F1
   obtain ⟨v, p', e, I', F⟩ := zgc (n := n) ((I.typed.text 1 (by decide)).must [61]) (by omega)
   rw [e]
   have := fin _ ((F1.trans F).trans (zn T [59] _)) (G1.fw ((((zNc T 1 _).trans (zn T [61] _)).trans F).trans (zn T [59] _)))
   exact ⟨_, _, rfl, I'.must _, this.1, this.2⟩
  split
  ·rename_i hc
   have hl := zvb I hc
   obtain ⟨v, p', e, I', F⟩ := zFe (n := n) (I.adv _ hc) (by omega)
   rw [e]
   simp only
   have F2 := F.trans (zn T [123] p')
   have hl2 := zCa (T := T) F2
   obtain ⟨v2, p2, e2, I2, F3⟩ := E.block (d + 1) [] _ (I'.must [123]) (by omega)
   rw [e2]
   simp only
   have hl3 := zCa (T := T) F3
   split
   ·rename_i hc2
    have hl4 := zvb I2 hc2
    have F4 := (zN p2).trans (zn T [123] _)
    have hl5 := zCa (T := T) (zn T [123] (adv p2))
    obtain ⟨v3, p3, e3, I3, F5⟩ := E.block (d + 1) [] _ ((I2.adv _ hc2).must [123]) (by omega)
    rw [e3]
    have := fin _ (((((zN q).trans F2).trans F3).trans F4).trans F5) ((adv_go q).fw (((F2.trans F3).trans F4).trans F5))
    exact ⟨_, _, rfl, I3, this.1, this.2⟩
   ·have := fin _ (((zN q).trans F2).trans F3) ((adv_go q).fw (F2.trans F3))
    exact ⟨_, _, rfl, I2, this.1, this.2⟩
  split
  ·rename_i hc
   have hl := zvb I hc
   obtain ⟨v, p', e, I', F⟩ := zFe (n := n) (I.adv _ hc) (by omega)
   rw [e]
   simp only
   have F2 := F.trans (zn T [123] p')
   have hl2 := zCa (T := T) F2
   obtain ⟨v2, p2, e2, I2, F3⟩ := E.block (d + 1) [] _ (I'.must [123]) (by omega)
   rw [e2]
   have := fin _ (((zN q).trans F2).trans F3) ((adv_go q).fw (F2.trans F3))
   exact ⟨_, _, rfl, I2, this.1, this.2⟩
  split
  ·rename_i hc
   have := fin _ ((zN q).trans (zn T [59] _)) ((adv_go q).fw (zn T [59] _))
   exact ⟨_, _, rfl, (I.adv _ hc).must _, this.1, this.2⟩
  split
  ·rename_i hc
   have := fin _ ((zN q).trans (zn T [59] _)) ((adv_go q).fw (zn T [59] _))
   exact ⟨_, _, rfl, (I.adv _ hc).must _, this.1, this.2⟩
  split
  ·rename_i hc
   have hl := zvb I hc
   obtain ⟨v, p', e, I', F⟩ := zgc (n := n) (I.adv _ hc) (by omega)
   rw [e]
   have := fin _ (((zN q).trans F).trans (zn T [59] _)) ((adv_go q).fw (F.trans (zn T [59] _)))
   exact ⟨_, _, rfl, I'.must _, this.1, this.2⟩
  split
  ·rename_i hc
   have hl := zvb I hc
   obtain ⟨v, p', e, I', F⟩ := zFe (n := n) (I.adv _ hc) (by omega)
   rw [e]
   have := fin _ (((zN q).trans F).trans (zn T [59] _)) ((adv_go q).fw (F.trans (zn T [59] _)))
   exact ⟨_, _, rfl, I'.must _, this.1, this.2⟩
  ·obtain ⟨v, p', e, I', F, G⟩ := named_enough (n := n) I (by omega)
   rw [e]
   have := fin _ (F.trans (zn T [59] _)) (G.fw (zn T [59] _))
   exact ⟨_, _, rfl, I'.must _, this.1, this.2⟩
 ·intro d l p I h
  simp only [zJb]
  split
  ·exact ⟨_, _, rfl, I, Fw.refl _⟩
  split
  ·rename_i hc; exact ⟨_, _, rfl, I.adv _ hc, zN p⟩
  ·obtain ⟨v, p', e, I', F, G⟩ := E.stmt d p I (by omega)
   rw [e]
   simp only
   rcases G with hg | hg
   ·have hl : left T p' + 1 <= left T p := by
     have := I'.lt; have := I.lt; unfold left; omega
    obtain ⟨v2, p2, e2, I2, F2⟩ := E.block d (l ++ [v]) p' I' (by omega)
    exact ⟨v2, p2, e2, I2, F.trans F2⟩
   ·obtain ⟨v2, p2, e2, I2, F2⟩ := E.over d (l ++ [v]) p' I' (by omega) hg
    exact ⟨v2, p2, e2, I2, F.trans F2⟩
 ·intro d l p I h ho
  simp only [zJb]
  rw [if_pos ho]
  exact ⟨_, _, rfl, I, Fw.refl _⟩
theorem enoughS (T : List Tok) : ∀ n, EnoughS T n
 | 0 => ⟨fun _ _ _ h => by omega, fun _ _ _ _ h => by omega, fun _ _ _ _ h => by omega⟩
 | n + 1 => enoughS_of (enoughS T n)
end PE.U

namespace PE.U
open Go PE
theorem params_enough {T : List Tok} : ∀ n l (f : Bool) p, Inv1 T p -> left T p + 2 + f.toNat <= n -> ∃ v p', zeb T n l f p = some (v, p') /\ Inv1 T p' /\ Fw p p' := by
 intro n
 induction n with
 | zero => intro l f p _ h; omega
 | succ n ih =>
  intro l f p I h
  simp only [zeb]
  have ov : ∀ l q, Inv1 T q -> zNa q = true -> 1 <= n -> ∃ v p', zeb T n l false q = some (v, p') /\ Inv1 T p' /\ Fw q p' := by
   intro l q Iq ho hn
   obtain ⟨n, rfl⟩ : ∃ m, n = m + 1 := ⟨n - 1, by omega⟩
   have hc : isF T [44] q = false := by unfold isF; rw [ho]; rfl
   refine ⟨l, q, ?_, Iq, Fw.refl _⟩
   simp [zeb, hc]
  have fin : ∀ q : PS, Inv1 T q -> Fw p q -> left T q + 2 <= n -> ∃ v p', (if zNa q then some (l, q) else zeb T n (l ++ [⟨(zfa T 1 (zia T q).2).1, (zia T q).1⟩]) false (zfa T 1 (zia T q).2).2) = some (v, p') /\ Inv1 T p' /\ Fw p p' := by
   intro q Iq Fq hq
   split
   ·exact ⟨_, _, rfl, Iq, Fq⟩
   ·have F := (fw_typed T q).trans (zNc T 1 _)
    have hl := zCa (T := T) F
    have I2 := Iq.typed.text 1 (by decide)
    obtain ⟨v2, p2, e2, I3, F2⟩ := ih (l ++ [⟨(zfa T 1 (zia T q).2).1, (zia T q).1⟩]) false _ I2 (by simp; omega)
    exact ⟨v2, p2, e2, I3, (Fq.trans F).trans F2⟩
  cases f
  ·cases c2 : isF T [44] p
   ·exact ⟨l, p, rfl, I, Fw.refl _⟩
   ·have hl := zvb I c2
    replace h : left T p + 2 <= n + 1 := by simpa using h
    have hh := fin (adv p) (I.adv _ c2) (zN p) (by omega)
    exact hh
  ·replace h : left T p + 2 + 1 <= n + 1 := by simpa using h
   have hh := fin p I (Fw.refl _) (by omega)
   exact hh
theorem function_enough {T : List Tok} {n : Nat} {t : Int} {s : List UInt8} {p : PS} (I : Inv1 T p) (h : 64 * left T p + 30 <= n) : ∃ v p', zBd T n t s p = some (v, p') /\ Inv1 T p' /\ Fw p p' := by
 unfold zBd
 have I1 := I.must [40]
 have F1 := zn T [40] p
 have hl1 := zCa (T := T) F1
 split
 ·rename_i hc
  have F2 := (zN (zxa T [40] p)).trans (zn T [123] _)
  have hl2 := zCa (T := T) F2
  obtain ⟨v, p', e, I', F⟩ := (enoughS T n).block 1 [] _ ((I1.adv _ hc).must [123]) (by omega)
  rw [e]
  exact ⟨_, _, rfl, I', (F1.trans F2).trans F⟩
 ·obtain ⟨v, p', e, I', F⟩ := params_enough n [] true _ I1 (by simp; omega)
  rw [e]
  simp only
  have F2 := (zn T [41] p').trans (zn T [123] _)
  have hl2 := zCa (T := T) F
  have hl3 := zCa (T := T) F2
  obtain ⟨v2, p2, e2, I2, F3⟩ := (enoughS T n).block 1 [] _ ((I'.must [41]).must [123]) (by omega)
  rw [e2]
  exact ⟨_, _, rfl, I2, ((F1.trans F).trans F2).trans F3⟩
theorem prog_enough {T : List Tok} : ∀ n ars fs p, Inv1 T p -> 64 * left T p + 31 <= n \/ (zNa p = true /\ 1 <= n) -> ∃ v p', progF T n ars fs p = some (v, p') /\ Inv1 T p' := by
 intro n
 induction n with
 | zero => intro ars fs p _ h; omega
 | succ n ih =>
  intro ars fs p I h
  simp only [progF]
  split
  ·exact ⟨_, _, rfl, I⟩
  rename_i hno
  replace h : 64 * left T p + 31 <= n + 1 := by
   rcases h with h | h
   ·exact h
   ·exact absurd h.1 hno
  split
  ·exact ⟨_, _, rfl, I⟩
  have G1 := typed_go (T := T) (p := p)
  have I2 := I.typed.text 1 (by decide)
  have F1 := (fw_typed T p).trans (zNc T 1 _)
  have G2 : Go1 p (zfa T 1 (zia T p).2).2 := G1.fw (zNc T 1 _)
  have hl := zCa (T := T) F1
  have nx : ∀ q, Inv1 T q -> Go1 p q -> 64 * left T q + 31 <= n \/ (zNa q = true /\ 1 <= n) := by
   intro q Iq G
   rcases G with g | g
   ·left
    have := Iq.lt; have := I.lt; unfold left at *; omega
   ·exact Or.inr ⟨g, by omega⟩
  split
  ·rename_i hc
   have I3 := (((I2.adv _ hc.2.2).text 0 (by decide)).must [93]).must [59]
   exact ih _ _ _ I3 (nx _ I3 (G2.fw ((((zN _).trans (zNc T 0 _)).trans (zn T [93] _)).trans (zn T [59] _))))
  ·obtain ⟨v, p', e, I', F⟩ := function_enough (n := n) (t := (zia T p).1) (s := (zfa T 1 (zia T p).2).1) I2 (by omega)
   rw [e]
   exact ih _ _ _ I' (nx _ I' (G2.fw F))
end PE.U

namespace PE.U
open Go PE
def TokOK (t : Tok) : Prop := t.kind = 0 -> digs t.text = true /\ t.text.length < 1000000
theorem tokGo_ok : ∀ n (q : List UInt8) line acc, q.length < n -> q.length <= 100000 -> (∀ t ∈ acc, TokOK t) -> (zjb n q line acc).2.1 = 0 →
  (∀ t ∈ (zjb n q line acc).1, TokOK t) /\ (zjb n q line acc).1.length <= acc.length + q.length + 1 /\ 0 < (zjb n q line acc).1.length /\ ∃ t, (zjb n q line acc).1[(zjb n q line acc).1.length - 1]? = some t /\ t.kind = 3 := by
 intro n
 induction n with
 | zero => intro q line acc h; omega
 | succ n ih =>
  intro q line acc hq hs ha h0
  cases q with
  | nil =>
   simp only [zjb]
   refine ⟨?_, by simp, by simp, ⟨3, [], line⟩, by simp, rfl⟩
   intro t ht
   rcases List.mem_append.1 ht with h | h
   ·exact ha t h
   ·rw [List.mem_singleton.1 h]; intro h; exact absurd h (by simp)
  | cons b r =>
   simp only [List.length_cons] at hq hs
   have mono : ∀ (q' : List UInt8) line' acc', q'.length <= r.length -> acc'.length + q'.length <= acc.length + r.length + 1 -> (∀ t ∈ acc', TokOK t) -> (zjb n q' line' acc').2.1 = 0 →
     (∀ t ∈ (zjb n q' line' acc').1, TokOK t) /\ (zjb n q' line' acc').1.length <= acc.length + (b :: r).length + 1 /\ 0 < (zjb n q' line' acc').1.length /\ ∃ t, (zjb n q' line' acc').1[(zjb n q' line' acc').1.length - 1]? = some t /\ t.kind = 3 := by
    intro q' line' acc' h1 h2 h3 h4
    obtain ⟨x1, x2, x3, x4⟩ := ih q' line' acc' (by omega) (by omega) h3 h4
    exact ⟨x1, by simp only [List.length_cons]; omega, x3, x4⟩
   simp only [zjb] at h0 ⊢
   split at h0
   ·rename_i c; rw [if_pos c]; exact mono r _ _ (Nat.le_refl _) (by omega) ha h0
   rename_i c; rw [if_neg c]
   split at h0
   ·rename_i c; rw [if_pos c]; exact mono r _ _ (Nat.le_refl _) (by omega) ha h0
   rename_i c; rw [if_neg c]
   split at h0
   ·rename_i c; rw [if_pos c]
    have hl : ((b :: r).dropWhile (· != 10)).length <= r.length := by
     rw [List.dropWhile_cons, c.1]
     simp only [show ((47 : UInt8) != 10) = true from rfl, if_true]
     rw [zPc, List.length_drop]; omega
    exact mono _ _ _ hl (by omega) ha h0
   rename_i c; rw [if_neg c]
   split at h0
   ·rename_i c; rw [if_pos c]
    split at h0
    ·exact absurd h0 (by simp)
    rename_i c2; rw [if_neg c2]
    have hw : 0 < ((b :: r).takeWhile zF).length := by rw [List.takeWhile_cons, c]; simp
    have hw2 := (List.takeWhile_prefix (l := b :: r) (p := zF)).length_le
    simp only [List.length_cons] at hw2
    refine mono _ _ _ (by rw [List.length_drop]; simp only [List.length_cons]; omega) (by rw [List.length_drop]; simp only [List.length_cons, List.length_append, List.length_nil]; omega) ?_ h0
    intro t ht
    rcases List.mem_append.1 ht with h | h
    ·exact ha t h
    ·rw [List.mem_singleton.1 h]
     intro hk
     simp only at hk
     refine ⟨?_, by simp only; omega⟩
     simp only [tokBad, hk, Bool.or_eq_true, Bool.and_eq_true, decide_eq_true_eq, Bool.not_eq_true', not_or, not_and, Bool.not_eq_false] at c2
     have := c2.2 trivial
     simp only [zce, Bool.and_eq_true] at this
     exact this.1
   rename_i c; rw [if_neg c]
   split at h0
   ·exact absurd h0 (by simp)
   rename_i c2; rw [if_neg c2]
   have hp : 0 < (zge (b :: r)).length := List.length_pos_iff.2 c2
   have hp2 := sign_len (b :: r)
   simp only [List.length_cons] at hp2
   refine mono _ _ _ (by rw [List.length_drop]; simp only [List.length_cons]; omega) (by rw [List.length_drop]; simp only [List.length_cons, List.length_append, List.length_nil]; omega) ?_ h0
   intro t ht
   rcases List.mem_append.1 ht with h | h
   ·exact ha t h
   ·rw [List.mem_singleton.1 h]; intro h; exact absurd h (by simp)
theorem tokens_inv (s : List UInt8) (h : (zK s).2.1 = 0) : Inv1 (zK s).1 ⟨0, false, false⟩ := by
 unfold zK at h ⊢
 split at h
 ·exact absurd h (by decide)
 rename_i hs
 rw [if_neg hs]
 obtain ⟨x1, x2, x3, x4⟩ := tokGo_ok (s.length + 1) s 1 [] (by omega) (by omega) (by simp) h
 exact ⟨x3, x4, by simp at x2; omega, x1⟩
def fuel (l : List Tok) : Nat := 64 * l.length + 100
def zRa (s : List UInt8) : Prog × Int × Int :=
 if (zK s).2.1 = 0 then
  match progF (zK s).1 (fuel (zK s).1) [] [] ⟨0, false, false⟩ with
  | none => (⟨[], []⟩, 0, 0)
  | some q =>
   if q.2.deep then (⟨[], []⟩, 2, (tk (zK s).1 q.2.at').line)
   else if q.2.bad then (⟨[], []⟩, 20, (tk (zK s).1 q.2.at').line)
   else if zrc q.1 then (q.1, 0, 0) else (⟨[], []⟩, 2, 0)
 else (⟨[], []⟩, (zK s).2.1, (zK s).2.2)
end PE.U

namespace PE.U
open Go PE
def Short (T : List Tok) (M : Nat) : Prop := 8 <= M /\ ∀ t ∈ T, t.text.length + 8 <= M
theorem short_text {T : List Tok} {M : Nat} {k : Int} {p : PS} (I : Inv1 T p) (h : Short T M) : (zfa T k p).1.length + 8 <= M := by
 unfold zfa
 split
 ·simpa using h.1
 ·split
  ·refine h.2 _ ?_
   rw [<- tk_get' I.lt]; exact List.getElem_mem I.lt
  ·simpa using h.1
def wa (M : Nat) (p : PS) : Nat := M * p.at'
theorem zoc (M : Nat) (p : PS) : wa M (adv p) = wa M p + M := Nat.mul_succ _ _
theorem zkc {M : Nat} {p q : PS} (h : Fw p q) : wa M p <= wa M q := Nat.mul_le_mul_left _ h.1
structure Light (T : List Tok) (M n : Nat) : Prop where
 primary : ∀ d p v p', Inv1 T p -> zSc T n d p = some (v, p') -> Inv1 T p' /\ Fw p p' /\ wtE v + 2 * wa M p <= 2 * wa M p' + M
 unary : ∀ d p v p', Inv1 T p -> unaryF T n d p = some (v, p') -> Inv1 T p' /\ Fw p p' /\ wtE v + 2 * wa M p <= 2 * wa M p' + M
 expr : ∀ L d p v p', Inv1 T p -> zzc T n L d p = some (v, p') -> Inv1 T p' /\ Fw p p' /\ wtE v + 2 * wa M p <= 2 * wa M p' + M
 loop : ∀ L d a p v p', Inv1 T p -> zab T n L d a p = some (v, p') -> ∀ k : Nat, wtE a + k <= 2 * wa M p + M -> Inv1 T p' /\ Fw p p' /\ wtE v + k <= 2 * wa M p' + M
 args : ∀ d p v p', Inv1 T p -> argsF T n d p = some (v, p') -> Inv1 T p' /\ Fw p p' /\ wtEs v + 2 * wa M p <= 2 * wa M p' + 2 * M
 al : ∀ d l (f : Bool) p v p', Inv1 T p -> zra T n d l f p = some (v, p') -> ∀ k : Nat, wtEs l + k <= 2 * wa M p + (if f then 0 else 2 * M) -> Inv1 T p' /\ Fw p p' /\ wtEs v + k <= 2 * wa M p' + 2 * M
theorem light_of {T : List Tok} {M n : Nat} (hS : Short T M) (E : Light T M n) : Light T M (n + 1) := by
 have h8 := hS.1
 refine ⟨?_, ?_, ?_, ?_, ?_, ?_⟩
 ·intro d p v p' I h
  simp only [zSc] at h
  split at h
  ·cases h; exact ⟨I, Fw.refl _, by simp [wtE, wtEs]; omega⟩
  split at h
  ·rename_i hc
   split at h
   ·cases h
   ·rename_i q hq
    cases h
    obtain ⟨I', F, W⟩ := E.expr _ _ _ _ _ (I.adv _ hc) hq
    have := zoc M p
    have := zkc (M := M) (zn T [41] q.2)
    exact ⟨I'.must _, ((zN p).trans F).trans (zn _ _ _), by omega⟩
  split at h
  ·rename_i hc; cases h
   have := zoc M p
   exact ⟨I.adv _ hc, zN p, by simp [wtE, wtEs]; omega⟩
  split at h
  ·rename_i hc; cases h
   have := zoc M p
   exact ⟨I.adv _ hc, zN p, by simp [wtE, wtEs]; omega⟩
  split at h
  ·rename_i hc; cases h
   have F := ((zN p).trans (zn T [40] _)).trans (zn T [41] _)
   have := zkc (M := M) F
   exact ⟨((I.adv _ hc).must _).must _, F, by simp [wtE, wtEs]; omega⟩
  split at h
  ·rename_i hc; cases h
   have := zoc M p
   exact ⟨I.next (by rw [hc]; decide) _ _, zN p, by simp [wtE, wtEs]; omega⟩
  have I1 := I.text 1 (by decide)
  have F1 := zNc T 1 p
  have w1 := zkc (M := M) F1
  have hs := short_text (k := 1) I hS
  split at h
  ·rename_i hc
   split at h
   ·cases h
   ·rename_i q hq
    cases h
    obtain ⟨I', F, W⟩ := E.args _ _ _ _ (I1.adv _ hc) hq
    have := zoc M (zfa T 1 p).2
    exact ⟨I', (F1.trans (zN _)).trans F, by simp only [wtE]; omega⟩
  split at h
  ·rename_i hc
   split at h
   ·cases h
   ·rename_i q hq
    cases h
    obtain ⟨I', F, W⟩ := E.expr _ _ _ _ _ (I1.adv _ hc) hq
    have := zoc M (zfa T 1 p).2
    have := zkc (M := M) (zn T [93] q.2)
    exact ⟨I'.must _, ((F1.trans (zN _)).trans F).trans (zn _ _ _), by simp only [wtE, wtEs]; omega⟩
  ·cases h
   exact ⟨I1, F1, by simp only [wtE, wtEs]; omega⟩
 ·intro d p v p' I h
  simp only [unaryF] at h
  have I1 := I.deepF d
  have F1 := fw_deepF d p
  have w1 := zkc (M := M) F1
  cases hu : unF T (deepF d p) with
  | none =>
   rw [hu] at h
   obtain ⟨I', F, W⟩ := E.primary _ _ _ _ I1 h
   exact ⟨I', F1.trans F, by omega⟩
  | some i =>
   rw [hu] at h
   simp only at h
   have hi : isF T (signR ((i + 20 : Nat) : Int)) (deepF d p) = true := (unF_get hu).2.1
   have := zoc M (deepF d p)
   split at h
   ·split at h
    ·cases h
    ·rename_i q hq
     cases h
     have F2 := zn T [40] (adv (deepF d p))
     have := zkc (M := M) F2
     obtain ⟨I', F, W⟩ := E.expr _ _ _ _ _ ((I1.adv _ hi).must _) hq
     have := zkc (M := M) (zn T [41] q.2)
     exact ⟨I'.must _, (((F1.trans (zN _)).trans F2).trans F).trans (zn _ _ _), by simp only [wtE, wtEs, List.length_nil]; omega⟩
   ·split at h
    ·cases h
    ·rename_i q hq
     cases h
     obtain ⟨I', F, W⟩ := E.unary _ _ _ _ (I1.adv _ hi) hq
     exact ⟨I', (F1.trans (zN _)).trans F, by simp only [wtE, wtEs, List.length_nil]; omega⟩
 ·intro L d p v p' I h
  simp only [zzc] at h
  split at h
  ·exact E.unary _ _ _ _ I h
  ·split at h
   ·cases h
   ·rename_i q hq
    obtain ⟨I', F, W⟩ := E.expr _ _ _ _ _ I hq
    obtain ⟨I2, F2, W2⟩ := E.loop _ _ _ _ _ _ I' h (2 * wa M p) W
    exact ⟨I2, F.trans F2, W2⟩
 ·intro L d a p v p' I h k hk
  simp only [zab] at h
  split at h
  ·cases h; exact ⟨I, Fw.refl _, hk⟩
  ·rename_i hne
   obtain ⟨s, hs⟩ := opF_pos hne
   have := zoc M p
   split at h
   ·cases h
   ·rename_i q hq
    obtain ⟨I', F, W⟩ := E.expr _ _ _ _ _ (I.adv _ hs) hq
    obtain ⟨I2, F2, W2⟩ := E.loop _ _ _ _ _ _ I' h k (by simp only [wtE, wtEs, List.length_nil]; omega)
    exact ⟨I2, ((zN p).trans F).trans F2, W2⟩
 ·intro d p v p' I h
  simp only [argsF] at h
  split at h
  ·rename_i hc; cases h
   have := zoc M p
   exact ⟨I.adv _ hc, zN p, by simp only [wtEs]; omega⟩
  ·split at h
   ·cases h
   ·rename_i q hq
    cases h
    obtain ⟨I', F, W⟩ := E.al _ _ _ _ _ _ I hq (2 * wa M p) (by simp [wtEs])
    have := zkc (M := M) (zn T [41] q.2)
    exact ⟨I'.must _, F.trans (zn _ _ _), by omega⟩
 ·intro d l f p v p' I h k hk
  simp only [zra] at h
  have fin : ∀ q : PS, Inv1 T q -> Fw p q -> wtEs l + k + (if f then 0 else M + 1) <= 2 * wa M q + (if f then 0 else M + 1) -> (f = false -> wtEs l + k <= 2 * wa M q) -> (if zNa q then some (l, q) else match zzc T n 1 d q with | none => none | some x => zra T n d (l ++ [x.1]) false x.2) = some (v, p') -> Inv1 T p' /\ Fw p p' /\ wtEs v + k <= 2 * wa M p' + 2 * M := by
   intro q Iq Fq hq hq2 h
   have hq3 : wtEs l + k <= 2 * wa M q := by cases f <;> simp at hq <;> omega
   split at h
   ·cases h; exact ⟨Iq, Fq, by omega⟩
   ·split at h
    ·cases h
    ·rename_i x hx
     obtain ⟨I', F, W⟩ := E.expr _ _ _ _ _ Iq hx
     obtain ⟨I2, F2, W2⟩ := E.al _ _ _ _ _ _ I' h k (by rw [wtEs_append]; simp [wtEs]; omega)
     exact ⟨I2, (Fq.trans F).trans F2, W2⟩
  cases f
  ·cases c2 : isF T [44] p
   ·rw [c2] at h
    simp at h hk
    obtain ⟨rfl, rfl⟩ := h
    exact ⟨I, Fw.refl _, by omega⟩
   ·have := zoc M p
    rw [c2] at h
    simp at hk
    exact fin (adv p) (I.adv _ c2) (zN p) (by simp; omega) (fun _ => by omega) h
  ·simp at hk
   exact fin p I (Fw.refl _) (by simp; omega) (fun h => by cases h) h
theorem light {T : List Tok} {M : Nat} (hS : Short T M) : ∀ n, Light T M n
 | 0 => ⟨fun _ _ _ _ _ h => by simp [zSc] at h, fun _ _ _ _ _ h => by simp [unaryF] at h, fun _ _ _ _ _ _ h => by simp [zzc] at h, fun _ _ _ _ _ _ _ h => by simp [zab] at h, fun _ _ _ _ _ h => by simp [argsF] at h, fun _ _ _ _ _ _ _ h => by simp [zra] at h⟩
 | n + 1 => light_of hS (light hS n)
end PE.U

namespace PE.U
open Go PE
section
variable {T : List Tok} {M : Nat}
theorem light1 (hS : Short T M) {n : Nat} {p p' : PS} {v : Expr} (I : Inv1 T p) (h : zzc T n 1 1 p = some (v, p')) : Inv1 T p' /\ Fw p p' /\ wtE v + 2 * wa M p <= 2 * wa M p' + M := (light hS n).expr _ _ _ _ _ I h
theorem lightI (hS : Short T M) {n : Nat} {p p' : PS} {v : Expr} (I : Inv1 T p) (h : zGe T n p = some (v, p')) : Inv1 T p' /\ Fw p p' /\ wtE v + 2 * wa M p <= 2 * wa M p' + M := by
 unfold zGe at h
 split at h
 ·cases h
 ·rename_i q hq
  cases h
  obtain ⟨I', F, W⟩ := light1 hS (I.must _) hq
  have := zkc (M := M) (zn T [40] p)
  have := zkc (M := M) (zn T [41] q.2)
  exact ⟨I'.must _, ((zn _ _ _).trans F).trans (zn _ _ _), by omega⟩
theorem lightN (hS : Short T M) {n : Nat} {p p' : PS} {v : Stmt} (I : Inv1 T p) (h : namedF T n p = some (v, p')) : Inv1 T p' /\ Fw p p' /\ wtS v + 2 * wa M p <= 2 * wa M p' + 3 * M := by
 unfold namedF at h
 have h8 := hS.1
 have I1 := I.text 1 (by decide)
 have F1 := zNc T 1 p
 have w1 := zkc (M := M) F1
 have hs := short_text (k := 1) I hS
 split at h
 ·rename_i hc
  split at h
  ·cases h
  ·rename_i q hq
   cases h
   obtain ⟨I', F, W⟩ := (light hS n).args _ _ _ _ (I1.adv _ hc) hq
   have := zoc M (zfa T 1 p).2
   exact ⟨I', (F1.trans (zN _)).trans F, by simp only [wtS, wtE, wtEs, wtSs, List.length_nil]; omega⟩
 split at h
 ·rename_i hc
  split at h
  ·cases h
  ·rename_i q hq
   obtain ⟨I', F, W⟩ := light1 hS (I1.adv _ hc) hq
   have := zoc M (zfa T 1 p).2
   have F2 := (zn T [93] q.2).trans (zn T [61] _)
   have := zkc (M := M) F2
   split at h
   ·cases h
   ·rename_i r hr
    cases h
    obtain ⟨I2, F3, W2⟩ := light1 hS ((I'.must [93]).must [61]) hr
    exact ⟨I2, (((F1.trans (zN _)).trans F).trans F2).trans F3, by simp only [wtS, wtE, wtEs, wtSs, List.length_nil]; omega⟩
 ·split at h
  ·cases h
  ·rename_i q hq
   cases h
   obtain ⟨I', F, W⟩ := light1 hS (I1.must _) hq
   have := zkc (M := M) (zn T [61] (zfa T 1 p).2)
   exact ⟨I', (F1.trans (zn _ _ _)).trans F, by simp only [wtS, wtE, wtEs, wtSs, List.length_nil]; omega⟩
end
end PE.U

namespace PE.U
open Go PE
def ovM (M : Nat) (p : PS) : Nat := if zNa p then 8 * M else 0
theorem ovM_le (M : Nat) (p : PS) : ovM M p <= 8 * M := by unfold ovM; split <;> omega
theorem ovM_fw {M : Nat} {p q : PS} (h : Fw p q) : ovM M p <= ovM M q := by
 unfold ovM
 cases ho : zNa p
 ·simp
 ·rw [h.2 ho]; exact Nat.le_refl _
theorem go_wa {M : Nat} {p q : PS} (h : Go1 p q) : wa M p + M <= wa M q \/ ovM M q = 8 * M := by
 rcases h with h | h
 ·left
  unfold wa
  have := Nat.mul_le_mul_left M h
  rw [Nat.mul_succ] at this
  exact this
 ·right
  unfold ovM; rw [if_pos h]
theorem named_go {T : List Tok} {M n : Nat} {p p' : PS} {v : Stmt} (hS : Short T M) (I : Inv1 T p) (h : namedF T n p = some (v, p')) : Go1 p p' := by
 unfold namedF at h
 have I1 := I.text 1 (by decide)
 have F1 := zNc T 1 p
 have G1 := text_go (T := T) (k := 1) (p := p)
 split at h
 ·rename_i hc
  split at h
  ·cases h
  ·rename_i q hq
   cases h
   obtain ⟨I', F, W⟩ := (light hS n).args _ _ _ _ (I1.adv _ hc) hq
   exact G1.fw ((zN _).trans F)
 split at h
 ·rename_i hc
  split at h
  ·cases h
  ·rename_i q hq
   obtain ⟨I', F, W⟩ := light1 hS (I1.adv _ hc) hq
   have F2 := (zn T [93] q.2).trans (zn T [61] _)
   split at h
   ·cases h
   ·rename_i r hr
    cases h
    obtain ⟨I2, F3, W2⟩ := light1 hS ((I'.must [93]).must [61]) hr
    exact G1.fw ((((zN _).trans F).trans F2).trans F3)
 ·split at h
  ·cases h
  ·rename_i q hq
   cases h
   obtain ⟨I', F, W⟩ := light1 hS (I1.must _) hq
   exact G1.fw ((zn _ _ _).trans F)
structure LightS (T : List Tok) (M n : Nat) : Prop where
 stmt : ∀ d p v p', Inv1 T p -> stmtF T n d p = some (v, p') -> Inv1 T p' /\ Fw p p' /\ wtS v + 1 + 8 * wa M p <= 8 * wa M p' + ovM M p'
 block : ∀ d l p v p', Inv1 T p -> zJb T n d l p = some (v, p') -> ∀ k : Nat, wtSs l + k <= 8 * wa M p + ovM M p -> Inv1 T p' /\ Fw p p' /\ wtSs v + k <= 8 * wa M p' + ovM M p'
theorem lightS_of {T : List Tok} {M n : Nat} (hS : Short T M) (E : LightS T M n) : LightS T M (n + 1) := by
 have h8 := hS.1
 refine ⟨?_, ?_⟩
 ·intro d p v p' I0 h
  simp only [stmtF] at h
  have I := I0.deepS d
  have F0 := fw_deepS d p
  have w0 : wa M (deepS d p) = wa M p := by unfold wa deepS; split <;> rfl
  generalize deepS d p = q at *
  -- something is taken, and what is made weighs little
  have fin : ∀ r : PS, Fw q r -> Go1 q r -> ∀ W : Nat, W + 2 * wa M q <= 2 * wa M r + 4 * M -> Fw p r /\ W + 1 + 8 * wa M p <= 8 * wa M r + ovM M r := by
   intro r F G W hW
   refine ⟨F0.trans F, ?_⟩
   have := zkc (M := M) F
   rcases go_wa (M := M) G with g | g <;> omega
  split at h
  ·have G1 := typed_go (T := T) (p := q)
   have Ft := (fw_typed T q).trans (zNc T 1 _)
   have F1 := Ft.trans (zn T [61] _)
   have hs := short_text (k := 1) I.typed hS
   split at h
   ·cases h
   ·rename_i x hx
    cases h
    obtain ⟨I', F, W⟩ := light1 hS ((I.typed.text 1 (by decide)).must [61]) hx
    have F2 := zn T [59] x.2
    have := zkc (M := M) F1
    have := zkc (M := M) F2
    have := fin _ ((F1.trans F).trans F2) (G1.fw ((((zNc T 1 _).trans (zn T [61] _)).trans F).trans F2)) (wtS ⟨1, (zia T q).1, (zfa T 1 (zia T q).2).1, [x.1], [], []⟩) (by simp only [wtS, wtEs, wtSs]; omega)
    exact ⟨I'.must _, this.1, this.2⟩
  split at h
  ·rename_i hc
   have wadv := zoc M q
   split at h
   ·cases h
   ·rename_i x hx
    obtain ⟨I', F, W⟩ := lightI hS (I.adv _ hc) hx
    have F2 := zn T [123] x.2
    have w2 := zkc (M := M) F2
    have w1 := zkc (M := M) F
    split at h
    ·cases h
    ·rename_i y hy
     obtain ⟨I2, F3, W3⟩ := E.block _ _ _ _ _ (I'.must [123]) hy (8 * wa M (zxa T [123] x.2) + ovM M (zxa T [123] x.2)) (by simp [wtSs])
     split at h
     ·rename_i hc2
      split at h
      ·cases h
      ·rename_i z hz
       cases h
       have F4 := (zN y.2).trans (zn T [123] _)
       have w4 := zkc (M := M) F4
       have o4 := ovM_fw (M := M) F4
       obtain ⟨I3, F5, W5⟩ := E.block _ _ _ _ _ ((I2.adv _ hc2).must [123]) hz (8 * wa M (zxa T [123] (adv y.2)) + ovM M (zxa T [123] (adv y.2))) (by simp [wtSs])
       have w5 := zkc (M := M) F5
       have w3 := zkc (M := M) F3
       exact ⟨I3, F0.trans ((((((zN q).trans F).trans F2).trans F3).trans F4).trans F5), by simp only [wtS, wtEs, List.length_nil]; omega⟩
     ·cases h
      have w3 := zkc (M := M) F3
      exact ⟨I2, F0.trans ((((zN q).trans F).trans F2).trans F3), by simp only [wtS, wtEs, wtSs, List.length_nil]; omega⟩
  split at h
  ·rename_i hc
   have wadv := zoc M q
   split at h
   ·cases h
   ·rename_i x hx
    obtain ⟨I', F, W⟩ := lightI hS (I.adv _ hc) hx
    have F2 := zn T [123] x.2
    have w2 := zkc (M := M) F2
    have w1 := zkc (M := M) F
    split at h
    ·cases h
    ·rename_i y hy
     obtain ⟨I2, F3, W3⟩ := E.block _ _ _ _ _ (I'.must [123]) hy (8 * wa M (zxa T [123] x.2) + ovM M (zxa T [123] x.2)) (by simp [wtSs])
     cases h
     have w3 := zkc (M := M) F3
     exact ⟨I2, F0.trans ((((zN q).trans F).trans F2).trans F3), by simp only [wtS, wtEs, wtSs, List.length_nil]; omega⟩
  split at h
  ·rename_i hc
   cases h
   have wadv := zoc M q
   have F2 := zn T [59] (adv q)
   have := zkc (M := M) F2
   have := fin _ ((zN q).trans F2) ((adv_go q).fw F2) (wtS ⟨6, 0, [], [], [], []⟩) (by simp only [wtS, wtEs, wtSs, List.length_nil]; omega)
   exact ⟨(I.adv _ hc).must _, this.1, this.2⟩
  split at h
  ·rename_i hc
   cases h
   have wadv := zoc M q
   have F2 := zn T [59] (adv q)
   have := zkc (M := M) F2
   have := fin _ ((zN q).trans F2) ((adv_go q).fw F2) (wtS ⟨7, 0, [], [], [], []⟩) (by simp only [wtS, wtEs, wtSs, List.length_nil]; omega)
   exact ⟨(I.adv _ hc).must _, this.1, this.2⟩
  split at h
  ·rename_i hc
   have wadv := zoc M q
   split at h
   ·cases h
   ·rename_i x hx
    cases h
    obtain ⟨I', F, W⟩ := light1 hS (I.adv _ hc) hx
    have F2 := zn T [59] x.2
    have := zkc (M := M) F2
    have := fin _ (((zN q).trans F).trans F2) ((adv_go q).fw (F.trans F2)) (wtS ⟨8, 0, [], [x.1], [], []⟩) (by simp only [wtS, wtEs, wtSs, List.length_nil]; omega)
    exact ⟨I'.must _, this.1, this.2⟩
  split at h
  ·rename_i hc
   have wadv := zoc M q
   split at h
   ·cases h
   ·rename_i x hx
    cases h
    obtain ⟨I', F, W⟩ := lightI hS (I.adv _ hc) hx
    have F2 := zn T [59] x.2
    have := zkc (M := M) F2
    have := fin _ (((zN q).trans F).trans F2) ((adv_go q).fw (F.trans F2)) (wtS ⟨9, 0, [], [x.1], [], []⟩) (by simp only [wtS, wtEs, wtSs, List.length_nil]; omega)
    exact ⟨I'.must _, this.1, this.2⟩
  ·split at h
   ·cases h
   ·rename_i x hx
    cases h
    obtain ⟨I', F, W⟩ := lightN hS I hx
    have G := named_go hS I hx
    have F2 := zn T [59] x.2
    have := zkc (M := M) F2
    have := fin _ (F.trans F2) (G.fw F2) (wtS x.1) (by omega)
    exact ⟨I'.must _, this.1, this.2⟩
 ·intro d l p v p' I h k hk
  simp only [zJb] at h
  split at h
  ·cases h; exact ⟨I, Fw.refl _, hk⟩
  rename_i hno
  have ho0 : ovM M p = 0 := by unfold ovM; rw [if_neg hno]
  split at h
  ·rename_i hc
   cases h
   have := zoc M p
   exact ⟨I.adv _ hc, zN p, by omega⟩
  ·split at h
   ·cases h
   ·rename_i x hx
    obtain ⟨I', F, W⟩ := E.stmt _ _ _ _ I hx
    obtain ⟨I2, F2, W2⟩ := E.block _ _ _ _ _ I' h k (by rw [wtSs_append]; simp only [wtSs]; omega)
    exact ⟨I2, F.trans F2, W2⟩
theorem lightS {T : List Tok} {M : Nat} (hS : Short T M) : ∀ n, LightS T M n
 | 0 => ⟨fun _ _ _ _ _ h => by simp [stmtF] at h, fun _ _ _ _ _ _ h => by simp [zJb] at h⟩
 | n + 1 => lightS_of hS (lightS hS n)
end PE.U

namespace PE.U
open Go PE
theorem tokGo_short (N : Nat) : ∀ n (q : List UInt8) line acc, q.length <= N -> (∀ t ∈ acc, t.text.length <= N) -> ∀ t ∈ (zjb n q line acc).1, t.text.length <= N := by
 intro n
 induction n with
 | zero => intro q line acc hs ha; exact ha
 | succ n ih =>
  intro q line acc hs ha
  cases q with
  | nil =>
   simp only [zjb]
   intro t ht
   rcases List.mem_append.1 ht with h | h
   ·exact ha t h
   ·rw [List.mem_singleton.1 h]; simp
  | cons b r =>
   simp only [List.length_cons] at hs
   simp only [zjb]
   split
   ·exact ih _ _ _ (by omega) ha
   split
   ·exact ih _ _ _ (by omega) ha
   split
   ·refine ih _ _ _ ?_ ha
    rw [zPc, List.length_drop]; simp only [List.length_cons]; omega
   split
   ·split
    ·intro t ht; cases ht
    ·have hw2 := (List.takeWhile_prefix (l := b :: r) (p := zF)).length_le
     simp only [List.length_cons] at hw2
     refine ih _ _ _ (by rw [List.length_drop]; simp only [List.length_cons]; omega) ?_
     intro t ht
     rcases List.mem_append.1 ht with h | h
     ·exact ha t h
     ·rw [List.mem_singleton.1 h]; simp only; omega
   split
   ·intro t ht; cases ht
   ·have hp2 := sign_len (b :: r)
    simp only [List.length_cons] at hp2
    refine ih _ _ _ (by rw [List.length_drop]; simp only [List.length_cons]; omega) ?_
    intro t ht
    rcases List.mem_append.1 ht with h | h
    ·exact ha t h
    ·rw [List.mem_singleton.1 h]; simp only; omega
theorem tokens_short (s : List UInt8) : Short (zK s).1 100008 := by
 refine ⟨by decide, ?_⟩
 unfold zK
 split
 ·intro t ht; cases ht
 ·rename_i h
  intro t ht
  have := tokGo_short 100000 _ _ _ _ (by omega) (by simp) t ht
  omega
theorem tokens_count (s : List UInt8) (h : (zK s).2.1 = 0) : (zK s).1.length <= 100001 := by
 unfold zK at h ⊢
 split at h
 ·exact absurd h (by decide)
 rename_i hs
 rw [if_neg hs]
 obtain ⟨x1, x2, x3, x4⟩ := tokGo_ok (s.length + 1) s 1 [] (by omega) (by omega) (by simp) h
 simp at x2; omega
section
variable {T : List Tok} {M : Nat} (hS : Short T M)
theorem block_wt {n : Nat} {d : Int} {p p' : PS} {v : List Stmt} (hS : Short T M) (I : Inv1 T p) (h : zJb T n d [] p = some (v, p')) : wtSs v <= 8 * (M * T.length) + 8 * M := by
 obtain ⟨I', F, W⟩ := (lightS hS n).block _ _ _ _ _ I h (8 * wa M p + ovM M p) (by simp [wtSs])
 have := ovM_le M p'
 have h2 : wa M p' <= M * T.length := Nat.mul_le_mul_left _ (Nat.le_of_lt I'.lt)
 omega
theorem params_len : ∀ n l (f : Bool) p v p', zeb T n l f p = some (v, p') -> v.length <= l.length + n := by
 intro n
 induction n with
 | zero => intro l f p v p' h; simp [zeb] at h
 | succ n ih =>
  intro l f p v p' h
  simp only [zeb] at h
  by_cases hc : (f || isF T [44] p) = true
  ·rw [if_pos hc] at h
   generalize (if f = true then p else adv p) = q at h
   split at h
   ·cases h; omega
   ·have := ih _ _ _ _ _ h
    simp only [List.length_append, List.length_cons, List.length_nil] at this
    omega
  ·rw [if_neg hc] at h; cases h; omega
theorem function_wt {n : Nat} {t : Int} {s : List UInt8} {p p' : PS} {v : Func} (hS : Short T M) (I : Inv1 T p) (h : zBd T n t s p = some (v, p')) : wtSs v.body <= 8 * (M * T.length) + 8 * M /\ v.params.length <= n := by
 unfold zBd at h
 have I1 := I.must [40]
 split at h
 ·rename_i hc
  split at h
  ·cases h
  ·rename_i q hq
   cases h
   exact ⟨block_wt hS ((I1.adv _ hc).must _) hq, by simp⟩
 ·split at h
  ·cases h
  ·rename_i r hr
   have Ir := paramsF_inv _ _ _ _ _ _ hr I1
   have hl := params_len _ _ _ _ _ _ hr
   split at h
   ·cases h
   ·rename_i q hq
    cases h
    exact ⟨block_wt hS ((Ir.must _).must _) hq, by simpa using hl⟩
theorem prog_wt (hS : Short T M) : ∀ n ars fs p v p', n <= 999999980 -> Inv1 T p -> progF T n ars fs p = some (v, p') -> ∀ B : Nat, n <= B →
  (∀ f ∈ fs, wtSs f.body <= 8 * (M * T.length) + 8 * M /\ f.params.length <= B) →
  v.arrays.length <= ars.length + n /\ v.funcs.length <= fs.length + n /\ ∀ f ∈ v.funcs, wtSs f.body <= 8 * (M * T.length) + 8 * M /\ f.params.length <= B := by
 intro n
 induction n with
 | zero => intro ars fs p v p' _ I h; simp [progF] at h
 | succ n ih =>
  intro ars fs p v p' hn I h B hB hf
  simp only [progF] at h
  have I2 := I.typed.text 1 (by decide)
  split at h
  ·cases h; exact ⟨Nat.le_add_right _ _, Nat.le_add_right _ _, hf⟩
  split at h
  ·cases h; exact ⟨Nat.le_add_right _ _, Nat.le_add_right _ _, hf⟩
  split at h
  ·rename_i hc
   have I3 := (((I2.adv _ hc.2.2).text 0 (by decide)).must [93]).must [59]
   obtain ⟨a1, a2, a3⟩ := ih _ _ _ _ _ (by omega) I3 h B (by omega) hf
   simp only [List.length_append, List.length_cons, List.length_nil] at a1
   exact ⟨by omega, by omega, a3⟩
  ·split at h
   ·cases h
   ·rename_i q hq
    have I3 := (zHe hq I2 (by omega)).2
    have hw := function_wt hS I2 hq
    obtain ⟨a1, a2, a3⟩ := ih _ _ _ _ _ (by omega) I3 h B (by omega) (by
     intro f hff
     rcases List.mem_append.1 hff with h' | h'
     ·exact hf f h'
     ·rw [List.mem_singleton.1 h']; exact ⟨hw.1, by omega⟩)
    simp only [List.length_append, List.length_cons, List.length_nil] at a2
    exact ⟨by omega, by omega, a3⟩
end
theorem parse_sz (s : List UInt8) (h0 : (zK s).2.1 = 0) {v : Prog} {p' : PS} (h : progF (zK s).1 (fuel (zK s).1) [] [] ⟨0, false, false⟩ = some (v, p')) : PSz v := by
 have I := tokens_inv s h0
 have hc := tokens_count s h0
 have hS := tokens_short s
 have hf : fuel (zK s).1 <= 6400164 := by unfold fuel; omega
 obtain ⟨a1, a2, a3⟩ := prog_wt hS _ _ _ _ _ _ (by omega) I h (fuel (zK s).1) (Nat.le_refl _) (by simp)
 simp only [List.length_nil] at a1 a2
 have hm : 100008 * (zK s).1.length <= 100008 * 100001 := Nat.mul_le_mul_left _ hc
 refine ⟨by omega, by omega, fun f hff => ?_⟩
 obtain ⟨b1, b2⟩ := a3 f hff
 exact ⟨by omega, by omega⟩
theorem parse_run (s : List UInt8) (h0 : (zK s).2.1 = 0) : ∃ v p', progF (zK s).1 (fuel (zK s).1) [] [] ⟨0, false, false⟩ = some (v, p') /\ Inv1 (zK s).1 p' /\ PSz v := by
 have I := tokens_inv s h0
 obtain ⟨v, p', e, I'⟩ := prog_enough (fuel (zK s).1) [] [] _ I (Or.inl (by unfold fuel left; omega))
 exact ⟨v, p', e, I', parse_sz s h0 e⟩
end PE.U

namespace PE.U
open Go PE
def zKe (r : Prog × Int × Int) : PV := .tup [zf r.1, .int .i64 r.2.1, .int .i64 r.2.2]
set_option maxHeartbeats 4000000 in
theorem parse_spec (s : List UInt8) : zi E 13 [.str s] [] = some (.ret (zKe (zRa s)), []) := by
 refine zd rfl rfl rfl (by simp) ?_
 have ht := tokens_spec s
 by_cases h0 : (zK s).2.1 = 0
 ·obtain ⟨v, p', e, I', hz⟩ := parse_run s h0
  have I := tokens_inv s h0
  have hf : fuel (zK s).1 <= 6400164 := by have := tokens_count s h0; unfold fuel; omega
  have hp := (prog_spec e I (by omega)).1
  have hr := right_spec v hz
  have hm : zRa s = if p'.deep then (⟨[], []⟩, 2, (tk (zK s).1 p'.at').line) else if p'.bad then (⟨[], []⟩, 20, (tk (zK s).1 p'.at').line) else if zrc v then (v, 0, 0) else (⟨[], []⟩, 2, 0) := by
   unfold zRa; rw [if_pos h0, e]
  have hg := tk_get I'.lt
  rw [hm]
  clear hm e hz I hf
  generalize zK s = tt at *
  obtain ⟨T, e0, ln⟩ := tt
  simp only at h0 hp hg ht I'
  subst h0
  have hlt := I'.lt
  clear I'
  obtain ⟨pa, pb, pd⟩ := p'
  obtain ⟨ars, fs⟩ := v
  simp [encTokR, toks, pob, zf, zga, funcs] at ht hp hr hg hlt
  cases pd
  ·cases pb
   ·cases hR : zrc ⟨ars, fs⟩
    ·rw [hR] at hr
     simp [*, F13, zKe, zf, zga, funcs]
    ·rw [hR] at hr
     simp [*, F13, zKe, zf, zga, funcs]
   ·clear hr
    simp [*, F13, zKe, zf, zga, funcs, zq]
    exact congrArg Tok.line (tk_get' hlt)
  ·clear hr
   simp [*, F13, zKe, zf, zga, funcs, zq]
   exact congrArg Tok.line (tk_get' hlt)
 ·have hm : zRa s = (⟨[], []⟩, (zK s).2.1, (zK s).2.2) := by unfold zRa; rw [if_neg h0]
  rw [hm]
  clear hm
  generalize zK s = tt at *
  obtain ⟨T, e0, ln⟩ := tt
  simp only at h0 ht
  simp [encTokR, toks] at ht
  replace h0 := eqn h0
  simp [*, F13, zKe, zf, zga, funcs]
end PE.U

namespace PE.U
open Go PE
theorem parse_psz (s : List UInt8) : PSz (zRa s).1 := by
 have h0 : PSz ⟨[], []⟩ := ⟨by simp, by simp, by simp⟩
 unfold zRa
 split
 ·rename_i h
  obtain ⟨v, p', e, I', hz⟩ := parse_run s h
  rw [e]
  simp only
  split
  ·exact h0
  split
  ·exact h0
  split
  ·exact hz
  ·exact h0
 ·exact h0
end PE.U

namespace PE.U
open Go PE
theorem zwb (b : Bool) (σ : ze) : zi E 171 [.bool b] σ = some (.ret (.int .i64 (if b then 1 else 0)), σ) := by
 refine zd rfl rfl rfl rfl ?_
 cases b <;> simp [F171]
theorem zW (b : Bool) (σ : ze) : zi E 41 [.bool b] σ = some (.ret (.int .i64 (if b then 1 else 0)), σ) := by
 refine zd rfl rfl rfl rfl ?_
 cases b <;> simp [F41]
noncomputable def one (op a : Int) : Int :=
 if op = 20 then W (0 - a) else if op = 21 then xor64 (-1) a else if op = 22 then (if a = 0 then 1 else 0)
 else if op = 23 then W (zB .i8 a) else if op = 24 then W (zB .i16 a) else if op = 25 then W (zB .i32 a)
 else if op = 26 then W (zB .u8 a) else if op = 27 then W (zB .u16 a) else if op = 28 then W (zB .u32 a) else 0
theorem one_spec (op a : Int) (σ : ze) : zi E 166 [.int .i64 op, .int .i64 a] σ = some (.ret (.int .i64 (one op a)), σ) := by
 refine zd rfl rfl rfl rfl ?_
 by_cases h1 : op = 20
 ·subst h1; simp [F166, one]
 by_cases h2 : op = 21
 ·subst h2; simp [F166, one]
 by_cases h3 : op = 22
 ·subst h3; simp [F166, one, zwb]
 by_cases h4 : op = 23
 ·subst h4; simp [F166, one, zwb]
 by_cases h5 : op = 24
 ·subst h5; simp [F166, one, zwb]
 by_cases h6 : op = 25
 ·subst h6; simp [F166, one, zwb]
 by_cases h7 : op = 26
 ·subst h7; simp [F166, one, zwb]
 by_cases h8 : op = 27
 ·subst h8; simp [F166, one, zwb]
 by_cases h9 : op = 28
 ·subst h9; simp [F166, one, zwb]
 simp [F166, one, h1, h2, h3, h4, h5, h6, h7, h8, h9]
def cmp (op a b : Int) : Bool × Bool :=
 if op = 12 then (decide (a < b), true) else if op = 13 then (decide (a <= b), true) else if op = 14 then (decide (b < a), true)
 else if op = 15 then (decide (b <= a), true) else if op = 16 then (decide (a = b), true) else if op = 17 then (!decide (a = b), true) else (false, false)
theorem zHa (op a b : Int) (σ : ze) : zi E 172 [.int .i64 op, .int .i64 a, .int .i64 b] σ = some (.ret (.tup [.bool (cmp op a b).1, .bool (cmp op a b).2]), σ) := by
 refine zd rfl rfl rfl rfl ?_
 by_cases h1 : op = 12
 ·subst h1; simp [F172, cmp]
 by_cases h2 : op = 13
 ·subst h2; simp [F172, cmp]
 by_cases h3 : op = 14
 ·subst h3; simp [F172, cmp]
 by_cases h4 : op = 15
 ·subst h4; simp [F172, cmp]
 by_cases h5 : op = 16
 ·subst h5; simp [F172, cmp]
 by_cases h6 : op = 17
 ·subst h6; simp [F172, cmp]
 simp [F172, cmp, h1, h2, h3, h4, h5, h6]
noncomputable def two (op a b : Int) : Int × Bool :=
 if (cmp op a b).2 = true then (if (cmp op a b).1 = true then 1 else 0, true)
 else if op = 1 then (W (a + b), true) else if op = 2 then (W (a - b), true) else if op = 3 then (W (a * b), true)
 else if op = 6 then (zSe a b, true) else if op = 7 then (or64 a b, true) else if op = 8 then (xor64 a b, true)
 else if op = 9 then (W (a * 2 ^ (min (zSe b 63).toNat 64)), true) else if op = 10 then (shrK a (min (zSe b 63).toNat 64), true)
 else if op = 11 then (W (shrK (zB .u64 a) (min (zSe b 63).toNat 64)), true)
 else if b = 0 then (0, false) else if op = 4 then (W (a.tdiv b), true) else if op = 5 then (remK a b, true) else (0, false)
theorem wrap64 (n : Int) : W n = (BitVec.ofInt 64 n).toInt := by
 rw [BitVec.toInt_ofInt, W, zoa, IntKind.wrap_i64]
 unfold Int.bmod
 simp only
 split <;> omega
theorem zze (z : BitVec 64) : W (z.toNat : Int) = z.toInt := by
 rw [wrap64]; simp
theorem and64_eq (a b : Int) : zSe a b = (BitVec.ofInt 64 a &&& BitVec.ofInt 64 b).toInt := (andK_eq .i64 a b).trans ((zoa _ _).symm.trans (zze (BitVec.ofInt 64 a &&& BitVec.ofInt 64 b)))
theorem or64_eq (a b : Int) : or64 a b = (BitVec.ofInt 64 a ||| BitVec.ofInt 64 b).toInt := (orK_eq .i64 a b).trans ((zoa _ _).symm.trans (zze (BitVec.ofInt 64 a ||| BitVec.ofInt 64 b)))
theorem xor64_eq (a b : Int) : xor64 a b = (BitVec.ofInt 64 a ^^^ BitVec.ofInt 64 b).toInt := (xorK_eq .i64 a b).trans ((zoa _ _).symm.trans (zze (BitVec.ofInt 64 a ^^^ BitVec.ofInt 64 b)))
theorem and_mask (a : Int) (m : Nat) (hm : m < 63) : zSe a (2 ^ m - 1) = a % 2 ^ m := by
 rw [and64_eq]
 have e : (BitVec.ofInt 64 (2 ^ m - 1)).toNat = 2 ^ m - 1 := by
  have h1 : (2 : Nat) ^ m < 2 ^ 63 := Nat.pow_lt_pow_right (by decide) hm
  have h2 : 0 < (2 : Nat) ^ m := Nat.pow_pos (by decide)
  have h3 : ((2 : Int) ^ m - 1) = (((2 : Nat) ^ m - 1 : Nat) : Int) := by
   rw [Int.natCast_sub h2]; simp
  rw [h3, BitVec.ofInt_natCast, BitVec.toNat_ofNat]
  apply Nat.mod_eq_of_lt; omega
 have hN : (BitVec.ofInt 64 a &&& BitVec.ofInt 64 (2 ^ m - 1)).toNat = (BitVec.ofInt 64 a).toNat % 2 ^ m := by
  rw [BitVec.toNat_and, e, Nat.and_two_pow_sub_one_eq_mod]
 have hlt : (BitVec.ofInt 64 a).toNat % 2 ^ m < 2 ^ 63 := by
  have h1 : (2 : Nat) ^ m < 2 ^ 63 := Nat.pow_lt_pow_right (by decide) hm
  have := Nat.mod_lt (BitVec.ofInt 64 a).toNat (Nat.pow_pos (n := m) (show 0 < 2 by decide))
  omega
 rw [BitVec.toInt_eq_toNat_cond, if_pos (by rw [hN]; omega), hN, BitVec.toNat_ofInt, Int.natCast_emod, Int.toNat_of_nonneg (Int.emod_nonneg _ (by decide))]
 have : ((2 ^ m : Nat) : Int) = (2 : Int) ^ m := by simp
 rw [this]
 apply Int.emod_emod_of_dvd
 have hd : (2 : Nat) ^ m ∣ 2 ^ 64 := Nat.pow_dvd_pow 2 (by omega)
 have := Int.natCast_dvd_natCast.2 hd
 simpa using this
theorem and63 (b : Int) : 0 <= zSe b 63 /\ zSe b 63 < 64 := by
 have := and_mask b 6 (by decide)
 simp at this
 rw [this]; omega
theorem zFc (b : Int) : ¬ zSe b 63 < 0 := by have := (and63 b).1; omega
theorem two_spec (op a b : Int) (σ : ze) : zi E 168 [.int .i64 op, .int .i64 a, .int .i64 b] σ = some (.ret (.tup [.int .i64 (two op a b).1, .bool (two op a b).2]), σ) := by
 refine zd rfl rfl rfl rfl ?_
 by_cases hc : (cmp op a b).2 = true
 ·simp [F168, two, zHa, hc, zwb]
 have hc' : (cmp op a b).2 = false := by simpa using hc
 by_cases h1 : op = 1
 ·subst h1; simp [F168, two, zHa, hc']
 by_cases h2 : op = 2
 ·subst h2; simp [F168, two, zHa, hc']
 by_cases h3 : op = 3
 ·subst h3; simp [F168, two, zHa, hc']
 by_cases h4 : op = 6
 ·subst h4; simp [F168, two, zHa, hc']
 by_cases h5 : op = 7
 ·subst h5; simp [F168, two, zHa, hc']
 by_cases h6 : op = 8
 ·subst h6; simp [F168, two, zHa, hc']
 by_cases h7 : op = 9
 ·subst h7; simp [F168, two, zHa, hc', zFc, IntKind.bits]
 by_cases h8 : op = 10
 ·subst h8; simp [F168, two, zHa, hc', zFc, IntKind.bits]
 by_cases h9 : op = 11
 ·subst h9; simp [F168, two, zHa, hc', zFc, IntKind.bits]
 by_cases h10 : b = 0
 ·subst h10; simp [F168, two, zHa, hc', h1, h2, h3, h4, h5, h6, h7, h8, h9]
 by_cases h11 : op = 4
 ·subst h11; simp [F168, two, zHa, hc', h10]
 by_cases h12 : op = 5
 ·subst h12; simp [F168, two, zHa, hc', h10]
 simp [F168, two, zHa, hc', h1, h2, h3, h4, h5, h6, h7, h8, h9, h10, h11, h12]
theorem rtwo_spec (op a b : Int) (σ : ze) : zi E 22 [.int .i64 op, .int .i64 a, .int .i64 b] σ = some (.ret (.tup [.int .i64 (two op a b).1, .bool (two op a b).2]), σ) := by
 refine zd rfl rfl rfl rfl ?_
 by_cases h1 : op = 1
 ·subst h1; simp [F22, two, cmp, zW, zFc, IntKind.bits]
 by_cases h2 : op = 2
 ·subst h2; simp [F22, two, cmp, zW, zFc, IntKind.bits]
 by_cases h3 : op = 3
 ·subst h3; simp [F22, two, cmp, zW, zFc, IntKind.bits]
 by_cases h4 : op = 4
 ·subst h4
  by_cases hb : b = 0
  ·subst hb; simp [F22, two, cmp]
  ·simp [F22, two, cmp, hb]
 by_cases h5 : op = 5
 ·subst h5
  by_cases hb : b = 0
  ·subst hb; simp [F22, two, cmp]
  ·simp [F22, two, cmp, hb]
 by_cases h6 : op = 6
 ·subst h6; simp [F22, two, cmp, zW, zFc, IntKind.bits]
 by_cases h7 : op = 7
 ·subst h7; simp [F22, two, cmp, zW, zFc, IntKind.bits]
 by_cases h8 : op = 8
 ·subst h8; simp [F22, two, cmp, zW, zFc, IntKind.bits]
 by_cases h9 : op = 9
 ·subst h9; simp [F22, two, cmp, zW, zFc, IntKind.bits]
 by_cases h10 : op = 10
 ·subst h10; simp [F22, two, cmp, zW, zFc, IntKind.bits]
 by_cases h11 : op = 11
 ·subst h11; simp [F22, two, cmp, zW, zFc, IntKind.bits]
 by_cases h12 : op = 12
 ·subst h12; simp [F22, two, cmp, zW, zFc, IntKind.bits]
 by_cases h13 : op = 13
 ·subst h13; simp [F22, two, cmp, zW, zFc, IntKind.bits]
 by_cases h14 : op = 14
 ·subst h14; simp [F22, two, cmp, zW, zFc, IntKind.bits]
 by_cases h15 : op = 15
 ·subst h15; simp [F22, two, cmp, zW, zFc, IntKind.bits]
 by_cases h16 : op = 16
 ·subst h16; simp [F22, two, cmp, zW, zFc, IntKind.bits]
 by_cases h17 : op = 17
 ·subst h17; simp [F22, two, cmp, zW, zFc, IntKind.bits]
 simp [F22, two, cmp, h1, h2, h3, h4, h5, h6, h7, h8, h9, h10, h11, h12, h13, h14, h15, h16, h17]
noncomputable def rone (op a : Int) : Int :=
 if op = 20 then W (0 - a) else if op = 21 then W (-1 - a) else if op = 22 then (if a = 0 then 1 else 0)
 else if op = 26 then zSe a 255 else if op = 27 then zSe a 65535 else if op = 28 then zSe a 4294967295
 else if op = 23 then W (xor64 (zSe a 255) 128 - 128) else if op = 24 then W (xor64 (zSe a 65535) 32768 - 32768) else if op = 25 then W (xor64 (zSe a 4294967295) 2147483648 - 2147483648) else 0
theorem rone_spec (op a : Int) (σ : ze) : zi E 147 [.int .i64 op, .int .i64 a] σ = some (.ret (.int .i64 (rone op a)), σ) := by
 refine zd rfl rfl rfl rfl ?_
 by_cases h20 : op = 20
 ·subst h20; simp [F147, rone, zW]
 by_cases h21 : op = 21
 ·subst h21; simp [F147, rone, zW]
 by_cases h22 : op = 22
 ·subst h22; simp [F147, rone, zW]
 by_cases h23 : op = 23
 ·subst h23; simp [F147, rone, zW]
 by_cases h24 : op = 24
 ·subst h24; simp [F147, rone, zW]
 by_cases h25 : op = 25
 ·subst h25; simp [F147, rone, zW]
 by_cases h26 : op = 26
 ·subst h26; simp [F147, rone, zW]
 by_cases h27 : op = 27
 ·subst h27; simp [F147, rone, zW]
 by_cases h28 : op = 28
 ·subst h28; simp [F147, rone, zW]
 simp [F147, rone, h20, h21, h22, h23, h24, h25, h26, h27, h28]
theorem xor_pow (k x : Nat) (h : x < 2 ^ (k + 1)) : x ^^^ 2 ^ k = if x < 2 ^ k then x + 2 ^ k else x - 2 ^ k := by
 have key : ∀ y, y < 2 ^ k -> y ^^^ 2 ^ k = y + 2 ^ k := by
  intro y hy
  have e : 2 ^ k + y = 2 ^ k ||| y := by
   have := Nat.two_pow_add_eq_or_of_lt hy 1
   simpa using this
  rw [Nat.add_comm, e]
  apply Nat.eq_of_testBit_eq
  intro i
  rw [Nat.testBit_xor, Nat.testBit_or, Nat.testBit_two_pow]
  by_cases hi : k = i
  ·subst hi
   simp [Nat.testBit_lt_two_pow hy]
  ·simp [hi]
 split
 ·rename_i hx; exact key x hx
 ·rename_i hx
  have hp : (2 : Nat) ^ (k + 1) = 2 * 2 ^ k := by rw [Nat.pow_succ]; omega
  have hy : x - 2 ^ k < 2 ^ k := by omega
  have := key _ hy
  have e : x = (x - 2 ^ k) ^^^ 2 ^ k := by rw [this]; omega
  calc x ^^^ 2 ^ k = ((x - 2 ^ k) ^^^ 2 ^ k) ^^^ 2 ^ k := by rw [<- e]
   _ = x - 2 ^ k := by rw [Nat.xor_assoc, Nat.xor_self, Nat.xor_zero]
theorem xor64_pow (k : Nat) (hk : k < 62) (x : Int) (h0 : 0 <= x) (h1 : x < 2 ^ (k + 1)) : xor64 x (2 ^ k) = if x < 2 ^ k then x + 2 ^ k else x - 2 ^ k := by
 obtain ⟨n, rfl⟩ : ∃ n : Nat, x = n := ⟨x.toNat, by omega⟩
 have hp : ((2 : Int) ^ k) = ((2 ^ k : Nat) : Int) := by simp
 have hp' : ((2 : Int) ^ (k + 1)) = ((2 ^ (k + 1) : Nat) : Int) := by simp
 rw [hp'] at h1
 have hn : n < 2 ^ (k + 1) := by omega
 have hb : (2 : Nat) ^ (k + 1) <= 2 ^ 62 := Nat.pow_le_pow_right (by decide) (by omega)
 have hb2 : (2 : Nat) ^ k < 2 ^ (k + 1) := Nat.pow_lt_pow_right (by decide) (by omega)
 rw [xor64_eq, hp, BitVec.ofInt_natCast, BitVec.ofInt_natCast]
 have hx := xor_pow k n hn
 have hlt : n ^^^ 2 ^ k < 2 ^ 62 := by rw [hx]; split <;> omega
 have hN : (BitVec.ofNat 64 n ^^^ BitVec.ofNat 64 (2 ^ k)).toNat = n ^^^ 2 ^ k := by
  rw [BitVec.toNat_xor, BitVec.toNat_ofNat, BitVec.toNat_ofNat, Nat.mod_eq_of_lt (by omega), Nat.mod_eq_of_lt (by omega)]
 rw [BitVec.toInt_eq_toNat_cond, if_pos (by rw [hN]; omega), hN, hx]
 by_cases hc : n < 2 ^ k
 ·rw [if_pos hc, if_pos (by omega)]; omega
 ·rw [if_neg hc, if_neg (by omega)]; omega
theorem W_id (n : Int) (h : -9223372036854775808 <= n) (h' : n <= 9223372036854775807) : W n = n := by
 rw [W, zoa, IntKind.wrap_i64]; omega
theorem wrapK_i8 (n : Int) : zB .i8 n = (n + 128) % 256 - 128 := by
 rw [zoa]; simp [IntKind.wrap, IntKind.bits, IntKind.signed]; split <;> omega
theorem wrapK_i16 (n : Int) : zB .i16 n = (n + 32768) % 65536 - 32768 := by
 rw [zoa]; simp [IntKind.wrap, IntKind.bits, IntKind.signed]; split <;> omega
theorem wrapK_i32 (n : Int) : zB .i32 n = (n + 2147483648) % 4294967296 - 2147483648 := by
 rw [zoa, IntKind.wrap_i32]
theorem wrapK_u8 (n : Int) : zB .u8 n = n % 256 := by rw [zoa, IntKind.wrap_u8]
theorem wrapK_u16 (n : Int) : zB .u16 n = n % 65536 := by
 rw [zoa]; simp [IntKind.wrap, IntKind.bits, IntKind.signed]
theorem wrapK_u32 (n : Int) : zB .u32 n = n % 4294967296 := by rw [zoa, IntKind.wrap_u32]
theorem and_255 (a : Int) : zSe a 255 = a % 256 := by have := and_mask a 8 (by decide); simpa using this
theorem and_65535 (a : Int) : zSe a 65535 = a % 65536 := by have := and_mask a 16 (by decide); simpa using this
theorem and_4294967295 (a : Int) : zSe a 4294967295 = a % 4294967296 := by have := and_mask a 32 (by decide); simpa using this
theorem not64 (a : Int) : xor64 (-1) a = W (-1 - a) := by
 rw [xor64_eq, wrap64]
 congr 1
 have h1 : BitVec.ofInt 64 (-1) = BitVec.allOnes 64 := by decide
 rw [h1, BitVec.allOnes_xor]
 have h2 : (-1 - a) = -a - 1 := by omega
 apply BitVec.eq_of_toInt_eq
 rw [BitVec.toInt_not, BitVec.toInt_ofInt, BitVec.toNat_ofInt]
 have : 0 <= a % ((2 ^ 64 : Nat) : Int) := Int.emod_nonneg _ (by decide)
 simp only [Int.bmod]
 omega
theorem rone_eq (op a : Int) : rone op a = one op a := by
 unfold rone one
 by_cases h1 : op = 20
 ·subst h1; simp
 by_cases h2 : op = 21
 ·subst h2; simp [not64]
 by_cases h3 : op = 22
 ·subst h3; simp
 by_cases h4 : op = 26
 ·subst h4; simp only [and_255, wrapK_u8]; simp; rw [W_id] <;> omega
 by_cases h5 : op = 27
 ·subst h5; simp only [and_65535, wrapK_u16]; simp; rw [W_id] <;> omega
 by_cases h6 : op = 28
 ·subst h6; simp only [and_4294967295, wrapK_u32]; simp; rw [W_id] <;> omega
 by_cases h7 : op = 23
 ·subst h7
  simp only [and_255, wrapK_i8]
  have := xor64_pow 7 (by decide) (a % 256) (by omega) (by omega)
  simp at this
  simp [this]
  rw [W_id, W_id] <;> (try split) <;> omega
 by_cases h8 : op = 24
 ·subst h8
  simp only [and_65535, wrapK_i16]
  have := xor64_pow 15 (by decide) (a % 65536) (by omega) (by omega)
  simp at this
  simp [this]
  rw [W_id, W_id] <;> (try split) <;> omega
 by_cases h9 : op = 25
 ·subst h9
  simp only [and_4294967295, wrapK_i32]
  have := xor64_pow 31 (by decide) (a % 4294967296) (by omega) (by omega)
  simp at this
  simp [this]
  rw [W_id, W_id] <;> (try split) <;> omega
 simp [h1, h2, h3, h4, h5, h6, h7, h8, h9]
end PE.U

namespace PE.U
open Go PE
structure RS where
 inp : List Int
 arrs : List (List Int)
 out : List Int
 cost : Int
 fuel : Nat
inductive How where
 | on | brk | cont
 | ret (n : Int)
inductive Rt (α : Type) where
 | ok (a : α)
 | stop (k : Int)
abbrev Vs := List (List UInt8 × Int)
structure Ev where
 expr : Expr -> Vs -> RS -> Rt Int × RS
 stmt : Stmt -> Vs -> RS -> Rt (How × Vs) × RS
def getV (nm : List UInt8) : Vs -> Int
 | [] => 0
 | x :: r => if x.1 = nm then x.2 else getV nm r
def setV (nm : List UInt8) (n : Int) : Vs -> Vs
 | [] => []
 | x :: r => if x.1 = nm then (nm, n) :: r else x :: setV nm n r
def oneC (op a : Int) : Int :=
 if op = 20 then IntKind.wrap .i64 (0 - a) else if op = 21 then IntKind.wrap .i64 (-1 - a) else if op = 22 then (if a = 0 then 1 else 0)
 else if op = 23 then (a + 128) % 256 - 128 else if op = 24 then (a + 32768) % 65536 - 32768 else if op = 25 then (a + 2147483648) % 4294967296 - 2147483648
 else if op = 26 then a % 256 else if op = 27 then a % 65536 else if op = 28 then a % 4294967296 else 0
def and64C (a b : Int) : Int := (BitVec.ofInt 64 a &&& BitVec.ofInt 64 b).toInt
def or64C (a b : Int) : Int := (BitVec.ofInt 64 a ||| BitVec.ofInt 64 b).toInt
def xor64C (a b : Int) : Int := (BitVec.ofInt 64 a ^^^ BitVec.ofInt 64 b).toInt
def twoC (op a b : Int) : Int × Bool :=
 if (cmp op a b).2 = true then (if (cmp op a b).1 = true then 1 else 0, true)
 else if op = 1 then (IntKind.wrap .i64 (a + b), true) else if op = 2 then (IntKind.wrap .i64 (a - b), true) else if op = 3 then (IntKind.wrap .i64 (a * b), true)
 else if op = 6 then (and64C a b, true) else if op = 7 then (or64C a b, true) else if op = 8 then (xor64C a b, true)
 else if op = 9 then (IntKind.wrap .i64 (a * 2 ^ (b % 64).toNat), true) else if op = 10 then (a.fdiv (2 ^ (b % 64).toNat), true)
 else if op = 11 then (IntKind.wrap .i64 ((a % 18446744073709551616).fdiv (2 ^ (b % 64).toNat)), true)
 else if b = 0 then (0, false) else if op = 4 then (IntKind.wrap .i64 (a.tdiv b), true) else if op = 5 then (a.tmod b, true) else (0, false)
theorem one_eqC (op a : Int) : one op a = oneC op a := by
 unfold one oneC
 by_cases h1 : op = 20
 ·subst h1; simp [W, zoa]
 by_cases h2 : op = 21
 ·subst h2; simp [not64, W, zoa]
 by_cases h3 : op = 22
 ·subst h3; simp
 by_cases h4 : op = 26
 ·subst h4; simp only [wrapK_u8]; simp; rw [W_id] <;> omega
 by_cases h5 : op = 27
 ·subst h5; simp only [wrapK_u16]; simp; rw [W_id] <;> omega
 by_cases h6 : op = 28
 ·subst h6; simp only [wrapK_u32]; simp; rw [W_id] <;> omega
 by_cases h7 : op = 23
 ·subst h7; simp only [wrapK_i8]; simp; rw [W_id] <;> omega
 by_cases h8 : op = 24
 ·subst h8; simp only [wrapK_i16]; simp; rw [W_id] <;> omega
 by_cases h9 : op = 25
 ·subst h9; simp only [wrapK_i32]; simp; rw [W_id] <;> omega
 simp [h1, h2, h3, h4, h5, h6, h7, h8, h9]
theorem two_eqC (op a b : Int) : two op a b = twoC op a b := by
 have h63 : zSe b 63 = b % 64 := by have := and_mask b 6 (by decide); simpa using this
 have hm : min (b % 64).toNat 64 = (b % 64).toNat := by omega
 unfold two twoC
 rw [h63, hm]
 simp only [W, zoa, and64_eq, or64_eq, xor64_eq, remK_eq, shrK_eq, and64C, or64C, xor64C, IntKind.wrap_u64]
def zO (S : RS) : RS := { S with cost := IntKind.wrap .i64 (S.cost + 1) }
def cellAt (p : Prog) (S : RS) (nm : List UInt8) (n : Int) : Option Int :=
 if n < 0 then none else (S.arrs[(zEa p nm).toNat]?).bind fun l => l[n.toNat]?
def putAt (p : Prog) (S : RS) (nm : List UInt8) (n m : Int) : Option RS :=
 if n < 0 then none else (S.arrs[(zEa p nm).toNat]?).bind fun l => if n.toNat < l.length then some { S with arrs := S.arrs.set (zEa p nm).toNat (l.set n.toNat m) } else none
section
variable (p : Prog) (ev : Ev)
def zid (V : Vs) : List Expr -> List Int -> RS -> Rt (List Int) × RS
 | [], acc, S => (.ok acc, S)
 | x :: r, acc, S => match ev.expr x V S with
  | (.ok n, S1) => zid V r (acc ++ [n]) S1
  | (.stop k, S1) => (.stop k, S1)
def zyb : List Stmt -> Vs -> RS -> Rt (How × Vs) × RS
 | [], V, S => (.ok (.on, V), S)
 | s :: r, V, S => match ev.stmt s V S with
  | (.ok (.on, V1), S1) => zyb r V1 S1
  | (.ok (h, V1), S1) => (.ok (h, V1), S1)
  | (.stop k, S1) => (.stop k, S1)
def zba (l : List Stmt) (V : Vs) (S : RS) : Rt (How × Vs) × RS := match zyb ev l V S with
 | (.ok (h, V1), S1) => (.ok (h, V1.drop (V1.length - V.length)), S1)
 | (.stop k, S1) => (.stop k, S1)
def zBc (ps : List Par) (l : List Int) : Vs := ((ps.map (·.name)).zip l).reverse
def callW (f : Func) (l : List Int) (S : RS) : Rt Int × RS := match zba ev f.body (zBc f.params l) S with
 | (.ok (.ret n, _), S1) => (.ok n, S1)
 | (.ok (_, _), S1) => (.ok 0, S1)
 | (.stop k, S1) => (.stop k, S1)
def madeW (e : Expr) (l : List Int) (S : RS) : Rt Int × RS :=
 if e.kind = 4 then (.ok (oneC e.op (at0 l)), S)
 else if e.kind = 6 then (match cellAt p S e.name (at0 l) with
  | some n => (.ok n, S)
  | none => (.stop 3, S))
 else if e.kind = 8 then (match S.inp with
  | [] => (.stop 4, S)
  | n :: r => (.ok n, { S with inp := r }))
 else if e.kind = 7 then (match zSa p e.name with
  | some f => callW ev f l S
  | none => (.ok 0, S))
 else if (twoC e.op (at0 l) (at1 l)).2 then (.ok (twoC e.op (at0 l) (at1 l)).1, S) else (.stop 2, S)
def shortW (e : Expr) (V : Vs) (S : RS) : Rt Int × RS := match ev.expr (arg0 e.args) V S with
 | (.stop j, S1) => (.stop j, S1)
 | (.ok a, S1) => if decide (a = 0) = decide (e.op = 18) then (.ok a, S1) else ev.expr (arg1 e.args) V S1
def exprW (e : Expr) (V : Vs) (S : RS) : Rt Int × RS :=
 if e.kind = 1 \/ e.kind = 2 then (.ok e.n, S)
 else if e.kind = 3 then (.ok (getV e.name V), S)
 else if e.kind = 5 /\ (e.op = 18 \/ e.op = 19) then shortW ev e V S
 else match zid ev V e.args [] S with
  | (.stop j, S1) => (.stop j, S1)
  | (.ok l, S1) => madeW p ev e l (zO S1)
def zlc (c : Expr) (b : List Stmt) : Nat -> Vs -> RS -> Rt (How × Vs) × RS
 | 0, V, S => (.stop 0, S)
 | k + 1, V, S => match ev.expr c V S with
  | (.stop j, S1) => (.stop j, S1)
  | (.ok n, S1) => if n = 0 then (.ok (.on, V), S1) else
   match zba ev b V S1 with
   | (.ok (.brk, V1), S2) => (.ok (.on, V1), S2)
   | (.ok (.ret m, V1), S2) => (.ok (.ret m, V1), S2)
   | (.ok (_, V1), S2) => zlc c b k V1 S2
   | (.stop j, S2) => (.stop j, S2)
def zie (s : Stmt) (V : Vs) (n : Int) (S1 : RS) : Rt (How × Vs) × RS :=
 if s.kind = 1 then (.ok (.on, (s.name, n) :: V), S1)
 else if s.kind = 2 then (.ok (.on, setV s.name n V), S1)
 else if s.kind = 3 then (match ev.expr (arg1 s.args) V S1 with
  | (.stop j, S2) => (.stop j, S2)
  | (.ok m, S2) => match putAt p (zO S2) s.name n m with
   | some S3 => (.ok (.on, V), S3)
   | none => (.stop 3, zO S2))
 else if s.kind = 4 then zba ev (if n = 0 then s.els else s.thn) V S1
 else if s.kind = 8 then (.ok (.ret n, V), S1)
 else if s.kind = 9 then (.ok (.on, V), { zO S1 with out := S1.out ++ [n] })
 else (.ok (.on, V), S1)
def stmtW (w : Nat) (s : Stmt) (V : Vs) (S : RS) : Rt (How × Vs) × RS :=
 if s.kind = 5 then zlc ev (arg0 s.args) s.thn (w + 1) V S
 else if s.kind = 6 then (.ok (.brk, V), S)
 else if s.kind = 7 then (.ok (.cont, V), S)
 else match ev.expr (arg0 s.args) V S with
  | (.stop j, S1) => (.stop j, S1)
  | (.ok n, S1) => zie p ev s V n S1
end
def evF (p : Prog) : Nat -> Ev
 | 0 => ⟨fun _ _ S => (.stop 0, S), fun _ _ S => (.stop 0, S)⟩
 | w + 1 => ⟨fun e V S => match S.fuel with
   | 0 => (.stop 0, S)
   | k + 1 => exprW p (evF p w) e V { S with fuel := k },
  fun s V S => match S.fuel with
   | 0 => (.stop 0, S)
   | k + 1 => stmtW p (evF p w) w s V { S with fuel := k }⟩
structure Rn where
 status : Int
 code : Int
 out : List Int
 cost : Int
 fuel : Int
def run0 (p : Prog) (inp : List Int) (fuel : Int) : RS := ⟨inp, p.arrays.map (fun a => List.replicate a.size.toNat 0), [], 0, fuel.toNat⟩
def runEnd : Rt Int × RS -> Rn
 | (.ok n, S) => ⟨1, n, S.out, S.cost, S.fuel⟩
 | (.stop k, S) => ⟨k, 0, S.out, S.cost, S.fuel⟩
def mainW (p : Prog) (S : RS) : Rt Int × RS := match zSa p zMb with
 | some f => callW (evF p S.fuel) f [] S
 | none => (.ok 0, S)
def evalM (p : Prog) (inp : List Int) (fuel : Int) : Rn :=
 if (zse p).1 = 0 then runEnd (mainW p (run0 p inp fuel)) else ⟨0, 0, [], 0, 0⟩
end PE.U

namespace PE.U
open Go PE
structure Mono (S S1 : RS) : Prop where
 fuel : S1.fuel <= S.fuel
 out : S1.out.length + S1.fuel <= S.out.length + S.fuel
 arrs : S1.arrs.map List.length = S.arrs.map List.length
theorem Mono.refl (S : RS) : Mono S S := ⟨Nat.le_refl _, Nat.le_refl _, rfl⟩
theorem Mono.trans {a b c : RS} (h : Mono a b) (k : Mono b c) : Mono a c := ⟨Nat.le_trans k.1 h.1, Nat.le_trans k.2 h.2, k.3.trans h.3⟩
theorem Mono.cost {a b : RS} (h : Mono a b) : Mono a (zO b) := ⟨h.1, h.2, h.3⟩
def zJ (V : Vs) : List (List UInt8) := V.map (·.1)
theorem names_set (nm : List UInt8) (n : Int) (V : Vs) : zJ (setV nm n V) = zJ V := by
 induction V with
 | nil => rfl
 | cons x r ih =>
  unfold setV
  split
  ·rename_i h; simp [zJ, h]
  ·simp only [zJ, List.map_cons] at ih ⊢; rw [ih]
def zKb (s : Stmt) : List (List UInt8) := if s.kind = 1 then [s.name] else []
structure EvOk (ev : Ev) : Prop where
 expr : ∀ e V S, Mono S (ev.expr e V S).2 /\ ∀ n, (ev.expr e V S).1 = .ok n -> (ev.expr e V S).2.fuel < S.fuel
 stmt : ∀ s V S, Mono S (ev.stmt s V S).2 /\ ∀ h V1, (ev.stmt s V S).1 = .ok (h, V1) -> (ev.stmt s V S).2.fuel < S.fuel /\ zJ V1 = zKb s ++ zJ V
def RtV (S : RS) (N : List (List UInt8) -> Prop) (x : Rt (How × Vs) × RS) : Prop := Mono S x.2 /\ ∀ h V1, x.1 = .ok (h, V1) -> N (zJ V1)
theorem RtV.mono {S : RS} {N M : List (List UInt8) -> Prop} {x : Rt (How × Vs) × RS} (h : RtV S N x) (k : ∀ l, N l -> M l) : RtV S M x := ⟨h.1, fun a b c => k _ (h.2 a b c)⟩
theorem RtV.trans {S S1 : RS} {N : List (List UInt8) -> Prop} {x : Rt (How × Vs) × RS} (h : RtV S1 N x) (k : Mono S S1) : RtV S N x := ⟨k.trans h.1, h.2⟩
section
variable {p : Prog} {ev : Ev} (E : EvOk ev)
include E
theorem argsW_mono (V : Vs) : ∀ (l : List Expr) (acc : List Int) (S : RS), Mono S (zid ev V l acc S).2 /\ ∀ m, (zid ev V l acc S).1 = .ok m -> m.length = acc.length + l.length
 | [], acc, S => ⟨Mono.refl _, fun m h => by cases h; rfl⟩
 | x :: r, acc, S => by
  have h := (E.expr x V S).1
  unfold zid
  generalize ev.expr x V S = q at *
  obtain ⟨a, S1⟩ := q
  cases a with
  | ok n =>
   have := argsW_mono V r (acc ++ [n]) S1
   refine ⟨h.trans this.1, fun m hm => ?_⟩
   rw [this.2 m hm]; simp; omega
  | stop k => exact ⟨h, fun m hm => by cases hm⟩
theorem stmtsW_mono : ∀ (l : List Stmt) (V : Vs) (S : RS), RtV S (fun N => ∃ a, N = a ++ zJ V) (zyb ev l V S)
 | [], V, S => ⟨Mono.refl _, fun h V1 e => by cases e; exact ⟨[], rfl⟩⟩
 | x :: r, V, S => by
  obtain ⟨h, h2⟩ := E.stmt x V S
  unfold zyb
  generalize ev.stmt x V S = q at *
  obtain ⟨a, S1⟩ := q
  cases a with
  | ok y =>
   obtain ⟨y, V1⟩ := y
   obtain ⟨_, n1⟩ := h2 y V1 rfl
   have i := stmtsW_mono r V1 S1
   cases y with
   | on =>
    refine (i.trans h).mono ?_
    rintro N ⟨a, rfl⟩
    exact ⟨a ++ zKb x, by rw [n1]; simp⟩
   | brk => exact ⟨h, fun a b e => by cases e; exact ⟨_, n1⟩⟩
   | cont => exact ⟨h, fun a b e => by cases e; exact ⟨_, n1⟩⟩
   | ret n => exact ⟨h, fun a b e => by cases e; exact ⟨_, n1⟩⟩
  | stop k => exact ⟨h, fun a b e => by cases e⟩
theorem drop_names {V V1 : Vs} (h : ∃ a, zJ V1 = a ++ zJ V) : zJ (V1.drop (V1.length - V.length)) = zJ V := by
 obtain ⟨a, h⟩ := h
 have hl : V1.length = a.length + V.length := by
  have := congrArg List.length h
  simpa [zJ] using this
 have : zJ (V1.drop (V1.length - V.length)) = (zJ V1).drop (V1.length - V.length) := by simp [zJ, List.map_drop]
 rw [this, h, hl]
 have : a.length + V.length - V.length = a.length := by omega
 rw [this, List.drop_left]
theorem zdc (l : List Stmt) (V : Vs) (S : RS) : RtV S (fun N => N = zJ V) (zba ev l V S) := by
 have h := stmtsW_mono E l V S
 unfold zba
 generalize zyb ev l V S = q at *
 obtain ⟨a, S1⟩ := q
 cases a with
 | ok y =>
  obtain ⟨y, V1⟩ := y
  exact ⟨h.1, fun a b e => by cases e; exact drop_names E (h.2 _ _ rfl)⟩
 | stop k => exact ⟨h.1, fun a b e => by cases e⟩
theorem callW_mono (f : Func) (l : List Int) (S : RS) : Mono S (callW ev f l S).2 := by
 have h := (zdc E f.body (zBc f.params l) S).1
 unfold callW
 generalize zba ev f.body (zBc f.params l) S = q at *
 obtain ⟨a, S1⟩ := q
 cases a with
 | ok y => obtain ⟨y, V1⟩ := y; cases y <;> exact h
 | stop k => exact h
theorem madeW_mono (e : Expr) (l : List Int) (S : RS) : Mono S (madeW p ev e l S).2 := by
 unfold madeW
 split
 ·exact Mono.refl _
 split
 ·split <;> exact Mono.refl _
 split
 ·split
  ·exact Mono.refl _
  ·exact ⟨Nat.le_refl _, Nat.le_refl _, rfl⟩
 split
 ·split
  ·exact callW_mono E _ _ _
  ·exact Mono.refl _
 split <;> exact Mono.refl _
theorem shortW_mono (e : Expr) (V : Vs) (S : RS) : Mono S (shortW ev e V S).2 := by
 have h := (E.expr (arg0 e.args) V S).1
 unfold shortW
 generalize ev.expr (arg0 e.args) V S = q at *
 obtain ⟨a, S1⟩ := q
 cases a with
 | ok n =>
  simp only
  split
  ·exact h
  ·exact h.trans (E.expr _ V S1).1
 | stop k => exact h
theorem exprW_mono (e : Expr) (V : Vs) (S : RS) : Mono S (exprW p ev e V S).2 := by
 unfold exprW
 split
 ·exact Mono.refl _
 split
 ·exact Mono.refl _
 split
 ·exact shortW_mono E e V S
 have h := (argsW_mono E V e.args [] S).1
 generalize zid ev V e.args [] S = q at *
 obtain ⟨a, S1⟩ := q
 cases a with
 | ok n => exact h.cost.trans (madeW_mono E e n _)
 | stop k => exact h
theorem loopW_mono (c : Expr) (b : List Stmt) : ∀ (k : Nat) (V : Vs) (S : RS), RtV S (fun N => N = zJ V) (zlc ev c b k V S)
 | 0, V, S => ⟨Mono.refl _, fun _ _ e => by cases e⟩
 | k + 1, V, S => by
  have h := (E.expr c V S).1
  unfold zlc
  generalize ev.expr c V S = q at *
  obtain ⟨a, S1⟩ := q
  cases a with
  | stop j => exact ⟨h, fun _ _ e => by cases e⟩
  | ok n =>
   simp only
   split
   ·exact ⟨h, fun _ _ e => by cases e; rfl⟩
   have hb := zdc E b V S1
   generalize zba ev b V S1 = q at *
   obtain ⟨a, S2⟩ := q
   cases a with
   | stop j => exact ⟨h.trans hb.1, fun _ _ e => by cases e⟩
   | ok y =>
    obtain ⟨y, V1⟩ := y
    have hn := hb.2 _ _ rfl
    have i := loopW_mono c b k V1 S2
    cases y with
    | on => exact (i.mono fun l hl => hl.trans hn).trans (h.trans hb.1)
    | brk => exact ⟨h.trans hb.1, fun _ _ e => by cases e; exact hn⟩
    | cont => exact (i.mono fun l hl => hl.trans hn).trans (h.trans hb.1)
    | ret m => exact ⟨h.trans hb.1, fun _ _ e => by cases e; exact hn⟩
theorem putAt_mono {S S1 : RS} {nm : List UInt8} {n m : Int} (h : putAt p S nm n m = some S1) : Mono S S1 := by
 unfold putAt at h
 split at h
 ·cases h
 rw [Option.bind_eq_some_iff] at h
 obtain ⟨l, hl, h⟩ := h
 split at h
 ·cases h
  refine ⟨Nat.le_refl _, Nat.le_refl _, ?_⟩
  simp only [List.map_set, List.length_set]
  apply List.ext_getElem?
  intro i
  rw [List.getElem?_set]
  split
  ·rename_i hi
   subst hi
   rw [List.getElem?_map, hl]
   have := (List.getElem?_eq_some_iff.1 hl).1
   simp [this]
  ·rfl
 ·cases h
theorem plainW_mono {B : Nat} (s : Stmt) (V : Vs) (n : Int) (S : RS) (hf : S.out.length + S.fuel < B) : (zie p ev s V n S).2.out.length + (zie p ev s V n S).2.fuel <= B /\ (zie p ev s V n S).2.fuel <= S.fuel /\ (zie p ev s V n S).2.arrs.map List.length = S.arrs.map List.length /\ ∀ h V1, (zie p ev s V n S).1 = .ok (h, V1) -> zJ V1 = zKb s ++ zJ V := by
 have lift : ∀ {x : Rt (How × Vs) × RS}, Mono S x.2 -> (∀ h V1, x.1 = .ok (h, V1) -> zJ V1 = zKb s ++ zJ V) -> x.2.out.length + x.2.fuel <= B /\ x.2.fuel <= S.fuel /\ x.2.arrs.map List.length = S.arrs.map List.length /\ ∀ h V1, x.1 = .ok (h, V1) -> zJ V1 = zKb s ++ zJ V :=
  fun m k => ⟨by have := m.out; omega, m.fuel, m.arrs, k⟩
 have h0 : s.kind ≠ 1 -> zKb s = [] := fun h => if_neg h
 unfold zie
 split
 ·rename_i h1
  exact lift (Mono.refl _) fun _ _ e => by cases e; simp [zKb, h1, zJ]
 rename_i h1
 rw [h0 h1]
 rw [h0 h1] at lift
 split
 ·exact lift (Mono.refl _) fun _ _ e => by cases e; exact names_set _ _ _
 split
 ·have h := (E.expr (arg1 s.args) V S).1
  generalize ev.expr (arg1 s.args) V S = q at *
  obtain ⟨a, S2⟩ := q
  cases a with
  | stop j => exact lift h fun _ _ e => by cases e
  | ok m =>
   simp only
   split
   ·rename_i S3 h3
    exact lift (h.cost.trans (putAt_mono E h3)) fun _ _ e => by cases e; rfl
   ·exact lift h.cost fun _ _ e => by cases e
 split
 ·have h := zdc E (if n = 0 then s.els else s.thn) V S
  exact lift h.1 h.2
 split
 ·exact lift (Mono.refl _) fun _ _ e => by cases e; rfl
 split
 ·refine ⟨?_, Nat.le_refl _, rfl, fun _ _ e => by cases e; rfl⟩
  simp [zO]; omega
 ·exact lift (Mono.refl _) fun _ _ e => by cases e; rfl
theorem stmtW_mono {B : Nat} (w : Nat) (s : Stmt) (V : Vs) (S : RS) (hf : S.out.length + S.fuel < B) : (stmtW p ev w s V S).2.out.length + (stmtW p ev w s V S).2.fuel <= B /\ (stmtW p ev w s V S).2.fuel <= S.fuel /\ (stmtW p ev w s V S).2.arrs.map List.length = S.arrs.map List.length /\ ∀ h V1, (stmtW p ev w s V S).1 = .ok (h, V1) -> zJ V1 = zKb s ++ zJ V := by
 have lift : ∀ {x : Rt (How × Vs) × RS}, Mono S x.2 -> (∀ h V1, x.1 = .ok (h, V1) -> zJ V1 = zKb s ++ zJ V) -> x.2.out.length + x.2.fuel <= B /\ x.2.fuel <= S.fuel /\ x.2.arrs.map List.length = S.arrs.map List.length /\ ∀ h V1, x.1 = .ok (h, V1) -> zJ V1 = zKb s ++ zJ V :=
  fun m k => ⟨by have := m.out; omega, m.fuel, m.arrs, k⟩
 have h0 : s.kind ≠ 1 -> zKb s = [] := fun h => if_neg h
 unfold stmtW
 split
 ·rename_i h5
  have h := loopW_mono E (arg0 s.args) s.thn (w + 1) V S
  rw [h0 (by omega)] at lift ⊢
  exact lift h.1 h.2
 split
 ·rw [h0 (by omega)] at lift ⊢
  exact lift (Mono.refl _) fun _ _ e => by cases e; rfl
 split
 ·rw [h0 (by omega)] at lift ⊢
  exact lift (Mono.refl _) fun _ _ e => by cases e; rfl
 have h := (E.expr (arg0 s.args) V S).1
 generalize ev.expr (arg0 s.args) V S = q at *
 obtain ⟨a, S2⟩ := q
 cases a with
 | stop j => exact lift h fun _ _ e => by cases e
 | ok n =>
  have k := plainW_mono (p := p) (B := B) E s V n S2 (by have := h.out; simp only at this; omega)
  exact ⟨k.1, Nat.le_trans k.2.1 h.fuel, k.2.2.1.trans h.arrs, k.2.2.2⟩
end
theorem zUb (p : Prog) : ∀ w, EvOk (evF p w)
 | 0 => ⟨fun e V S => ⟨Mono.refl _, fun _ e => by cases e⟩, fun s V S => ⟨Mono.refl _, fun _ _ e => by cases e⟩⟩
 | w + 1 => by
  have E := zUb p w
  refine ⟨fun e V S => ?_, fun s V S => ?_⟩
  ·simp only [evF]
   cases h : S.fuel with
   | zero => exact ⟨by simp only; exact Mono.refl _, fun _ e => by cases e⟩
   | succ k =>
    have m := exprW_mono (p := p) E e V { S with fuel := k }
    refine ⟨⟨by have := m.fuel; simp only at this ⊢; omega, by have := m.out; simp only at this ⊢; omega, m.arrs⟩, fun n e => ?_⟩
    have := m.fuel; simp only at this ⊢; omega
  ·simp only [evF]
   cases h : S.fuel with
   | zero => exact ⟨by simp only; exact Mono.refl _, fun _ _ e => by cases e⟩
   | succ k =>
    have m := stmtW_mono (p := p) (B := S.out.length + S.fuel) E w s V { S with fuel := k } (by simp only; omega)
    refine ⟨⟨by have := m.2.1; simp only at this ⊢; omega, m.1, m.2.2.1⟩, fun h V1 e => ⟨by have := m.2.1; simp only at this ⊢; omega, m.2.2.2 h V1 e⟩⟩
end PE.U

namespace PE.U
open Go PE
mutual
def okE (p : Prog) (ns : List (List UInt8)) : Expr -> Prop
 | ⟨k, o, n, nm, a⟩ => zyc k o n nm a.length = true /\ (k = 3 -> nm ∈ ns) /\ (k = 6 -> zlb p nm = true) /\ (k = 7 -> ∃ f, zSa p nm = some f /\ f.params.length = a.length) /\ okEs p ns a
def okEs (p : Prog) (ns : List (List UInt8)) : List Expr -> Prop
 | [] => True
 | x :: r => okE p ns x /\ okEs p ns r
end
mutual
def okS (p : Prog) (ns : List (List UInt8)) (loop : Bool) : Stmt -> Prop
 | ⟨k, _, nm, a, th, el⟩ => (1 <= k /\ k <= 10) /\ (a.length : Int) = (zM k).2.2.1 /\ okEs p ns a /\ (k = 2 -> nm ∈ ns) /\ (k = 3 -> zlb p nm = true) /\ (k = 6 \/ k = 7 -> loop = true) ∧
  okB p ((if k = 1 then [nm] else []) ++ ns) (loop || decide (k = 5)) th /\ okB p ((if k = 1 then [nm] else []) ++ ns) loop el
def okB (p : Prog) (ns : List (List UInt8)) (loop : Bool) : List Stmt -> Prop
 | [] => True
 | x :: r => okS p ns loop x /\ okB p (zKb x ++ ns) loop r
end
theorem okE_eq (p : Prog) (ns : List (List UInt8)) (e : Expr) : okE p ns e = (zyc e.kind e.op e.n e.name e.args.length = true /\ (e.kind = 3 -> e.name ∈ ns) /\ (e.kind = 6 -> zlb p e.name = true) /\ (e.kind = 7 -> ∃ f, zSa p e.name = some f /\ f.params.length = e.args.length) /\ okEs p ns e.args) := by
 cases e; rw [okE]
theorem okS_eq (p : Prog) (ns : List (List UInt8)) (loop : Bool) (s : Stmt) : okS p ns loop s = ((1 <= s.kind /\ s.kind <= 10) /\ (s.args.length : Int) = (zM s.kind).2.2.1 /\ okEs p ns s.args /\ (s.kind = 2 -> s.name ∈ ns) /\ (s.kind = 3 -> zlb p s.name = true) /\ (s.kind = 6 \/ s.kind = 7 -> loop = true) ∧
  okB p (zKb s ++ ns) (loop || decide (s.kind = 5)) s.thn /\ okB p (zKb s ++ ns) loop s.els) := by
 cases s; rw [okS]; rfl
theorem zQd {p : Prog} {ns : List (List UInt8)} {l : List Expr} (h : okEs p ns l) {x : Expr} (hx : x ∈ l) : okE p ns x := by
 induction l with
 | nil => cases hx
 | cons y r ih =>
  rw [okEs] at h
  rcases List.mem_cons.1 hx with rfl | hx
  ·exact h.1
  ·exact ih h.2 hx
def nmsVr (s : List Vr) : List (List UInt8) := s.map (·.name)
theorem vfindV_mem {s : List Vr} {nm : List UInt8} (h : ¬ zJa s nm = []) : nm ∈ nmsVr s := by
 induction s with
 | nil => exact absurd rfl h
 | cons v r ih =>
  rw [zOc] at h
  split at h
  ·rename_i hn; simp [nmsVr, hn]
  ·have := ih h; simp only [nmsVr, List.map_cons, List.mem_cons] at this ⊢; exact .inr this
mutual
theorem okE_of (p : Prog) (s : List Vr) : ∀ (e : Expr) (m : Int), (zmc p s e).2 = 0 -> zgb e m = true -> okE p (nmsVr s) e
 | ⟨k, o, n, nm, a⟩, m, h, hR => by
  rw [zmc] at h
  rw [zgb, Bool.and_eq_true] at hR
  split at h
  ·rename_i h1; exact absurd h h1
  rename_i h1
  split at h
  ·rename_i h2; exact absurd h h2
  rename_i h2
  have h1 : zDc p s k nm a.length = 0 := by simpa using h1
  rw [okE]
  refine ⟨hR.2, ?_, ?_, ?_, okEs_of p s a m (by simpa using h2) hR.1⟩
  ·intro hk
   subst hk
   simp only [zDc, if_true] at h1
   split at h1
   ·cases h1
   ·rename_i hf; exact vfindV_mem hf
  ·intro hk
   subst hk
   simp only [zDc] at h1
   rw [if_neg (by decide), if_pos trivial] at h1
   split at h1
   ·assumption
   ·cases h1
  ·intro hk
   subst hk
   simp only [zDc] at h1
   rw [if_neg (by decide), if_neg (by decide), if_pos trivial] at h1
   split at h1
   ·cases h1
   ·rename_i f hf
    split at h1
    ·exact ⟨f, hf, by assumption⟩
    ·cases h1
theorem okEs_of (p : Prog) (s : List Vr) : ∀ (l : List Expr) (m : Int), (zsb p s l).2 = 0 -> zTb l m = true -> okEs p (nmsVr s) l
 | [], m, _, _ => by rw [okEs]; trivial
 | x :: r, m, h, hR => by
  rw [zsb] at h
  rw [zTb, Bool.and_eq_true, Bool.and_eq_true] at hR
  split at h
  ·rename_i h1; exact absurd h h1
  rename_i h1
  split at h
  ·rename_i h2; exact absurd h h2
  rename_i h2
  rw [okEs]
  exact ⟨okE_of p s x (m - 1) (by simpa using h1) hR.1.2, okEs_of p s r m (by simpa using h2) hR.2⟩
end
theorem want_ok {p : Prog} {s : List Vr} {e : Expr} {t m : Int} (h : zTc p s e t = 0) (hR : zgb e m = true) : okE p (nmsVr s) e := by
 unfold zTc at h
 split at h
 ·rename_i h1; exact absurd h h1
 ·rename_i h1; exact okE_of p s e m (by simpa using h1) hR
theorem arg_one {l : List Expr} {p : Prog} {ns : List (List UInt8)} (hl : (l.length : Int) = 1) (h : okE p ns (arg0 l)) : okEs p ns l := by
 match l, hl with
 | [x], _ => rw [okEs, okEs]; exact ⟨h, trivial⟩
theorem arg_two {l : List Expr} {p : Prog} {ns : List (List UInt8)} (hl : (l.length : Int) = 2) (h : okE p ns (arg0 l)) (h' : okE p ns (arg1 l)) : okEs p ns l := by
 match l, hl with
 | [x, y], _ => rw [okEs, okEs, okEs]; exact ⟨h, h', trivial⟩
theorem arg0_mem {l : List Expr} (hl : 1 <= (l.length : Int)) : arg0 l ∈ l := by
 match l, hl with
 | x :: r, _ => simp [arg0]
theorem arg1_mem {l : List Expr} (hl : 2 <= (l.length : Int)) : arg1 l ∈ l := by
 match l, hl with
 | x :: y :: r, _ => simp [arg1]
theorem nms_behind (d : Int) (x : Stmt) (vs : List Vr) : nmsVr (zva d x vs) = zKb x ++ nmsVr vs := by
 unfold zva zKb
 split <;> rfl
theorem stmt_ok {p : Prog} {s : List Vr} {x : Stmt} {res d m : Int} {loop : Bool} (h : stmtT p res s x.kind x.type x.name x.args d loop = 0) (hR : zac x m = true) :
  (1 <= x.kind /\ x.kind <= 10) /\ (x.args.length : Int) = (zM x.kind).2.2.1 /\ okEs p (nmsVr s) x.args /\ (x.kind = 2 -> x.name ∈ nmsVr s) /\ (x.kind = 3 -> zlb p x.name = true) /\ (x.kind = 6 \/ x.kind = 7 -> loop = true) := by
 obtain ⟨r1, r2, _, _⟩ := zpc hR
 have hb : 1 <= x.kind /\ x.kind <= 10 := by
  by_cases h : 1 <= x.kind /\ x.kind <= 10
  ·exact h
  ·exfalso
   have : (zM x.kind).2.2.1 = -1 := by
    unfold zM
    repeat' (first | rw [if_neg (by omega)] | rfl)
   omega
 refine ⟨hb, r1, ?_⟩
 have m0 : 1 <= (x.args.length : Int) -> zgb (arg0 x.args) 100 = true := fun h => r2 _ (arg0_mem h)
 have m1 : 2 <= (x.args.length : Int) -> zgb (arg1 x.args) 100 = true := fun h => r2 _ (arg1_mem h)
 unfold stmtT at h
 by_cases k4 : x.kind = 4 \/ x.kind = 5
 ·rw [if_pos k4] at h
  have hl : (x.args.length : Int) = 1 := by rcases k4 with k | k <;> rw [r1, k] <;> rfl
  exact ⟨arg_one hl (want_ok h (m0 (by omega))), fun k => by omega, fun k => by omega, fun k => by omega⟩
 rw [if_neg k4] at h
 by_cases k8 : x.kind = 8
 ·rw [if_pos k8] at h
  have hl : (x.args.length : Int) = 1 := by rw [r1, k8]; rfl
  exact ⟨arg_one hl (want_ok h (m0 (by omega))), fun k => by omega, fun k => by omega, fun k => by omega⟩
 rw [if_neg k8] at h
 by_cases k9 : x.kind = 9
 ·rw [if_pos k9] at h
  have hl : (x.args.length : Int) = 1 := by rw [r1, k9]; rfl
  exact ⟨arg_one hl (want_ok h (m0 (by omega))), fun k => by omega, fun k => by omega, fun k => by omega⟩
 rw [if_neg k9] at h
 by_cases k10 : x.kind = 10
 ·rw [if_pos k10] at h
  have hl : (x.args.length : Int) = 1 := by rw [r1, k10]; rfl
  exact ⟨arg_one hl (okE_of p s _ 100 h (m0 (by omega))), fun k => by omega, fun k => by omega, fun k => by omega⟩
 rw [if_neg k10] at h
 by_cases k6 : x.kind = 6 \/ x.kind = 7
 ·rw [if_pos k6] at h
  have hl : (x.args.length : Int) = 0 := by rcases k6 with k | k <;> rw [r1, k] <;> rfl
  have hn : x.args = [] := List.eq_nil_of_length_eq_zero (by omega)
  refine ⟨by rw [hn, okEs]; trivial, fun k => by omega, fun k => by omega, fun k => ?_⟩
  cases loop
  ·simp at h
  ·rfl
 rw [if_neg k6] at h
 unfold boundT at h
 by_cases k1 : x.kind = 1
 ·rw [if_pos k1] at h
  have hl : (x.args.length : Int) = 1 := by rw [r1, k1]; rfl
  refine ⟨arg_one hl (want_ok (t := x.type) ?_ (m0 (by omega))), fun k => by omega, fun k => by omega, fun k => by omega⟩
  by_cases hw : zTc p s (arg0 x.args) x.type = 0
  ·exact hw
  ·rw [if_pos hw] at h; exact h
 rw [if_neg k1] at h
 by_cases k2 : x.kind = 2
 ·rw [if_pos k2] at h
  have hl : (x.args.length : Int) = 1 := by rw [r1, k2]; rfl
  split at h
  ·cases h
  ·rename_i v r hv
   exact ⟨arg_one hl (want_ok h (m0 (by omega))), fun k => vfindV_mem (by rw [hv]; simp), fun k => by omega, fun k => by omega⟩
 rw [if_neg k2] at h
 have k3 : x.kind = 3 := by omega
 have hl : (x.args.length : Int) = 2 := by rw [r1, k3]; rfl
 by_cases ha : x.kind = 3 /\ zlb p x.name = false
 ·rw [if_pos ha] at h; cases h
 rw [if_neg ha] at h
 have ha : zlb p x.name = true := by
  cases hq : zlb p x.name
  ·exact absurd ⟨k3, hq⟩ ha
  ·rfl
 by_cases hw : zTc p s (arg0 x.args) 1 = 0
 ·rw [if_neg (by simp [hw])] at h
  exact ⟨arg_two hl (want_ok hw (m0 (by omega))) (want_ok h (m1 (by omega))), fun k => by omega, fun _ => ha, fun k => by omega⟩
 ·rw [if_pos hw] at h; exact absurd h hw
theorem okB_of (p : Prog) (res : Int) : ∀ (w : Nat) (l : List Stmt) (vs : List Vr) (d n m : Int) (loop : Bool), wtSs l <= w -> (zma p res l vs d loop n).1 = 0 -> zT l m = true -> okB p (nmsVr vs) loop l := by
 intro w
 induction w with
 | zero =>
  intro l vs d n m loop hw h hR
  have hl : l = [] := by
   have := zza l
   exact List.eq_nil_of_length_eq_zero (by omega)
  subst hl
  rw [okB]; trivial
 | succ w ih =>
  intro l vs d n m loop hw h hR
  cases l with
  | nil => rw [okB]; trivial
  | cons x r =>
   rw [zId] at h
   rw [zT, Bool.and_eq_true] at hR
   simp only [wtSs] at hw
   have hwx := zxb x
   split at h
   ·rename_i h1; exact absurd h h1
   rename_i h1
   have h1 : (zad p res x vs d loop n).1 = 0 := by simpa using h1
   rw [okB]
   have i := ih r _ _ _ _ _ (by omega) h hR.2
   rw [nms_behind] at i
   refine ⟨?_, i⟩
   rw [zwe] at h1
   split at h1
   ·rename_i h2; exact absurd h1 h2
   rename_i h2
   split at h1
   ·rename_i h3; exact absurd h1 h3
   rename_i h3
   obtain ⟨r1, r2, r3, r4⟩ := zpc hR.1
   obtain ⟨s1, s2, s3, s4, s5, s6⟩ := stmt_ok (by simpa using h2) hR.1
   rw [okS_eq]
   have i1 := ih x.thn _ _ _ _ _ (by omega) (by simpa using h3) r3
   have i2 := ih x.els _ _ _ _ _ (by omega) h1 r4
   rw [nms_behind] at i1 i2
   exact ⟨s1, s2, s3, s4, s5, s6, i1, i2⟩
theorem nms_scoped (l : List Par) : nmsVr (zja l) = (l.map (·.name)).reverse := by
 suffices h : ∀ d : List Par, nmsVr (zja d.reverse) = d.map (·.name) by
  have := h l.reverse
  rw [List.reverse_reverse] at this
  rw [this, List.map_reverse]
 intro d
 induction d with
 | nil => rfl
 | cons x r ih => rw [List.reverse_cons, zMd]; simp only [nmsVr, List.map_cons] at ih ⊢; rw [ih]
structure OkP (p : Prog) : Prop where
 sz : PSz p
 fn : ∀ f ∈ p.funcs, okB p ((f.params.map (·.name)).reverse) false f.body /\ zcc f.body = true /\ (f.params.map (·.name)).Nodup
 main : ∃ f, zSa p zMb = some f /\ f.params = []
 names : (p.arrays.map (·.name)).Nodup
 size : ∀ a ∈ p.arrays, 1 <= a.size /\ a.size <= 1000
theorem checkGo_ok (p : Prog) : ∀ (l : List Func) (i : Int), (zHd p l i).1 = 0 -> ∀ f ∈ l, (zAb p f).1 = 0
 | [], _, _, _, h => by cases h
 | g :: r, i, h, f, hf => by
  rw [zHd] at h
  split at h
  ·rename_i h1; exact absurd h h1
  rename_i h1
  rcases List.mem_cons.1 hf with rfl | hf
  ·simpa using h1
  ·exact checkGo_ok p r _ h f hf
theorem checkT_ok {p : Prog} (hz : PSz p) (h : (zse p).1 = 0) : OkP p := by
 unfold zse at h
 split at h
 case isFalse => cases h
 rename_i hR
 split at h
 case isFalse => cases h
 rename_i hN
 unfold zrc at hR
 rw [Bool.and_eq_true, List.all_eq_true, List.all_eq_true] at hR
 unfold zVc at hN
 rw [Bool.and_eq_true, decide_eq_true_eq] at hN
 obtain ⟨hN1, hN2⟩ := hN
 refine ⟨hz, ?_, ?_, (List.nodup_append.1 hN1).1, ?_⟩
 ·intro f hf
  have h1 := checkGo_ok p _ _ h f hf
  have hfR := hR.2 f hf
  unfold zpe at hfR
  simp only [Bool.and_eq_true] at hfR
  unfold zAb at h1
  split at h1
  ·cases h1
  rename_i ht
  simp only at h1
  have ht : (f.params.map (·.name)).Nodup := by
   unfold twiceM at ht
   simpa using ht
  split at h1
  ·cases h1
  rename_i he
  have hb := okB_of p f.type _ f.body _ _ _ _ _ (Nat.le_refl _) h1 hfR.2.2.2.1
  rw [nms_scoped] at hb
  refine ⟨hb, ?_, ht⟩
  cases hq : zcc f.body
  ·exact absurd ⟨h1, hq⟩ he
  ·rfl
 ·split at hN2
  ·rename_i f hf
   rw [Bool.and_eq_true, decide_eq_true_eq, decide_eq_true_eq] at hN2
   exact ⟨f, hf, hN2.2⟩
  ·cases hN2
 ·intro a ha
  have := hR.1 a ha
  unfold arrR at this
  simp only [Bool.and_eq_true, decide_eq_true_eq] at this
  exact this.2
end PE.U

namespace PE.U
open Go PE
structure Fx (p : Prog) (ev : Ev) : Prop where
 brk : ∀ s V S V1, zEe s = false -> (ev.stmt s V S).1 ≠ .ok (.brk, V1)
 loop : ∀ s ns V S, okS p ns false s -> ∀ h V1, (ev.stmt s V S).1 = .ok (h, V1) -> h = .on \/ ∃ n, h = .ret n
 ends : ∀ s V S V1, ends1 s = true -> (ev.stmt s V S).1 ≠ .ok (.on, V1)
 tru : ∀ e V S, e.kind = 2 -> ∀ n, (ev.expr e V S).1 = .ok n -> n = e.n
section
variable {p : Prog} {ev : Ev} (E : Fx p ev)
include E
theorem stmtsW_brk : ∀ (l : List Stmt) (V : Vs) (S : RS) (V1 : Vs), zna l = false -> (zyb ev l V S).1 ≠ .ok (.brk, V1)
 | [], V, S, V1, _ => by simp [zyb]
 | x :: r, V, S, V1, h => by
  rw [zna, Bool.or_eq_false_iff] at h
  have hb := E.brk x V S
  unfold zyb
  generalize ev.stmt x V S = q at *
  obtain ⟨a, S1⟩ := q
  cases a with
  | stop k => simp
  | ok y =>
   obtain ⟨y, V2⟩ := y
   cases y with
   | on => exact stmtsW_brk r V2 S1 V1 h.2
   | brk => exact fun _ => hb V2 h.1 rfl
   | cont => simp
   | ret n => simp
theorem blockW_brk (l : List Stmt) (V : Vs) (S : RS) (V1 : Vs) (h : zna l = false) : (zba ev l V S).1 ≠ .ok (.brk, V1) := by
 have hb := fun V1 => stmtsW_brk E l V S V1 h
 unfold zba
 generalize zyb ev l V S = q at *
 obtain ⟨a, S1⟩ := q
 cases a with
 | stop k => simp
 | ok y =>
  obtain ⟨y, V2⟩ := y
  cases y with
  | brk => exact fun _ => hb V2 rfl
  | on => simp
  | cont => simp
  | ret n => simp
theorem stmtsW_loop : ∀ (l : List Stmt) (ns : List (List UInt8)) (V : Vs) (S : RS), okB p ns false l -> ∀ h V1, (zyb ev l V S).1 = .ok (h, V1) -> h = .on \/ ∃ n, h = .ret n
 | [], ns, V, S, _, h, V1, e => by cases e; exact .inl rfl
 | x :: r, ns, V, S, ho, h, V1, e => by
  rw [okB] at ho
  have hb := E.loop x ns V S ho.1
  unfold zyb at e
  generalize ev.stmt x V S = q at *
  obtain ⟨a, S1⟩ := q
  cases a with
  | stop k => cases e
  | ok y =>
   obtain ⟨y, V2⟩ := y
   cases y with
   | on => exact stmtsW_loop r _ V2 S1 ho.2 h V1 e
   | brk => rcases hb _ _ rfl with h | ⟨n, h⟩ <;> cases h
   | cont => rcases hb _ _ rfl with h | ⟨n, h⟩ <;> cases h
   | ret n => cases e; exact .inr ⟨n, rfl⟩
theorem blockW_loop (l : List Stmt) (ns : List (List UInt8)) (V : Vs) (S : RS) (ho : okB p ns false l) (h : How) (V1 : Vs) (e : (zba ev l V S).1 = .ok (h, V1)) : h = .on \/ ∃ n, h = .ret n := by
 have hb := stmtsW_loop E l ns V S ho
 unfold zba at e
 generalize zyb ev l V S = q at *
 obtain ⟨a, S1⟩ := q
 cases a with
 | stop k => cases e
 | ok y => obtain ⟨y, V2⟩ := y; cases e; exact hb _ _ rfl
theorem stmtsW_ends : ∀ (l : List Stmt) (V : Vs) (S : RS) (V1 : Vs), zcc l = true -> (zyb ev l V S).1 ≠ .ok (.on, V1)
 | [], V, S, V1, h => by cases h
 | x :: r, V, S, V1, h => by
  rw [zcc, Bool.or_eq_true] at h
  have hb := E.ends x V S
  unfold zyb
  generalize ev.stmt x V S = q at *
  obtain ⟨a, S1⟩ := q
  cases a with
  | stop k => simp
  | ok y =>
   obtain ⟨y, V2⟩ := y
   cases y with
   | on =>
    rcases h with h | h
    ·exact fun _ => hb V2 h rfl
    ·exact stmtsW_ends r V2 S1 V1 h
   | brk => simp
   | cont => simp
   | ret n => simp
theorem blockW_ends (l : List Stmt) (V : Vs) (S : RS) (V1 : Vs) (h : zcc l = true) : (zba ev l V S).1 ≠ .ok (.on, V1) := by
 have hb := fun V1 => stmtsW_ends E l V S V1 h
 unfold zba
 generalize zyb ev l V S = q at *
 obtain ⟨a, S1⟩ := q
 cases a with
 | stop k => simp
 | ok y =>
  obtain ⟨y, V2⟩ := y
  cases y with
  | on => exact fun _ => hb V2 rfl
  | brk => simp
  | cont => simp
  | ret n => simp
theorem blockW_ret (l : List Stmt) (ns : List (List UInt8)) (V : Vs) (S : RS) (ho : okB p ns false l) (he : zcc l = true) (h : How) (V1 : Vs) (e : (zba ev l V S).1 = .ok (h, V1)) : ∃ n, h = .ret n := by
 rcases blockW_loop E l ns V S ho h V1 e with rfl | h
 ·exact absurd e (blockW_ends E l V S V1 he)
 ·exact h
theorem loopW_how (c : Expr) (b : List Stmt) : ∀ (k : Nat) (V : Vs) (S : RS) (h : How) (V1 : Vs), (zlc ev c b k V S).1 = .ok (h, V1) -> h = .on \/ ∃ n, h = .ret n
 | 0, V, S, h, V1, e => by cases e
 | k + 1, V, S, h, V1, e => by
  unfold zlc at e
  generalize ev.expr c V S = q at *
  obtain ⟨a, S1⟩ := q
  cases a with
  | stop k => cases e
  | ok n =>
   simp only at e
   split at e
   ·cases e; exact .inl rfl
   generalize zba ev b V S1 = q at *
   obtain ⟨a, S2⟩ := q
   cases a with
   | stop k => cases e
   | ok y =>
    obtain ⟨y, V2⟩ := y
    cases y with
    | on => exact loopW_how c b k V2 S2 h V1 e
    | brk => cases e; exact .inl rfl
    | cont => exact loopW_how c b k V2 S2 h V1 e
    | ret n => cases e; exact .inr ⟨n, rfl⟩
theorem loopW_ends (c : Expr) (b : List Stmt) (hc : c.kind = 2 /\ c.n = 1) (hb : zna b = false) : ∀ (k : Nat) (V : Vs) (S : RS) (V1 : Vs), (zlc ev c b k V S).1 ≠ .ok (.on, V1)
 | 0, V, S, V1 => by simp [zlc]
 | k + 1, V, S, V1 => by
  have ht := E.tru c V S hc.1
  unfold zlc
  generalize ev.expr c V S = q at *
  obtain ⟨a, S1⟩ := q
  cases a with
  | stop k => simp
  | ok n =>
   have hn : n = 1 := by rw [ht n rfl, hc.2]
   subst hn
   simp only
   rw [if_neg (by decide)]
   have h2 := blockW_brk E b V S1
   generalize zba ev b V S1 = q at *
   obtain ⟨a, S2⟩ := q
   cases a with
   | stop k => simp
   | ok y =>
    obtain ⟨y, V2⟩ := y
    cases y with
    | on => exact loopW_ends c b hc hb k V2 S2 V1
    | brk => exact fun _ => h2 V2 hb rfl
    | cont => exact loopW_ends c b hc hb k V2 S2 V1
    | ret n => simp
end
theorem evF_fx (p : Prog) : ∀ w, Fx p (evF p w)
 | 0 => ⟨fun _ _ _ _ _ e => (by cases e), fun _ _ _ _ _ _ _ e => (by cases e), fun _ _ _ _ _ e => (by cases e), fun _ _ _ _ _ e => (by cases e)⟩
 | w + 1 => by
  have E := evF_fx p w
  refine ⟨fun s V S V1 h => ?_, fun s ns V S h hh V1 e => ?_, fun s V S V1 h => ?_, fun e V S h n hn => ?_⟩
  ·rw [leaves1_eq, Bool.or_eq_false_iff, decide_eq_false_iff_not] at h
   obtain ⟨h6, h4⟩ := h
   simp only [evF]
   cases S.fuel with
   | zero => simp
   | succ k =>
    simp only
    unfold stmtW
    split
    ·intro e
     rcases loopW_how E _ _ _ _ _ _ _ e with h | ⟨n, h⟩ <;> cases h
    split
    ·simp
    generalize (evF p w).expr (arg0 s.args) V { S with fuel := k } = q
    obtain ⟨a, S1⟩ := q
    cases a with
    | stop k => simp
    | ok n =>
     simp only
     unfold zie
     split
     ·simp
     split
     ·simp
     split
     ·generalize (evF p w).expr (arg1 s.args) V S1 = q
      obtain ⟨a, S2⟩ := q
      cases a with
      | stop k => simp
      | ok m => simp only; split <;> simp
     split
     ·rename_i k4
      simp only [k4, decide_true, Bool.true_and, Bool.or_eq_false_iff] at h4
      split
      ·exact blockW_brk E _ _ _ _ h4.2
      ·exact blockW_brk E _ _ _ _ h4.1
     split
     ·simp
     split
     ·simp
     ·simp
  ·rw [okS_eq] at h
   obtain ⟨h1, h2, h3, h4, h5, h6, h7, h8⟩ := h
   simp only [evF] at e
   cases hS : S.fuel with
   | zero => rw [hS] at e; cases e
   | succ k =>
    rw [hS] at e
    simp only at e
    unfold stmtW at e
    split at e
    ·exact loopW_how E _ _ _ _ _ _ _ e
    split at e
    ·rename_i k6; exact absurd (h6 (.inl k6)) (by simp)
    split at e
    ·rename_i k6; exact absurd (h6 (.inr k6)) (by simp)
    generalize (evF p w).expr (arg0 s.args) V { S with fuel := k } = q at e
    obtain ⟨a, S1⟩ := q
    cases a with
    | stop k => cases e
    | ok n =>
     simp only at e
     unfold zie at e
     split at e
     ·cases e; exact .inl rfl
     split at e
     ·cases e; exact .inl rfl
     split at e
     ·generalize (evF p w).expr (arg1 s.args) V S1 = q at e
      obtain ⟨a, S2⟩ := q
      cases a with
      | stop k => cases e
      | ok m =>
       simp only at e
       split at e
       ·cases e; exact .inl rfl
       ·cases e
     split at e
     ·rename_i k5 _ _ _ _ _ _
      simp only [k5, decide_false, Bool.or_false] at h7
      split at e
      ·exact blockW_loop E _ _ _ _ h8 _ _ e
      ·exact blockW_loop E _ _ _ _ h7 _ _ e
     split at e
     ·cases e; exact .inr ⟨_, rfl⟩
     split at e
     ·cases e; exact .inl rfl
     ·cases e; exact .inl rfl
  ·rw [ends1_eq] at h
   simp only [evF]
   cases S.fuel with
   | zero => simp
   | succ k =>
    simp only
    unfold stmtW
    split
    ·rename_i k5
     rw [if_neg (by omega), if_neg (by omega), if_pos k5] at h
     simp only [Bool.and_eq_true, decide_eq_true_eq, Bool.not_eq_true'] at h
     exact loopW_ends E _ _ h.1 h.2 _ _ _ _
    rename_i k5
    split
    ·simp
    split
    ·simp
    generalize (evF p w).expr (arg0 s.args) V { S with fuel := k } = q
    obtain ⟨a, S1⟩ := q
    cases a with
    | stop k => simp
    | ok n =>
     simp only
     by_cases k8 : s.kind = 8
     ·unfold zie
      rw [if_neg (by omega), if_neg (by omega), if_neg (by omega), if_neg (by omega), if_pos k8]
      simp
     rw [if_neg k8] at h
     by_cases k4 : s.kind = 4
     ·rw [if_pos k4, Bool.and_eq_true] at h
      unfold zie
      rw [if_neg (by omega), if_neg (by omega), if_neg (by omega), if_pos k4]
      split
      ·exact blockW_ends E _ _ _ _ h.2
      ·exact blockW_ends E _ _ _ _ h.1
     rw [if_neg k4, if_neg k5] at h
     cases h
  ·simp only [evF] at hn
   cases hS : S.fuel with
   | zero => rw [hS] at hn; cases hn
   | succ k =>
    rw [hS] at hn
    simp only [exprW] at hn
    rw [if_pos (.inr h)] at hn
    cases hn; rfl
end PE.U

namespace PE.U
open Go PE
def zrb (k : Nat) : List PArr -> List (PV × PV)
 | [] => []
 | a :: r => (.str a.name, .mslice k 0 a.size.toNat 1) :: zrb (k + 1) r
def intO (l : List Int) : Obj := .arr 1 (l.map (PV.int .i64))
def boxO (n : Int) : Obj := .arr 1 [.int .i64 n]
def zEb (l : List (List Int)) : ze := l.map intO
def runCells (p : Prog) (S : RS) (v : Int) : List PV := [zga p.arrays, funcs p.funcs, ints S.inp, .mp 0, .int .i64 0, .int .i64 0, acc 1 (S.out.map (PV.int .i64)), .int .i64 S.cost, .int .i64 S.fuel, .int .i64 v]
def runO (p : Prog) (S : RS) (v : Int) : Obj := .arr 10 [.agg (runCells p S v)]
def sto (p : Prog) (S : RS) (v : Int) (T : ze) : ze := .mp (zrb 2 p.arrays) :: runO p S v :: (zEb S.arrs ++ T)
def endV (k : Int) : PV := .iface 119 (.agg [.int .i64 k])
section
variable (p : Prog) (S : RS) (v : Int) (T : ze)
@[simp] theorem sto_0 : (sto p S v T)[0]? = some (.mp (zrb 2 p.arrays)) := rfl
@[simp] theorem sto_1 : (sto p S v T)[1]? = some (.arr 10 [.agg [zga p.arrays, funcs p.funcs, ints S.inp, .mp 0, .int .i64 0, .int .i64 0, acc 1 (S.out.map (PV.int .i64)), .int .i64 S.cost, .int .i64 S.fuel, .int .i64 v]]) := rfl
@[simp] theorem set_fuel (k : Nat) : (sto p S v T).set 1 (.arr 10 [.agg [zga p.arrays, funcs p.funcs, ints S.inp, .mp 0, .int .i64 0, .int .i64 0, acc 1 (S.out.map (PV.int .i64)), .int .i64 S.cost, .int .i64 k, .int .i64 v]]) = sto p { S with fuel := k } v T := rfl
@[simp] theorem set_cost : (sto p S v T).set 1 (.arr 10 [.agg [zga p.arrays, funcs p.funcs, ints S.inp, .mp 0, .int .i64 0, .int .i64 0, acc 1 (S.out.map (PV.int .i64)), .int .i64 (zB .i64 (S.cost + 1)), .int .i64 S.fuel, .int .i64 v]]) = sto p (zO S) v T := by
 rw [zoa]; rfl
@[simp] theorem set_val (u : Int) : (sto p S v T).set 1 (.arr 10 [.agg [zga p.arrays, funcs p.funcs, ints S.inp, .mp 0, .int .i64 0, .int .i64 0, acc 1 (S.out.map (PV.int .i64)), .int .i64 S.cost, .int .i64 S.fuel, .int .i64 u]]) = sto p S u T := rfl
@[simp] theorem set_inp (l : List Int) : (sto p S v T).set 1 (.arr 10 [.agg [zga p.arrays, funcs p.funcs, .slice .plain 1 (l.map (PV.int .i64)), .mp 0, .int .i64 0, .int .i64 0, acc 1 (S.out.map (PV.int .i64)), .int .i64 S.cost, .int .i64 S.fuel, .int .i64 v]]) = sto p { S with inp := l } v T := rfl
end
@[simp] theorem rebuild_int (k : IntKind) (n : Int) (cs : List PV) : zMa (.int k n) cs = cs.headD .undef := Eq.trans rfl rfl
theorem stop_spec (k : Int) (σ : ze) : zi E 159 [.ptr 1 0 0, .int .i64 k] σ = some (.pan (endV k), σ) := by
 refine zd rfl rfl rfl (by simp) ?_
 simp [F159, endV]
theorem step_spec (p : Prog) (S : RS) (v : Int) (T : ze) (hf : S.fuel <= 9000000000000000000) : zi E 141 [.ptr 1 0 0] (sto p S v T) = some (match S.fuel with
  | 0 => (.pan (endV 0), sto p S v T)
  | k + 1 => (.ret (.tup []), sto p { S with fuel := k } v T)) := by
 refine zd rfl rfl rfl (by simp) ?_
 have h0 := stop_spec 0 (sto p S v T)
 cases h : S.fuel with
 | zero => simp [*, F141]
 | succ k =>
  have hw : zB .i64 (((k + 1 : Nat) : Int) - 1) = (k : Int) := by rw [zj] <;> omega
  have hne : (((k + 1 : Nat) : Int) = 0) = False := eqn (by omega)
  clear h0
  have hs : (sto p S v T).set 1 (.arr 10 [.agg [zga p.arrays, funcs p.funcs, ints S.inp, .mp 0, .int .i64 0, .int .i64 0, acc 1 (S.out.map (PV.int .i64)), .int .i64 S.cost, .int .i64 k, .int .i64 v]]) = sto p { S with fuel := k } v T := rfl
  generalize hc : ((k + 1 : Nat) : Int) = c at *
  simp [*, F141]
def FitS (p : Prog) (S : RS) : Prop := S.arrs.map List.length = p.arrays.map (fun a => a.size.toNat) /\ S.out.length + S.fuel <= 1000000000000
theorem FitS.mono {p : Prog} {S S1 : RS} (h : FitS p S) (m : Mono S S1) : FitS p S1 := ⟨m.arrs.trans h.1, Nat.le_trans m.out h.2⟩
theorem FitS.len {p : Prog} {S : RS} (h : FitS p S) : S.arrs.length = p.arrays.length := by
 have := congrArg List.length h.1
 simpa using this
theorem FitS.cost {p : Prog} {S : RS} (h : FitS p S) : FitS p (zO S) := h
theorem arrFrom_find (nm : List UInt8) : ∀ (l : List PArr) (k : Nat), zY true (.str nm) (zrb k l) = some (match l.findIdx? (fun a => decide (a.name = nm)) with
  | some i => match l[i]? with
   | some a => some (.mslice (k + i) 0 a.size.toNat 1)
   | none => none
  | none => none)
 | [], k => rfl
 | a :: r, k => by
  have ih := arrFrom_find nm r (k + 1)
  rw [zrb, List.findIdx?_cons]
  by_cases h : a.name = nm
  ·simp [h]
  ·have h' : ¬ nm = a.name := fun e => h e.symm
   simp only [zY, zWc, if_true, h', decide_false, h]
   rw [ih]
   cases r.findIdx? (fun a => decide (a.name = nm)) with
   | none => simp
   | some i =>
    simp only [Option.map_some, List.getElem?_cons_succ, Bool.false_eq_true, if_false]
    cases r[i]? with
    | none => rfl
    | some b => simp only; congr 3; omega
theorem arr_at {p : Prog} {S : RS} {nm : List UInt8} (hS : FitS p S) (h : zlb p nm = true) : ∃ (i : Nat) (l : List Int), zEa p nm = i /\ i < S.arrs.length /\ S.arrs[i]? = some l /\ zY true (.str nm) (zrb 2 p.arrays) = some (some (.mslice (i + 2) 0 l.length 1)) := by
 have h1 := idx_ge (fun f : PArr => decide (f.name = nm)) p.arrays
 rcases zkb (fun f : PArr => decide (f.name = nm)) p.arrays with ⟨a1, a2⟩ | ⟨i, a, a1, a2, a3, a4, a5⟩
 ·rw [a1] at h1
  exfalso
  have : zlb p nm = decide ((0 : Int) <= -1) := h1.symm
  rw [this] at h
  exact absurd h (by decide)
 ·have hlt : i < S.arrs.length := by rw [hS.len]; exact a4
  refine ⟨i, S.arrs[i], a1, hlt, List.getElem?_eq_getElem hlt, ?_⟩
  rw [arrFrom_find]
  have hx : p.arrays.findIdx? (fun a => decide (a.name = nm)) = some i := by
   have : idx (fun f : PArr => decide (f.name = nm)) p.arrays = i := a1
   unfold idx at this
   cases hq : p.arrays.findIdx? (fun a => decide (a.name = nm)) with
   | none => rw [hq] at this; simp at this <;> omega
   | some j => rw [hq] at this; simp at this; exact congrArg some (by omega)
  rw [hx]
  simp only [a2]
  have hl : (S.arrs[i]).length = a.size.toNat := by
   have e := congrArg (fun l : List Nat => l[i]?) hS.1
   simp only [List.getElem?_map, a2, List.getElem?_eq_getElem hlt, Option.map_some, Option.some.injEq] at e
   exact e
  rw [hl, Nat.add_comm 2 i]
theorem sto_row {p : Prog} {S : RS} {v : Int} {T : ze} {i : Nat} {l : List Int} (h : S.arrs[i]? = some l) : (sto p S v T)[i + 2]? = some (.arr 1 (l.map (PV.int .i64))) := by
 have hlt := (List.getElem?_eq_some_iff.1 h).1
 simp only [sto, List.getElem?_cons_succ]
 rw [List.getElem?_append_left (by simpa [zEb] using hlt)]
 simp [zEb, h, intO]
theorem sto_setrow {p : Prog} {S : RS} {v : Int} {T : ze} {i : Nat} {l : List Int} (h : S.arrs[i]? = some l) (l' : List Int) : (sto p S v T).set (i + 2) (.arr 1 (l'.map (PV.int .i64))) = sto p { S with arrs := S.arrs.set i l' } v T := by
 have hlt := (List.getElem?_eq_some_iff.1 h).1
 simp only [sto, List.set_cons_succ]
 rw [List.set_append_left _ _ (by simpa [zEb] using hlt)]
 have : (zEb S.arrs).set i (.arr 1 (l'.map (PV.int .i64))) = zEb (S.arrs.set i l') := by simp [zEb, List.map_set, intO]
 rw [this]
 rfl
theorem cell_spec {p : Prog} {S : RS} {v : Int} {T : ze} {nm : List UInt8} {i : Nat} {l : List Int} (n : Int) (hl : S.arrs[i]? = some l) (hm : zY true (.str nm) (zrb 2 p.arrays) = some (some (.mslice (i + 2) 0 l.length 1))) :
  zi E 144 [.ptr 1 0 0, .str nm, .int .i64 n] (sto p S v T) = some (if 0 <= n /\ n < l.length then (.ret (.ptr (i + 2) n.toNat 0), sto p S v T) else (.pan (endV 3), sto p S v T)) := by
 refine zd rfl rfl rfl (by simp) ?_
 have h3 := stop_spec 3 (sto p S v T)
 by_cases h0 : n < 0
 ·have hn : ¬ (0 <= n /\ n < l.length) := by omega
  rw [if_neg hn]
  replace h0 := eqp h0
  simp [*, F144]
 ·by_cases h1 : (l.length : Int) <= n
  ·have hn : ¬ (0 <= n /\ n < l.length) := by omega
   rw [if_neg hn]
   replace h0 := eqn h0
   replace h1 := eqp h1
   simp [*, F144]
  ·rw [if_pos (by omega)]
   have h4 : 0 <= n := by omega
   have h5 : n.toNat < l.length := by omega
   replace h0 := eqn h0
   replace h1 := eqn h1
   clear h3
   simp [*, F144]
theorem read_spec (p : Prog) (S : RS) (v : Int) (T : ze) : zi E 167 [.ptr 1 0 0] (sto p S v T) = some (match S.inp with
  | [] => (.pan (endV 4), sto p S v T)
  | n :: r => (.ret (.int .i64 n), sto p { S with inp := r } v T)) := by
 refine zd rfl rfl rfl (by simp) ?_
 have h4 := stop_spec 4 (sto p S v T)
 cases h : S.inp with
 | nil => simp [*, F167, ints]
 | cons n r =>
  have hne : ¬ ((r.length : Int) + 1 = 0) := by omega
  have hs : (sto p S v T).set 1 (.arr 10 [.agg [zga p.arrays, funcs p.funcs, .slice .plain 1 (r.map (PV.int .i64)), .mp 0, .int .i64 0, .int .i64 0, acc 1 (S.out.map (PV.int .i64)), .int .i64 S.cost, .int .i64 S.fuel, .int .i64 v]]) = sto p { S with inp := r } v T := rfl
  have ht : List.take r.length (r.map (PV.int .i64)) = r.map (PV.int .i64) := by rw [List.take_of_length_le]; simp
  clear h4
  simp [*, F167, ints]
end PE.U

namespace PE.U
open Go PE
structure Bnd where
 name : List UInt8
 box : Nat
 val : Int
def zD (B : List Bnd) : Vs := B.map fun b => (b.name, b.val)
def zfb (B : List Bnd) : List (List UInt8 × Nat) := B.map fun b => (b.name, b.box)
def zed (nm : List UInt8) : List Bnd -> Option Bnd
 | [] => none
 | b :: r => if b.name = nm then some b else zed nm r
def setB (nm : List UInt8) (n : Int) : List Bnd -> List Bnd
 | [] => []
 | b :: r => if b.name = nm then { b with val := n } :: r else b :: setB nm n r
theorem names_valsB (B : List Bnd) : zJ (zD B) = B.map (·.name) := by simp [zJ, zD]
theorem keysB_names {B C : List Bnd} (h : zfb B = zfb C) : B.map (·.name) = C.map (·.name) := by
 have := congrArg (List.map Prod.fst) h
 simpa [zfb, List.map_map, Function.comp_def] using this
theorem keys_set (nm : List UInt8) (n : Int) (B : List Bnd) : zfb (setB nm n B) = zfb B := by
 induction B with
 | nil => rfl
 | cons b r ih =>
  unfold setB
  split
  ·rfl
  ·simp only [zfb, List.map_cons] at ih ⊢; rw [ih]
theorem vals_set (nm : List UInt8) (n : Int) (B : List Bnd) : zD (setB nm n B) = setV nm n (zD B) := by
 induction B with
 | nil => rfl
 | cons b r ih =>
  simp only [setB, zD, List.map_cons, setV] at ih ⊢
  split
  ·rename_i h; simp [h]
  ·simp only [List.map_cons]; rw [ih]
theorem lookB_of {nm : List UInt8} {B : List Bnd} (h : nm ∈ B.map (·.name)) : ∃ b, zed nm B = some b /\ b ∈ B /\ b.name = nm /\ getV nm (zD B) = b.val := by
 induction B with
 | nil => cases h
 | cons b r ih =>
  by_cases hb : b.name = nm
  ·exact ⟨b, by simp [zed, hb], by simp, hb, by simp [zD, getV, hb]⟩
  ·have : nm ∈ r.map (·.name) := by
    rcases List.mem_cons.1 h with h | h
    ·exact absurd h.symm hb
    ·exact h
   obtain ⟨c, h1, h2, h3, h4⟩ := ih this
   exact ⟨c, by simp [zed, hb, h1], by simp [h2], h3, by simp only [zD, List.map_cons, getV, hb, if_false] at h4 ⊢; exact h4⟩
theorem lookB_box {B C : List Bnd} (h : zfb B = zfb C) (nm : List UInt8) : (zed nm B).map (·.box) = (zed nm C).map (·.box) := by
 induction B generalizing C with
 | nil =>
  cases C with
  | nil => rfl
  | cons c q => cases h
 | cons b r ih =>
  cases C with
  | nil => cases h
  | cons c q =>
   simp only [zfb, List.map_cons, List.cons.injEq, Prod.mk.injEq] at h
   simp only [zed]
   rw [h.1.1]
   split
   ·simp [h.1.2]
   ·exact ih h.2
def nb (p : Prog) : Nat := p.arrays.length + 2
def strK (es : List (PV × PV)) : Prop := ∀ q ∈ es, ∃ s, q.1 = .str s
structure FR (p : Prog) (T : ze) (m r : Nat) (B : List Bnd) : Prop where
 map : ∃ es, T[r]? = some (.mp es) /\ strK es /\ ∀ x, zY true (.str x) es = some ((zed x B).map fun b => .ptr (nb p + b.box) 0 0)
 val : ∀ b ∈ B, T[b.box]? = some (boxO b.val) /\ m <= b.box
 nd : (B.map (·.box)).Nodup
 lo : m <= r
def Keep (m : Nat) (ex : Option Nat) (T T' : ze) : Prop := T.length <= T'.length /\ ∀ j, j < T.length -> ex ≠ some j -> T'[j]? = T[j]? \/ (m <= j /\ ∃ a b, T[j]? = some (boxO a) /\ T'[j]? = some (boxO b))
theorem Keep.refl (m : Nat) (ex : Option Nat) (T : ze) : Keep m ex T T := ⟨Nat.le_refl _, fun _ _ _ => .inl rfl⟩
theorem Keep.trans {m : Nat} {ex : Option Nat} {A B C : ze} (h : Keep m ex A B) (k : Keep m ex B C) : Keep m ex A C := by
 refine ⟨Nat.le_trans h.1 k.1, fun j hj he => ?_⟩
 have h1 := h.2 j hj he
 have h2 := k.2 j (by have := h.1; omega) he
 rcases h1 with h1 | ⟨hm, a, b, h1, h1'⟩ <;> rcases h2 with h2 | ⟨hm', c, d, h2, h2'⟩
 ·exact .inl (h2.trans h1)
 ·exact .inr ⟨hm', c, d, by rw [<- h1]; exact h2, h2'⟩
 ·exact .inr ⟨hm, a, b, h1, by rw [h2]; exact h1'⟩
 ·exact .inr ⟨hm, a, d, h1, h2'⟩
theorem Keep.weaken {m : Nat} {ex : Option Nat} {A B : ze} (h : Keep m none A B) : Keep m ex A B := ⟨h.1, fun j hj _ => h.2 j hj (by simp)⟩
theorem zsd {p : Prog} {S : RS} {v : Int} {T : ze} (hS : FitS p S) : (sto p S v T).length = nb p + T.length := by
 simp [sto, zEb, hS.len, nb]; omega
theorem zbe {p : Prog} {S : RS} {v : Int} {T : ze} (hS : FitS p S) (j : Nat) : (sto p S v T)[nb p + j]? = T[j]? := by
 have : nb p + j = p.arrays.length + j + 2 := by unfold nb; omega
 rw [this]
 simp only [sto, List.getElem?_cons_succ]
 rw [List.getElem?_append_right (by simp [zEb, hS.len])]
 simp [zEb, hS.len]
theorem sto_set {p : Prog} {S : RS} {v : Int} {T : ze} (hS : FitS p S) (j : Nat) (o : Obj) : (sto p S v T).set (nb p + j) o = sto p S v (T.set j o) := by
 have : nb p + j = p.arrays.length + j + 2 := by unfold nb; omega
 rw [this]
 simp only [sto, List.set_cons_succ]
 rw [List.set_append_right _ _ (by simp [zEb, hS.len])]
 simp [zEb, hS.len]
theorem zGc {p : Prog} {S : RS} {v : Int} {T L : ze} : sto p S v T ++ L = sto p S v (T ++ L) := by simp [sto]
theorem sto_take {p : Prog} {S : RS} {v : Int} {T : ze} (hS : FitS p S) (j : Nat) : (sto p S v T).take (nb p + j) = sto p S v (T.take j) := by
 have : nb p + j = p.arrays.length + j + 2 := by unfold nb; omega
 rw [this]
 simp only [sto, List.take_succ_cons]
 rw [List.take_append, List.take_of_length_le (by simp [zEb, hS.len])]
 simp [zEb, hS.len]
theorem arrFrom_below (n : Nat) : ∀ (l : List PArr) (k : Nat), k + l.length <= n -> zdd n (zrb k l) = true
 | [], _, _ => rfl
 | a :: r, k, h => by
  simp only [List.length_cons] at h
  simp only [zrb, zdd, below_str, below_mslice, Bool.true_and, Bool.and_eq_true, decide_eq_true_eq]
  exact ⟨by omega, arrFrom_below n r (k + 1) (by omega)⟩
theorem belowL_acc (n : Nat) (l : List Int) : zy n (acc 1 (l.map (PV.int .i64))) = true := by
 cases l with
 | nil => rfl
 | cons x r => simp
theorem sto_wf {p : Prog} {S : RS} {v : Int} {T : ze} (hS : FitS p S) {n : Nat} (hn : nb p <= n) (hT : ze.wf n T = true) : ze.wf n (sto p S v T) = true := by
 unfold ze.wf at hT ⊢
 simp only [sto, List.all_cons, List.all_append, Bool.and_eq_true]
 refine ⟨?_, ?_, ?_, hT⟩
 ·exact arrFrom_below n p.arrays 2 (by unfold nb at hn; omega)
 ·have h0 : 0 < n := by unfold nb at hn; omega
  simp [runO, runCells, Obj.below, belowL_acc, ints, h0]
 ·rw [List.all_eq_true]
  intro o ho
  simp only [zEb, List.mem_map] at ho
  obtain ⟨l, _, rfl⟩ := ho
  simp [intO, Obj.below]
def outE (q : Rt Int) : CRes := match q with
 | .ok n => .ret (.int .i64 n)
 | .stop k => .pan (endV k)
@[simp] theorem outE_ok (n : Int) : outE (.ok n) = .ret (.int .i64 n) := rfl
@[simp] theorem outE_stop (n : Int) : outE (.stop n) = .pan (endV n) := rfl
def isE (p : Prog) (T : ze) (q : Rt Int × RS) : CRes -> ze -> Prop := fun res st => ∃ v, res = outE q.1 /\ st = sto p q.2 v T
@[simp] theorem isE_ok (p : Prog) (T : ze) (n : Int) (S : RS) (v : Int) : isE p T (.ok n, S) (.ret (.int .i64 n)) (sto p S v T) = True := eq_true ⟨v, rfl, rfl⟩
@[simp] theorem isE_stop (p : Prog) (T : ze) (n : Int) (S : RS) (v : Int) : isE p T (.stop n, S) (.pan (endV n)) (sto p S v T) = True := eq_true ⟨v, rfl, rfl⟩
theorem zde {p : Prog} {T : ze} {q : Rt Int × RS} {x : Option (CRes × ze)} (h : PC x (isE p T q)) : ∃ v, x = some (outE q.1, sto p q.2 v T) := by
 obtain ⟨r, st, e, v, rfl, rfl⟩ := zYd.1 h
 exact ⟨v, e⟩
def howN : How -> Int
 | .on => 0
 | .brk => 1
 | .cont => 2
 | .ret _ => 3
def outH (q : Rt (How × Vs)) : CRes := match q with
 | .ok x => .ret (.int .i64 (howN x.1))
 | .stop k => .pan (endV k)
def WT (p : Prog) (T : ze) : Prop := ze.wf (nb p + T.length) T = true
theorem endV_below (n : Nat) (k : Int) : zy n (endV k) = true := by simp [endV]
structure BkR (p : Prog) (T T' : ze) (m r : Nat) (B : List Bnd) (V1 : Vs) (add : List (List UInt8 × Nat) -> Prop) : Prop where
 env : ∃ B1 a, zD B1 = V1 /\ FR p T' m r B1 /\ zfb B1 = a ++ zfb B /\ add a
 wt : WT p T'
def isS (p : Prog) (T : ze) (m r : Nat) (B : List Bnd) (q : Rt (How × Vs) × RS) : CRes -> ze -> Prop := fun res st => ∃ v T', res = outH q.1 /\ st = sto p q.2 v T' /\ Keep m (some r) T T' ∧
 ∀ h V1, q.1 = .ok (h, V1) -> (∀ n, h = .ret n -> v = n) /\ BkR p T T' m r B V1 (fun _ => True)
def isBk (p : Prog) (T : ze) (m r : Nat) (B : List Bnd) (q : Rt (How × Vs) × RS) : CRes -> ze -> Prop := fun res st => ∃ v T', res = outH q.1 /\ st = sto p q.2 v T' /\ Keep m none T T' /\ T'.length = T.length ∧
 ∀ h V1, q.1 = .ok (h, V1) -> (∀ n, h = .ret n -> v = n) /\ BkR p T T' m r B V1 (fun a => a = [])
def capE : Nat := 1099508000000
structure SpecE (p : Prog) (w : Nat) : Prop where
 expr : ∀ e S v T m r B, FitS p S -> S.fuel <= w -> okE p (B.map (·.name)) e -> wtE e < capE -> FR p T m r B -> WT p T →
  PC (zi E 143 [.ptr 1 0 0, zp e, .mp (nb p + r)] (sto p S v T)) (isE p T ((evF p w).expr e (zD B) S))
structure SpecS (p : Prog) (w : Nat) : Prop where
 stmt : ∀ s S v T m r B loop, FitS p S -> S.fuel <= w -> okS p (B.map (·.name)) loop s -> wtS s < capE -> FR p T m r B -> WT p T →
  PC (zi E 120 [.ptr 1 0 0, zda s, .mp (nb p + r)] (sto p S v T)) (isS p T m r B ((evF p w).stmt s (zD B) S))
theorem FR.look {p : Prog} {T : ze} {m r : Nat} {B : List Bnd} (h : FR p T m r B) {nm : List UInt8} (hn : nm ∈ B.map (·.name)) : ∃ es b, T[r]? = some (.mp es) /\ zY true (.str nm) es = some (some (.ptr (nb p + b.box) 0 0)) /\ T[b.box]? = some (boxO (getV nm (zD B))) /\ zed nm B = some b := by
 obtain ⟨es, h1, _, h2⟩ := h.map
 obtain ⟨b, b1, b2, b3, b4⟩ := lookB_of hn
 refine ⟨es, b, h1, ?_, ?_, b1⟩
 ·rw [h2, b1]; rfl
 ·rw [b4]; exact (h.val b b2).1
theorem FR.lt {p : Prog} {T : ze} {m r : Nat} {B : List Bnd} (h : FR p T m r B) : r < T.length := by
 obtain ⟨es, h1, _⟩ := h.map
 exact (List.getElem?_eq_some_iff.1 h1).1
end PE.U

namespace PE.U
open Go PE
theorem vshort_of {p : Prog} {w : Nat} (hE : SpecE p w) {e : Expr} {S : RS} {v : Int} {T : ze} {m r : Nat} {B : List Bnd} (hS : FitS p S) (hf : S.fuel <= w) (ho : okE p (B.map (·.name)) e) (hk : e.kind = 5) (hw : wtE e < capE) (hF : FR p T m r B) (hT : WT p T) :
  PC (zi E 160 [.ptr 1 0 0, zp e, .mp (nb p + r)] (sto p S v T)) (isE p T (shortW (evF p w) e (zD B) S)) := by
 rw [okE_eq] at ho
 obtain ⟨o1, _, _, _, o5⟩ := ho
 rw [hk] at o1
 have hl : e.args.length = 2 := by
  simp only [zyc] at o1
  simp at o1
  exact o1.2.2.2
 obtain ⟨x, y, hxy⟩ : ∃ x y, e.args = [x, y] := by
  match h : e.args, hl with
  | [x, y], _ => exact ⟨x, y, rfl⟩
 rw [zqd, hxy] at hw
 simp only [wtEs] at hw
 rw [hxy, okEs, okEs] at o5
 have h1 := hE.expr x S v T m r B hS hf o5.1 (by omega) hF hT
 have m1 := (zUb p w).expr x (zD B) S
 refine zQ rfl rfl rfl (by simp [za]) ?_
 unfold shortW
 have e0 : arg0 e.args = x := by rw [hxy]; rfl
 have e1 : arg1 e.args = y := by rw [hxy]; rfl
 rw [e0, e1]
 have g0 : e.args[0]? = some x := by rw [hxy]; rfl
 have g1 : e.args[1]? = some y := by rw [hxy]; rfl
 generalize (evF p w).expr x (zD B) S = q at *
 obtain ⟨a, S1⟩ := q
 obtain ⟨v1, h1⟩ := zde h1
 rw [za x] at h1
 cases a with
 | stop k =>
  clear hE hF hT hw hxy o1 o5 m1 hl e0 e1
  simp [zc] at h1
  simp [*, F160, za, zc]
 | ok n =>
  have h2 := hE.expr y S1 v1 T m r B (hS.mono m1.1) (Nat.le_trans m1.1.fuel hf) o5.2.1 (by omega) hF hT
  simp only
  generalize (evF p w).expr y (zD B) S1 = q at *
  obtain ⟨b, S2⟩ := q
  obtain ⟨v2, h2⟩ := zde h2
  rw [za y] at h2
  clear hE hF hT hw hxy o1 o5 m1 hl e0 e1
  simp [zc] at h1
  by_cases hc : decide (n = 0) = decide (e.op = 18)
  ·simp only [hc, if_true]
   have hb : (decide (n = 0) == decide (e.op = 18)) = true := by rw [hc]; simp
   clear h2 hc
   simp [*, F160, za, zc]
  ·simp only [hc, if_false]
   have hb : (decide (n = 0) == decide (e.op = 18)) = false := by simpa using hc
   cases b <;> simp [zc] at h2 <;> simp [*, F160, za, zc]
structure BlockSpec (p : Prog) (w : Nat) : Prop where
 block : ∀ l S v T m r B loop, FitS p S -> S.fuel <= w -> okB p (B.map (·.name)) loop l -> wtSs l < capE -> FR p T m r B -> WT p T →
  PC (zi E 95 [.ptr 1 0 0, zh l, .mp (nb p + r)] (sto p S v T)) (isBk p T m r B (zba (evF p w) l (zD B) S))
def zya (b : Nat) : List Par -> List (PV × PV)
 | [] => []
 | x :: r => (.str x.name, .ptr b 0 0) :: zya (b + 1) r
def zYa (l : List Int) : ze := l.map boxO
theorem parEnt_snoc (x : Par) : ∀ (d : List Par) (b : Nat), zya b (d ++ [x]) = zya b d ++ [(.str x.name, .ptr (b + d.length) 0 0)]
 | [], b => by simp [zya]
 | y :: d, b => by
  simp only [List.cons_append, zya, parEnt_snoc x d, List.length_cons]
  rw [show b + 1 + d.length = b + (d.length + 1) from by omega]
theorem zle (nm : List UInt8) (u : PV) : ∀ (d : List Par) (b : Nat), nm ∉ d.map (·.name) -> zHb true (.str nm) u (zya b d) = some (zya b d ++ [(.str nm, u)])
 | [], b, _ => rfl
 | y :: d, b, h => by
  simp only [List.map_cons, List.mem_cons, not_or] at h
  have ih := zle nm u d (b + 1) h.2
  simp only [zya, zHb, zWc, if_true, h.1, decide_false]
  rw [ih]; rfl
theorem parEnt_find (x : List UInt8) : ∀ (d : List Par) (b : Nat), zY true (.str x) (zya b d) = some ((d.findIdx? (fun q => decide (q.name = x))).map fun i => .ptr (b + i) 0 0)
 | [], b => rfl
 | y :: d, b => by
  rw [zya, List.findIdx?_cons]
  by_cases h : y.name = x
  ·simp [h]
  ·have h' : ¬ x = y.name := fun e => h e.symm
   simp only [zY, zWc, if_true, h', decide_false, h]
   rw [parEnt_find x d (b + 1)]
   cases d.findIdx? (fun q => decide (q.name = x)) with
   | none => rfl
   | some i => simp; omega
def zPe (b : Nat) : List Par -> List Int -> List Bnd
 | [], _ => []
 | _, [] => []
 | x :: r, n :: l => zPe (b + 1) r l ++ [⟨x.name, b, n⟩]
theorem vals_bind : ∀ (ps : List Par) (l : List Int) (b : Nat), zD (zPe b ps l) = zBc ps l
 | [], l, b => by simp [zPe, zBc, zD]
 | x :: r, [], b => by simp [zPe, zBc, zD]
 | x :: r, n :: l, b => by
  have ih := vals_bind r l (b + 1)
  simp only [zPe, zBc, zD, List.map_append, List.map_cons, List.map_nil, List.zip_cons_cons, List.reverse_cons] at ih ⊢
  rw [ih]
theorem names_bind : ∀ (ps : List Par) (l : List Int) (b : Nat), l.length = ps.length -> (zPe b ps l).map (·.name) = (ps.map (·.name)).reverse
 | [], l, b, _ => rfl
 | x :: r, [], b, h => by simp at h
 | x :: r, n :: l, b, h => by
  simp only [zPe, List.map_append, List.map_cons, List.map_nil, List.reverse_cons]
  rw [names_bind r l (b + 1) (by simpa using h)]
theorem bind_box : ∀ (ps : List Par) (l : List Int) (b : Nat), ∀ q ∈ zPe b ps l, b <= q.box /\ q.box < b + l.length /\ l[q.box - b]? = some q.val /\ (ps[q.box - b]?).map (·.name) = some q.name
 | [], l, b, q, h => by simp [zPe] at h
 | x :: r, [], b, q, h => by simp [zPe] at h
 | x :: r, n :: l, b, q, h => by
  simp only [zPe, List.mem_append, List.mem_singleton] at h
  rcases h with h | rfl
  ·obtain ⟨h1, h2, h3, h4⟩ := bind_box r l (b + 1) q h
   have e : q.box - b = q.box - (b + 1) + 1 := by omega
   refine ⟨by omega, by simp only [List.length_cons]; omega, ?_, ?_⟩
   ·rw [e, List.getElem?_cons_succ]; exact h3
   ·rw [e, List.getElem?_cons_succ]; exact h4
  ·exact ⟨Nat.le_refl _, by simp only [List.length_cons]; omega, by simp, by simp⟩
theorem bind_nd : ∀ (ps : List Par) (l : List Int) (b : Nat), ((zPe b ps l).map (·.box)).Nodup
 | [], l, b => by simp [zPe]
 | x :: r, [], b => by simp [zPe]
 | x :: r, n :: l, b => by
  simp only [zPe, List.map_append, List.map_cons, List.map_nil]
  rw [List.nodup_append]
  refine ⟨bind_nd r l (b + 1), by simp, ?_⟩
  intro a ha c hc
  simp only [List.mem_singleton] at hc
  obtain ⟨q, hq, rfl⟩ := List.mem_map.1 ha
  have := (bind_box r l (b + 1) q hq).1
  omega
theorem lookB_mem {nm : List UInt8} {B : List Bnd} {b : Bnd} (h : zed nm B = some b) : b ∈ B /\ b.name = nm := by
 induction B with
 | nil => cases h
 | cons c r ih =>
  simp only [zed] at h
  split at h
  ·cases h; exact ⟨by simp, by assumption⟩
  ·have := ih h; exact ⟨by simp [this.1], this.2⟩
theorem lookB_none {nm : List UInt8} {B : List Bnd} (h : zed nm B = none) : nm ∉ B.map (·.name) := by
 intro hm
 obtain ⟨b, hb, _⟩ := lookB_of hm
 rw [h] at hb; cases hb
theorem bind_look {ps : List Par} {l : List Int} {b : Nat} (hl : l.length = ps.length) (hn : (ps.map (·.name)).Nodup) (x : List UInt8) : (ps.findIdx? (fun q => decide (q.name = x))).map (fun i => b + i) = (zed x (zPe b ps l)).map (·.box) := by
 cases h : zed x (zPe b ps l) with
 | none =>
  have h1 := lookB_none h
  rw [names_bind _ _ _ hl, List.mem_reverse] at h1
  have : ps.findIdx? (fun q => decide (q.name = x)) = none := by
   rw [List.findIdx?_eq_none_iff]
   intro q hq
   rw [decide_eq_false_iff_not]
   rintro rfl
   exact h1 (List.mem_map.2 ⟨q, hq, rfl⟩)
  rw [this]; rfl
 | some q =>
  obtain ⟨q1, q2⟩ := lookB_mem h
  obtain ⟨b1, b2, b3, b4⟩ := bind_box ps l b q q1
  rw [Option.map_some]
  have hi : ps.findIdx? (fun q => decide (q.name = x)) = some (q.box - b) := by
   rw [List.findIdx?_eq_some_iff_getElem]
   rw [Option.map_eq_some_iff] at b4
   obtain ⟨z, z1, z2⟩ := b4
   obtain ⟨z3, z4⟩ := List.getElem?_eq_some_iff.1 z1
   refine ⟨z3, by rw [z4]; simp [z2, q2], ?_⟩
   intro j hj
   simp only [Bool.not_eq_true, decide_eq_false_iff_not]
   intro e
   have h2 : (ps.map (·.name))[j]'(by simp; omega) = (ps.map (·.name))[q.box - b]'(by simpa using z3) := by
    simp only [List.getElem_map]
    rw [e, z4, z2, q2]
   exact absurd h2 (List.pairwise_iff_getElem.1 hn j (q.box - b) _ _ (by omega))
  rw [hi]
  simp; omega
theorem parEnt_str : ∀ (ps : List Par) (b : Nat), strK (zya b ps)
 | [], b => fun q h => by cases h
 | x :: r, b => fun q h => by
  rcases List.mem_cons.1 h with rfl | h
  ·exact ⟨_, rfl⟩
  ·exact parEnt_str r (b + 1) q h
theorem FR_bind {p : Prog} {T : ze} {ps : List Par} {l : List Int} (hl : l.length = ps.length) (hn : (ps.map (·.name)).Nodup) : FR p (T ++ [.mp (zya (nb p + (T.length + 1)) ps)] ++ zYa l) T.length T.length (zPe (T.length + 1) ps l) := by
 refine ⟨⟨_, by rw [List.getElem?_append_left (by simp), List.getElem?_append_right (Nat.le_refl _)]; simp; rfl, parEnt_str _ _, ?_⟩, ?_, bind_nd _ _ _, Nat.le_refl _⟩
 ·intro x
  rw [parEnt_find]
  have := bind_look (b := T.length + 1) hl hn x
  congr 1
  have e1 : (ps.findIdx? fun q => decide (q.name = x)).map (fun i => PV.ptr (nb p + (T.length + 1) + i) 0 0) = ((ps.findIdx? fun q => decide (q.name = x)).map (fun i => T.length + 1 + i)).map (fun i => PV.ptr (nb p + i) 0 0) := by
   rw [Option.map_map]
   congr 1
   funext i
   simp only [Function.comp_apply, Nat.add_assoc]
  rw [e1, this, Option.map_map]
  rfl
 ·intro q hq
  obtain ⟨b1, b2, b3, b4⟩ := bind_box _ _ _ q hq
  refine ⟨?_, by omega⟩
  rw [List.getElem?_append_right (by simp; omega)]
  simp only [List.length_append, List.length_cons, List.length_nil]
  simp only [zYa, List.getElem?_map]
  have : q.box - (T.length + (0 + 1)) = q.box - (T.length + 1) := by omega
  rw [this, b3]; rfl
theorem parEnt_below (n : Nat) : ∀ (ps : List Par) (b : Nat), b + ps.length <= n -> zdd n (zya b ps) = true
 | [], b, _ => rfl
 | x :: r, b, h => by
  simp only [List.length_cons] at h
  simp only [zya, zdd, below_str, below_ptr, Bool.true_and, Bool.and_eq_true, decide_eq_true_eq]
  exact ⟨by omega, parEnt_below n r (b + 1) (by omega)⟩
mutual
theorem belowV_le {n k : Nat} (h : n <= k) : ∀ x : PV, zy n x = true -> zy k x = true
 | .ptr l i o, q => by simp at q ⊢; omega
 | .mslice l i o z, q => by simp at q ⊢; omega
 | .mp l, q => by simp at q ⊢; omega
 | .iptr cs o, q => by simp at q ⊢; exact zbd h cs q
 | .slice _ _ cs, q => by simp at q ⊢; exact zbd h cs q
 | .agg cs, q => by simp at q ⊢; exact zbd h cs q
 | .tup cs, q => by simp at q ⊢; exact zbd h cs q
 | .fn _ a b, q => by simp at q ⊢; exact ⟨zbd h a q.1, zbd h b q.2⟩
 | .iface _ x, q => by simp at q ⊢; exact belowV_le h x q
 | .undef, _ => rfl
 | .bool _, _ => rfl
 | .int _ _, _ => rfl
 | .str _, _ => rfl
 | .nilp, _ => rfl
 | .lptr _ _, _ => rfl
 | .nilfn, _ => rfl
 | .nilmap, _ => rfl
 | .nilif, _ => rfl
theorem zbd {n k : Nat} (h : n <= k) : ∀ l : List PV, zX n l = true -> zX k l = true
 | [], _ => rfl
 | x :: r, q => by simp at q ⊢; exact ⟨belowV_le h x q.1, zbd h r q.2⟩
end
theorem belowP_le {n k : Nat} (h : n <= k) : ∀ l : List (PV × PV), zdd n l = true -> zdd k l = true
 | [], _ => rfl
 | (x, y) :: r, q => by simp [zdd] at q ⊢; exact ⟨⟨belowV_le h x q.1.1, belowV_le h y q.1.2⟩, belowP_le h r q.2⟩
theorem below_le {n k : Nat} (h : n <= k) (o : Obj) (q : o.below n = true) : o.below k = true := by
 cases o with
 | arr sz es => exact zbd h es q
 | mp es => exact belowP_le h es q
 | dead _ => rfl
theorem wf_le {n k : Nat} (h : n <= k) {T : ze} (q : ze.wf n T = true) : ze.wf k T = true := by
 unfold ze.wf at q ⊢
 rw [List.all_eq_true] at q ⊢
 exact fun o ho => below_le h o (q o ho)
theorem wf_app {n : Nat} {A B : ze} : ze.wf n (A ++ B) = (ze.wf n A && ze.wf n B) := by simp [ze.wf]
theorem wf_box (n : Nat) (l : List Int) : ze.wf n (zYa l) = true := by
 simp only [ze.wf, List.all_eq_true, zYa, List.mem_map]
 rintro o ⟨x, _, rfl⟩
 simp [boxO, Obj.below]
theorem Keep.wf {m : Nat} {T T' : ze} {n : Nat} (h : Keep m none T T') (hT : ze.wf n T = true) : ze.wf n (T'.take T.length) = true := by
 unfold ze.wf at hT ⊢
 rw [List.all_eq_true] at hT ⊢
 intro o ho
 obtain ⟨j, hj, rfl⟩ := List.getElem_of_mem ho
 simp only [List.length_take] at hj
 have hj' : j < T.length := by omega
 rcases h.2 j hj' (by simp) with q | ⟨_, a, b, _, q⟩
 ·rw [List.getElem_take]
  have e1 : T'[j]? = some T'[j] := List.getElem?_eq_getElem (by omega)
  have e2 : T[j]? = some T[j] := List.getElem?_eq_getElem hj'
  rw [e1, e2, Option.some.injEq] at q
  rw [q]
  exact hT _ (List.getElem_mem hj')
 ·rw [List.getElem_take]
  have e1 : T'[j]? = some T'[j] := List.getElem?_eq_getElem (by omega)
  rw [e1, Option.some.injEq] at q
  rw [q]; rfl
theorem Keep.same {m : Nat} {A L T' : ze} (h : Keep m none (A ++ L) T') (hm : A.length <= m) : T'.take A.length = A := by
 apply List.ext_getElem?
 intro j
 rw [List.getElem?_take]
 split
 ·rename_i hj
  rcases h.2 j (by simp; omega) (by simp) with q | ⟨q, _⟩
  ·rw [q, List.getElem?_append_left hj]
  ·omega
 ·rename_i hj
  rw [List.getElem?_eq_none (by omega)]
end PE.U

namespace PE.U
open Go PE
structure CS where
 rest : List Expr
 acc : List Int
 S : RS
 v : Int
theorem isBk_get {p : Prog} {T : ze} {m r : Nat} {B : List Bnd} {q : Rt (How × Vs) × RS} {x : Option (CRes × ze)} (h : PC x (isBk p T m r B q)) : ∃ v T', x = some (outH q.1, sto p q.2 v T') /\ Keep m none T T' /\ T'.length = T.length ∧
  ∀ h V1, q.1 = .ok (h, V1) -> (∀ n, h = .ret n -> v = n) /\ BkR p T T' m r B V1 (fun a => a = []) := by
 obtain ⟨r, st, e, v, T', rfl, rfl, h1, h2, h3⟩ := zYd.1 h
 exact ⟨v, T', e, h1, h2, h3⟩
set_option maxHeartbeats 2000000 in
theorem vcall_of {p : Prog} (hP : OkP p) {w : Nat} (hB : BlockSpec p w) {f : Func} (hf : f ∈ p.funcs) {S : RS} {v : Int} {T : ze} {l : List Int} (hS : FitS p S) (hw : S.fuel <= w) (hl : l.length = f.params.length) (hT : WT p T) :
  PC (zi E 68 [.ptr 1 0 0, zm f, ints l] (sto p S v T)) (isE p T (callW (evF p w) f l S)) := by
 obtain ⟨z1, z2, z3⟩ := hP.sz
 obtain ⟨f1, f2⟩ := z3 f hf
 obtain ⟨ok1, ok2, ok3⟩ := hP.fn f hf
 have hlen := zsd (v := v) (T := T) hS
 have hfr := FR_bind (p := p) (T := T) hl ok3
 have hbw : WT p (T ++ [.mp (zya (nb p + (T.length + 1)) f.params)] ++ zYa l) := by
  unfold WT
  rw [wf_app, wf_app, wf_box, Bool.and_true, Bool.and_eq_true]
  refine ⟨wf_le (by simp) hT, ?_⟩
  simp only [ze.wf, List.all_cons, List.all_nil, Bool.and_true, Obj.below]
  exact parEnt_below _ _ _ (by simp [zYa]; omega)
 have hblk := hB.block f.body S v _ T.length T.length (zPe (T.length + 1) f.params l) false hS hw (by rw [names_bind _ _ _ hl]; exact ok1) (by unfold capE; omega) hfr hbw
 rw [vals_bind] at hblk
 have hret := blockW_ret (evF_fx p w) f.body _ (zBc f.params l) S ok1 ok2
 have hmono := (zdc (zUb p w) f.body (zBc f.params l) S).1
 refine zQ rfl rfl rfl (by simp [zm]) ?_
 unfold callW
 generalize zba (evF p w) f.body (zBc f.params l) S = q at *
 obtain ⟨a, S1⟩ := q
 obtain ⟨v1, T1, h1, h2, h3, h4⟩ := isBk_get hblk
 have hsame : T1.take T.length = T := by
  have := h2
  rw [List.append_assoc] at this
  exact Keep.same this (Nat.le_refl _)
 have hS1 := hS.mono hmono
 have htk : (sto p S1 v1 T1).take (nb p + T.length) = sto p S1 v1 T := by rw [sto_take hS1, hsame]
 have hwf : ze.wf (nb p + T.length) (sto p S1 v1 T) = true := sto_wf hS1 (by omega) hT
 have hle : nb p + T.length <= (sto p S1 v1 T1).length := by
  rw [zsd hS1, h3]; simp
 have hv : ∀ n V1, a = .ok (.ret n, V1) -> v1 = n := fun n V1 e => (h4 _ _ e).1 n rfl
 have hgo : (∃ k, a = .stop k) \/ ∃ n V1, a = .ok (.ret n, V1) := by
  cases a with
  | stop k => exact .inl ⟨k, rfl⟩
  | ok x =>
   obtain ⟨h, V1⟩ := x
   obtain ⟨n, hn⟩ := hret h V1 rfl
   exact .inr ⟨n, V1, by rw [hn]⟩
 clear hblk hret hmono h2 h3 h4 hsame hbw hfr
 simp [F68, zm, parsV, ints, zGc]
 refine zI f.params K68_0 B68_0 (fun d => [(15, .int .i64 d.length)]) (fun d => sto p S v (T ++ [.mp (zya (nb p + (T.length + 1)) d)] ++ zYa (l.take d.length))) (fun d => (d.map (·.name)).Nodup) (by omega) (by simp [zya, zYa]) ?_ ?_
 ·intros d x r s1 hl' hlt hget hget' hwr hp g1 g2 g3 g4
  simp at g1 g3
  have hx : x.name ∉ d.map (·.name) /\ ((d ++ [x]).map (·.name)).Nodup := by
   have h := ok3
   rw [hl'.eq] at h
   simp only [List.map_append, List.map_cons] at h ⊢
   rw [List.nodup_append] at h
   obtain ⟨h1, h2, h3⟩ := h
   have hx : x.name ∉ d.map (·.name) := fun hm => h3 _ hm _ (by simp) rfl
   refine ⟨hx, ?_⟩
   rw [List.nodup_append]
   exact ⟨h1, by simp, fun a ha b hb => by simp at hb; rintro rfl; exact hx (hb ▸ ha)⟩
  have hms := zle x.name (.ptr (nb p + (T.length + 1 + d.length)) 0 0) d (nb p + (T.length + 1)) hx.1
  have hln : d.length < l.length := by omega
  obtain ⟨n, hn⟩ : ∃ n, l[d.length]? = some n := ⟨_, List.getElem?_eq_getElem hln⟩
  have htk1 : l.take (d.length + 1) = l.take d.length ++ [n] := by
   rw [List.take_add_one, hn]; rfl
  have hpb : zYa (l.take d.length) ++ [.arr 1 [.int .i64 n]] = zYa (l.take d.length ++ [n]) := by simp [zYa, boxO]
  have hbl : (zYa (l.take d.length)).length = d.length := by simp [zYa]; omega
  have hL : (sto p S v (T ++ [.mp (zya (nb p + (T.length + 1)) d)] ++ zYa (l.take d.length))).length = nb p + (T.length + 1 + d.length) := by
   rw [zsd hS]; simp [hbl]; omega
  have hps := parEnt_snoc x d (nb p + (T.length + 1))
  rw [show nb p + (T.length + 1) + d.length = nb p + (T.length + 1 + d.length) from by omega] at hps
  rw [<- hps] at hms
  have hset1 : (sto p S v (T ++ [.mp (zya (nb p + (T.length + 1)) d)] ++ zYa (l.take d.length) ++ [.arr 1 [.int .i64 0]])).set (nb p + (T.length + 1 + d.length)) (.arr 1 [.int .i64 n]) = sto p S v (T ++ [.mp (zya (nb p + (T.length + 1)) d)] ++ zYa (l.take d.length) ++ [.arr 1 [.int .i64 n]]) := by
   have e : T.length + 1 + d.length = (T ++ [Obj.mp (zya (nb p + (T.length + 1)) d)] ++ zYa (l.take d.length)).length := by simp [hbl]; omega
   rw [sto_set hS, e, List.set_append_right _ _ (Nat.le_refl _)]
   simp
  have hget1 : (sto p S v (T ++ [.mp (zya (nb p + (T.length + 1)) d)] ++ zYa (l.take d.length) ++ [.arr 1 [.int .i64 0]]))[nb p + (T.length + 1 + d.length)]? = some (.arr 1 [.int .i64 0]) := by
   have e : T.length + 1 + d.length = (T ++ [Obj.mp (zya (nb p + (T.length + 1)) d)] ++ zYa (l.take d.length)).length := by simp [hbl]; omega
   rw [zbe hS, e, List.getElem?_append_right (Nat.le_refl _)]
   simp
  have hget2 : (sto p S v (T ++ [.mp (zya (nb p + (T.length + 1)) d)] ++ zYa (l.take d.length) ++ [.arr 1 [.int .i64 n]]))[nb p + T.length]? = some (.mp (zya (nb p + (T.length + 1)) d)) := by
   rw [zbe hS, List.getElem?_append_left (by simp), List.getElem?_append_left (by simp), List.getElem?_append_right (Nat.le_refl _)]
   simp
  have hset2 : (sto p S v (T ++ [.mp (zya (nb p + (T.length + 1)) d)] ++ zYa (l.take d.length) ++ [.arr 1 [.int .i64 n]])).set (nb p + T.length) (.mp (zya (nb p + (T.length + 1)) (d ++ [x]))) = sto p S v (T ++ [.mp (zya (nb p + (T.length + 1)) (d ++ [x]))] ++ zYa (l.take (d.length + 1))) := by
   rw [sto_set hS, htk1]
   congr 1
   rw [List.append_assoc, List.append_assoc, List.set_append_right _ _ (Nat.le_refl _), hpb]
   simp
  have hfin : sto p S v (T ++ [.mp (zya (nb p + (T.length + 1)) (d ++ [x]))] ++ zYa (l.take (d.length + 1))) = sto p S v (T ++ [.mp (zya (nb p + (T.length + 1)) (d ++ [x]))] ++ zYa (l.take (d.length + 1))) := rfl
  generalize hA3 : (T ++ [.mp (zya (nb p + (T.length + 1)) (d ++ [x]))] ++ zYa (l.take (d.length + 1))) = A3 at hset2
  generalize hA2 : (T ++ [.mp (zya (nb p + (T.length + 1)) d)] ++ zYa (l.take d.length) ++ [.arr 1 [.int .i64 n]]) = A2 at hset1 hget2 hset2
  generalize hA : (T ++ [.mp (zya (nb p + (T.length + 1)) d)] ++ zYa (l.take d.length)) = A at hset1 hget1 hL g4
  simp at hA3
  have hx2 := hx.2
  simp only [List.map_append, List.map_cons, List.map_nil] at hx2
  have hdec : decide (d.length < f.params.length) = true := decide_eq_true hlt
  clear hx hS1 htk hwf hle hv hgo h1 hl' hps ok1 ok2 ok3 hT hf hB hP hln hbl htk1 hpb hfin hA2 hA hget' hlt hp f1 f2 z1 z2 z3 hw hl
  simp [*, encPar, zGc]
 ·intros s1 hp g1 g2 g3 g4
  simp at g1 g3
  have e1 : l.take f.params.length = l := by rw [<- hl]; exact List.take_length
  rw [e1] at g4
  clear hT hf hB hP ok1 ok2 ok3 hp
  rcases hgo with ⟨k, hgo⟩ | ⟨n, V1, hgo⟩
  ·subst hgo
   clear hv
   simp [outH] at h1
   simp [*, finPan, endV_below]
  ·have hv1 := hv n V1 hgo
   clear hv
   subst hgo
   subst hv1
   simp [outH, howN] at h1
   simp [*, fin]
theorem vmade_of {p : Prog} (hP : OkP p) {w : Nat} (hB : BlockSpec p w) {e : Expr} {S : RS} {v : Int} {T : ze} {l : List Int} {ns : List (List UInt8)} (hS : FitS p S) (hw : S.fuel <= w) (hl : l.length = e.args.length) (ho : okE p ns e) (hk : ¬ (e.kind = 1 \/ e.kind = 2 \/ e.kind = 3)) (hT : WT p T) :
  PC (zi E 161 [.ptr 1 0 0, zp e, ints l] (sto p S v T)) (isE p T (madeW p (evF p w) e l S)) := by
 rw [okE_eq] at ho
 obtain ⟨o1, _, o6, o7, _⟩ := ho
 refine zQ rfl rfl rfl (by simp [za, ints]) ?_
 unfold madeW
 by_cases k4 : e.kind = 4
 ·rw [if_pos k4]
  have h1 : l.length = 1 := by
   rw [k4] at o1; simp [zyc] at o1; omega
  obtain ⟨x, hx⟩ := List.length_eq_one_iff.1 h1
  subst hx
  have hone := one_spec e.op x []
  rw [one_eqC] at hone
  have e0 : at0 [x] = x := rfl
  rw [e0]
  replace k4 := eqp k4
  clear o1 o6 o7 hk
  simp [*, F161, za, ints, zc]
 rw [if_neg k4]
 by_cases k6 : e.kind = 6
 ·rw [if_pos k6]
  have h1 : l.length = 1 := by
   rw [k6] at o1; simp [zyc] at o1; omega
  obtain ⟨x, hx⟩ := List.length_eq_one_iff.1 h1
  subst hx
  have e0 : at0 [x] = x := rfl
  rw [e0]
  obtain ⟨i, row, a1, a2, a3, a4⟩ := arr_at hS (o6 k6)
  have hc := cell_spec (v := v) (T := T) x a3 a4
  have hr := sto_row (v := v) (T := T) (p := p) a3
  unfold cellAt
  rw [a1]
  simp only [Int.toNat_natCast, a3, Option.bind_some]
  by_cases hx : 0 <= x /\ x < row.length
  ·rw [if_pos hx] at hc
   have hn : ¬ x < 0 := by omega
   have hlt : x.toNat < row.length := by omega
   rw [if_neg hn]
   obtain ⟨y, hy⟩ : ∃ y, row[x.toNat]? = some y := ⟨_, List.getElem?_eq_getElem hlt⟩
   rw [hy]
   replace k6 := eqp k6
   replace k4 := eqn k4
   clear o1 o6 o7 hk hx hn hlt
   simp [*, F161, za, ints, zc]
  ·rw [if_neg hx] at hc
   have hnone : (if x < 0 then none else row[x.toNat]?) = none := by
    split
    ·rfl
    ·rw [List.getElem?_eq_none]; omega
   rw [hnone]
   replace k6 := eqp k6
   replace k4 := eqn k4
   clear o1 o6 o7 hk hx hnone
   simp [*, F161, za, ints, zc]
 rw [if_neg k6]
 by_cases k8 : e.kind = 8
 ·rw [if_pos k8]
  have hr := read_spec p S v T
  replace k4 := eqn k4
  replace k6 := eqn k6
  replace k8 := eqp k8
  clear o1 o6 o7 hk
  cases hi : S.inp with
  | nil => rw [hi] at hr; simp [*, F161, za, ints, zc]
  | cons n r => rw [hi] at hr; simp [*, F161, za, ints, zc]
 rw [if_neg k8]
 by_cases k7 : e.kind = 7
 ·rw [if_pos k7]
  obtain ⟨f, hf, hfl⟩ := o7 k7
  have hpl := zje p e.name [] (by have := hP.sz.2.1; omega)
  rcases zkb (fun f : Func => decide (f.name = e.name)) p.funcs with ⟨a1, a2⟩ | ⟨n, g, a1, a2, a3, a4, a5⟩
  ·have a2 : zSa p e.name = none := a2
   rw [a2] at hf; cases hf
  have a3 : zSa p e.name = some g := a3
  have a1 : zla p e.name = n := a1
  rw [a3, Option.some.injEq] at hf
  subst hf
  rw [a3]
  simp only
  rw [a1] at hpl
  have hcall := vcall_of hP hB (List.mem_of_getElem? a2) (v := v) hS hw (hl.trans hfl.symm) hT
  generalize callW (evF p w) g l S = q at *
  obtain ⟨a, S1⟩ := q
  obtain ⟨v1, hcall⟩ := zde hcall
  simp [zm, ints] at hcall
  simp [zf, funcs] at hpl
  replace k4 := eqn k4
  replace k6 := eqn k6
  replace k8 := eqn k8
  replace k7 := eqp k7
  clear o1 o6 o7 hk a3 a4 a5 a1 hB hP
  cases a <;> simp at hcall <;> simp [*, F161, za, ints, zc, zm, funcs]
 rw [if_neg k7]
 have k5 : e.kind = 5 := by
  by_cases k5 : e.kind = 5
  ·exact k5
  ·exfalso
   unfold zyc at o1
   rw [if_neg (by omega), if_neg (by omega), if_neg (by omega), if_neg k4, if_neg k5, if_neg k6, if_neg k7, if_neg k8] at o1
   cases o1
 have h2 : l.length = 2 := by
  rw [k5] at o1; simp [zyc] at o1; omega
 obtain ⟨x, y, hxy⟩ : ∃ x y, l = [x, y] := by
  match h : l, h2 with
  | [x, y], _ => exact ⟨x, y, rfl⟩
 subst hxy
 have e0 : at0 [x, y] = x := rfl
 have e1 : at1 [x, y] = y := rfl
 rw [e0, e1]
 have htwo := two_spec e.op x y []
 rw [two_eqC] at htwo
 have hst := stop_spec 2 (sto p S v T)
 generalize twoC e.op x y = q at *
 obtain ⟨n, ok⟩ := q
 simp only at htwo ⊢
 replace k4 := eqn k4
 replace k6 := eqn k6
 replace k8 := eqn k8
 replace k7 := eqn k7
 clear o1 o6 o7 hk k5
 cases ok <;> simp [*, F161, za, ints, zc]
theorem argsW_len {ev : Ev} {V : Vs} : ∀ (l : List Expr) (acc : List Int) (S : RS) (m : List Int) (S1 : RS), zid ev V l acc S = (.ok m, S1) -> m.length = acc.length + l.length
 | [], acc, S, m, S1, h => by cases h; rfl
 | x :: r, acc, S, m, S1, h => by
  unfold zid at h
  split at h
  ·have := argsW_len r _ _ _ _ h
   rw [this]; simp; omega
  ·cases h
set_option maxHeartbeats 4000000 in
theorem vexpr_of {p : Prog} (hP : OkP p) {w : Nat} (hE : SpecE p w) (hB : BlockSpec p w) : SpecE p (w + 1) := by
 refine ⟨fun e S v T m r B hS hf ho hw hF hT => ?_⟩
 have hstep := step_spec p S v T (by have := hS.2; omega)
 have hoe := ho
 rw [okE_eq] at ho
 obtain ⟨o1, o3, o6, o7, oa⟩ := ho
 have hla := zxc e.args
 have hwe := zqd e
 refine zQ rfl rfl rfl (by simp [za]) ?_
 simp only [evF]
 cases hfu : S.fuel with
 | zero =>
  rw [hfu] at hstep
  clear o1 o3 o6 o7 oa
  simp [*, F143, za, zc]
 | succ k =>
  rw [hfu] at hstep
  simp only at hstep ⊢
  have hS0 : FitS p { S with fuel := k } := hS.mono ⟨by simp only; omega, by simp only; omega, rfl⟩
  have hf0 : ({ S with fuel := k } : RS).fuel <= w := by simp only; omega
  generalize hSS : ({ S with fuel := k } : RS) = S0 at *
  clear hSS hfu hf hS
  unfold exprW
  by_cases k1 : e.kind = 1
  ·rw [if_pos (.inl k1)]
   replace k1 := eqp k1
   clear o1 o3 o6 o7 oa
   simp [*, F143, za, zc]
  by_cases k2 : e.kind = 2
  ·rw [if_pos (.inr k2)]
   replace k1 := eqn k1
   replace k2 := eqp k2
   clear o1 o3 o6 o7 oa
   simp [*, F143, za, zc]
  rw [if_neg (by omega)]
  by_cases k3 : e.kind = 3
  ·rw [if_pos k3]
   obtain ⟨es, b, f1, f2, f3, f4⟩ := hF.look (o3 k3)
   have g1 := zbe (v := v) (T := T) hS0 r
   have g2 := zbe (v := v) (T := T) hS0 b.box
   rw [f1] at g1
   rw [f3] at g2
   unfold boxO at g2
   replace k1 := eqn k1
   replace k2 := eqn k2
   replace k3 := eqp k3
   clear o1 o3 o6 o7 oa f1 f3 f4
   simp [*, F143, za, zc]
  rw [if_neg k3]
  by_cases k5 : e.kind = 5 /\ (e.op = 18 \/ e.op = 19)
  ·rw [if_pos k5]
   have hsh := vshort_of hE (v := v) hS0 hf0 hoe k5.1 hw hF hT
   generalize shortW (evF p w) e (zD B) S0 = q at *
   obtain ⟨a, S1⟩ := q
   obtain ⟨v1, hsh⟩ := zde hsh
   rw [za] at hsh
   replace k1 := eqn k1
   replace k2 := eqn k2
   replace k3 := eqn k3
   obtain ⟨k5, hop⟩ := k5
   replace k5 := eqp k5
   clear o1 o3 o6 o7 oa hoe hE hB hP
   rcases hop with hop | hop
   ·replace hop := eqp hop
    cases a <;> simp [zc, hop] at hsh <;> simp [*, F143, za, zc]
   ·have h18 : (e.op = 18) = False := eqn (by omega)
    replace hop := eqp hop
    cases a <;> simp [zc, hop] at hsh <;> simp [*, F143, za, zc]
  rw [if_neg k5]
  have hop : (e.kind = 5) = False \/ ((e.kind = 5) = True /\ (e.op = 18) = False /\ (e.op = 19) = False) := by
   by_cases h : e.kind = 5
   ·exact .inr ⟨eqp h, eqn (fun h' => k5 ⟨h, .inl h'⟩), eqn (fun h' => k5 ⟨h, .inr h'⟩)⟩
   ·exact .inl (eqn h)
  have hmade : ∀ l S1 v1, zid (evF p w) (zD B) e.args [] S0 = (.ok l, S1) -> PC (zi E 161 [.ptr 1 0 0, zp e, ints l] (sto p (zO S1) v1 T)) (isE p T (madeW p (evF p w) e l (zO S1))) := by
   intro l S1 v1 h
   have hm := (argsW_mono (zUb p w) (zD B) e.args [] S0).1
   rw [h] at hm
   exact vmade_of hP hB (hS0.mono hm).cost (Nat.le_trans hm.fuel hf0) (by have := argsW_len _ _ _ _ _ h; simpa using this) hoe (by omega) hT
  have hin : ∀ x ∈ e.args, ∀ S1 v1, FitS p S1 -> S1.fuel <= w -> PC (zi E 143 [.ptr 1 0 0, zp x, .mp (nb p + r)] (sto p S1 v1 T)) (isE p T ((evF p w).expr x (zD B) S1)) := by
   intro x hx S1 v1 h1 h2
   have := zUa hx
   exact hE.expr x S1 v1 T m r B h1 h2 (zQd oa hx) (by omega) hF hT
  replace k1 := eqn k1
  replace k2 := eqn k2
  replace k3 := eqn k3
  clear o1 o3 o6 o7 oa hoe hE hB hP hF hT k5
  -- the loop through the parts
  have key : ∀ {cf : zC} (h5 : (e.kind = 5) = False \/ ((e.kind = 5) = True /\ (e.op = 18) = False /\ (e.op = 19) = False)), True := fun _ => trivial
  clear key
  rcases hop with k5 | ⟨k5, k18, k19⟩
  all_goals
   simp [*, F143, za, zc]
   refine zDa K143_0 B143_0 (fun c : CS => c.rest.length) (fun c => [(7, acc 1 (c.acc.map (PV.int .i64))), (52, .int .i64 c.acc.length)]) (fun c => []) (fun c => sto p c.S c.v T)
    (fun c => ∃ d, e.args = d ++ c.rest /\ d.length = c.acc.length /\ zid (evF p w) (zD B) e.args [] S0 = zid (evF p w) (zD B) c.rest c.acc c.S /\ FitS p c.S /\ c.S.fuel <= w) ⟨e.args, [], S0, v⟩ ?_ ?_
   ·simp [hS0, hf0]
   ·rintro ⟨rest, ac, S1, v1⟩ s1 ⟨d, d1, d2, d3, d4, d5⟩ g1 g2 g3 g4 g5
    simp at d1 d2 d3 d4 d5 g1 g2 g3 g4 g5
    cases rest with
    | nil =>
     have hlen : ac.length = e.args.length := by rw [d1, <- d2]; simp
     have d3' : zid (evF p w) (zD B) e.args [] S0 = (.ok ac, S1) := d3
     have hm := hmade ac S1 v1 d3'
     rw [d3']
     simp only
     generalize madeW p (evF p w) e ac (zO S1) = q at *
     obtain ⟨a, S2⟩ := q
     obtain ⟨v2, hm⟩ := zde hm
     rw [za] at hm
     clear hmade hin d1 d2 d3 d3' d4 d5 hstep
     cases a <;> simp [zc, ints] at hm <;> simp [*, zc]
    | cons x rest =>
     have hx : e.args[ac.length]? = some x := by rw [d1, <- d2]; simp
     have hlt : (ac.length : Int) < e.args.length := by rw [d1, <- d2]; simp; omega
     have hc := hin x (by rw [d1]; simp) S1 v1 d4 d5
     have hm := ((zUb p w).expr x (zD B) S1).1
     have hwr : zB .i64 ((ac.length : Int) + 1) = (ac.length : Int) + 1 := zj (by omega) (by unfold capE at hw; omega)
     have hroom : (ac.length + 1) * 8 <= zw := by simp only [zw]; unfold capE at hw; omega
     have d3' : zid (evF p w) (zD B) e.args [] S0 = (match (evF p w).expr x (zD B) S1 with
      | (.ok n, S2) => zid (evF p w) (zD B) rest (ac ++ [n]) S2
      | (.stop k, S2) => (.stop k, S2)) := d3
     generalize (evF p w).expr x (zD B) S1 = q at *
     obtain ⟨a, S2⟩ := q
     obtain ⟨v2, hc⟩ := zde hc
     rw [za] at hc
     have d6 := d4.mono hm
     have d7 : S2.fuel <= w := Nat.le_trans hm.fuel d5
     clear hmade hin d3 d4 d5 hm hstep
     cases a with
     | stop k =>
      simp only at d3'
      rw [d3']
      simp [zc] at hc
      clear d1 d2 d3'
      simp [*, za, zc]
     | ok n =>
      simp only at d3'
      simp [zc] at hc
      replace hlt := eqp hlt
      have hex : ∃ d', e.args = d' ++ rest /\ d'.length = ac.length + 1 := ⟨d ++ [x], by rw [d1]; simp, by simp [d2]⟩
      clear d1 d2
      simp [*, za, zc]
      refine ⟨⟨rest, ac ++ [n], S2, v2⟩, ?_⟩
      simp [*]
end PE.U

namespace PE.U
open Go PE
theorem clone_spec {r : Nat} {es : List (PV × PV)} {σ : ze} (h : σ[r]? = some (.mp es)) : zi E 119 [.mp r] σ = some (.ret (.mp σ.length), σ ++ [.mp es]) := by
 rw [pcall_ext (E := E) (f := 119) (g := cloneX) rfl]
 simp [cloneX, h]
theorem isS_get {p : Prog} {T : ze} {m r : Nat} {B : List Bnd} {q : Rt (How × Vs) × RS} {x : Option (CRes × ze)} (h : PC x (isS p T m r B q)) : ∃ v T', x = some (outH q.1, sto p q.2 v T') /\ Keep m (some r) T T' ∧
  ∀ h V1, q.1 = .ok (h, V1) -> (∀ n, h = .ret n -> v = n) /\ BkR p T T' m r B V1 (fun _ => True) := by
 obtain ⟨r, st, e, v, T', rfl, rfl, h1, h2⟩ := zYd.1 h
 exact ⟨v, T', e, h1, h2⟩
structure BSt where
 rest : List Stmt
 S : RS
 v : Int
 T : ze
 B : List Bnd
theorem FR_back {p : Prog} {T T' : ze} {m r : Nat} {B B' : List Bnd} {es : List (PV × PV)} (hF : FR p T m r B) (hk : Keep m none T T') (hF' : FR p T' m T.length B') {a : List (List UInt8 × Nat)} (ha : zfb B' = a ++ zfb B) :
  FR p (T'.take T.length) m r (B'.drop (B'.length - B.length)) /\ zfb (B'.drop (B'.length - B.length)) = zfb B := by
 have hl : B'.length = a.length + B.length := by
  have := congrArg List.length ha
  simpa [zfb] using this
 have hkeys : zfb (B'.drop (B'.length - B.length)) = zfb B := by
  have : zfb (B'.drop (B'.length - B.length)) = (zfb B').drop (B'.length - B.length) := by simp [zfb, List.map_drop]
  rw [this, ha, hl]
  have : a.length + B.length - B.length = a.length := by omega
  rw [this, List.drop_left]
 refine ⟨⟨?_, ?_, ?_, hF.lo⟩, hkeys⟩
 ·obtain ⟨es, h1, hs, h2⟩ := hF.map
  have hr := (List.getElem?_eq_some_iff.1 h1).1
  refine ⟨es, ?_, hs, fun x => ?_⟩
  ·rw [List.getElem?_take, if_pos hr]
   rcases hk.2 r hr (by simp) with q | ⟨_, a, b, q, _⟩
   ·rw [q, h1]
   ·rw [h1] at q; simp [boxO] at q
  ·rw [h2]
   have := lookB_box hkeys x
   congr 1
   have e1 : (zed x B).map (fun b => PV.ptr (nb p + b.box) 0 0) = ((zed x B).map (·.box)).map (fun i => PV.ptr (nb p + i) 0 0) := by rw [Option.map_map]; rfl
   have e2 : (zed x (B'.drop (B'.length - B.length))).map (fun b => PV.ptr (nb p + b.box) 0 0) = ((zed x (B'.drop (B'.length - B.length))).map (·.box)).map (fun i => PV.ptr (nb p + i) 0 0) := by rw [Option.map_map]; rfl
   rw [e1, e2, this]
 ·intro b hb
  obtain ⟨h1, h2⟩ := hF'.val b (List.mem_of_mem_drop hb)
  refine ⟨?_, h2⟩
  have hbk : (b.name, b.box) ∈ zfb B := by rw [<- hkeys]; exact List.mem_map.2 ⟨b, hb, rfl⟩
  obtain ⟨c, hc, hcb⟩ := List.mem_map.1 hbk
  have := (hF.val c hc).1
  have hlt := (List.getElem?_eq_some_iff.1 this).1
  have e : c.box = b.box := congrArg Prod.snd hcb
  rw [List.getElem?_take, if_pos (by omega)]
  exact h1
 ·have h := hF'.nd
  exact List.Nodup.sublist (List.Sublist.map _ (List.drop_sublist _ _)) h
theorem FR_clone {p : Prog} {T : ze} {m r : Nat} {B : List Bnd} {es : List (PV × PV)} (hF : FR p T m r B) (h : T[r]? = some (.mp es)) : FR p (T ++ [.mp es]) m T.length B := by
 obtain ⟨es', h1, hs, h2⟩ := hF.map
 rw [h, Option.some.injEq, Obj.mp.injEq] at h1
 subst h1
 refine ⟨⟨es, by simp, hs, h2⟩, ?_, hF.nd, ?_⟩
 ·intro b hb
  obtain ⟨h3, h4⟩ := hF.val b hb
  have := (List.getElem?_eq_some_iff.1 h3).1
  exact ⟨by rw [List.getElem?_append_left this]; exact h3, h4⟩
 ·have := hF.lo; have := hF.lt; omega
theorem WT_clone {p : Prog} {T : ze} {r : Nat} {es : List (PV × PV)} (hT : WT p T) (h : T[r]? = some (.mp es)) : WT p (T ++ [.mp es]) := by
 unfold WT
 rw [wf_app, Bool.and_eq_true]
 refine ⟨wf_le (by simp) hT, ?_⟩
 have : (Obj.mp es).below (nb p + T.length) = true := by
  unfold WT ze.wf at hT
  rw [List.all_eq_true] at hT
  exact hT _ (List.mem_of_getElem? h)
 simp only [ze.wf, List.all_cons, List.all_nil, Bool.and_true]
 exact below_le (by simp) _ this
theorem Keep.take' {m : Nat} {T T' : ze} (h : Keep m none T T') : Keep m none T (T'.take T.length) := by
 refine ⟨by have := h.1; simp; omega, fun j hj hx => ?_⟩
 rw [List.getElem?_take, if_pos hj]
 exact h.2 j hj hx
theorem Keep.then {m : Nat} {T T1 T2 : ze} (h : Keep m none T T1) (k : Keep m (some T.length) T1 T2) : Keep m none T T2 := by
 refine ⟨Nat.le_trans h.1 k.1, fun j hj _ => ?_⟩
 have h1 := h.2 j hj (by simp)
 have h2 := k.2 j (by have := h.1; omega) (by simp; omega)
 rcases h1 with h1 | ⟨hm, a, b, h1, h1'⟩ <;> rcases h2 with h2 | ⟨hm', c, d, h2, h2'⟩
 ·exact .inl (h2.trans h1)
 ·exact .inr ⟨hm', c, d, by rw [<- h1]; exact h2, h2'⟩
 ·exact .inr ⟨hm, a, b, h1, by rw [h2]; exact h1'⟩
 ·exact .inr ⟨hm, a, d, h1, h2'⟩
theorem vals_drop (B : List Bnd) (n : Nat) : zD (B.drop n) = (zD B).drop n := by simp [zD, List.map_drop]
theorem vals_len (B : List Bnd) : (zD B).length = B.length := by simp [zD]
theorem wt_mem' {x : Stmt} {l : List Stmt} (h : x ∈ l) (hw : wtSs l < capE) : wtS x < capE := by
 have := zxe h; omega
set_option maxHeartbeats 4000000 in
theorem vblock_of {p : Prog} {w : Nat} (hX : SpecS p w) : BlockSpec p w := by
 refine ⟨fun l S v T m r B loop hS hf ho hw hF hT => ?_⟩
 have hlen := zza l
 obtain ⟨es, he1, _, he2⟩ := hF.map
 have hg := zbe (v := v) (T := T) hS r
 rw [he1] at hg
 have hcl := clone_spec hg
 rw [zsd hS, zGc] at hcl
 have hF0 := FR_clone hF he1
 have hT0 := WT_clone hT he1
 refine zQ rfl rfl rfl (by simp [zh]) ?_
 have hsl := zsd (v := v) (T := T) hS
 -- the end: what is told
 have hend : ∀ (S1 : RS) (v1 : Int) (T1 : ze), FitS p S1 -> Keep m none T T1 -> (sto p S1 v1 T1).take (nb p + T.length) = sto p S1 v1 (T1.take T.length) /\ ze.wf (nb p + T.length) (sto p S1 v1 (T1.take T.length)) = true /\ nb p + T.length <= (sto p S1 v1 T1).length := by
  intro S1 v1 T1 h1 h2
  refine ⟨sto_take h1 _, sto_wf h1 (by omega) (h2.wf hT), ?_⟩
  rw [zsd h1]; have := h2.1; omega
 have hstop : ∀ (k : Int) (S1 : RS) (v1 : Int) (T1 : ze), Keep m none T T1 -> isBk p T m r B (.stop k, S1) (.pan (endV k)) (sto p S1 v1 (T1.take T.length)) := by
  intro k S1 v1 T1 h
  exact ⟨v1, _, rfl, rfl, h.take', by have := h.1; simp; omega, fun _ _ e => by cases e⟩
 have hok : ∀ (h : How) (S1 : RS) (v1 : Int) (T1 : ze) (B1 : List Bnd) (a : List (List UInt8 × Nat)), Keep m none T T1 -> (∀ n, h = .ret n -> v1 = n) -> FR p T1 m T.length B1 -> zfb B1 = a ++ zfb B →
   isBk p T m r B (.ok (h, (zD B1).drop ((zD B1).length - (zD B).length)), S1) (.ret (.int .i64 (howN h))) (sto p S1 v1 (T1.take T.length)) := by
  intro h S1 v1 T1 B1 a hk hv hF1 ha
  obtain ⟨q1, q2⟩ := FR_back hF hk hF1 ha (es := es)
  refine ⟨v1, _, rfl, rfl, hk.take', by have := hk.1; simp; omega, ?_⟩
  intro h' V1 e
  cases e
  refine ⟨hv, ⟨_, [], ?_, q1, q2, rfl⟩, ?_⟩
  ·rw [vals_drop, vals_len, vals_len]
  ·have := hk.wf hT
   unfold WT
   rw [List.length_take]
   have := hk.1
   rw [Nat.min_eq_left this]
   assumption
 have hrs : ∀ x ∈ l, ∀ S1 v1 T1 B1 loop, FitS p S1 -> S1.fuel <= w -> okS p (B1.map (·.name)) loop x -> FR p T1 m T.length B1 -> WT p T1 -> PC (zi E 120 [.ptr 1 0 0, zda x, .mp (nb p + T.length)] (sto p S1 v1 T1)) (isS p T1 m T.length B1 ((evF p w).stmt x (zD B1) S1)) := by
  intro x hx S1 v1 T1 B1 loop h1 h2 h3 h4 h5
  exact hX.stmt x S1 v1 T1 m T.length B1 loop h1 h2 h3 (wt_mem' hx hw) h4 h5
 have hr : T.length = T.length := rfl
 clear hX hg
 unfold capE at hw
 simp [*, F95, zh]
 refine zDa K95_0 B95_0 (fun c : BSt => c.rest.length) (fun c => [(14, .int .i64 ((l.length - c.rest.length : Nat) : Int))]) (fun c => []) (fun c => sto p c.S c.v c.T)
  (fun c => (∃ d, l = d ++ c.rest) /\ zyb (evF p w) l (zD B) S = zyb (evF p w) c.rest (zD c.B) c.S /\ FitS p c.S /\ c.S.fuel <= w /\ Keep m none T c.T /\ FR p c.T m T.length c.B /\ WT p c.T /\ (∃ a, zfb c.B = a ++ zfb B) /\ okB p (c.B.map (·.name)) loop c.rest) ⟨l, S, v, T ++ [.mp es], B⟩ ?_ ?_
 ·have hk0 : Keep m none T (T ++ [.mp es]) := ⟨by simp, fun j hj _ => .inl (List.getElem?_append_left hj)⟩
  simp [*]
 ·rintro ⟨rest, S1, v1, T1, B1⟩ s1 ⟨⟨d, d1⟩, d2, d3, d4, d5, d6, d7, ⟨a, d8⟩, d9⟩ g1 g2 g3 g4 g5
  simp at d1 d2 d3 d4 d5 d6 d7 d8 d9 g1 g2 g3 g4 g5
  obtain ⟨e1, e2, e3⟩ := hend S1 v1 T1 d3 d5
  cases rest with
  | nil =>
   have hi : ((l.length - 0 : Nat) : Int) = l.length := by simp
   have hb : zba (evF p w) l (zD B) S = (.ok (.on, (zD B1).drop ((zD B1).length - (zD B).length)), S1) := by
    unfold zba; rw [d2]; rfl
   rw [hb]
   have hfin := hok .on S1 v1 T1 B1 a d5 (fun _ h => by cases h) d6 d8
   simp [howN] at hfin
   clear hend hstop hok hrs d2 d3 d4 d5 d6 d7 d8 d9 hF0 hT0 hF hT hb he1 he2
   simp [*, fin]
  | cons x rest =>
   have hdl : l.length - (rest.length + 1) = d.length := by rw [d1]; simp
   have hdl2 : l.length - rest.length = d.length + 1 := by rw [d1]; simp; omega
   have hx : l[d.length]? = some x := by rw [d1]; simp
   have hlt : (d.length : Int) < l.length := by rw [d1]; simp; omega
   rw [okB] at d9
   have hc := hrs x (by rw [d1]; simp) S1 v1 T1 B1 loop d3 d4 d9.1 d6 d7
   have hm := ((zUb p w).stmt x (zD B1) S1)
   have hwr : zB .i64 ((d.length : Int) + 1) = (d.length : Int) + 1 := zj (by omega) (by omega)
   have d2' : zyb (evF p w) l (zD B) S = (match (evF p w).stmt x (zD B1) S1 with
    | (.ok (.on, V1), S2) => zyb (evF p w) rest V1 S2
    | (.ok (h, V1), S2) => (.ok (h, V1), S2)
    | (.stop k, S2) => (.stop k, S2)) := d2
   generalize (evF p w).stmt x (zD B1) S1 = q at *
   obtain ⟨y, S2⟩ := q
   obtain ⟨v2, T2, hc, hk2, hc2⟩ := isS_get hc
   rw [zb] at hc
   have d6' := d3.mono hm.1
   have d7' : S2.fuel <= w := Nat.le_trans hm.1.fuel d4
   have hkk : Keep m none T T2 := d5.then hk2
   obtain ⟨e4, e5, e6⟩ := hend S2 v2 T2 d6' hkk
   have hstop2 := fun k => hstop k S2 v2 T2 hkk
   have hok2 := fun h B2 a => hok h S2 v2 T2 B2 a hkk
   clear hrs hend hstop hok he1 he2 hF0 hT0 hF hT d5 hk2 d2 d3 d4 d6 d7 e1 e2 e3 hS hf ho hcl hsl
   cases y with
   | stop k =>
    simp only at d2'
    have hb : zba (evF p w) l (zD B) S = (.stop k, S2) := by
     unfold zba; rw [d2']
    rw [hb]
    have := hstop2 k
    simp [outH, zc, zh] at hc
    clear hc2 hok2 hstop2 d1 d8 d9 d2' hb hm hdl2
    simp [*, zb, zc, zh, finPan, endV_below]
   | ok y =>
    obtain ⟨h, V1⟩ := y
    obtain ⟨hv, ⟨B2, a2, b1, b2, b3, _⟩, hT2⟩ := hc2 h V1 rfl
    subst b1
    have hnm := (hm.2 h (zD B2) rfl).2
    rw [names_valsB, names_valsB] at hnm
    have b4 : ∃ a, zfb B2 = a ++ zfb B := ⟨a2 ++ a, by rw [b3, d8]; simp⟩
    have hfin : h ≠ .on -> isBk p T m r B (zba (evF p w) l (zD B) S) (.ret (.int .i64 (howN h))) (sto p S2 v2 (T2.take T.length)) := by
     intro hne
     have hb : zba (evF p w) l (zD B) S = (.ok (h, (zD B2).drop ((zD B2).length - (zD B).length)), S2) := by
      unfold zba; rw [d2']
      cases h <;> first | exact absurd rfl hne | rfl
     rw [hb]
     obtain ⟨a3, b4⟩ := b4
     exact hok2 h B2 a3 hv b2 b4
    have d9' : okB p (B2.map (·.name)) loop rest := by rw [hnm]; exact d9.2
    clear hc2 hok2 hstop2 hv hm
    have hdd : ∃ d', l = d' ++ rest := ⟨d ++ [x], by rw [d1]; simp⟩
    cases h with
    | on =>
     simp [outH, howN, zc, zh] at hc
     simp only at d2'
     clear hfin d1 d8 d9 b3 hnm
     simp [*, zb, zc, zh]
     refine ⟨⟨rest, S2, v2, T2, B2⟩, ?_⟩
     simp [*]
    | brk =>
     replace hfin := hfin (by simp)
     simp [outH, howN, zc, zh] at hc hfin
     clear d1 d8 d9 b3 d2' hdd b4 d9'
     generalize zba (evF p w) l (zD B) S = z at *
     simp [*, zb, zc, zh, fin]
    | cont =>
     replace hfin := hfin (by simp)
     simp [outH, howN, zc, zh] at hc hfin
     clear d1 d8 d9 b3 d2' hdd b4 d9'
     generalize zba (evF p w) l (zD B) S = z at *
     simp [*, zb, zc, zh, fin]
    | ret n =>
     replace hfin := hfin (by simp)
     simp [outH, howN, zc, zh] at hc hfin
     clear d1 d8 d9 b3 d2' hdd b4 d9'
     generalize zba (evF p w) l (zD B) S = z at *
     simp [*, zb, zc, zh, fin]
end PE.U

namespace PE.U
open Go PE
structure LSt where
 k : Nat
 S : RS
 v : Int
 T : ze
 B : List Bnd
structure LoopSpec (p : Prog) (w : Nat) : Prop where
 loop : ∀ s S v T m r B loop, FitS p S -> S.fuel <= w -> s.kind = 5 -> okS p (B.map (·.name)) loop s -> wtS s < capE -> FR p T m r B -> WT p T →
  PC (zi E 142 [.ptr 1 0 0, zda s, .mp (nb p + r)] (sto p S v T)) (isBk p T m r B (zlc (evF p w) (arg0 s.args) s.thn (w + 1) (zD B) S))
theorem arg0_one {l : List Expr} (h : l.length = 1) : l[0]? = some (arg0 l) /\ arg0 l ∈ l := by
 obtain ⟨x, rfl⟩ := List.length_eq_one_iff.1 h
 simp [arg0]
theorem isBk_ret {p : Prog} {T T1 : ze} {m r : Nat} {B B1 : List Bnd} {h : How} {S1 : RS} {v1 : Int} (hk : Keep m none T T1) (hl : T1.length = T.length) (hv : ∀ n, h = .ret n -> v1 = n) (hF : FR p T1 m r B1) (hT : WT p T1) (ha : zfb B1 = zfb B) :
  isBk p T m r B (.ok (h, zD B1), S1) (.ret (.int .i64 (howN h))) (sto p S1 v1 T1) :=
 ⟨v1, T1, rfl, rfl, hk, hl, fun h' V1 e => by cases e; exact ⟨hv, ⟨B1, [], rfl, hF, ha, rfl⟩, hT⟩⟩
theorem isBk_stop {p : Prog} {T T1 : ze} {m r : Nat} {B : List Bnd} {k : Int} {S1 : RS} {v1 : Int} (hk : Keep m none T T1) (hl : T1.length = T.length) :
  isBk p T m r B (.stop k, S1) (.pan (endV k)) (sto p S1 v1 T1) :=
 ⟨v1, T1, rfl, rfl, hk, hl, fun h' V1 e => by cases e⟩
set_option maxHeartbeats 4000000 in
theorem vloop_of {p : Prog} {w : Nat} (hE : SpecE p w) (hB : BlockSpec p w) : LoopSpec p w := by
 refine ⟨fun s S v T m r B loop hS hf hk ho hw hF hT => ?_⟩
 rw [okS_eq] at ho
 obtain ⟨_, o2, o3, _, _, _, o7, _⟩ := ho
 have hl1 : s.args.length = 1 := by rw [hk] at o2; simp [zM] at o2; omega
 obtain ⟨g0, gm⟩ := arg0_one hl1
 have hwe := zUa gm
 rw [zxb] at hw
 have oe := zQd o3 gm
 have hadd : zKb s = [] := if_neg (by omega)
 rw [hadd, List.nil_append] at o7
 clear o2 o3 gm
 generalize arg0 s.args = c0 at *
 have hex : ∀ S1 v1 T1 B1, FitS p S1 -> S1.fuel <= w -> zfb B1 = zfb B -> FR p T1 m r B1 -> WT p T1 -> PC (zi E 143 [.ptr 1 0 0, zp c0, .mp (nb p + r)] (sto p S1 v1 T1)) (isE p T1 ((evF p w).expr c0 (zD B1) S1)) := by
  intro S1 v1 T1 B1 h1 h2 h3 h4 h5
  exact hE.expr c0 S1 v1 T1 m r B1 h1 h2 (by rw [keysB_names h3]; exact oe) (by omega) h4 h5
 have hbl : ∀ S1 v1 T1 B1, FitS p S1 -> S1.fuel <= w -> zfb B1 = zfb B -> FR p T1 m r B1 -> WT p T1 -> PC (zi E 95 [.ptr 1 0 0, zh s.thn, .mp (nb p + r)] (sto p S1 v1 T1)) (isBk p T1 m r B1 (zba (evF p w) s.thn (zD B1) S1)) := by
  intro S1 v1 T1 B1 h1 h2 h3 h4 h5
  exact hB.block s.thn S1 v1 T1 m r B1 _ h1 h2 (by rw [keysB_names h3]; exact o7) (by omega) h4 h5
 clear hE hB o7 oe hwe hw hl1
 refine zQ rfl rfl rfl (by simp [zb]) ?_
 simp [F142, zb, zc]
 refine zDa K142_0 B142_0 (fun c : LSt => c.S.fuel) (fun c => []) (fun c => []) (fun c => sto p c.S c.v c.T)
  (fun c => c.S.fuel < c.k /\ zlc (evF p w) c0 s.thn (w + 1) (zD B) S = zlc (evF p w) c0 s.thn c.k (zD c.B) c.S /\ FitS p c.S /\ c.S.fuel <= w /\ Keep m none T c.T /\ c.T.length = T.length /\ FR p c.T m r c.B /\ WT p c.T /\ zfb c.B = zfb B) ⟨w + 1, S, v, T, B⟩ ?_ ?_
 ·have := Keep.refl m none T
  have : S.fuel < w + 1 := by omega
  simp [*]
 ·rintro ⟨k, S1, v1, T1, B1⟩ s1 ⟨d1, d2, d3, d4, d5, d5', d6, d7, d8⟩ q1 q2 q3 q4 q5
  simp at d1 d2 d3 d4 d5 d5' d6 d7 d8 q1 q2 q3 q4 q5
  obtain ⟨k, rfl⟩ : ∃ k', k = k' + 1 := ⟨k - 1, by omega⟩
  have hc := hex S1 v1 T1 B1 d3 d4 d8 d6 d7
  have hm := (zUb p w).expr c0 (zD B1) S1
  have d2' : zlc (evF p w) c0 s.thn (w + 1) (zD B) S = (match (evF p w).expr c0 (zD B1) S1 with
   | (.stop j, S1) => (.stop j, S1)
   | (.ok n, S1) => if n = 0 then (.ok (.on, zD B1), S1) else
    match zba (evF p w) s.thn (zD B1) S1 with
    | (.ok (.brk, V1), S2) => (.ok (.on, V1), S2)
    | (.ok (.ret m, V1), S2) => (.ok (.ret m, V1), S2)
    | (.ok (_, V1), S2) => zlc (evF p w) c0 s.thn k V1 S2
    | (.stop j, S2) => (.stop j, S2)) := d2
  generalize (evF p w).expr c0 (zD B1) S1 = q at *
  obtain ⟨a, S2⟩ := q
  obtain ⟨v2, hc⟩ := zde hc
  rw [za] at hc
  obtain ⟨m1, m2⟩ := hm
  have e3 := d3.mono m1
  cases a with
  | stop j =>
   simp only at d2'
   have hfin := isBk_stop (p := p) (r := r) (B := B) (k := j) (S1 := S2) (v1 := v2) d5 d5'
   rw [<- d2'] at hfin
   simp [zc] at hc
   clear hex hbl d1 d2 d2' d3 d4 d5 d6 d7 d8 m1 m2 e3
   simp [*, za, zc]
  | ok n =>
   simp only at d2'
   replace m2 := m2 n rfl
   simp only at m2
   simp [zc] at hc
   by_cases hn : n = 0
   ·rw [if_pos hn] at d2'
    have hfin := isBk_ret (S1 := S2) (v1 := v2) (h := .on) d5 d5' (fun n h => by cases h) d6 d7 d8
    rw [<- d2'] at hfin
    simp [howN] at hfin
    replace hn := eqp hn
    clear hex hbl d1 d2 d2' d3 d4 d5 d6 d7 d8 m1 m2 e3
    generalize zlc (evF p w) c0 s.thn (w + 1) (zD B) S = z at *
    simp [*, za, zc]
   ·rw [if_neg hn] at d2'
    have hb := hbl S2 v2 T1 B1 e3 (Nat.le_trans m1.fuel d4) d8 d6 d7
    have hbm := (zdc (zUb p w) s.thn (zD B1) S2).1
    generalize zba (evF p w) s.thn (zD B1) S2 = q at *
    obtain ⟨b, S3⟩ := q
    obtain ⟨v3, T3, hb, hk3, hl3, hb3⟩ := isBk_get hb
    have e5 := d5.trans hk3
    have e5' : T3.length = T.length := hl3.trans d5'
    have e4 := e3.mono hbm
    have f3 : S3.fuel <= w := Nat.le_trans hbm.fuel (Nat.le_trans m1.fuel d4)
    have f4 : S3.fuel < S1.fuel := by have := hbm.fuel; simp only at this; omega
    have f5 : S3.fuel < k := by omega
    replace hn := eqn hn
    clear hex hbl d2 d3 d4 d5 d5' d6 d7 hk3 hl3 m1 hbm e3
    cases b with
    | stop j =>
     simp only at d2'
     have hfin := isBk_stop (p := p) (r := r) (B := B) (k := j) (S1 := S3) (v1 := v3) e5 e5'
     rw [<- d2'] at hfin
     simp [outH] at hb
     clear hb3 d1 d2' e4 e5 e5' f3 f4 f5 d8 m2
     generalize zlc (evF p w) c0 s.thn (w + 1) (zD B) S = z at *
     simp [*, za, zc]
    | ok y =>
     obtain ⟨h, V1⟩ := y
     obtain ⟨hv, ⟨B3, a3, b1, b2, b3, b4⟩, hT3⟩ := hb3 h V1 rfl
     subst b1
     rw [b4, List.nil_append] at b3
     replace b3 := b3.trans d8
     clear hb3 b4 d1 d8 m2
     cases h with
     | on =>
      simp [outH, howN] at hb
      simp only at d2'
      clear hv
      simp [*, za, zc]
      refine ⟨⟨k, S3, v3, T3, B3⟩, ?_⟩
      simp [*]
     | cont =>
      simp [outH, howN] at hb
      simp only at d2'
      clear hv
      simp [*, za, zc]
      refine ⟨⟨k, S3, v3, T3, B3⟩, ?_⟩
      simp [*]
     | brk =>
      simp [outH, howN] at hb
      simp only at d2'
      have hfin := isBk_ret (S1 := S3) (v1 := v3) (h := .on) e5 e5' (fun n h => by cases h) b2 hT3 b3
      rw [<- d2'] at hfin
      simp [howN] at hfin
      clear d2' e4 e5 e5' f3 f4 f5 b2 hT3 b3 hv
      generalize zlc (evF p w) c0 s.thn (w + 1) (zD B) S = z at *
      simp [*, za, zc]
     | ret n' =>
      simp [outH, howN] at hb
      simp only at d2'
      have hfin := isBk_ret (S1 := S3) (v1 := v3) (h := .ret n') e5 e5' hv b2 hT3 b3
      rw [<- d2'] at hfin
      simp [howN] at hfin
      clear d2' e4 e5 e5' f3 f4 f5 b2 hT3 b3 hv
      generalize zlc (evF p w) c0 s.thn (w + 1) (zD B) S = z at *
      simp [*, za, zc]
theorem isS_of_isBk {p : Prog} {T : ze} {m r : Nat} {B : List Bnd} {q : Rt (How × Vs) × RS} {res : CRes} {st : ze} (h : isBk p T m r B q res st) : isS p T m r B q res st := by
 obtain ⟨v, T', e1, e2, h1, h2, h3⟩ := h
 refine ⟨v, T', e1, e2, h1.weaken, fun h V1 e => ?_⟩
 obtain ⟨g1, ⟨B1, a, g2, g3, g4, g5⟩, g6⟩ := h3 h V1 e
 exact ⟨g1, ⟨B1, a, g2, g3, g4, trivial⟩, g6⟩
theorem isS_stop {p : Prog} {T T1 : ze} {m r : Nat} {B : List Bnd} {k : Int} {S1 : RS} {v1 : Int} (hk : Keep m (some r) T T1) :
  isS p T m r B (.stop k, S1) (.pan (endV k)) (sto p S1 v1 T1) :=
 ⟨v1, T1, rfl, rfl, hk, fun h' V1 e => by cases e⟩
theorem isS_ret {p : Prog} {T T1 : ze} {m r : Nat} {B B1 : List Bnd} {h : How} {S1 : RS} {v1 : Int} (hk : Keep m (some r) T T1) (hv : ∀ n, h = .ret n -> v1 = n) (hF : FR p T1 m r B1) (hT : WT p T1) (ha : ∃ a, zfb B1 = a ++ zfb B) :
  isS p T m r B (.ok (h, zD B1), S1) (.ret (.int .i64 (howN h))) (sto p S1 v1 T1) :=
 ⟨v1, T1, rfl, rfl, hk, fun h' V1 e => by cases e; obtain ⟨a, ha⟩ := ha; exact ⟨hv, ⟨B1, a, rfl, hF, ha, trivial⟩, hT⟩⟩
theorem FR_app {p : Prog} {T L : ze} {m r : Nat} {B : List Bnd} (hF : FR p T m r B) : FR p (T ++ L) m r B := by
 obtain ⟨es, h1, hs, h2⟩ := hF.map
 refine ⟨⟨es, by rw [List.getElem?_append_left (List.getElem?_eq_some_iff.1 h1).1]; exact h1, hs, h2⟩, ?_, hF.nd, hF.lo⟩
 intro b hb
 obtain ⟨h3, h4⟩ := hF.val b hb
 exact ⟨by rw [List.getElem?_append_left (List.getElem?_eq_some_iff.1 h3).1]; exact h3, h4⟩
theorem WT_box {p : Prog} {T : ze} (n : Int) (hT : WT p T) : WT p (T ++ [boxO n]) := by
 unfold WT
 rw [wf_app, Bool.and_eq_true]
 exact ⟨wf_le (by simp) hT, by simp [ze.wf, boxO, Obj.below]⟩
theorem Keep_app {m : Nat} {ex : Option Nat} {T L : ze} : Keep m ex T (T ++ L) := ⟨by simp, fun j hj _ => .inl (List.getElem?_append_left hj)⟩
theorem FR_set {p : Prog} {T : ze} {m r : Nat} {B : List Bnd} {nm : List UInt8} {b : Bnd} (n : Int) (hF : FR p T m r B) (hb : zed nm B = some b) : FR p (T.set b.box (boxO n)) m r (setB nm n B) := by
 obtain ⟨es, h1, hs, h2⟩ := hF.map
 obtain ⟨bm, bn⟩ := lookB_mem hb
 have hbb := (hF.val b bm).1
 have hne : r ≠ b.box := by rintro rfl; rw [h1] at hbb; simp [boxO] at hbb
 refine ⟨⟨es, ?_, hs, fun x => ?_⟩, ?_, ?_, hF.lo⟩
 ·rw [List.getElem?_set_ne (Ne.symm hne)]; exact h1
 ·rw [h2]
  have := lookB_box (keys_set nm n B) x
  congr 1
  have e1 : ∀ C : List Bnd, (zed x C).map (fun b => PV.ptr (nb p + b.box) 0 0) = ((zed x C).map (·.box)).map (fun i => PV.ptr (nb p + i) 0 0) := fun C => by rw [Option.map_map]; rfl
  rw [e1, e1, this]
 ·have hnd := hF.nd
  have hval := hF.val
  have hlt : b.box < T.length := (List.getElem?_eq_some_iff.1 hbb).1
  clear hF h1 h2 hs hne hbb bm
  intro c hc
  induction B with
  | nil => cases hc
  | cons d q ih =>
   simp only [zed] at hb
   simp only [setB] at hc
   simp only [List.map_cons, List.nodup_cons] at hnd
   split at hb
   ·rename_i hd
    cases hb
    rw [if_pos hd] at hc
    rcases List.mem_cons.1 hc with rfl | hc
    ·exact ⟨by rw [List.getElem?_set_self hlt], (hval b (by simp)).2⟩
    ·obtain ⟨v1, v2⟩ := hval c (by simp [hc])
     have : b.box ≠ c.box := fun e => hnd.1 (List.mem_map.2 ⟨c, hc, e.symm⟩)
     exact ⟨by rw [List.getElem?_set_ne this]; exact v1, v2⟩
   ·rename_i hd
    rw [if_neg hd] at hc
    rcases List.mem_cons.1 hc with rfl | hc
    ·obtain ⟨v1, v2⟩ := hval c (by simp)
     have : b.box ≠ c.box := fun e => hnd.1 (List.mem_map.2 ⟨b, (lookB_mem hb).1, e⟩)
     exact ⟨by rw [List.getElem?_set_ne this]; exact v1, v2⟩
    ·exact ih hb hnd.2 (fun z hz => hval z (by simp [hz])) hc
 ·have := hF.nd
  have e : (setB nm n B).map (·.box) = B.map (·.box) := by
   have := congrArg (List.map Prod.snd) (keys_set nm n B)
   simpa [zfb, List.map_map, Function.comp_def] using this
  rw [e]; exact this
theorem wf_set {n j : Nat} {T : ze} {o : Obj} (hT : ze.wf n T = true) (ho : o.below n = true) : ze.wf n (T.set j o) = true := by
 unfold ze.wf at hT ⊢
 rw [List.all_eq_true] at hT ⊢
 intro x hx
 rcases List.mem_or_eq_of_mem_set hx with h | rfl
 ·exact hT x h
 ·exact ho
theorem WT_set {p : Prog} {T : ze} {j : Nat} {n : Int} (hT : WT p T) : WT p (T.set j (boxO n)) := by
 unfold WT
 rw [List.length_set]
 exact wf_set hT (by simp [boxO, Obj.below])
theorem Keep_set {m : Nat} {ex : Option Nat} {T : ze} {j : Nat} {a n : Int} (h : T[j]? = some (boxO a)) (hm : m <= j) : Keep m ex T (T.set j (boxO n)) := by
 refine ⟨by simp, fun i hi _ => ?_⟩
 by_cases e : j = i
 ·subst e
  exact .inr ⟨hm, a, n, h, by rw [List.getElem?_set_self hi]⟩
 ·exact .inl (List.getElem?_set_ne e)
theorem zyd (nm : List UInt8) (u : PV) : ∀ (es : List (PV × PV)), strK es -> ∃ es', zHb true (.str nm) u es = some es' /\ strK es' /\ (∀ n, zdd n es = true -> zy n u = true -> zdd n es' = true) /\ ∀ x, zY true (.str x) es' = if nm = x then some (some u) else zY true (.str x) es
 | [], _ => ⟨_, rfl, fun q h => by simp at h; exact ⟨nm, by rw [h]⟩, fun n _ h => by simp [zdd, h], fun x => by by_cases h : nm = x <;> simp [zY, zWc, h, eq_comm]⟩
 | (k, u0) :: r, hk => by
  obtain ⟨s, hs⟩ := hk (k, u0) (by simp)
  simp only at hs
  subst hs
  by_cases hs : nm = s
  ·subst hs
   refine ⟨(.str nm, u) :: r, by simp [zHb, zWc], ?_, ?_, fun x => ?_⟩
   ·intro q hq
    rcases List.mem_cons.1 hq with rfl | hq
    ·exact ⟨nm, rfl⟩
    ·exact hk q (by simp [hq])
   ·intro n h1 h2
    simp [zdd] at h1 ⊢
    exact ⟨h2, h1.2⟩
   ·by_cases hx : nm = x
    ·subst hx; simp [zY, zWc]
    ·have hx' : ¬ x = nm := fun e => hx e.symm
     rw [if_neg hx]
     simp [zY, zWc, hx']
  ·obtain ⟨es', e1, e2, e3, e4⟩ := zyd nm u r (fun q hq => hk q (by simp [hq]))
   refine ⟨(.str s, u0) :: es', by simp [zHb, zWc, hs, e1], ?_, ?_, fun x => ?_⟩
   ·intro q hq
    rcases List.mem_cons.1 hq with rfl | hq
    ·exact ⟨s, rfl⟩
    ·exact e2 q hq
   ·intro n h1 h2
    simp [zdd] at h1 ⊢
    exact ⟨h1.1, e3 n h1.2 h2⟩
   ·by_cases hx : x = s
    ·subst hx
     rw [if_neg hs]
     simp [zY, zWc]
    ·simp [zY, zWc, hx, e4]
theorem FR_let {p : Prog} {T : ze} {m r : Nat} {B : List Bnd} {nm : List UInt8} {n : Int} (hF : FR p T m r B) (hT : WT p T) (hm : m <= T.length) : ∃ es es', T[r]? = some (.mp es) /\ zHb true (.str nm) (.ptr (nb p + T.length) 0 0) es = some es' ∧
  FR p ((T ++ [boxO n]).set r (.mp es')) m r (⟨nm, T.length, n⟩ :: B) /\ WT p ((T ++ [boxO n]).set r (.mp es')) /\ Keep m (some r) T ((T ++ [boxO n]).set r (.mp es')) := by
 obtain ⟨es, h1, hs, h2⟩ := hF.map
 have hr := (List.getElem?_eq_some_iff.1 h1).1
 obtain ⟨es', e1, e2, e3, e4⟩ := zyd nm (.ptr (nb p + T.length) 0 0) es hs
 refine ⟨es, es', h1, e1, ⟨⟨es', ?_, e2, fun x => ?_⟩, ?_, ?_, hF.lo⟩, ?_, ?_⟩
 ·rw [List.getElem?_set_self (by simp; omega)]
 ·rw [e4]
  by_cases hx : nm = x
  ·simp [hx, zed]
  ·rw [if_neg hx, h2]; simp [hx, zed]
 ·intro b hb
  rcases List.mem_cons.1 hb with rfl | hb
  ·refine ⟨?_, hm⟩
   rw [List.getElem?_set_ne (by simp only; omega), List.getElem?_append_right (Nat.le_refl _)]
   simp
  ·obtain ⟨h3, h4⟩ := hF.val b hb
   have hlt := (List.getElem?_eq_some_iff.1 h3).1
   have hne : r ≠ b.box := by rintro rfl; rw [h1] at h3; simp [boxO] at h3
   exact ⟨by rw [List.getElem?_set_ne hne, List.getElem?_append_left hlt]; exact h3, h4⟩
 ·simp only [List.map_cons, List.nodup_cons]
  refine ⟨?_, hF.nd⟩
  intro h
  obtain ⟨b, hb, e⟩ := List.mem_map.1 h
  have := (List.getElem?_eq_some_iff.1 (hF.val b hb).1).1
  omega
 ·unfold WT
  rw [List.length_set]
  refine wf_set (WT_box n hT) ?_
  have : (Obj.mp es).below (nb p + T.length) = true := by
   have hT' := hT
   unfold WT ze.wf at hT'
   rw [List.all_eq_true] at hT'
   exact hT' _ (List.mem_of_getElem? h1)
  exact e3 _ (belowP_le (by simp) es this) (by simp)
 ·refine ⟨by simp, fun j hj hne => .inl ?_⟩
  have hne : r ≠ j := fun e => hne (by rw [e])
  rw [List.getElem?_set_ne hne, List.getElem?_append_left hj]
theorem arg1_two {l : List Expr} (h : l.length = 2) : l[1]? = some (arg1 l) /\ arg1 l ∈ l /\ l[0]? = some (arg0 l) /\ arg0 l ∈ l := by
 match l, h with
 | [x, y], _ => simp [arg0, arg1]
theorem put_row {p : Prog} {S : RS} {v : Int} {T : ze} {i : Nat} {l : List Int} (h : S.arrs[i]? = some l) (k : Nat) (m : Int) : (sto p S v T).set (i + 2) (.arr 1 ((l.map (PV.int .i64)).set k (.int .i64 m))) = sto p { S with arrs := S.arrs.set i (l.set k m) } v T := by
 have : (l.map (PV.int .i64)).set k (.int .i64 m) = (l.set k m).map (PV.int .i64) := by rw [List.map_set]
 rw [this]
 exact sto_setrow h _
theorem set_out {p : Prog} {S : RS} {v : Int} {T : ze} (l : List Int) : (sto p S v T).set 1 (.arr 10 [.agg [zga p.arrays, funcs p.funcs, ints S.inp, .mp 0, .int .i64 0, .int .i64 0, acc 1 (l.map (PV.int .i64)), .int .i64 S.cost, .int .i64 S.fuel, .int .i64 v]]) = sto p { S with out := l } v T := rfl
set_option maxHeartbeats 8000000 in
theorem vstmt_of {p : Prog} (hP : OkP p) {w : Nat} (hE : SpecE p w) (hB : BlockSpec p w) : SpecS p (w + 1) := by
 refine ⟨fun s S v T m r B loop hS hf ho hw hF hT => ?_⟩
 have hL := vloop_of hE hB
 have hstep := step_spec p S v T (by have := hS.2; omega)
 have hoe := ho
 rw [okS_eq] at ho
 obtain ⟨⟨o0, o0'⟩, o2, o3, o4, o5, o6, o7, o8⟩ := ho
 have hws := hw
 rw [zxb] at hw
 refine zQ rfl rfl rfl (by simp [zb]) ?_
 simp only [evF]
 cases hfu : S.fuel with
 | zero =>
  rw [hfu] at hstep
  have hfin := isS_stop (p := p) (B := B) (k := 0) (S1 := S) (v1 := v) (Keep.refl m (some r) T)
  clear o0 o0' o2 o3 o4 o5 o6 o7 o8 hoe
  simp [*, F120, zb, zc, zh]
 | succ k =>
  rw [hfu] at hstep
  simp only at hstep ⊢
  have hS0 : FitS p { S with fuel := k } := hS.mono ⟨by simp only; omega, by simp only; omega, rfl⟩
  have hf0 : ({ S with fuel := k } : RS).fuel <= w := by simp only; omega
  generalize hSS : ({ S with fuel := k } : RS) = S0 at *
  clear hSS hfu hf hS
  have hkr := Keep.refl m (some r) T
  unfold stmtW
  by_cases k5 : s.kind = 5
  ·rw [if_pos k5]
   have hc := hL.loop s S0 v T m r B loop hS0 hf0 k5 hoe hws hF hT
   replace k5 := eqp k5
   generalize zlc (evF p w) (arg0 s.args) s.thn (w + 1) (zD B) S0 = q at *
   obtain ⟨v1, T1, h1, h2, h3, h4⟩ := isBk_get hc
   have hfin : isS p T m r B q (outH q.1) (sto p q.2 v1 T1) := isS_of_isBk ⟨v1, T1, rfl, rfl, h2, h3, h4⟩
   obtain ⟨a, S1⟩ := q
   rw [zb] at h1
   simp [zc, zh] at h1 hfin
   clear o0 o0' o2 o3 o4 o5 o6 o7 o8 hoe hL hE hB hP hF hT h2 h3 h4 hkr hw hws
   cases a with
   | stop j => simp [outH] at h1 hfin; simp [*, F120, zb, zc, zh]
   | ok y => simp [outH] at h1 hfin; simp [*, F120, zb, zc, zh]
  rw [if_neg k5]
  by_cases k6 : s.kind = 6
  ·rw [if_pos k6]
   have hfin := isS_ret (B := B) (h := .brk) (S1 := S0) (v1 := v) hkr (fun n h => by cases h) hF hT ⟨[], rfl⟩
   simp [howN] at hfin
   replace k5 := eqn k5
   replace k6 := eqp k6
   clear o0 o0' o2 o3 o4 o5 o6 o7 o8 hoe hL hE hB hP hF hT hkr hw hws
   simp [*, F120, zb, zc, zh]
  rw [if_neg k6]
  by_cases k7 : s.kind = 7
  ·rw [if_pos k7]
   have hfin := isS_ret (B := B) (h := .cont) (S1 := S0) (v1 := v) hkr (fun n h => by cases h) hF hT ⟨[], rfl⟩
   simp [howN] at hfin
   replace k5 := eqn k5
   replace k6 := eqn k6
   replace k7 := eqp k7
   clear o0 o0' o2 o3 o4 o5 o6 o7 o8 hoe hL hE hB hP hF hT hkr hw hws
   simp [*, F120, zb, zc, zh]
  rw [if_neg k7]
  have hl1 : 1 <= (s.args.length : Int) := by
   rw [o2]; unfold zM
   repeat' (first | rw [if_neg (by omega)] | split)
   all_goals (first | decide | (simp; done) | omega)
  have gm := arg0_mem hl1
  have g0 : s.args[0]? = some (arg0 s.args) := by
   revert hl1
   cases s.args with
   | nil => intro h; simp at h
   | cons x r => intro _; rfl
  have hwe := zUa gm
  have hc := hE.expr (arg0 s.args) S0 v T m r B hS0 hf0 (zQd o3 gm) (by omega) hF hT
  have hm := (zUb p w).expr (arg0 s.args) (zD B) S0
  generalize he0 : arg0 s.args = x0 at *
  generalize (evF p w).expr x0 (zD B) S0 = q at *
  obtain ⟨a, S1⟩ := q
  obtain ⟨v1, hc⟩ := zde hc
  rw [za] at hc
  obtain ⟨m1, _⟩ := hm
  have hS1 := hS0.mono m1
  have hf1 : S1.fuel <= w := Nat.le_trans m1.fuel hf0
  replace k5 := eqn k5
  replace k6 := eqn k6
  replace k7 := eqn k7
  cases a with
  | stop j =>
   have hfin := isS_stop (p := p) (B := B) (k := j) (S1 := S1) (v1 := v1) hkr
   simp [zc] at hc
   clear o0 o0' o2 o3 o4 o5 o6 o7 o8 hoe hL hE hB hP hF hT hkr hw hws hl1 gm hwe m1 hS1 hf1 he0
   simp [*, F120, zb, za, zc, zh]
  | ok n =>
   simp only
   simp [zc] at hc
   -- the box
   have hlen := zsd (v := v1) (T := T) hS1
   have hget : (sto p S1 v1 (T ++ [.arr 1 [.int .i64 0]]))[nb p + T.length]? = some (.arr 1 [.int .i64 0]) := by
    rw [zbe hS1]; simp
   have hset : (sto p S1 v1 (T ++ [.arr 1 [.int .i64 0]])).set (nb p + T.length) (.arr 1 [.int .i64 n]) = sto p S1 v1 (T ++ [boxO n]) := by
    rw [sto_set hS1, List.set_append_right _ _ (Nat.le_refl _)]; simp [boxO]
   have hread : ∀ S2 v2, FitS p S2 -> (sto p S2 v2 (T ++ [boxO n]))[nb p + T.length]? = some (.arr 1 [.int .i64 n]) := by
    intro S2 v2 h
    rw [zbe h]; simp [boxO]
   have hr1 := hread S1 v1 hS1
   have hFb := FR_app (L := [boxO n]) hF
   have hTb := WT_box n hT
   have hKb : Keep m (some r) T (T ++ [boxO n]) := Keep_app
   unfold zie
   by_cases k1 : s.kind = 1
   ·rw [if_pos k1]
    obtain ⟨es, es', e1, e2, e3, e4, e5⟩ := FR_let (nm := s.name) (n := n) hF hT (by have := hF.lo; have := hF.lt; omega)
    have hgm : (sto p S1 v1 (T ++ [boxO n]))[nb p + r]? = some (.mp es) := by
     rw [zbe hS1, List.getElem?_append_left hF.lt]; exact e1
    have hsm : (sto p S1 v1 (T ++ [boxO n])).set (nb p + r) (.mp es') = sto p S1 v1 ((T ++ [boxO n]).set r (.mp es')) := sto_set hS1 _ _
    have hfin := isS_ret (B := B) (h := .on) (S1 := S1) (v1 := v1) e5 (fun n h => by cases h) e3 e4 ⟨[(s.name, T.length)], rfl⟩
    simp only [howN, zD, List.map_cons] at hfin
    replace k1 := eqp k1
    clear o0 o0' o2 o3 o4 o5 o6 o7 o8 hoe hL hE hB hP hF hT hkr hw hws hl1 gm hwe m1 hS1 hf1 he0 hread hr1 hFb hTb hKb e1 e3 e4 e5
    generalize ((T ++ [boxO n]).set r (.mp es')) = T9 at *
    generalize T ++ [boxO n] = T8 at *
    simp [*, F120, zb, za, zc, zh, zGc, zD]
   rw [if_neg k1]
   by_cases k2 : s.kind = 2
   ·rw [if_pos k2]
    obtain ⟨es, b, e1, e2, e3, e4⟩ := hFb.look (o4 k2)
    have hgm : (sto p S1 v1 (T ++ [boxO n]))[nb p + r]? = some (.mp es) := by rw [zbe hS1]; exact e1
    have hgb : (sto p S1 v1 (T ++ [boxO n]))[nb p + b.box]? = some (.arr 1 [.int .i64 (getV s.name (zD B))]) := by rw [zbe hS1]; exact e3
    have hsm : (sto p S1 v1 (T ++ [boxO n])).set (nb p + b.box) (.arr 1 [.int .i64 n]) = sto p S1 v1 ((T ++ [boxO n]).set b.box (boxO n)) := sto_set hS1 _ _
    have hfin := isS_ret (B := B) (h := .on) (S1 := S1) (v1 := v1) (hKb.trans (Keep_set (n := n) e3 (hFb.val b (lookB_mem e4).1).2)) (fun n h => by cases h) (FR_set n hFb e4) (WT_set hTb) ⟨[], keys_set _ _ _⟩
    rw [vals_set] at hfin
    simp only [howN] at hfin
    replace k1 := eqn k1
    replace k2 := eqp k2
    clear o0 o0' o2 o3 o4 o5 o6 o7 o8 hoe hL hE hB hP hF hT hkr hw hws hl1 gm hwe m1 hS1 hf1 he0 hread hFb hTb hKb e1 e3 e4
    generalize ((T ++ [boxO n]).set b.box (boxO n)) = T9 at *
    generalize T ++ [boxO n] = T8 at *
    simp [*, F120, zb, za, zc, zh, zGc]
   rw [if_neg k2]
   by_cases k3 : s.kind = 3
   ·rw [if_pos k3]
    have hl2 : s.args.length = 2 := by rw [k3] at o2; simp [zM] at o2; omega
    obtain ⟨g1, gm1, _, _⟩ := arg1_two hl2
    have hwe1 := zUa gm1
    have hc1 := hE.expr (arg1 s.args) S1 v1 (T ++ [boxO n]) m r B hS1 hf1 (zQd o3 gm1) (by omega) hFb hTb
    have hm1 := (zUb p w).expr (arg1 s.args) (zD B) S1
    generalize arg1 s.args = x1 at *
    generalize (evF p w).expr x1 (zD B) S1 = q at *
    obtain ⟨a, S2⟩ := q
    obtain ⟨v2, hc1⟩ := zde hc1
    rw [za] at hc1
    have hS2 := hS1.mono hm1.1
    replace k1 := eqn k1
    replace k2 := eqn k2
    replace k3 := eqp k3
    cases a with
    | stop j =>
     have hfin := isS_stop (p := p) (B := B) (k := j) (S1 := S2) (v1 := v2) hKb
     simp [zc] at hc1
     clear o0 o0' o2 o3 o4 o5 o6 o7 o8 hoe hL hE hB hP hF hT hkr hw hws hl1 gm hwe m1 hS1 hf1 he0 hread hFb hTb hKb hl2 gm1 hwe1 hm1 hS2
     generalize T ++ [boxO n] = T8 at *
     simp [*, F120, zb, za, zc, zh, zGc]
    | ok y =>
     simp only
     simp [zc] at hc1
     obtain ⟨i, row, a1, a2, a3, a4⟩ := arr_at hS2.cost (o5 (of_eq_true k3))
     have hcell := cell_spec (p := p) (v := v2) (T := T ++ [boxO n]) n a3 a4
     have hrow := sto_row (p := p) (v := v2) (T := T ++ [boxO n]) a3
     have hr2 := hread (zO S2) v2 hS2.cost
     unfold putAt
     rw [a1]
     simp only [Int.toNat_natCast, a3, Option.bind_some]
     by_cases hx : 0 <= n /\ n < row.length
     ·rw [if_pos hx] at hcell
      rw [if_neg (by omega), if_pos (by omega)]
      have hlt : n.toNat < row.length := by omega
      obtain ⟨z, hz⟩ : ∃ z, row[n.toNat]? = some z := ⟨_, List.getElem?_eq_getElem hlt⟩
      have hput := put_row (p := p) (v := v2) (T := T ++ [boxO n]) a3 n.toNat y
      have hfin := isS_ret (B := B) (h := .on) (S1 := { zO S2 with arrs := (zO S2).arrs.set i (row.set n.toNat y) }) (v1 := v2) hKb (fun n h => by cases h) hFb hTb ⟨[], rfl⟩
      simp only [howN] at hfin
      clear o0 o0' o2 o3 o4 o5 o6 o7 o8 hoe hL hE hB hP hF hT hkr hw hws hl1 gm hwe m1 hS1 hf1 he0 hread hFb hTb hKb hl2 gm1 hwe1 hm1 hS2 hx hlt a1 a2 a3 a4
      generalize T ++ [boxO n] = T8 at *
      simp [*, F120, zb, za, zc, zh, zGc]
     ·rw [if_neg hx] at hcell
      have hnone : (if n < 0 then none else if n.toNat < row.length then some { zO S2 with arrs := (zO S2).arrs.set i (row.set n.toNat y) } else none : Option RS) = none := by
       split
       ·rfl
       ·rw [if_neg (by omega)]
      rw [hnone]
      have hfin := isS_stop (p := p) (B := B) (k := 3) (S1 := zO S2) (v1 := v2) hKb
      clear o0 o0' o2 o3 o4 o5 o6 o7 o8 hoe hL hE hB hP hF hT hkr hw hws hl1 gm hwe m1 hS1 hf1 he0 hread hFb hTb hKb hl2 gm1 hwe1 hm1 hS2 hx a1 a2 a3 a4 hnone hrow
      generalize T ++ [boxO n] = T8 at *
      simp [*, F120, zb, za, zc, zh, zGc]
   rw [if_neg k3]
   by_cases k4 : s.kind = 4
   ·rw [if_pos k4]
    have hadd : zKb s = [] := if_neg k1
    rw [hadd, List.nil_append] at o7 o8
    have hblk : ∀ l, (l = s.els \/ l = s.thn) -> PC (zi E 95 [.ptr 1 0 0, zh l, .mp (nb p + r)] (sto p S1 v1 (T ++ [boxO n]))) (isBk p (T ++ [boxO n]) m r B (zba (evF p w) l (zD B) S1)) := by
     rintro l (rfl | rfl)
     ·exact hB.block _ S1 v1 _ m r B _ hS1 hf1 o8 (by omega) hFb hTb
     ·exact hB.block _ S1 v1 _ m r B _ hS1 hf1 o7 (by omega) hFb hTb
    have hfinB : ∀ q v2 T2, Keep m none (T ++ [boxO n]) T2 -> T2.length = (T ++ [boxO n]).length -> (∀ h V1, q.1 = .ok (h, V1) -> (∀ n, h = .ret n -> v2 = n) /\ BkR p (T ++ [boxO n]) T2 m r B V1 (fun a => a = [])) -> isS p T m r B q (outH q.1) (sto p q.2 v2 T2) := by
     intro q v2 T2 h1 h2 h3
     refine ⟨v2, T2, rfl, rfl, hKb.trans h1.weaken, fun h V1 e => ?_⟩
     obtain ⟨g1, ⟨B1, a, g2, g3, g4, g5⟩, g6⟩ := h3 h V1 e
     exact ⟨g1, ⟨B1, a, g2, g3, g4, trivial⟩, g6⟩
    have hc2 := hblk (if n = 0 then s.els else s.thn) (by split <;> simp)
    replace k1 := eqn k1
    replace k2 := eqn k2
    replace k3 := eqn k3
    replace k4 := eqp k4
    clear o0 o0' o2 o3 o4 o5 o6 o7 o8 hoe hL hE hB hP hF hT hkr hw hws hl1 gm hwe m1 hS1 hf1 he0 hread hFb hTb hblk
    by_cases hn : n = 0
    ·rw [if_pos hn] at hc2 ⊢
     generalize zba (evF p w) s.els (zD B) S1 = q at *
     obtain ⟨v2, T2, h1, h2, h3, h4⟩ := isBk_get hc2
     have hfin := hfinB q v2 T2 h2 h3 h4
     replace hn := eqp hn
     clear hfinB h2 h3 h4 hKb hc2
     obtain ⟨a, S2⟩ := q
     simp only at h1 hfin
     generalize T ++ [boxO n] = T8 at *
     simp [zh] at h1
     cases a <;> simp [outH] at h1 hfin <;> simp [*, F120, zb, za, zc, zh, zGc]
    ·rw [if_neg hn] at hc2 ⊢
     generalize zba (evF p w) s.thn (zD B) S1 = q at *
     obtain ⟨v2, T2, h1, h2, h3, h4⟩ := isBk_get hc2
     have hfin := hfinB q v2 T2 h2 h3 h4
     replace hn := eqn hn
     clear hfinB h2 h3 h4 hKb hc2
     obtain ⟨a, S2⟩ := q
     simp only at h1 hfin
     generalize T ++ [boxO n] = T8 at *
     simp [zh] at h1
     cases a <;> simp [outH] at h1 hfin <;> simp [*, F120, zb, za, zc, zh, zGc]
   rw [if_neg k4]
   by_cases k8 : s.kind = 8
   ·rw [if_pos k8]
    have hfin := isS_ret (B := B) (h := .ret n) (S1 := S1) (v1 := n) hKb (fun z h => by cases h; rfl) hFb hTb ⟨[], rfl⟩
    simp only [howN] at hfin
    replace k1 := eqn k1
    replace k2 := eqn k2
    replace k3 := eqn k3
    replace k4 := eqn k4
    replace k8 := eqp k8
    clear o0 o0' o2 o3 o4 o5 o6 o7 o8 hoe hL hE hB hP hF hT hkr hw hws hl1 gm hwe m1 hS1 hf1 he0 hread hFb hTb hKb
    generalize T ++ [boxO n] = T8 at *
    simp [*, F120, zb, za, zc, zh, zGc]
   rw [if_neg k8]
   by_cases k9 : s.kind = 9
   ·rw [if_pos k9]
    have hfin := isS_ret (B := B) (h := .on) (S1 := { zO S1 with out := S1.out ++ [n] }) (v1 := v1) hKb (fun z h => by cases h) hFb hTb ⟨[], rfl⟩
    simp only [howN] at hfin
    have hr2 := hread (zO S1) v1 hS1.cost
    have hso := set_out (p := p) (S := zO S1) (v := v1) (T := T ++ [boxO n]) (S1.out ++ [n])
    have hroom : (S1.out.length + 1) * 8 <= zw := by have := hS1.2; simp only at this; simp only [zw]; omega
    have hr3 : ∀ X, ((sto p (zO S1) v1 (T ++ [boxO n])).set 1 X)[nb p + T.length]? = some (.arr 1 [.int .i64 n]) := by
     intro X
     rw [List.getElem?_set_ne (by unfold nb; omega)]; exact hr2
    have hr4 : ∀ X, ((sto p (zO S1) v1 (T ++ [boxO n])).set 1 X)[1]? = some X := by
     intro X
     rw [List.getElem?_set_self (by rw [zsd hS1.cost]; unfold nb; omega)]
    have hao : acc 1 ((S1.out ++ [n]).map (PV.int .i64)) = .slice .own 1 (S1.out.map (PV.int .i64) ++ [.int .i64 n]) := by
     rw [acc_ne (by simp)]; simp
    have hio : isOwn (acc 1 (S1.out.map (PV.int .i64) ++ [.int .i64 n])) = some (1, S1.out.map (PV.int .i64) ++ [.int .i64 n]) := by
     rw [acc_ne (by simp)]; rfl
    rw [hao] at hso
    have hco : (zO S1).out = S1.out := rfl
    replace k1 := eqn k1
    replace k2 := eqn k2
    replace k3 := eqn k3
    replace k4 := eqn k4
    replace k8 := eqn k8
    replace k9 := eqp k9
    clear o0 o0' o2 o3 o4 o5 o6 o7 o8 hoe hL hE hB hP hF hT hkr hw hws hl1 gm hwe m1 hS1 hf1 he0 hread hFb hTb hKb hao hr1 hr2
    generalize T ++ [boxO n] = T8 at *
    simp [*, F120, zb, za, zc, zh, zGc]
   rw [if_neg k9]
   have hfin := isS_ret (B := B) (h := .on) (S1 := S1) (v1 := v1) hKb (fun z h => by cases h) hFb hTb ⟨[], rfl⟩
   simp only [howN] at hfin
   replace k1 := eqn k1
   replace k2 := eqn k2
   replace k3 := eqn k3
   replace k4 := eqn k4
   replace k8 := eqn k8
   replace k9 := eqn k9
   clear o0 o0' o2 o3 o4 o5 o6 o7 o8 hoe hL hE hB hP hF hT hkr hw hws hl1 gm hwe m1 hS1 hf1 he0 hread hFb hTb hKb
   generalize T ++ [boxO n] = T8 at *
   simp [*, F120, zb, za, zc, zh, zGc]
theorem spec0 (p : Prog) : SpecE p 0 /\ SpecS p 0 := by
 constructor
 ·refine ⟨fun e S v T m r B hS hf ho hw hF hT => ?_⟩
  have h0 : S.fuel = 0 := by omega
  have hstep := step_spec p S v T (by omega)
  rw [h0] at hstep
  refine zQ rfl rfl rfl (by simp [za]) ?_
  simp only [evF]
  clear ho hF
  simp [*, F143, za, zc]
 ·refine ⟨fun s S v T m r B loop hS hf ho hw hF hT => ?_⟩
  have h0 : S.fuel = 0 := by omega
  have hstep := step_spec p S v T (by omega)
  rw [h0] at hstep
  have hfin := isS_stop (p := p) (B := B) (k := 0) (S1 := S) (v1 := v) (Keep.refl m (some r) T)
  refine zQ rfl rfl rfl (by simp [zb]) ?_
  simp only [evF]
  clear ho hF
  simp [*, F120, zb, zc, zh]
theorem specs {p : Prog} (hP : OkP p) : ∀ w, SpecE p w /\ SpecS p w
 | 0 => spec0 p
 | w + 1 => by
  obtain ⟨h1, h2⟩ := specs hP w
  have hB := vblock_of h2
  exact ⟨vexpr_of hP h1 hB, vstmt_of hP h1 hB⟩
end PE.U

namespace PE.U
open Go PE
def skOf : List PV -> SK
 | [] => .fit
 | _ => .plain
theorem zQb (sz : Nat) (l : List PV) : strip (acc sz l) = .slice (skOf l) sz l := by cases l <;> rfl
def sq1 : ICode -> ICode
 | .seq a _ => a
 | c => c
def sq2 : ICode -> ICode
 | .seq _ b => b
 | c => c
theorem zIc (p : Prog) (nm : List UInt8) (hl : p.funcs.length < 1099511627776) : zi E 35 [zf p, .str nm] [] = some (.ret (.int .i64 (zla p nm)), []) := by
 refine zd rfl rfl rfl (by simp [zf]) ?_
 simp [F35, zf, funcs]
 refine zI p.funcs K35_0 B35_0 (fun d => [(5, .int .i64 d.length)]) (fun _ => []) (fun d => ∀ y ∈ d, decide (y.name = nm) = false) (by omega) (by simp) ?_ ?_
 ·intros d x r s1 hl' hlt hget hget' hw hp h1 h2 h3 h4
  simp at h1 h2 h3
  by_cases hx : x.name = nm
  ·have hh : zla p nm = d.length := idx_hit hl' hp (decide_eq_true hx)
   rw [hh]
   replace hx := eqp hx
   clear hp hh hl'
   simp [*, zm]
  ·have hnx : ∀ y ∈ d ++ [x], ¬ y.name = nm := by
    intro y hy
    rcases List.mem_append.1 hy with h | h
    ·exact of_decide_eq_false (hp y h)
    ·rw [List.mem_singleton.1 h]; exact hx
   replace hx := eqn hx
   clear hp hl'
   simp [*, zm]
   all_goals (try grind)
 ·intros s1 hp h1 h2 h3 h4
  have hh : zla p nm = -1 := zTd hp
  rw [hh]
  simp at h1 h2 h3
  clear hp hh
  simp [*]
theorem zJc (p : Prog) (nm : List UInt8) (hl : p.arrays.length < 1099511627776) : zi E 98 [zf p, .str nm] [] = some (.ret (.int .i64 (zEa p nm)), []) := by
 refine zd rfl rfl rfl (by simp [zf]) ?_
 simp [F98, zf, zga]
 refine zI p.arrays K98_0 B98_0 (fun d => [(5, .int .i64 d.length)]) (fun _ => []) (fun d => ∀ y ∈ d, decide (y.name = nm) = false) (by omega) (by simp) ?_ ?_
 ·intros d x r s1 hl' hlt hget hget' hw hp h1 h2 h3 h4
  simp at h1 h2 h3
  by_cases hx : x.name = nm
  ·have hh : zEa p nm = d.length := idx_hit hl' hp (decide_eq_true hx)
   rw [hh]
   replace hx := eqp hx
   clear hp hh hl'
   simp [*, zU]
  ·have hnx : ∀ y ∈ d ++ [x], ¬ y.name = nm := by
    intro y hy
    rcases List.mem_append.1 hy with h | h
    ·exact of_decide_eq_false (hp y h)
    ·rw [List.mem_singleton.1 h]; exact hx
   replace hx := eqn hx
   clear hp hl'
   simp [*, zU]
   all_goals (try grind)
 ·intros s1 hp h1 h2 h3 h4
  have hh : zEa p nm = -1 := zTd hp
  rw [hh]
  simp at h1 h2 h3
  clear hp hh
  simp [*]
def operR (op : Int) : Int × Int :=
 if op = 18 \/ op = 19 \/ op = 22 then (2, 2)
 else if op = 16 \/ op = 17 then (0, 2)
 else if 12 <= op /\ op <= 15 then (1, 2)
 else (1, 1)
theorem oper_spec (op : Int) : zi E 145 [.int .i64 op] [] = some (.ret (.tup [.int .i64 (operR op).1, .int .i64 (operR op).2]), []) := by
 refine zd rfl rfl rfl (by simp) ?_
 unfold operR
 (simp [*, F145]) <;> (repeat' (first | ((first | refine sP _ ?_ ?_ | refine gP _ ?_ ?_ | refine sN _ ?_ ?_ | refine gN _ ?_ ?_) <;> intro hc <;> (first | replace hc := eqn hc | replace hc := eqp hc) <;> simp [*, F145]) | ((first | refine sM _ ?_ ?_ | refine gM _ ?_ ?_ | refine sB _ ?_ ?_ | refine gB _ ?_ ?_) <;> intro hc <;> simp [*, F145])))
 all_goals (try grind)
def parOf (v : Vr) : Par := ⟨v.name, v.type⟩
def zqa (s : List Vr) : List Par := (s.map parOf).reverse
theorem znb (s : List Vr) : (zqa s).length = s.length := by simp [zqa]
theorem zrd (v : Vr) (s : List Vr) : zqa (v :: s) = zqa s ++ [parOf v] := by simp [zqa]
theorem varsOf_append (a b : List Vr) : zqa (a ++ b) = zqa b ++ zqa a := by simp [zqa]
theorem varsOf_get (d : List Vr) (v : Vr) (r : List Vr) : (zqa (d ++ v :: r))[r.length]? = some (parOf v) := by
 rw [varsOf_append, zrd, List.append_assoc, List.getElem?_append_right (by rw [znb]; omega), znb]
 simp
def typeV (s : List Vr) (nm : List UInt8) : Int := ((zJa s nm).head?.map (·.type)).getD 0
structure FV where
 d : List Vr
 c : List Vr
theorem rfind_spec (s : List Vr) (nm : List UInt8) (hl : s.length < 1099511627776) : zi E 71 [parsV (zqa s), .str nm] [] = some (.ret (.tup [.int .i64 (typeV s nm), .bool (!decide (zJa s nm = []))]), []) := by
 refine zd rfl rfl rfl (by simp [parsV]) ?_
 have hvl := znb s
 have hw0 : zB .i64 ((s.length : Int) - 1) = (s.length : Int) - 1 := zj (by omega) (by omega)
 simp [F71, parsV, hvl, hw0]
 refine zDa K71_0 B71_0 (fun c : FV => c.c.length) (fun c => [(6, .int .i64 ((c.c.length : Int) - 1))]) (fun c => []) (fun c => []) (fun c => zJa c.c nm = zJa s nm /\ s = c.d ++ c.c) ⟨[], s⟩ (by simp) ?_
 rintro ⟨d, c⟩ s1 ⟨hc, hs⟩ h1 h2 h3 h4 h5
 simp at h1 h3 h5 hc hs
 clear h2 h4
 unfold typeV
 rw [<- hc]
 cases c with
 | nil =>
  simp at h3
  clear hc hs
  simp [*, zJa]
 | cons v r =>
  have hg := varsOf_get d v r
  rw [<- hs] at hg
  have hlen : r.length + d.length < 1099511627776 := by
   have := congrArg List.length hs
   simp at this; omega
  have e1 : (((v :: r).length : Int) - 1) = r.length := by simp
  rw [e1] at h3
  have hw : zB .i64 ((r.length : Int) - 1) = (r.length : Int) - 1 := zj (by omega) (by omega)
  rw [zOc] at hc ⊢
  by_cases hn : v.name = nm
  ·rw [if_pos hn]
   replace hn := eqp hn
   clear hc hs hvl hlen e1
   simp [*, encPar, parOf]
  ·rw [if_neg hn] at hc ⊢
   replace hn := eqn hn
   have hk : ∃ d', s = d' ++ r := ⟨d ++ [v], by rw [hs]; simp⟩
   obtain ⟨d', hd'⟩ := hk
   clear hs hvl hlen e1
   simp [*, encPar, parOf, -hd']
   exact ⟨⟨d', r⟩, by simp, rfl, hc, hd'⟩
end PE.U

namespace PE.U
open Go PE
def okR (tk : Int) (l : List Int) (y : Int) : Bool := !((!decide (tk = 0) && !decide (y = tk)) || !decide (y = at0 l))
theorem made_oper (p : Prog) (s : List Vr) (k o : Int) (nm : List UInt8) (l : List Int) (h : (k = 4 /\ l.length = 1) \/ (k = 5 /\ l.length = 2)) : zme p s k o nm l = ((operR o).2, l.all (okR (operR o).1 l)) := by
 have hk : k = 4 \/ k = 5 := by rcases h with h | h <;> simp [h.1]
 have key : ∀ x : Int, (takesT o x).1 = (operR o).2 /\ ((takesT o x).2 = true <-> ((operR o).1 = 0 \/ x = (operR o).1)) := by
  intro x
  unfold takesT operR
  split
  ·simp
  split
  ·simp
  split
  ·rw [if_pos (by omega)]; simp
  ·rw [if_neg (by omega)]; simp
 obtain ⟨k1, k2⟩ := key (at0 l)
 rcases h with ⟨rfl, hl⟩ | ⟨rfl, hl⟩
 ·obtain ⟨x, rfl⟩ := List.length_eq_one_iff.1 hl
  unfold zme
  simp only [show ¬ (4 : Int) = 2 from by decide, show ¬ (4 : Int) = 3 from by decide, show ¬ (4 : Int) = 6 from by decide, if_false, if_true]
  refine Prod.ext k1 ?_
  simp only
  rw [Bool.eq_iff_iff, k2]
  simp [okR, at0]
 ·obtain ⟨x, y, rfl⟩ : ∃ x y, l = [x, y] := by
   match l, hl with
   | [x, y], _ => exact ⟨x, y, rfl⟩
  unfold zme
  simp only [show ¬ (5 : Int) = 2 from by decide, show ¬ (5 : Int) = 3 from by decide, show ¬ (5 : Int) = 6 from by decide, show ¬ (5 : Int) = 4 from by decide, if_false, if_true]
  refine Prod.ext k1 ?_
  simp only
  rw [Bool.eq_iff_iff, Bool.and_eq_true, k2]
  simp [okR, at0, at1]
  grind
def typeTail : ICode := sq2 (sq2 (sq2 (sq2 F122.body)))
set_option maxRecDepth 20000 in
set_option maxHeartbeats 8000000 in
theorem type_tail (p : Prog) (s : List Vr) (e : Expr) (m : Int) (hz : Fit p) (hw : wtE e < 1099510000000) (hm : zTb e.args m = true) (hk : zyc e.kind e.op e.n e.name e.args.length = true) (h0 : zDc p s e.kind e.name e.args.length = 0)
  (IH : ∀ x ∈ e.args, ∀ m, zgb x m = true -> zi E 122 [zf p, parsV (zqa s), zp x] [] = some (.ret (zbb (zmc p s x)), []))
  (s1 : St) (b1 : s1.bx 3 = .cells [zga p.arrays, funcs p.funcs]) (b2 : s1.bx 5 = .cells [.int .i64 e.kind, .int .i64 e.op, .int .i64 e.n, .str e.name, zc e.args])
  (t1 : s1.fr 1 = parsV (zqa s)) (t3 : s1.fr 3 = .lptr 3 0) (t5 : s1.fr 5 = .lptr 5 0) (t8 : s1.fr 8 = .int .i64 (zla p e.name)) (t9 : s1.fr 9 = .int .i64 (typeV s e.name)) (st : s1.st = []) :
  zka (exec (zi E) typeTail s1) (leaveQ F122.res false 0 (isR (.ret (zbb (zmc p s e)), []))) := by
 have hla := zxc e.args
 rw [zqd] at hw
 obtain ⟨fr, bx, st'⟩ := s1
 simp only at b1 b2 t1 t3 t5 t8 t9 st
 subst st
 have hT := (exprT_eq p s e).symm
 rw [if_neg (by rw [h0]; simp)] at hT
 generalize zmc p s e = R at hT ⊢
 simp [typeTail, sq2, F122, zc] at b2 ⊢
 refine zI e.args K122_0 B122_0 (fun d => [(11, acc 1 ((zsb p s d).1.map (PV.int .i64))), (12, .int .i64 d.length)]) (fun _ => []) (fun d => (zsb p s d).2 = 0) (by omega) (by simp [zsb]) ?_ ?_
 ·intros d x r s1 hl' hlt hget hget' hw1 hp h1 h2 h3 h4
  have hx : zgb x (m - 1) = true := by
   rw [exprsR_all, List.all_eq_true] at hm
   have := hm x hl'.mem
   simp at this; exact this.2
  have ih := IH x hl'.mem _ hx
  have hlen := argsT_len p s d hp
  obtain ⟨f1, f2⟩ := argsT_pre p s x r d hp
  rw [<- hl'.eq] at f1
  clear IH hm hx hl' hk h0
  rw [za] at ih
  simp [zbb, zf, zc] at ih
  simp at h1 h2 h3
  have hroom : (d.length + 1) * 8 <= zw := by simp only [zw]; omega
  generalize zmc p s x = q at *
  obtain ⟨t, f⟩ := q
  simp only at ih f1 f2
  by_cases hf : f = 0
  ·subst hf
   have f2 := f2 rfl
   clear f1 hT
   simp [*, za, zc]
   all_goals (try grind)
  ·have f1 := f1 hf
   clear f2
   rw [f1] at hT
   simp [hf] at hT
   replace hf := eqn hf
   clear f1
   subst hT
   simp [*, za, zc, zbb]
 intros s1 hp h1 h2 h3 h4
 have hlen := argsT_len p s e.args hp
 rw [if_neg (by rw [hp]; simp)] at hT
 rw [<- hlen] at hk
 generalize (zsb p s e.args).1 = l at *
 simp at h1 h2 h3
 clear IH hm hp
 by_cases k2 : e.kind = 2
 ·replace k2 := eqp k2
  simp [zme, k2] at hT
  clear hk h0
  subst hT
  simp [*, zbb]
 by_cases k3 : e.kind = 3
 ·have hv : zme p s e.kind e.op e.name l = (typeV s e.name, true) := by unfold zme; rw [if_neg k2, if_pos k3]; rfl
  rw [hv] at hT
  simp at hT
  replace k2 := eqn k2
  replace k3 := eqp k3
  clear hk h0 hv
  subst hT
  simp [*, zbb]
 by_cases k7 : e.kind = 7
 ·have hl1 : l.length <= 8 := by
   unfold zyc at hk; simp [k2, k3, k7] at hk; exact hk.2.2
  rcases zkb (fun f : Func => decide (f.name = e.name)) p.funcs with ⟨a1, a2⟩ | ⟨n, f, a1, a2, a3, a4, a5⟩
  ·have a2 : zSa p e.name = none := a2
   unfold zDc at h0
   rw [if_neg k3, if_neg (by omega), if_pos k7, a2] at h0
   exact absurd h0 (by simp)
  ·have a1 : zla p e.name = n := a1
   have a3 : zSa p e.name = some f := a3
   have hpl : f.params.length = l.length := by
    unfold zDc at h0
    rw [if_neg k3, if_neg (by omega), if_pos k7, a3] at h0
    simp only at h0
    split at h0
    ·omega
    ·exact absurd h0 (by decide)
   have hv : zme p s e.kind e.op e.name l = (f.type, decide (l = f.params.map (·.type))) := by
    unfold zme; rw [if_neg k2, if_neg k3, if_neg (by omega), if_neg (by omega), if_neg (by omega), if_pos k7, a3]
   rw [hv, types_eq hpl.symm] at hT
   rw [a1] at t8
   have n0 : ¬ ((n : Int) < 0) := by omega
   have n1 : (0 <= (n : Int)) := by omega
   replace k2 := eqn k2
   replace k3 := eqn k3
   replace k7 := eqp k7
   clear hk h0 hv a5 a4 a1 a3
   simp [*, funcs]
   refine zI (l.zip f.params) K122_1 B122_1 (fun d => [(15, .int .i64 d.length)]) (fun _ => []) (fun d => (d.all fun x => decide (x.1 = x.2.type)) = true) (by simp; omega) ?_ ?_ ?_
   ·simp [*]
   ·intros d x r s2 hl' hlt hget hget' hw2 hp g1 g2 g3 g4
    simp at g1 g2 g3
    have hzz : (l.zip f.params)[d.length]? = some x := hget
    rw [List.getElem?_zip_eq_some] at hzz
    obtain ⟨z1, z2⟩ := hzz
    obtain ⟨x1, x2⟩ := x
    simp only at z1 z2
    have hz2 : (l.zip f.params).length = l.length := by simp [hpl]
    have hlt' : (d.length : Int) < l.length := by rw [hz2] at hlt; omega
    have hlt2 : (d.length : Int) < e.args.length := by omega
    by_cases hx : x1 = x2.type
    ·replace hp : ((d ++ [(x1, x2)]).all fun x => decide (x.1 = x.2.type)) = true := by rw [List.all_append, hp]; simp [hx]
     replace hx := eqp hx
     clear hl' hget hget' hlt hz2 hT
     simp [*, zQb, zm, parsV, encPar, funcs]
     all_goals (try grind)
    ·have hf : ((l.zip f.params).all fun x => decide (x.1 = x.2.type)) = false := by rw [hl'.eq]; simp [hx]
     rw [hf] at hT
     simp at hT
     replace hx := eqn hx
     clear hl' hget hget' hp hlt hz2
     subst hT
     simp [*, zQb, zm, parsV, encPar, funcs, zbb]
   ·intros s2 hp g1 g2 g3 g4
    simp at g1 g2 g3
    rw [hp] at hT
    simp at hT
    have hz2 : (l.zip f.params).length = l.length := by simp [hpl]
    rw [hpl, Nat.min_self] at g3
    have hnl : ¬ ((l.length : Int) < l.length) := by omega
    clear hp hz2
    subst hT
    simp [*, zQb, zm, parsV, encPar, funcs, zbb]
 by_cases k6 : e.kind = 6
 ·have hl : l.length = 1 := by
   unfold zyc at hk; simp [k2, k3, k6] at hk; exact hk.2.2
  obtain ⟨x, rfl⟩ := List.length_eq_one_iff.1 hl
  have hv : zme p s e.kind e.op e.name [x] = (1, decide (x = 1)) := by unfold zme; rw [if_neg k2, if_neg k3, if_pos k6]; rfl
  rw [hv] at hT
  replace k2 := eqn k2
  replace k3 := eqn k3
  replace k7 := eqn k7
  replace k6 := eqp k6
  clear hk h0 hv hl
  by_cases hx : x = 1
  ·subst hx
   simp at hT
   subst hT
   simp [*, zbb]
  ·simp [hx] at hT
   replace hx := eqn hx
   subst hT
   simp [*, zbb]
 by_cases k45 : e.kind = 4 \/ e.kind = 5
 ·have hll : (e.kind = 4 /\ l.length = 1) \/ (e.kind = 5 /\ l.length = 2) := by
   rcases k45 with k | k
   ·left; refine ⟨k, ?_⟩; unfold zyc at hk; simp [k] at hk; exact hk.2.2.2
   ·right; refine ⟨k, ?_⟩; unfold zyc at hk; simp [k] at hk; exact hk.2.2.2
  rw [made_oper p s _ _ _ _ hll] at hT
  have ho := oper_spec e.op
  have hl0 : ∃ x r, l = x :: r := by
   rcases hll with ⟨_, h⟩ | ⟨_, h⟩ <;> cases l <;> simp at h ⊢
  have hl2 : l.length <= 2 := by rcases hll with ⟨_, h⟩ | ⟨_, h⟩ <;> omega
  obtain ⟨x0, r0, hx0⟩ := hl0
  have hat : at0 l = x0 := by rw [hx0]; rfl
  have hg0 : l[0]? = some x0 := by rw [hx0]; rfl
  generalize operR e.op = oq at *
  obtain ⟨tk, mk⟩ := oq
  simp only at hT ho
  unfold okR at hT
  rw [hat] at hT
  replace k2 := eqn k2
  replace k3 := eqn k3
  replace k7 := eqn k7
  replace k6 := eqn k6
  clear hk h0 hat hx0 hll hlen hla hw hz
  have k4' : e.kind = 5 -> (e.kind = 4) = False := fun h => eqn (by omega)
  rcases k45 with k4 | k4
  case' inl => replace k4 := eqp k4; clear k4'
  case' inr => replace k4' := k4' k4; replace k4 := eqp k4
  all_goals
   simp [*]
   refine zI l K122_2 B122_2 (fun d => [(18, .int .i64 d.length)]) (fun _ => []) (fun d => (d.all fun y => !((!decide (tk = 0) && !decide (y = tk)) || !decide (y = x0))) = true) (by omega) ?_ ?_ ?_
   ·simp [*]
   ·intros d x r s2 hl' hlt hget hget' hw2 hp g1 g2 g3 g4
    simp at g1 g2 g3
    have hbad : (!((!decide (tk = 0) && !decide (x = tk)) || !decide (x = x0))) = false -> (l.all fun y => !((!decide (tk = 0) && !decide (y = tk)) || !decide (y = x0))) = false := by
     intro h; rw [hl'.eq, List.all_append, List.all_cons, h]; simp
    have hgood : (!((!decide (tk = 0) && !decide (x = tk)) || !decide (x = x0))) = true -> ((d ++ [x]).all fun y => !((!decide (tk = 0) && !decide (y = tk)) || !decide (y = x0))) = true := by
     intro h; rw [List.all_append, hp, List.all_cons, h]; simp
    clear hl' hp h1 h2 h3
    by_cases c1 : tk = 0
    ·by_cases c2 : x = x0
     ·replace hgood := hgood (by simp [c1, c2])
      replace c1 := eqp c1
      replace c2 := eqp c2
      clear hbad hT
      simp [*, zQb]
      all_goals (try grind)
     ·rw [hbad (by simp [c2])] at hT
      simp at hT
      replace c1 := eqp c1
      replace c2 := eqn c2
      clear hbad hgood
      subst hT
      simp [*, zQb, zbb]
    ·by_cases c3 : x = tk
     ·by_cases c2 : x = x0
      ·replace hgood := hgood (by rw [decide_eq_true c3, decide_eq_true c2]; simp)
       replace c1 := eqn c1
       replace c2 := eqp c2
       replace c3 := eqp c3
       clear hbad hT
       simp [*, zQb]
       all_goals (try grind)
      ·rw [hbad (by simp [c2])] at hT
       simp at hT
       replace c1 := eqn c1
       replace c2 := eqn c2
       replace c3 := eqp c3
       clear hbad hgood
       subst hT
       simp [*, zQb, zbb]
     ·rw [hbad (by simp [c1, c3])] at hT
      simp at hT
      replace c1 := eqn c1
      replace c3 := eqn c3
      clear hbad hgood
      subst hT
      simp [*, zQb, zbb]
   ·intros s2 hp g1 g2 g3 g4
    simp at g1 g2 g3
    rw [hp] at hT
    simp at hT
    clear hp h1 h2 h3
    subst hT
    simp [*, zQb, zbb]
 ·have k4 : ¬ e.kind = 4 := fun h => k45 (Or.inl h)
  have k5 : ¬ e.kind = 5 := fun h => k45 (Or.inr h)
  have hv : zme p s e.kind e.op e.name l = (1, true) := by unfold zme; rw [if_neg k2, if_neg k3, if_neg k6, if_neg k4, if_neg k5, if_neg k7]
  rw [hv] at hT
  simp at hT
  replace k2 := eqn k2
  replace k3 := eqn k3
  replace k7 := eqn k7
  replace k6 := eqn k6
  replace k4 := eqn k4
  replace k5 := eqn k5
  clear hk h0 hv k45
  subst hT
  simp [*, zQb, zbb]
set_option maxRecDepth 20000 in
set_option maxHeartbeats 8000000 in
theorem rTypeOf_spec' : ∀ w (p : Prog) (s : List Vr) (e : Expr) (m : Int), Fit p -> wtE e <= w -> w < 1099510000000 -> s.length < 1099509000000 -> zgb e m = true -> zi E 122 [zf p, parsV (zqa s), zp e] [] = some (.ret (zbb (zmc p s e)), []) := by
 intro w
 induction w with
 | zero => intro p s e m _ h _ _ _; rw [zqd] at h; omega
 | succ w ih =>
  intro p s e m hz h hw hsl hR
  rw [exprR_eq, Bool.and_eq_true] at hR
  obtain ⟨hm, hk⟩ := hR
  have hla := zxc e.args
  have hwe := zqd e
  have hp := zIc p e.name (by have := hz.f; omega)
  have ha := zJc p e.name (by have := hz.a; omega)
  have hf := rfind_spec s e.name (by omega)
  have hT := (exprT_eq p s e).symm
  have tail := type_tail p s e m hz (by omega) hm hk
  have h3 : (zEa p e.name < 0) = (zlb p e.name = false) := by
   have : decide (0 <= zEa p e.name) = zlb p e.name := idx_ge (fun f : PArr => decide (f.name = e.name)) p.arrays
   rw [<- this, decide_eq_false_iff_not]; apply propext; omega
  replace tail := fun h0 => tail h0 (fun x hx m' hm' => ih p s x m' hz (by have := zUa hx; omega) (by omega) hsl hm')
  have hal : e.args.length < 1099510000000 := by omega
  clear h hw hm hk hla hwe ih
  generalize zmc p s e = R at *
  refine zd rfl rfl rfl (by simp [zf, za, parsV]) ?_
  rw [show F122.body = .seq (sq1 F122.body) (.seq (sq1 (sq2 F122.body)) (.seq (sq1 (sq2 (sq2 F122.body))) (.seq (sq1 (sq2 (sq2 (sq2 F122.body)))) typeTail))) from rfl]
  simp [zf, parsV, zbb] at hp ha hf
  unfold zDc at hT tail
  by_cases k3 : e.kind = 3
  ·rw [if_pos k3] at hT tail
   have k7 : (e.kind = 7) = False := eqn (by omega)
   have k6 : (e.kind = 6) = False := eqn (by omega)
   replace k3 := eqp k3
   by_cases hv : zJa s e.name = []
   ·rw [if_pos hv] at hT
    simp at hT
    replace hv := eqp hv
    clear tail
    subst hT
    simp [*, F122, sq1, sq2, zf, za, parsV, zbb, zc]
   ·rw [if_neg hv] at tail
    replace tail := tail rfl
    replace hv := eqn hv
    clear hT
    simp [*, F122, sq1, sq2, zf, za, parsV, zbb, zc]
    refine tail _ ?_ ?_ ?_ ?_ ?_ ?_ ?_ ?_ <;> simp [*, parsV, zc]
  rw [if_neg k3] at hT tail
  by_cases k6 : e.kind = 6
  ·rw [if_pos k6] at hT tail
   have k7 : (e.kind = 7) = False := eqn (by omega)
   replace k3 := eqn k3
   replace k6 := eqp k6
   cases hb : zlb p e.name
   ·rw [hb] at hT h3
    simp at hT h3
    replace h3 := eqp h3
    clear tail
    subst hT
    simp [*, F122, sq1, sq2, zf, za, parsV, zbb, zc]
   ·rw [hb] at tail h3
    replace tail := tail rfl
    replace h3 : (zEa p e.name < 0) = False := by rw [h3]; simp
    clear hT
    simp [*, F122, sq1, sq2, zf, za, parsV, zbb, zc]
    refine tail _ ?_ ?_ ?_ ?_ ?_ ?_ ?_ ?_ <;> simp [*, parsV, zc]
  rw [if_neg k6] at hT tail
  by_cases k7 : e.kind = 7
  ·rw [if_pos k7] at hT tail
   replace k3 := eqn k3
   replace k6 := eqn k6
   replace k7 := eqp k7
   rcases zkb (fun f : Func => decide (f.name = e.name)) p.funcs with ⟨a1, a2⟩ | ⟨n, f, a1, a2, a3, a4, a5⟩
   ·have a1 : zla p e.name = -1 := a1
    have a2 : zSa p e.name = none := a2
    rw [a2] at hT
    simp at hT
    rw [a1] at hp
    clear tail a2
    subst hT
    simp [*, F122, sq1, sq2, zf, za, parsV, zbb, zc]
   ·have a1 : zla p e.name = n := a1
    have a3 : zSa p e.name = some f := a3
    have hpf := hz.p f (List.mem_of_getElem? a2)
    rw [a3] at hT tail
    simp only at hT tail
    have n0 : ¬ ((n : Int) < 0) := by omega
    rw [a1] at hp tail
    simp only [funcs] at hp
    by_cases hq : f.params.length = e.args.length
    ·rw [if_pos hq] at tail
     replace tail := tail rfl
     have hq' : ((e.args.length : Int) = f.params.length) = True := eqp (by omega)
     clear hT a5 a4 a3 a1 hq
     simp [*, F122, sq1, sq2, zf, za, parsV, zbb, zc, funcs, zm]
     refine tail _ ?_ ?_ ?_ ?_ ?_ ?_ ?_ ?_ <;> simp [*, parsV, zc, funcs]
    ·rw [if_neg hq] at hT
     simp at hT
     have hq' : ((e.args.length : Int) = f.params.length) = False := eqn (by omega)
     clear tail a5 a4 a3 a1 hq
     subst hT
     simp [*, F122, sq1, sq2, zf, za, parsV, zbb, zc, funcs, zm]
  ·rw [if_neg k7] at tail
   replace tail := tail rfl
   replace k3 := eqn k3
   replace k6 := eqn k6
   replace k7 := eqn k7
   clear hT
   simp [*, F122, sq1, sq2, zf, za, parsV, zbb, zc]
   refine tail _ ?_ ?_ ?_ ?_ ?_ ?_ ?_ ?_ <;> simp [*, parsV, zc]
theorem rTypeOf_spec (p : Prog) (s : List Vr) (e : Expr) (m : Int) (hz : Fit p) (hw : wtE e < 1099510000000) (hs : s.length < 1099509000000) (hR : zgb e m = true) : zi E 122 [zf p, parsV (zqa s), zp e] [] = some (.ret (zbb (zmc p s e)), []) :=
 rTypeOf_spec' (wtE e) p s e m hz (Nat.le_refl _) hw hs hR
end PE.U

namespace PE.U
open Go PE
set_option maxHeartbeats 1000000 in
theorem breaks_spec' : ∀ w (l : List Stmt), wtSs l <= w -> w < 1099508500000 -> zi E 100 [zh l] [] = some (.ret (.bool (zna l)), [])
 | w, l, h, hw => by
  have hlen := zza l
  refine zd rfl rfl rfl (by simp [zh]) ?_
  simp [F100, zh]
  refine zI l K100_0 B100_0 (fun d => [(3, .int .i64 d.length)]) (fun _ => []) (fun d => zna d = false) (by omega) (by simp [zna]) ?_ ?_
  ·intros d x r s1 hl' hlt hget hget' hw1 hp h1 h2 h3 h4
   simp at h1 h2 h3
   have hwx := zxe hl'.mem
   rw [zxb] at hwx
   obtain ⟨w, rfl⟩ : ∃ k, w = k + 1 := ⟨w - 1, by omega⟩
   have i1 := breaks_spec' w x.thn (by omega) (by omega)
   have i2 := breaks_spec' w x.els (by omega) (by omega)
   have hyes : zEe x = true -> zna l = true := by intro h; rw [leavesT_any, hl'.eq]; simp [h]
   have hno : zEe x = false -> zna (d ++ [x]) = false := by intro h; rw [leavesT_any] at hp ⊢; rw [List.any_append, hp]; simp [h]
   rw [leaves1_eq] at hyes hno
   clear hl' hp h hwx
   simp [zh] at i1 i2
   generalize zna x.thn = b1 at *
   generalize zna x.els = b2 at *
   by_cases k6 : x.kind = 6
   ·replace hyes := hyes (by simp [k6])
    replace k6 := eqp k6
    clear hno
    simp [*, zb, zh]
   by_cases k4 : x.kind = 4
   ·cases b1
    ·cases b2
     ·replace hno := hno (by simp [k4])
      replace k6 := eqn k6
      replace k4 := eqp k4
      clear hyes
      simp [*, zb, zh]
      all_goals (try grind)
     ·replace hyes := hyes (by simp [k4])
      replace k6 := eqn k6
      replace k4 := eqp k4
      clear hno
      simp [*, zb, zh]
    ·replace hyes := hyes (by simp [k4])
     replace k6 := eqn k6
     replace k4 := eqp k4
     clear hno
     simp [*, zb, zh]
   ·replace hno := hno (by simp [k4, k6])
    replace k6 := eqn k6
    replace k4 := eqn k4
    clear hyes
    simp [*, zb, zh]
    all_goals (try grind)
  ·intros s1 hp h1 h2 h3 h4
   simp at h1 h2 h3
   simp [*]
theorem breaks_spec (l : List Stmt) (h : wtSs l < 1099508000000) : zi E 100 [zh l] [] = some (.ret (.bool (zna l)), []) := breaks_spec' (wtSs l) l (Nat.le_refl _) (by omega)
set_option maxHeartbeats 1000000 in
theorem rends_spec' : ∀ w (l : List Stmt) (m : Int), wtSs l <= w -> w < 1099508000000 -> zT l m = true -> zi E 73 [zh l] [] = some (.ret (.bool (zcc l)), [])
 | w, l, m, h, hw, hR => by
  have hlen := zza l
  refine zd rfl rfl rfl (by simp [zh]) ?_
  simp [F73, zh]
  refine zI l K73_0 B73_0 (fun d => [(3, .int .i64 d.length)]) (fun _ => []) (fun d => zcc d = false) (by omega) (by simp [zcc]) ?_ ?_
  ·intros d x r s1 hl' hlt hget hget' hw1 hp h1 h2 h3 h4
   simp at h1 h2 h3
   have hwx := zxe hl'.mem
   rw [zxb] at hwx
   obtain ⟨w, rfl⟩ : ∃ k, w = k + 1 := ⟨w - 1, by omega⟩
   have hxR : zac x m = true := by rw [stmtsR_all, List.all_eq_true] at hR; exact hR x hl'.mem
   obtain ⟨r1, r2, r3, r4⟩ := zpc hxR
   have i1 := rends_spec' w x.thn _ (by omega) (by omega) r3
   have i2 := rends_spec' w x.els _ (by omega) (by omega) r4
   have i3 := breaks_spec x.thn (by omega)
   have hyes : ends1 x = true -> zcc l = true := by intro h; rw [endsT_any, hl'.eq]; simp [h]
   have hno : ends1 x = false -> zcc (d ++ [x]) = false := by intro h; rw [endsT_any] at hp ⊢; rw [List.any_append, hp]; simp [h]
   rw [ends1_eq] at hyes hno
   clear hl' hp h hwx hxR hR r2 r3 r4
   simp [zh] at i1 i2 i3
   generalize zcc x.thn = b1 at *
   generalize zcc x.els = b2 at *
   generalize zna x.thn = b3 at *
   by_cases k8 : x.kind = 8
   ·replace hyes := hyes (by simp [k8])
    replace k8 := eqp k8
    clear hno r1
    simp [*, zb, zh, zc]
   by_cases k4 : x.kind = 4
   ·rw [if_neg k8, if_pos k4] at hyes hno
    have k5 : (x.kind = 5) = False := eqn (by omega)
    replace k8 := eqn k8
    replace k4 := eqp k4
    clear r1
    cases b1
    ·replace hno := hno rfl
     clear hyes
     simp [*, zb, zh, zc]
     all_goals (try grind)
    ·cases b2
     ·replace hno := hno rfl
      clear hyes
      simp [*, zb, zh, zc]
      all_goals (try grind)
     ·replace hyes := hyes rfl
      clear hno
      simp [*, zb, zh, zc]
   by_cases k5 : x.kind = 5
   ·rw [if_neg k8, if_neg k4, if_pos k5] at hyes hno
    have hl1 : x.args.length = 1 := by rw [k5] at r1; simp [zM] at r1; omega
    obtain ⟨y, hy⟩ := List.length_eq_one_iff.1 hl1
    have hg0 : x.args[0]? = some y := by rw [hy]; rfl
    have ha0 : arg0 x.args = y := by unfold arg0; rw [hg0]; rfl
    rw [ha0] at hyes hno
    clear hy hl1 r1 ha0
    replace k8 := eqn k8
    replace k4 := eqn k4
    replace k5 := eqp k5
    by_cases y2 : y.kind = 2
    ·by_cases y1 : y.n = 1
     ·cases b3
      ·replace hyes := hyes (by simp [y1, y2])
       replace y2 := eqp y2
       replace y1 := eqp y1
       clear hno
       simp [*, zb, zh, zc, za]
      ·replace hno := hno (by simp)
       replace y2 := eqp y2
       replace y1 := eqp y1
       clear hyes
       simp [*, zb, zh, zc, za]
       all_goals (try grind)
     ·replace hno := hno (by simp [y1])
      replace y2 := eqp y2
      replace y1 := eqn y1
      clear hyes
      simp [*, zb, zh, zc, za]
      all_goals (try grind)
    ·replace hno := hno (by simp [y2])
     replace y2 := eqn y2
     clear hyes
     simp [*, zb, zh, zc, za]
     all_goals (try grind)
   ·rw [if_neg k8, if_neg k4, if_neg k5] at hyes hno
    replace hno := hno rfl
    replace k8 := eqn k8
    replace k4 := eqn k4
    replace k5 := eqn k5
    clear hyes r1
    simp [*, zb, zh, zc]
    all_goals (try grind)
  ·intros s1 hp h1 h2 h3 h4
   simp at h1 h2 h3
   clear hR
   simp [*]
theorem rends_spec (l : List Stmt) (m : Int) (h : wtSs l < 1099508000000) (hR : zT l m = true) : zi E 73 [zh l] [] = some (.ret (.bool (zcc l)), []) := rends_spec' (wtSs l) l m (Nat.le_refl _) h hR
def cob (p : Prog) (f : Func) (n : Int) : Obj := .arr 7 [.agg [zga p.arrays, funcs p.funcs, .str f.name, .int .i64 f.type, parsV f.params, zh f.body, .int .i64 n]]
theorem rwant_spec {p : Prog} {g : Func} {s : List Vr} {e : Expr} {t m : Int} {σ : ze} {k : Nat} {n : Int} (hk : σ[k]? = some (cob p g n)) (hz : Fit p) (hs : s.length < 1099509000000) (hw : wtE e < 1099510000000) (hR : zgb e m = true) :
  zi E 121 [.ptr k 0 0, parsV (zqa s), zp e, .int .i64 t] σ = some (.ret (.int .i64 (zTc p s e t)), σ) := by
 refine zd rfl rfl rfl (by simp [za, parsV]) ?_
 have h1 := rTypeOf_spec p s e m hz hw hs hR
 unfold zTc
 generalize zmc p s e = q at *
 obtain ⟨ty, f⟩ := q
 simp only
 clear hR hw hz hs
 rw [za] at h1
 simp [zf, zc, zbb, parsV] at h1
 unfold cob at hk
 by_cases hf : f = 0
 ·subst hf
  by_cases ht : ty = t
  ·replace ht := eqp ht
   simp [*, F121, za, zc, parsV]
  ·replace ht := eqn ht
   simp [*, F121, za, zc, parsV]
 ·replace hf := eqn hf
  simp [*, F121, za, zc, parsV]
theorem findV_append (a b : List Vr) (nm : List UInt8) : zJa (a ++ b) nm = if zJa a nm = [] then zJa b nm else zJa a nm ++ b := by
 induction a with
 | nil => simp [zJa]
 | cons v r ih =>
  rw [List.cons_append, zOc, zOc, ih]
  by_cases h : v.name = nm <;> simp [h]
theorem findV_mem {s : List Vr} {nm : List UInt8} {v : Vr} {r : List Vr} (h : zJa s nm = v :: r) : v ∈ s := by
 induction s with
 | nil => simp [zJa] at h
 | cons x q ih =>
  rw [zOc] at h
  split at h
  ·cases h; simp
  ·simp [ih h]
structure Lay (s : List Vr) (d : Int) (q : Nat) where
 inner : List Vr
 outer : List Vr
 eq : s = inner ++ outer
 len : outer.length = q
 ins : ∀ v ∈ inner, v.depth = d
 outs : ∀ v ∈ outer, v.depth < d
theorem lay_let {s : List Vr} {d : Int} {q : Nat} (L : Lay s d q) (nm : List UInt8) : (match zJa s nm with | [] => (0 : Int) | v :: _ => if v.depth < d then 0 else 50) = if zJa L.inner nm = [] then 0 else 50 := by
 obtain ⟨inner, outer, rfl, len, ins, outs⟩ := L
 simp only
 rw [findV_append]
 by_cases h : zJa inner nm = []
 ·rw [if_pos h, if_pos h]
  cases hb : zJa outer nm with
  | nil => rfl
  | cons v r =>
   simp only
   rw [if_pos (outs v (findV_mem hb))]
 ·rw [if_neg h, if_neg h]
  cases hb : zJa inner nm with
  | nil => exact absurd hb h
  | cons v r =>
   simp only [List.cons_append]
   rw [if_neg (by rw [ins v (findV_mem hb)]; omega)]
theorem lay_drop {s : List Vr} {d : Int} {q : Nat} (L : Lay s d q) : (zqa s).drop q = zqa L.inner := by
 obtain ⟨inner, outer, rfl, len, ins, outs⟩ := L
 simp only
 rw [varsOf_append, List.drop_append_of_le_length (by rw [znb, len]; exact Nat.le_refl _), List.drop_of_length_le (by rw [znb, len]; exact Nat.le_refl _), List.nil_append]
set_option maxRecDepth 20000 in
set_option maxHeartbeats 8000000 in
theorem rown_spec {p : Prog} {g : Func} {s : List Vr} {x : Stmt} {d m : Int} {loop : Bool} {σ : ze} {k q : Nat} {n : Int} (hk : σ[k]? = some (cob p g n)) (L : Lay s d q) (hz : Fit p) (hs : s.length < 1099509000000) (hw : wtS x < 1099509000000) (hR : zac x m = true) :
  zi E 99 [.ptr k 0 0, zda x, parsV (zqa s), .int .i64 q, .bool loop] σ = some (.ret (.int .i64 (stmtT p g.type s x.kind x.type x.name x.args d loop)), σ) := by
 refine zd rfl rfl rfl (by simp [zb, parsV]) ?_
 obtain ⟨r1, r2, _, _⟩ := zpc hR
 rw [zxb] at hw
 have hwant : ∀ y ∈ x.args, ∀ t, zi E 121 [.ptr k 0 0, parsV (zqa s), zp y, .int .i64 t] σ = some (.ret (.int .i64 (zTc p s y t)), σ) := by
  intro y hy t
  have := zUa hy
  exact rwant_spec hk hz hs (by omega) (r2 y hy)
 have hexp : ∀ y ∈ x.args, zi E 122 [zf p, parsV (zqa s), zp y] [] = some (.ret (zbb (zmc p s y)), []) := by
  intro y hy
  have := zUa hy
  exact rTypeOf_spec p s y 100 hz (by omega) hs (r2 y hy)
 have hone : (x.kind = 1 \/ x.kind = 2 \/ x.kind = 4 \/ x.kind = 5 \/ x.kind = 8 \/ x.kind = 9 \/ x.kind = 10) -> ∃ y, x.args = [y] := by
  intro h
  have : x.args.length = 1 := by rcases h with h | h | h | h | h | h | h <;> (rw [h] at r1; simp [zM] at r1; omega)
  exact List.length_eq_one_iff.1 this
 have hkind : 1 <= x.kind /\ x.kind <= 10 := by
  by_cases h : 1 <= x.kind /\ x.kind <= 10
  ·exact h
  ·exfalso
   have : (zM x.kind).2.2.1 = -1 := by
    unfold zM
    repeat' (first | rw [if_neg (by omega)] | rfl)
   omega
 have hf := rfind_spec s x.name (by omega)
 have hil : L.inner.length < 1099511627776 := by
  have := congrArg List.length L.eq; rw [List.length_append] at this; omega
 have hql : q <= s.length := by
  have := congrArg List.length L.eq; rw [List.length_append, L.len] at this; omega
 have hfi := rfind_spec L.inner x.name hil
 have hdrop := lay_drop L
 have hlet := lay_let L x.name
 have hvl := znb s
 have hh := zJc p x.name (by have := hz.a; omega)
 have h3 : decide (0 <= zEa p x.name) = zlb p x.name := idx_ge (fun f : PArr => decide (f.name = x.name)) p.arrays
 have h3' : (zEa p x.name < 0) = (zlb p x.name = false) := by
  rw [<- h3, decide_eq_false_iff_not]; apply propext; omega
 have hlvl : ((zqa s).map encPar).length = s.length := by simp [zqa]
 clear r2 hR hw hz h3 hil
 unfold stmtT
 unfold cob at hk
 simp [zf] at hh
 have one : ∀ y, x.args = [y] -> x.args[0]? = some y /\ arg0 x.args = y := by
  intro y hy
  have hget : x.args[0]? = some y := by rw [hy]; rfl
  exact ⟨hget, by unfold arg0; rw [hget]; rfl⟩
 by_cases k1 : x.kind = 1
 ·obtain ⟨y, hy⟩ := hone (by simp [k1])
  obtain ⟨hget, ha0⟩ := one y hy
  have hw1 := hwant y (by rw [hy]; simp) x.type
  rw [if_neg (by omega), if_neg (by omega), if_neg (by omega), if_neg (by omega), if_neg (by omega)]
  have hb : boundT p s x.kind x.type x.name x.args d = if zTc p s (arg0 x.args) x.type ≠ 0 then zTc p s (arg0 x.args) x.type else if zJa L.inner x.name = [] then 0 else 50 := by
   unfold boundT
   rw [if_pos k1]
   split
   ·rfl
   ·exact hlet
  rw [hb, ha0]
  rw [za] at hw1
  simp [zc, parsV] at hw1 hfi
  have hd2 : List.drop q ((zqa s).map encPar) = (zqa L.inner).map encPar := by rw [<- List.map_drop, hdrop]
  have htk : List.take s.length ((zqa s).map encPar) = (zqa s).map encPar := List.take_of_length_le (by rw [hlvl]; exact Nat.le_refl _)
  unfold parsV
  generalize (zqa s).map encPar = vs at *
  replace k1 := eqp k1
  clear hy r1 ha0 hwant hexp hone hkind h3' hh one hf hlet hdrop hvl hb
  generalize zTc p s y x.type = f at *
  have q0 : (0 <= (q : Int)) := by omega
  by_cases hff : f = 0
  ·subst hff
   by_cases hin : zJa L.inner x.name = []
   ·replace hin := eqp hin
    simp [*, F99, zb, zc, za, parsV]
   ·replace hin := eqn hin
    simp [*, F99, zb, zc, za, parsV]
  ·replace hff := eqn hff
   simp [*, F99, zb, zc, za, parsV]
 clear hfi hdrop hlet hql hvl hlvl
 by_cases k2 : x.kind = 2
 ·obtain ⟨y, hy⟩ := hone (by simp [k2])
  obtain ⟨hget, ha0⟩ := one y hy
  have hw1 := hwant y (by rw [hy]; simp)
  rw [if_neg (by omega), if_neg (by omega), if_neg (by omega), if_neg (by omega), if_neg (by omega)]
  unfold boundT
  rw [if_neg k1, if_pos k2, ha0]
  clear hy r1 ha0 hwant hexp hone hkind h3' hh one
  replace k1 := eqn k1
  replace k2 := eqp k2
  unfold typeV at hf
  generalize zJa s x.name = vs at *
  cases vs with
  | nil =>
   clear hw1
   simp [parsV] at hf
   simp [*, F99, zb, zc, za, parsV]
  | cons v r =>
   have hw1 := hw1 v.type
   rw [za] at hw1
   simp [zc, parsV] at hw1 hf
   simp [*, F99, zb, zc, za, parsV]
 clear hf
 by_cases k3 : x.kind = 3
 ·have hl2 : x.args.length = 2 := by rw [k3] at r1; simp [zM] at r1; omega
  obtain ⟨y, z, hy⟩ : ∃ y z, x.args = [y, z] := by
   match h : x.args, hl2 with
   | [y, z], _ => exact ⟨y, z, rfl⟩
  have hget : x.args[0]? = some y := by rw [hy]; rfl
  have hget1 : x.args[1]? = some z := by rw [hy]; rfl
  have ha0 : arg0 x.args = y := by unfold arg0; rw [hget]; rfl
  have ha1 : arg1 x.args = z := by unfold arg1; rw [hget1]; rfl
  rw [if_neg (by omega), if_neg (by omega), if_neg (by omega), if_neg (by omega), if_neg (by omega)]
  unfold boundT
  rw [if_neg k1, if_neg k2, ha0, ha1]
  have hw1 := hwant y (by rw [hy]; simp) 1
  have hw2 := hwant z (by rw [hy]; simp) 1
  clear hy hl2 r1 ha0 ha1 hwant hexp hone hkind one
  replace k1 := eqn k1
  replace k2 := eqn k2
  replace k3 := eqp k3
  rw [za] at hw1 hw2
  simp [zc, parsV] at hw1 hw2
  generalize zlb p x.name = b at *
  cases b
  ·clear hw1 hw2
   simp at h3'
   replace h3' := eqp h3'
   simp [*, F99, zb, zc, za, parsV]
  ·simp at h3'
   replace h3' : (zEa p x.name < 0) = False := eqn (by omega)
   generalize zTc p s y 1 = f at *
   by_cases hff : f = 0
   ·subst hff
    simp [*, F99, zb, zc, za, parsV]
   ·replace hff := eqn hff
    simp [*, F99, zb, zc, za, parsV]
 clear hh h3'
 by_cases k45 : x.kind = 4 \/ x.kind = 5
 ·obtain ⟨y, hy⟩ := hone (by rcases k45 with h | h <;> simp [h])
  obtain ⟨hget, ha0⟩ := one y hy
  have hw1 := hwant y (by rw [hy]; simp) 2
  rw [if_pos k45, ha0]
  rw [za] at hw1
  simp [zc, parsV] at hw1
  clear hy r1 ha0 hwant hexp hone one
  have k5' : x.kind = 5 -> (x.kind = 4) = False := fun h => eqn (by omega)
  replace k1 := eqn k1
  replace k2 := eqn k2
  replace k3 := eqn k3
  clear hkind
  rcases k45 with k4 | k4
  ·replace k4 := eqp k4
   clear k5'
   simp [*, F99, zb, zc, za, parsV]
  ·replace k5' := k5' k4
   replace k4 := eqp k4
   simp [*, F99, zb, zc, za, parsV]
 rw [if_neg k45]
 have k4 : (x.kind = 4) = False := eqn fun h => k45 (Or.inl h)
 have k5 : (x.kind = 5) = False := eqn fun h => k45 (Or.inr h)
 replace k1 := eqn k1
 replace k2 := eqn k2
 replace k3 := eqn k3
 clear k45
 by_cases k8 : x.kind = 8
 ·obtain ⟨y, hy⟩ := hone (by simp [k8])
  obtain ⟨hget, ha0⟩ := one y hy
  have hw1 := hwant y (by rw [hy]; simp) g.type
  rw [if_pos k8, ha0]
  rw [za] at hw1
  simp [zc, parsV] at hw1
  clear hy r1 ha0 hwant hexp hone one hkind
  replace k8 := eqp k8
  simp [*, F99, zb, zc, za, parsV]
 by_cases k9 : x.kind = 9
 ·obtain ⟨y, hy⟩ := hone (by simp [k9])
  obtain ⟨hget, ha0⟩ := one y hy
  have hw1 := hwant y (by rw [hy]; simp) 1
  rw [if_neg k8, if_pos k9, ha0]
  rw [za] at hw1
  simp [zc, parsV] at hw1
  clear hy r1 ha0 hwant hexp hone one hkind
  replace k8 := eqn k8
  replace k9 := eqp k9
  simp [*, F99, zb, zc, za, parsV]
 by_cases k10 : x.kind = 10
 ·obtain ⟨y, hy⟩ := hone (by simp [k10])
  obtain ⟨hget, ha0⟩ := one y hy
  have hw1 := hexp y (by rw [hy]; simp)
  rw [if_neg k8, if_neg k9, if_pos k10, ha0]
  rw [za] at hw1
  simp [zc, parsV, zf, zbb] at hw1
  clear hy r1 ha0 hwant hexp hone one hkind
  replace k8 := eqn k8
  replace k9 := eqn k9
  replace k10 := eqp k10
  simp [*, F99, zb, zc, za, parsV]
 rw [if_neg k8, if_neg k9, if_neg k10, if_pos (by
  have := of_eq_false k1; have := of_eq_false k2; have := of_eq_false k3; have := of_eq_false k4; have := of_eq_false k5
  omega)]
 replace k8 := eqn k8
 replace k9 := eqn k9
 replace k10 := eqn k10
 clear r1 hwant hexp hone one hkind
 cases loop <;> simp [*, F99, zb, zc, za, parsV]
end PE.U

namespace PE.U
open Go PE
theorem blockGo_len (p : Prog) (res d : Int) (loop : Bool) : ∀ (l : List Stmt) (vs : List Vr) (n : Int), (zua p res d loop l vs n).1.length <= vs.length + l.length
 | [], vs, n => by simp [zua]
 | x :: r, vs, n => by
  have h2 := blockGo_len p res d loop r (zva d x vs) (zad p res x vs d loop n).2
  have h1 : (zva d x vs).length <= vs.length + 1 := by unfold zva; split <;> simp
  simp only [zua, List.length_cons]; omega
theorem lay_behind {s : List Vr} {d : Int} {q : Nat} (L : Lay s d q) (x : Stmt) : Nonempty (Lay (zva d x s) d q) := by
 obtain ⟨inner, outer, rfl, len, ins, outs⟩ := L
 unfold zva
 split
 ·refine ⟨⟨⟨x.name, x.type, d⟩ :: inner, outer, rfl, len, ?_, outs⟩⟩
  intro v hv
  rcases List.mem_cons.1 hv with rfl | hv
  ·rfl
  ·exact ins v hv
 ·exact ⟨⟨inner, outer, rfl, len, ins, outs⟩⟩
theorem lay_under {s : List Vr} {d : Int} {q : Nat} (L : Lay s d q) : ∀ v ∈ s, v.depth < d + 1 := by
 obtain ⟨inner, outer, rfl, len, ins, outs⟩ := L
 intro v hv
 rcases List.mem_append.1 hv with h | h
 ·have := ins v h; omega
 ·have := outs v h; omega
set_option maxRecDepth 20000 in
set_option maxHeartbeats 16000000 in
theorem rblock_spec' : ∀ w (p : Prog) (g : Func) (l : List Stmt) (vs : List Vr) (d m n : Int) (loop : Bool) (σ : ze) (k : Nat), wtSs l <= w -> w < 1099508000000 -> Fit p -> zT l m = true -> 0 <= n -> n + wtSs l < 4000000000000 -> vs.length + wtSs l < 1099508500000 -> (∀ v ∈ vs, v.depth < d) -> σ[k]? = some (cob p g n) →
  zi E 72 [.ptr k 0 0, zh l, parsV (zqa vs), .bool loop] σ = some (.ret (.int .i64 (zma p g.type l vs d loop n).1), σ.set k (cob p g (zma p g.type l vs d loop n).2)) := by
 intro w
 induction w with
 | zero =>
  intro p g l vs d m n loop σ k h hw hz hR hn0 hnw hvl hvd hk
  have hl : l = [] := by
   have := zza l
   exact List.eq_nil_of_length_eq_zero (by omega)
  subst hl
  have hset : σ.set k (cob p g n) = σ := by
   have hlt := (List.getElem?_eq_some_iff.1 hk)
   obtain ⟨h1, h2⟩ := hlt
   rw [<- h2, List.set_getElem_self]
  have hvl2 := znb vs
  have hroom : vs.length * 24 <= zw := by simp only [zw]; omega
  refine zd rfl rfl rfl (by simp [zh, parsV]) ?_
  simp only [zma, hset]
  simp [F72, zh, parsV, hvl2, hroom]
  refine zI ([] : List Stmt) K72_0 B72_0 (fun d' => [(9, acc 2 ((zqa vs).map encPar)), (10, .int .i64 d'.length)]) (fun _ => σ) (fun _ => True) (by simp) (by simp) ?_ ?_
  ·intros d' x r s1 hl' hlt
   simp at hlt
  ·intros s1 hp h1 h2 h3 h4
   simp at h1 h2 h3
   simp [*]
 | succ w ih =>
  intro p g l vs d m n loop σ k h hw hz hR hn0 hnw hvl hvd hk
  have hlen := zza l
  have hset : σ.set k (cob p g n) = σ := by
   have hlt := (List.getElem?_eq_some_iff.1 hk)
   obtain ⟨h1, h2⟩ := hlt
   rw [<- h2, List.set_getElem_self]
  have hklt : k < σ.length := (List.getElem?_eq_some_iff.1 hk).1
  have hvl2 := znb vs
  have hroom : vs.length * 24 <= zw := by simp only [zw]; omega
  refine zd rfl rfl rfl (by simp [zh, parsV]) ?_
  simp [F72, zh, parsV, hvl2, hroom]
  refine zI l K72_0 B72_0 (fun q => [(9, acc 2 ((zqa (zua p g.type d loop q vs n).1).map encPar)), (10, .int .i64 q.length)]) (fun q => σ.set k (cob p g (zua p g.type d loop q vs n).2)) (fun q => zVb p g.type d loop q vs n /\ Nonempty (Lay (zua p g.type d loop q vs n).1 d vs.length)) (by omega) ?_ ?_ ?_
  ·simp [zua, zVb, hset]
   exact ⟨⟨[], vs, rfl, rfl, by simp, hvd⟩⟩
  ·intros q x r s1 hl' hlt hget hget' hw1 hp h1 h2 h3 h4
   obtain ⟨hp, ⟨L⟩⟩ := hp
   have hT := blockT_go p g.type d loop (x :: r) q vs n hp
   rw [<- hl'.eq, zId, zwe] at hT
   have hG := blockGo_snoc p g.type d loop x q vs n
   have hF := zee p g.type d loop x q vs n hp
   rw [zwe] at hG hF
   have hxR : zac x m = true := by rw [stmtsR_all, List.all_eq_true] at hR; exact hR x hl'.mem
   have hwx := zxe hl'.mem
   rw [zxb] at hwx
   obtain ⟨r1, r2, r3, r4⟩ := zpc hxR
   have hgc := zOe p g.type d loop q vs n
   have hgl := blockGo_len p g.type d loop q vs n
   have hws : wtSs l = wtSs q + (1 + wtS x + wtSs r) := by rw [hl'.eq, wtSs_append]; rfl
   rw [zxb] at hws
   have hlq := zza q
   generalize zua p g.type d loop q vs n = gg at *
   obtain ⟨v1, n1⟩ := gg
   simp only at hT hG hF h3 h4 hgc hgl L
   have hwn : zB .i64 (n1 + 1) = n1 + 1 := zj (by omega) (by omega)
   have hk1 : (σ.set k (cob p g n1))[k]? = some (cob p g n1) := by rw [List.getElem?_set_self hklt]
   have hst := rown_spec (x := x) (loop := loop) hk1 L hz (by omega) (by rw [zxb]; omega) hxR
   obtain ⟨L2⟩ := lay_behind L x
   have hun := lay_under L2
   have hbl : (zva d x v1).length <= v1.length + 1 := by unfold zva; split <;> simp
   have hvv := znb v1
   have hi1 := ih p g x.thn (zva d x v1) (d + 1) (m - 1) (n1 + 1) (loop || decide (x.kind = 5)) (σ.set k (cob p g (n1 + 1))) k (by omega) (by omega) hz r3 (by omega) (by omega) (by omega) hun (by rw [List.getElem?_set_self hklt])
   rw [List.set_set] at hi1
   have hc1 := zZc p g.type x.thn (zva d x v1) (d + 1) (loop || decide (x.kind = 5)) (n1 + 1)
   generalize hT1 : zma p g.type x.thn (zva d x v1) (d + 1) (loop || decide (x.kind = 5)) (n1 + 1) = t1 at *
   obtain ⟨f1, n2⟩ := t1
   simp only at hc1
   have hi2 := ih p g x.els (zva d x v1) (d + 1) (m - 1) n2 loop (σ.set k (cob p g n2)) k (by omega) (by omega) hz r4 (by omega) (by omega) (by omega) hun (by rw [List.getElem?_set_self hklt])
   rw [List.set_set] at hi2
   simp only at hT hG hF hi1
   generalize hT2 : zma p g.type x.els (zva d x v1) (d + 1) loop n2 = t2 at *
   obtain ⟨f2, n3⟩ := t2
   simp only at hT hG hF hi2
   generalize stmtT p g.type v1 x.kind x.type x.name x.args d loop = f0 at *
   have hb : zva d x v1 = if x.kind = 1 then ⟨x.name, x.type, d⟩ :: v1 else v1 := rfl
   have hroom1 : (v1.length + 1) * 24 <= zw := by simp only [zw]; omega
   have hL3 : Nonempty (Lay (zva d x v1) d vs.length) := ⟨L2⟩
   clear ih hT1 hT2 r1 r2 r3 r4 hws hgc hc1 hnw hn0 hwx hxR hl' hR h hlen hset L L2 hun hlq hbl hgl hroom hvd hvl
   rw [zb] at hst
   simp [zc, zh, parsV] at hst hi1 hi2
   simp [zc, zh] at h1 h2 h3 h4
   unfold cob at *
   simp only [zh, parsV] at hst hi1 hi2 h4 hk ⊢
   by_cases hf0 : f0 = 0
   case neg =>
    simp [hf0] at hT
    rw [hT]
    clear hT hG hF hi1 hi2 hb hp hL3
    replace hf0 := eqn hf0
    simp [*, zb, zc, zh, parsV]
   subst hf0
   by_cases hk1 : x.kind = 1
   ·have hk5 : ¬ x.kind = 5 := by omega
    rw [if_pos hk1] at hb
    replace hk1 := eqp hk1
    replace hk5 := eqn hk5
    rw [hb] at hi1 hi2 hG hL3
    clear hb
    rw [zrd] at hi1 hi2
    simp only [parOf, hk5, decide_false, Bool.or_false, List.map_append, List.map_cons, List.map_nil, encPar] at hi1 hi2
    by_cases hf1 : f1 = 0
    case neg =>
     simp [hf1] at hT
     rw [hT]
     clear hT hG hF hi2 hp hL3
     replace hf1 := eqn hf1
     cases loop <;> simp [*, zb, zc, zh, parsV]
    subst hf1
    by_cases hf2 : f2 = 0
    case neg =>
     simp [hf2] at hT
     rw [hT]
     clear hT hG hF hp hL3
     replace hf2 := eqn hf2
     cases loop <;> simp [*, zb, zc, zh, parsV]
    subst hf2
    simp at hG hF
    clear hT hp
    have hv2 : (zqa (⟨x.name, x.type, d⟩ :: v1)).map encPar = (zqa v1).map encPar ++ [.agg [.str x.name, .int .i64 x.type]] := by rw [zrd]; simp [parOf, encPar]
    cases loop <;> simp [*, zb, zc, zh, parsV]
   ·rw [if_neg hk1] at hb
    replace hk1 := eqn hk1
    rw [hb] at hi1 hi2 hG hL3
    clear hb
    by_cases hf1 : f1 = 0
    case neg =>
     simp [hf1] at hT
     rw [hT]
     clear hT hG hF hi2 hp hL3
     replace hf1 := eqn hf1
     cases loop <;> simp at hi1 <;> simp [*, zb, zc, zh, parsV]
    subst hf1
    by_cases hf2 : f2 = 0
    case neg =>
     simp [hf2] at hT
     rw [hT]
     clear hT hG hF hp hL3
     replace hf2 := eqn hf2
     cases loop <;> simp at hi1 <;> simp [*, zb, zc, zh, parsV]
    subst hf2
    simp at hG hF
    clear hT hp
    cases loop <;> simp at hi1 <;> simp [*, zb, zc, zh, parsV]
  ·intros s1 hp h1 h2 h3 h4
   obtain ⟨hp, _⟩ := hp
   have hT := blockT_go p g.type d loop [] l vs n hp
   rw [List.append_nil, zma] at hT
   rw [hT]
   simp at h1 h2 h3 h4
   clear hT hp hR ih
   simp [*]
end PE.U

namespace PE.U
open Go PE
theorem nodup_idx {α : Type} (f : α -> List UInt8) (l : List α) : (l.map f).Nodup <-> ∀ d x r, l = d ++ x :: r -> idx (fun y => decide (f y = f x)) l = d.length := by
 constructor
 ·intro h d x r e
  subst e
  refine idx_hit (x := x) (r := r) rfl ?_ (by simp)
  intro y hy
  rw [List.map_append, List.nodup_append] at h
  exact decide_eq_false (h.2.2 _ (List.mem_map_of_mem hy) _ (by simp))
 ·intro h
  have : ∀ d r, l = d ++ r -> (d.map f).Nodup := by
   intro d
   suffices hs : ∀ d : List α, ∀ r, l = d.reverse ++ r -> (d.reverse.map f).Nodup by
    intro r e
    have := hs d.reverse r (by simpa using e)
    simpa using this
   intro d
   induction d with
   | nil => intro r _; simp
   | cons x d ih =>
    intro r e
    rw [List.reverse_cons, List.append_assoc] at e
    have h1 := ih _ e
    have h2 := h d.reverse x r (by simpa using e)
    rw [List.reverse_cons, List.map_append, List.nodup_append]
    refine ⟨h1, by simp, ?_⟩
    intro a ha b hb hab
    simp only [List.map_cons, List.map_nil, List.mem_singleton] at hb
    subst hb
    rw [List.mem_map] at ha
    obtain ⟨y, hy, rfl⟩ := ha
    -- y stands ahead of x, with its name
    obtain ⟨s, t, hst⟩ := List.append_of_mem hy
    have h3 : idx (fun y => decide (f y = f x)) l <= s.length := by
     rw [e, hst]
     clear h2 h1 ih e h
     have : ∀ s : List α, idx (fun y => decide (f y = f x)) ((s ++ y :: t) ++ ([x] ++ r)) <= s.length := by
      intro s
      unfold idx
      have hf : (((s ++ y :: t) ++ ([x] ++ r)).findIdx? fun y => decide (f y = f x)).isSome = true := by
       rw [List.findIdx?_isSome, List.any_eq_true]
       exact ⟨y, by simp, by simp [hab]⟩
      cases hfi : ((s ++ y :: t) ++ ([x] ++ r)).findIdx? fun y => decide (f y = f x) with
      | none => simp
      | some i =>
       simp only
       have hle : i <= s.length := by
        rcases Nat.lt_or_ge s.length i with hlt | hge
        ·rw [List.findIdx?_eq_some_iff_getElem] at hfi
         obtain ⟨_, _, h3⟩ := hfi
         have := h3 s.length hlt
         simp [hab] at this
        ·exact hge
       omega
     exact this s
    rw [h2, hst] at h3
    simp at h3
    omega
  have := this l [] (by simp)
  exact this
theorem idx_neg {α : Type} (p : α -> Bool) (l : List α) : idx p l < 0 <-> ∀ y ∈ l, p y = false := by
 rcases zkb p l with ⟨a1, a2⟩ | ⟨n, f, a1, a2, a3, a4, a5⟩
 ·rw [a1]
  simp only [List.find?_eq_none] at a2
  constructor
  ·intro _ y hy; simpa using a2 y hy
  ·intro _; omega
 ·rw [a1]
  constructor
  ·intro h; omega
  ·intro h
   have := h f (List.mem_of_getElem? a2)
   rw [a5] at this; exact absurd this (by decide)
set_option maxHeartbeats 4000000 in
theorem globals_spec (p : Prog) (hz : Fit p) : zi E 70 [zf p] [] = some (.ret (.bool (zVc p)), []) := by
 have ha := hz.a
 have hf := hz.f
 have hpl := zIc p zMb (by omega)
 have hcond : decide ((p.arrays.map (·.name) ++ p.funcs.map (·.name)).Nodup) = true <-> (∀ d x r, p.arrays = d ++ x :: r -> zEa p x.name = d.length /\ zla p x.name < 0) /\ (∀ d x r, p.funcs = d ++ x :: r -> zla p x.name = d.length) := by
  rw [decide_eq_true_eq, List.nodup_append, nodup_idx (fun a : PArr => a.name), nodup_idx (fun a : Func => a.name)]
  constructor
  ·rintro ⟨h1, h2, h3⟩
   refine ⟨fun d x r e => ⟨h1 d x r e, ?_⟩, h2⟩
   rw [zla, idx_neg]
   intro y hy
   have := h3 x.name (List.mem_map_of_mem (by rw [e]; simp)) y.name (List.mem_map_of_mem hy)
   exact decide_eq_false fun h => this h.symm
  ·rintro ⟨h1, h2⟩
   refine ⟨fun d x r e => (h1 d x r e).1, h2, ?_⟩
   intro a ha b hb hab
   rw [List.mem_map] at ha hb
   obtain ⟨x, hx, rfl⟩ := ha
   obtain ⟨y, hy, rfl⟩ := hb
   obtain ⟨s, t, hst⟩ := List.append_of_mem hx
   have := (h1 s x t hst).2
   rw [zla, idx_neg] at this
   have := this y hy
   simp only [decide_eq_false_iff_not] at this
   exact this hab.symm
 refine zd rfl rfl rfl (by simp [zf]) ?_
 have hno : ¬ ((∀ d x r, p.arrays = d ++ x :: r -> zEa p x.name = d.length /\ zla p x.name < 0) /\ (∀ d x r, p.funcs = d ++ x :: r -> zla p x.name = d.length)) -> zVc p = false := by
  intro h
  rw [<- hcond] at h
  rw [Bool.not_eq_true] at h
  unfold zVc
  rw [h]; rfl
 simp [F70, zf, zga, funcs]
 refine zI p.arrays K70_0 B70_0 (fun d => [(3, .int .i64 d.length)]) (fun _ => []) (fun d => ∀ e x r, d = e ++ x :: r -> zEa p x.name = e.length /\ zla p x.name < 0) (by omega) (by simp) ?_ ?_
 ·intros d x r s1 hl' hlt hget hget' hw1 hp h1 h2 h3 h4
  simp at h1 h2 h3 h4
  have e1 := zJc p x.name (by omega)
  have e2 := zIc p x.name (by omega)
  simp [zf, zga, funcs] at e1 e2
  have hbad : ¬ (zEa p x.name = d.length /\ zla p x.name < 0) -> zVc p = false := fun h => hno fun hh => h (hh.1 d x r hl'.eq)
  have hgood : zEa p x.name = d.length -> zla p x.name < 0 -> ∀ e y q, d ++ [x] = e ++ y :: q -> zEa p y.name = e.length /\ zla p y.name < 0 := by
   intro g1 g2 e y q hh
   rcases List.append_eq_append_iff.1 hh with ⟨a, ha1, ha2⟩ | ⟨a, ha1, ha2⟩
   ·cases a with
    | nil => simp at ha1 ha2; obtain ⟨rfl, rfl⟩ := ha2; subst ha1; exact ⟨g1, g2⟩
    | cons z a => simp at ha2
   ·cases a with
    | nil => simp at ha1 ha2; obtain ⟨rfl, rfl⟩ := ha2; subst ha1; exact ⟨g1, g2⟩
    | cons z a =>
     simp at ha2
     obtain ⟨rfl, _⟩ := ha2
     exact hp e y a ha1
  generalize zVc p = R at *
  clear hno hcond hl' hp hpl
  by_cases c1 : zEa p x.name = d.length
  ·by_cases c2 : zla p x.name < 0
   ·replace hgood := hgood c1 c2
    have c2' : (0 <= zla p x.name) = False := eqn (by omega)
    replace c1 := eqp c1
    clear hbad c2
    simp [*, -hgood, zU]
    exact hgood
   ·have hR := hbad (fun h => c2 h.2)
    have c2' : (0 <= zla p x.name) = True := eqp (by omega)
    subst hR
    replace c1 := eqp c1
    clear hbad c2 hgood
    simp [*, zU]
  ·have hR := hbad (fun h => c1 h.1)
   subst hR
   replace c1 := eqn c1
   clear hbad hgood
   simp [*, zU]
 intros s1 hp h1 h2 h3 h4
 simp at h1 h2 h3 h4
 simp [h1, h2, h3, h4]
 refine zI p.funcs K70_1 B70_1 (fun d => [(4, .int .i64 d.length)]) (fun _ => []) (fun d => ∀ e x r, d = e ++ x :: r -> zla p x.name = e.length) (by omega) ?_ ?_ ?_
 ·simp
 ·intros d x r s2 hl' hlt hget hget' hw1 hp2 g1 g2 g3 g4
  simp at g1 g2 g3 g4
  have e2 := zIc p x.name (by omega)
  simp [zf, zga, funcs] at e2
  have hbad : ¬ (zla p x.name = d.length) -> zVc p = false := fun h => hno fun hh => h (hh.2 d x r hl'.eq)
  have hgood : zla p x.name = d.length -> ∀ e y q, d ++ [x] = e ++ y :: q -> zla p y.name = e.length := by
   intro g1 e y q hh
   rcases List.append_eq_append_iff.1 hh with ⟨a, ha1, ha2⟩ | ⟨a, ha1, ha2⟩
   ·cases a with
    | nil => simp at ha1 ha2; obtain ⟨rfl, rfl⟩ := ha2; subst ha1; exact g1
    | cons z a => simp at ha2
   ·cases a with
    | nil => simp at ha1 ha2; obtain ⟨rfl, rfl⟩ := ha2; subst ha1; exact g1
    | cons z a =>
     simp at ha2
     obtain ⟨rfl, _⟩ := ha2
     exact hp2 e y a ha1
  generalize zVc p = R at *
  clear hno hcond hl' hp hp2 hpl h1 h3
  by_cases c1 : zla p x.name = d.length
  ·replace hgood := hgood c1
   replace c1 := eqp c1
   clear hbad
   simp [*, -hgood, zm]
   exact hgood
  ·have hR := hbad c1
   subst hR
   replace c1 := eqn c1
   clear hbad hgood
   simp [*, zm]
 ·intros s2 hp2 g1 g2 g3 g4
  simp at g1 g2 g3 g4
  have hyes : decide ((p.arrays.map (·.name) ++ p.funcs.map (·.name)).Nodup) = true := hcond.2 ⟨fun d x r e => hp d x r e, fun d x r e => hp2 d x r e⟩
  simp [zf, zMb, zga, funcs] at hpl
  clear hcond hno hp hp2 h1 h3
  rcases zkb (fun f : Func => decide (f.name = zMb)) p.funcs with ⟨a1, a2⟩ | ⟨n, f, a1, a2, a3, a4, a5⟩
  ·have a1 : zla p zMb = -1 := a1
   have a2 : zSa p zMb = none := a2
   simp [zMb] at a1
   rw [a1] at hpl
   have hN : zVc p = false := by unfold zVc; rw [a2]; simp
   rw [hN]
   clear ha hf a2 a1 hyes
   simp [*]
  ·have a1 : zla p zMb = n := a1
   have a3 : zSa p zMb = some f := a3
   simp [zMb] at a1
   rw [a1] at hpl
   have hN : zVc p = (decide (f.type = 1) && decide (f.params = [])) := by unfold zVc; rw [hyes, a3]; rfl
   rw [hN]
   clear ha hf a3 a4 a5 a1 hyes hN
   by_cases ht : f.type = 1
   ·replace ht := eqp ht
    simp [*, zm, parsV]
   ·replace ht := eqn ht
    simp [*, zm, parsV]
theorem zLd (l : List Par) : zqa (zja l) = l := by
 suffices h : ∀ l : List Par, zqa (zja l.reverse) = l.reverse by
  have := h l.reverse
  simpa using this
 intro l
 induction l with
 | nil => rfl
 | cons x r ih =>
  rw [List.reverse_cons, zMd, zrd, ih]; rfl
theorem scopedV_len (l : List Par) : (zja l).length = l.length := by
 have := congrArg List.length (zLd l)
 rw [znb] at this; exact this
theorem scopedV_depth (l : List Par) : ∀ v ∈ zja l, v.depth = 0 := by
 suffices h : ∀ l : List Par, ∀ v ∈ zja l.reverse, v.depth = 0 by
  have := h l.reverse
  simpa using this
 intro l
 induction l with
 | nil => intro v hv; simp [zja] at hv
 | cons x r ih =>
  rw [List.reverse_cons, zMd]
  intro v hv
  rcases List.mem_cons.1 hv with rfl | hv
  ·rfl
  ·exact ih v hv
theorem scopedV_find (l : List Par) (nm : List UInt8) : zJa (zja l) nm = [] <-> nm ∉ l.map (·.name) := by
 suffices h : ∀ s : List Vr, zJa s nm = [] <-> nm ∉ (zqa s).map (·.name) by
  rw [h, zLd]
 intro s
 induction s with
 | nil => simp [zJa, zqa]
 | cons v r ih =>
  rw [zOc, zrd, List.map_append, List.mem_append]
  by_cases h : v.name = nm
  ·simp [h, parOf]
  ·rw [if_neg h, ih]
   simp [parOf]
   intro _ hh; exact h hh.symm
end PE.U
