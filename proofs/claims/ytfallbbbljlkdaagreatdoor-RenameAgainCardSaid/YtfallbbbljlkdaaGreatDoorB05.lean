/-
  Texts joined by program: A6T6, A6T7, A6T8, A6T9, A6R1, A6R2, A6R3, A6R4, A6T10, A6T11, A6R5, A6R6, A6M4, A6N4, A6T5a, A6N5, A6N6, A6S1, A6T11a, A6M5a, A6M9, A6M10, A6M11, A6M12, A6M13, A6P21, A6P22, A6P23, A6P24, A6P25, A6P26, A6P27, A6P28, A6P29, A6T13a, A6M13b, A6T12, A6J4, A6J5, A6J6, A6J7, A6J8, A6J9, A6S2.
-/
import Derived.Test.YtfallbbbljlkdaaGreatDoorB04
set_option linter.unusedVariables false
set_option linter.unusedSectionVars false
set_option linter.unusedSimpArgs false
namespace PE.U
open Go PE
def zIb (p : Prog) (nm : List UInt8) : Option Func := p.funcs.find? fun f : Func => decide (f.name = nm)
def zPc (p : Prog) (nm : List UInt8) : Bool := p.arrays.any fun a : PArr => decide (a.name = nm)
def zAb (p : Prog) (s : List Vr) (k : Int) (nm : List UInt8) (a : Nat) : Int :=
 if k = 3 then (if zta s nm = [] then 50 else 0)
 else if k = 6 then (if zPc p nm then 0 else 50)
 else if k = 7 then (match zIb p nm with
  | none => 50
  | some f => if f.params.length = a then 0 else 51)
 else 0
structure Fit (p : Prog) : Prop where
 a : p.arrays.length < 1099509000000
 f : p.funcs.length < 1099509000000
 p : ∀ f ∈ p.funcs, f.params.length < 1099509000000
theorem namedT_spec (p : Prog) (s : List Vr) (e : Expr) (σ : zf) (hz : Fit p) (hw : wtE e < 1099510000000) : zi E 119 [zd p, zZa s, zo e] σ = some (.ret (.int .i64 (zAb p s e.kind e.name e.args.length)), σ) := by
 have hla := zPb e.args
 rw [zsd] at hw
 refine zc rfl rfl rfl (by simp [zd, za]) ?_
 unfold zAb
 by_cases k3 : e.kind = 3
 ·replace k3 := eqp k3
  have h1 := find_spec s e.name σ
  have h2 := zTd (!decide (zta s e.name = [])) 50 []
  by_cases hn : zta s e.name = []
  ·replace hn := eqp hn
   simp [hn] at h2
   (simp [*, F119, zd, za]) <;> (repeat' (first | ((first | refine sP _ ?_ ?_ | refine gP _ ?_ ?_ | refine sN _ ?_ ?_ | refine gN _ ?_ ?_) <;> intro hc <;> (first | replace hc := eqn hc | replace hc := eqp hc) <;> simp [*, F119, zd, za]) | ((first | refine sM _ ?_ ?_ | refine gM _ ?_ ?_ | refine sB _ ?_ ?_ | refine gB _ ?_ ?_) <;> intro hc <;> simp [*, F119, zd, za])))
  ·replace hn := eqn hn
   simp [hn] at h2
   (simp [*, F119, zd, za]) <;> (repeat' (first | ((first | refine sP _ ?_ ?_ | refine gP _ ?_ ?_ | refine sN _ ?_ ?_ | refine gN _ ?_ ?_) <;> intro hc <;> (first | replace hc := eqn hc | replace hc := eqp hc) <;> simp [*, F119, zd, za]) | ((first | refine sM _ ?_ ?_ | refine gM _ ?_ ?_ | refine sB _ ?_ ?_ | refine gB _ ?_ ?_) <;> intro hc <;> simp [*, F119, zd, za])))
 replace k3 := eqn k3
 by_cases k6 : e.kind = 6
 ·replace k6 := eqp k6
  have h1 := array_spec p e.name [] (by have := hz.a; omega)
  have h3 := idx_ge (fun f : PArr => decide (f.name = e.name)) p.arrays
  have h2 := zTd (zPc p e.name) 50 []
  have h4 : decide (0 <= zlb p e.name) = zPc p e.name := h3
  simp [zd] at h1
  generalize zPc p e.name = b at *
  clear h3
  cases b
  ·simp at h2 h4
   replace h4 : (0 <= zlb p e.name) = False := by simpa using h4
   (simp [*, F119, zd, za]) <;> (repeat' (first | ((first | refine sP _ ?_ ?_ | refine gP _ ?_ ?_ | refine sN _ ?_ ?_ | refine gN _ ?_ ?_) <;> intro hc <;> (first | replace hc := eqn hc | replace hc := eqp hc) <;> simp [*, F119, zd, za]) | ((first | refine sM _ ?_ ?_ | refine gM _ ?_ ?_ | refine sB _ ?_ ?_ | refine gB _ ?_ ?_) <;> intro hc <;> simp [*, F119, zd, za])))
  ·simp at h2 h4
   replace h4 : (0 <= zlb p e.name) = True := by simpa using h4
   (simp [*, F119, zd, za]) <;> (repeat' (first | ((first | refine sP _ ?_ ?_ | refine gP _ ?_ ?_ | refine sN _ ?_ ?_ | refine gN _ ?_ ?_) <;> intro hc <;> (first | replace hc := eqn hc | replace hc := eqp hc) <;> simp [*, F119, zd, za]) | ((first | refine sM _ ?_ ?_ | refine gM _ ?_ ?_ | refine sB _ ?_ ?_ | refine gB _ ?_ ?_) <;> intro hc <;> simp [*, F119, zd, za])))
 replace k6 := eqn k6
 by_cases k7 : e.kind = 7
 ·replace k7 := eqp k7
  have h1 := place_spec p e.name [] (by have := hz.f; omega)
  simp [zd, funcs] at h1
  rcases zid (fun f : Func => decide (f.name = e.name)) p.funcs with ⟨a1, a2⟩ | ⟨n, f, a1, a2, a3, a4, a5⟩
  ·have a1 : zwa p e.name = -1 := a1
   have a2 : zIb p e.name = none := a2
   rw [a1] at h1
   (simp [*, F119, zd, za, funcs]) <;> (repeat' (first | ((first | refine sP _ ?_ ?_ | refine gP _ ?_ ?_ | refine sN _ ?_ ?_ | refine gN _ ?_ ?_) <;> intro hc <;> (first | replace hc := eqn hc | replace hc := eqp hc) <;> simp [*, F119, zd, za, funcs]) | ((first | refine sM _ ?_ ?_ | refine gM _ ?_ ?_ | refine sB _ ?_ ?_ | refine gB _ ?_ ?_) <;> intro hc <;> simp [*, F119, zd, za, funcs])))
  ·have a1 : zwa p e.name = n := a1
   have a3 : zIb p e.name = some f := a3
   rw [a1] at h1
   have hp := hz.p f (List.mem_of_getElem? a2)
   have hf := hz.f
   have n0 : ¬ ((n : Int) < 0) := by omega
   have hlen : decide ((f.params.length : Int) = e.args.length) = decide (f.params.length = e.args.length) := by rw [decide_eq_decide]; omega
   have h2 := zTd (decide (f.params.length = e.args.length)) 51 []
   by_cases hq : f.params.length = e.args.length
   ·replace hq := eqp hq
    simp [hq] at h2 hlen
    replace hlen := eqp hlen
    clear a5 a4 a1
    (simp [*, F119, zd, za, funcs, ze, zm, parsV]) <;> (repeat' (first | ((first | refine sP _ ?_ ?_ | refine gP _ ?_ ?_ | refine sN _ ?_ ?_ | refine gN _ ?_ ?_) <;> intro hc <;> (first | replace hc := eqn hc | replace hc := eqp hc) <;> simp [*, F119, zd, za, funcs, ze, zm, parsV]) | ((first | refine sM _ ?_ ?_ | refine gM _ ?_ ?_ | refine sB _ ?_ ?_ | refine gB _ ?_ ?_) <;> intro hc <;> simp [*, F119, zd, za, funcs, ze, zm, parsV])))
   ·replace hq := eqn hq
    simp [hq] at h2 hlen
    replace hlen : ((f.params.length : Int) = e.args.length) = False := by simpa using hlen
    clear a5 a4 a1
    (simp [*, F119, zd, za, funcs, ze, zm, parsV]) <;> (repeat' (first | ((first | refine sP _ ?_ ?_ | refine gP _ ?_ ?_ | refine sN _ ?_ ?_ | refine gN _ ?_ ?_) <;> intro hc <;> (first | replace hc := eqn hc | replace hc := eqp hc) <;> simp [*, F119, zd, za, funcs, ze, zm, parsV]) | ((first | refine sM _ ?_ ?_ | refine gM _ ?_ ?_ | refine sB _ ?_ ?_ | refine gB _ ?_ ?_) <;> intro hc <;> simp [*, F119, zd, za, funcs, ze, zm, parsV])))
 replace k7 := eqn k7
 (simp [*, F119, zd, za]) <;> (repeat' (first | ((first | refine sP _ ?_ ?_ | refine gP _ ?_ ?_ | refine sN _ ?_ ?_ | refine gN _ ?_ ?_) <;> intro hc <;> (first | replace hc := eqn hc | replace hc := eqp hc) <;> simp [*, F119, zd, za]) | ((first | refine sM _ ?_ ?_ | refine gM _ ?_ ?_ | refine sB _ ?_ ?_ | refine gB _ ?_ ?_) <;> intro hc <;> simp [*, F119, zd, za])))
theorem param_eq_spec (t : Int) (p : Par) (σ : zf) : zi E 134 [.int .i64 t, encPar p] σ = some (.ret (.bool (decide (t = p.type))), σ) := by
 refine zc rfl rfl rfl (by simp [encPar]) ?_
 simp [F134, encPar]
theorem types_eq {l : List Int} {ps : List Par} (h : l.length = ps.length) : decide (l = ps.map (·.type)) = (l.zip ps).all fun x => decide (x.1 = x.2.type) := by
 induction l generalizing ps with
 | nil => cases ps <;> simp at h ⊢
 | cons x r ih =>
  cases ps with
  | nil => simp at h
  | cons y q =>
   simp at h
   simp only [List.zip_cons_cons, List.all_cons, <- ih h, List.map_cons, List.cons.injEq, Bool.decide_and]
theorem equal_spec (l : List Int) (ps : List Par) (σ : zf) (hl : ps.length < 1099511000000) : zi E 133 [.slice .plain 1 (l.map (PV.int .i64)), parsV ps, .fn 134 [] []] σ = some (.ret (.bool (decide (l = ps.map (·.type)))), σ) := by
 refine zc rfl rfl rfl (by simp [parsV]) ?_
 by_cases hlen : l.length = ps.length
 ·have he := types_eq hlen
  rw [he]
  have hleni : ((l.length : Int) = ps.length) = True := eqp (by omega)
  simp [F133, parsV, hleni]
  clear he hleni
  refine zz (l.zip ps) K133_0 B133_0 (fun d => [(17, .int .i64 d.length)]) (fun _ => σ) (fun d => (d.all fun x => decide (x.1 = x.2.type)) = true) (by simp; omega) (by simp) ?_ ?_
  ·intros d x r s1 hl' hlt hget hget' hw hp h1 h2 h3 h4
   simp at h1 h2 h3
   have hz : (l.zip ps)[d.length]? = some x := hget
   rw [List.getElem?_zip_eq_some] at hz
   obtain ⟨z1, z2⟩ := hz
   obtain ⟨x1, x2⟩ := x
   simp only at z1 z2
   have hc := param_eq_spec x1 x2 σ
   simp [encPar] at hc
   have hz2 : (l.zip ps).length = l.length := by simp [hlen]
   have hlt' : (d.length : Int) < ps.length := by rw [hz2] at hlt; omega
   clear hget' hlt hz2
   by_cases hx : x1 = x2.type
   ·replace hp : ((d ++ [(x1, x2)]).all fun x => decide (x.1 = x.2.type)) = true := by rw [List.all_append, hp]; simp [hx]
    replace hx := eqp hx
    clear hl' hget
    simp [*, encPar]
    all_goals (try grind)
   ·have hf : ((l.zip ps).all fun x => decide (x.1 = x.2.type)) = false := by rw [hl'.eq]; simp [hx]
    replace hx := eqn hx
    clear hl' hget hp
    simp [*, encPar]
    all_goals (try grind)
  ·intros s1 hp h1 h2 h3 h4
   simp at h1 h2 h3
   have hz2 : (l.zip ps).length = l.length := by simp [hlen]
   simp [*]
   all_goals (try grind)
 ·have hq : ¬ (l = ps.map (·.type)) := by intro h; apply hlen; rw [h]; simp
  have hleni : ((l.length : Int) = ps.length) = False := eqn (by omega)
  replace hq := eqn hq
  simp [*, F133, parsV]
def at0 (l : List Int) : Int := l[0]?.getD 0
def at1 (l : List Int) : Int := l[1]?.getD 0
def zed (p : Prog) (s : List Vr) (k o : Int) (nm : List UInt8) (l : List Int) : Int × Bool :=
 if k = 2 then (2, true)
 else if k = 3 then (((zta s nm).head?.map (·.type)).getD 0, true)
 else if k = 6 then (1, decide (at0 l = 1))
 else if k = 4 then takesT o (at0 l)
 else if k = 5 then ((takesT o (at0 l)).1, (takesT o (at0 l)).2 && decide (at0 l = at1 l))
 else if k = 7 then (match zIb p nm with
  | none => (0, false)
  | some f => (f.type, decide (l = f.params.map (·.type))))
 else (1, true)
set_option maxHeartbeats 4000000 in
theorem madeT_spec (p : Prog) (s : List Vr) (e : Expr) (l : List Int) (σ : zf) (hz : Fit p) (h0 : zAb p s e.kind e.name e.args.length = 0) (hk : kindR e.kind e.op e.n e.name l.length = true) : zi E 121 [zd p, zZa s, zo e, .slice .plain 1 (l.map (PV.int .i64))] σ = some (.ret (.tup [.int .i64 (zed p s e.kind e.op e.name l).1, .bool (zed p s e.kind e.op e.name l).2]), σ) := by
 refine zc rfl rfl rfl (by simp [zd, za]) ?_
 unfold zed
 by_cases k2 : e.kind = 2
 ·replace k2 := eqp k2
  clear h0 hk
  (simp [*, F121, zd, za]) <;> (repeat' (first | ((first | refine sP _ ?_ ?_ | refine gP _ ?_ ?_ | refine sN _ ?_ ?_ | refine gN _ ?_ ?_) <;> intro hc <;> (first | replace hc := eqn hc | replace hc := eqp hc) <;> simp [*, F121, zd, za]) | ((first | refine sM _ ?_ ?_ | refine gM _ ?_ ?_ | refine sB _ ?_ ?_ | refine gB _ ?_ ?_) <;> intro hc <;> simp [*, F121, zd, za])))
 by_cases k3 : e.kind = 3
 ·have h1 := find_spec s e.name σ
  have hn : ¬ zta s e.name = [] := by
   intro h; unfold zAb at h0; rw [if_pos k3, if_pos h] at h0; exact absurd h0 (by decide)
  obtain ⟨v, r, hv⟩ := List.exists_cons_of_ne_nil hn
  rw [hv, zbc] at h1
  replace k2 := eqn k2
  replace k3 := eqp k3
  clear h0 hk hn
  (simp [*, F121, zd, za]) <;> (repeat' (first | ((first | refine sP _ ?_ ?_ | refine gP _ ?_ ?_ | refine sN _ ?_ ?_ | refine gN _ ?_ ?_) <;> intro hc <;> (first | replace hc := eqn hc | replace hc := eqp hc) <;> simp [*, F121, zd, za]) | ((first | refine sM _ ?_ ?_ | refine gM _ ?_ ?_ | refine sB _ ?_ ?_ | refine gB _ ?_ ?_) <;> intro hc <;> simp [*, F121, zd, za])))
 by_cases k6 : e.kind = 6
 ·have hl : l.length = 1 := by
   unfold kindR at hk; simp [k2, k3, k6] at hk; exact hk.2.2
  obtain ⟨x, rfl⟩ := List.length_eq_one_iff.1 hl
  replace k2 := eqn k2
  replace k3 := eqn k3
  replace k6 := eqp k6
  clear h0 hk hl
  (simp [*, F121, zd, za, at0]) <;> (repeat' (first | ((first | refine sP _ ?_ ?_ | refine gP _ ?_ ?_ | refine sN _ ?_ ?_ | refine gN _ ?_ ?_) <;> intro hc <;> (first | replace hc := eqn hc | replace hc := eqp hc) <;> simp [*, F121, zd, za, at0]) | ((first | refine sM _ ?_ ?_ | refine gM _ ?_ ?_ | refine sB _ ?_ ?_ | refine gB _ ?_ ?_) <;> intro hc <;> simp [*, F121, zd, za, at0])))
 by_cases k4 : e.kind = 4
 ·have hl : l.length = 1 := by
   unfold kindR at hk; simp [k2, k3, k6, k4] at hk; exact hk.2.2.2
  obtain ⟨x, rfl⟩ := List.length_eq_one_iff.1 hl
  have ht := takes_spec e.op x []
  replace k2 := eqn k2
  replace k3 := eqn k3
  replace k6 := eqn k6
  replace k4 := eqp k4
  clear h0 hk hl
  (simp [*, F121, zd, za, at0]) <;> (repeat' (first | ((first | refine sP _ ?_ ?_ | refine gP _ ?_ ?_ | refine sN _ ?_ ?_ | refine gN _ ?_ ?_) <;> intro hc <;> (first | replace hc := eqn hc | replace hc := eqp hc) <;> simp [*, F121, zd, za, at0]) | ((first | refine sM _ ?_ ?_ | refine gM _ ?_ ?_ | refine sB _ ?_ ?_ | refine gB _ ?_ ?_) <;> intro hc <;> simp [*, F121, zd, za, at0])))
 by_cases k5 : e.kind = 5
 ·have hl : l.length = 2 := by
   unfold kindR at hk; simp [k2, k3, k6, k4, k5] at hk; exact hk.2.2.2
  obtain ⟨x, y, rfl⟩ : ∃ x y, l = [x, y] := by
   match l, hl with
   | [x, y], _ => exact ⟨x, y, rfl⟩
  have ht := takes_spec e.op x []
  replace k2 := eqn k2
  replace k3 := eqn k3
  replace k6 := eqn k6
  replace k4 := eqn k4
  replace k5 := eqp k5
  clear h0 hk hl
  (simp [*, F121, zd, za, at0, at1]) <;> (repeat' (first | ((first | refine sP _ ?_ ?_ | refine gP _ ?_ ?_ | refine sN _ ?_ ?_ | refine gN _ ?_ ?_) <;> intro hc <;> (first | replace hc := eqn hc | replace hc := eqp hc) <;> simp [*, F121, zd, za, at0, at1]) | ((first | refine sM _ ?_ ?_ | refine gM _ ?_ ?_ | refine sB _ ?_ ?_ | refine gB _ ?_ ?_) <;> intro hc <;> simp [*, F121, zd, za, at0, at1])))
 by_cases k7 : e.kind = 7
 ·have h1 := place_spec p e.name [] (by have := hz.f; omega)
  simp [zd, funcs] at h1
  rcases zid (fun f : Func => decide (f.name = e.name)) p.funcs with ⟨a1, a2⟩ | ⟨n, f, a1, a2, a3, a4, a5⟩
  ·have a2 : zIb p e.name = none := a2
   unfold zAb at h0
   rw [if_neg k3, if_neg k6, if_pos k7, a2] at h0
   exact absurd h0 (by simp)
  ·have a1 : zwa p e.name = n := a1
   have a3 : zIb p e.name = some f := a3
   rw [a1] at h1
   have hq := equal_spec l f.params σ (by have := hz.p f (List.mem_of_getElem? a2); omega)
   simp [parsV] at hq
   have n0 : ¬ ((n : Int) < 0) := by omega
   replace k2 := eqn k2
   replace k3 := eqn k3
   replace k6 := eqn k6
   replace k4 := eqn k4
   replace k5 := eqn k5
   replace k7 := eqp k7
   clear h0 hk a5 a4 a1
   (simp [*, F121, zd, za, funcs, zm, parsV, zg]) <;> (repeat' (first | ((first | refine sP _ ?_ ?_ | refine gP _ ?_ ?_ | refine sN _ ?_ ?_ | refine gN _ ?_ ?_) <;> intro hc <;> (first | replace hc := eqn hc | replace hc := eqp hc) <;> simp [*, F121, zd, za, funcs, zm, parsV, zg]) | ((first | refine sM _ ?_ ?_ | refine gM _ ?_ ?_ | refine sB _ ?_ ?_ | refine gB _ ?_ ?_) <;> intro hc <;> simp [*, F121, zd, za, funcs, zm, parsV, zg])))
 replace k2 := eqn k2
 replace k3 := eqn k3
 replace k6 := eqn k6
 replace k4 := eqn k4
 replace k5 := eqn k5
 replace k7 := eqn k7
 clear h0 hk
 (simp [*, F121, zd, za]) <;> (repeat' (first | ((first | refine sP _ ?_ ?_ | refine gP _ ?_ ?_ | refine sN _ ?_ ?_ | refine gN _ ?_ ?_) <;> intro hc <;> (first | replace hc := eqn hc | replace hc := eqp hc) <;> simp [*, F121, zd, za]) | ((first | refine sM _ ?_ ?_ | refine gM _ ?_ ?_ | refine sB _ ?_ ?_ | refine gB _ ?_ ?_) <;> intro hc <;> simp [*, F121, zd, za])))
mutual
def zqb (p : Prog) (s : List Vr) : Expr -> Int × Int
 | ⟨k, o, n, nm, a⟩ =>
  if zAb p s k nm a.length ≠ 0 then (0, zAb p s k nm a.length)
  else if (zDa p s a).2 ≠ 0 then (0, (zDa p s a).2)
  else if (zed p s k o nm (zDa p s a).1).2 then ((zed p s k o nm (zDa p s a).1).1, 0) else (0, 51)
def zDa (p : Prog) (s : List Vr) : List Expr -> List Int × Int
 | [] => ([], 0)
 | x :: r => if (zqb p s x).2 ≠ 0 then ([], (zqb p s x).2) else if (zDa p s r).2 ≠ 0 then ([], (zDa p s r).2) else ((zqb p s x).1 :: (zDa p s r).1, 0)
end
theorem exprT_eq (p : Prog) (s : List Vr) (e : Expr) : zqb p s e = if zAb p s e.kind e.name e.args.length ≠ 0 then (0, zAb p s e.kind e.name e.args.length)
  else if (zDa p s e.args).2 ≠ 0 then (0, (zDa p s e.args).2)
  else if (zed p s e.kind e.op e.name (zDa p s e.args).1).2 then ((zed p s e.kind e.op e.name (zDa p s e.args).1).1, 0) else (0, 51) := by
 cases e; rw [zqb]
theorem argsT_len (p : Prog) (s : List Vr) : ∀ l, (zDa p s l).2 = 0 -> (zDa p s l).1.length = l.length
 | [], _ => by simp [zDa]
 | x :: r, h => by
  simp only [zDa] at h ⊢
  split at h
  ·rename_i h1; exact absurd h h1
  rename_i h1
  rw [if_neg h1]
  split at h
  ·rename_i h2; exact absurd h h2
  rename_i h2
  rw [if_neg h2]
  simp only [List.length_cons]
  rw [argsT_len p s r (by simpa using h2)]
theorem argsT_pre (p : Prog) (s : List Vr) (x : Expr) (r : List Expr) : ∀ d, (zDa p s d).2 = 0 →
  ((zqb p s x).2 ≠ 0 -> zDa p s (d ++ x :: r) = ([], (zqb p s x).2)) /\ ((zqb p s x).2 = 0 -> zDa p s (d ++ [x]) = ((zDa p s d).1 ++ [(zqb p s x).1], 0))
 | [], h => by
  constructor
  ·intro hx; simp [zDa, hx]
  ·intro hx; simp [zDa, hx]
 | y :: d, h => by
  simp only [zDa] at h
  split at h
  ·rename_i h1; exact absurd h h1
  rename_i h1
  split at h
  ·rename_i h2; exact absurd h h2
  rename_i h2
  obtain ⟨i1, i2⟩ := argsT_pre p s x r d (by simpa using h2)
  constructor
  ·intro hx
   have := i1 hx
   simp only [List.cons_append, zDa]
   rw [if_neg h1, this]
   simp [hx]
  ·intro hx
   have := i2 hx
   simp only [List.cons_append, zDa]
   rw [if_neg h1, if_neg h2, this, if_neg h1]
   simp
def zVa (r : Int × Int) : PV := .tup [.int .i64 r.1, .int .i64 r.2]
set_option maxHeartbeats 4000000 in
theorem targs_of (p : Prog) (s : List Vr) (e : Expr) (m : Int) (σ : zf) (hz : Fit p) (hw : wtE e < 1099510000000) (hm : zkb e.args m = true)
  (IH : ∀ x ∈ e.args, ∀ m, zdb x m = true -> zi E 103 [zd p, zZa s, zo x] σ = some (.ret (zVa (zqb p s x)), σ)) :
  zi E 120 [zd p, zZa s, zo e] σ = some (.ret (.tup [.slice .plain 1 ((zDa p s e.args).1.map (PV.int .i64)), .int .i64 (zDa p s e.args).2]), σ) := by
 have hla := zPb e.args
 rw [zsd] at hw
 refine zc rfl rfl rfl (by simp [zd, za]) ?_
 simp [F120, zd, za, ze]
 refine zz e.args K120_0 B120_0 (fun d => [(6, acc 1 ((zDa p s d).1.map (PV.int .i64))), (15, .int .i64 d.length)]) (fun _ => σ) (fun d => (zDa p s d).2 = 0) (by omega) (by simp [zDa]) ?_ ?_
 ·intros d x r s1 hl' hlt hget hget' hw1 hp h1 h2 h3 h4
  have hx : zdb x (m - 1) = true := by
   rw [exprsR_all, List.all_eq_true] at hm
   have := hm x hl'.mem
   simp at this; exact this.2
  have ih := IH x hl'.mem _ hx
  have hlen := argsT_len p s d hp
  obtain ⟨f1, f2⟩ := argsT_pre p s x r d hp
  rw [<- hl'.eq] at f1
  clear IH hm hx hl'
  simp [zVa, zd] at ih
  rw [za] at ih
  simp [ze] at ih
  simp at h1 h2 h3
  have hroom : (d.length + 1) * 8 <= zn := by simp only [zn]; omega
  generalize zqb p s x = q at *
  obtain ⟨t, f⟩ := q
  simp only at ih f1 f2
  by_cases hf : f = 0
  ·subst hf
   have f2 := f2 rfl
   clear f1
   simp [*, za, ze]
   all_goals (try grind)
  ·have f1 := f1 hf
   clear f2
   replace hf := eqn hf
   simp [*, za, ze]
 ·intros s1 hp h1 h2 h3 h4
  simp at h1 h2 h3
  clear IH hm
  simp [*]
theorem type_spec' : ∀ w (p : Prog) (s : List Vr) (e : Expr) (m : Int) (σ : zf), Fit p -> wtE e <= w -> w < 1099510000000 -> zdb e m = true -> zi E 103 [zd p, zZa s, zo e] σ = some (.ret (zVa (zqb p s e)), σ)
 | 0, p, s, e, m, σ, _, h, _, _ => by rw [zsd] at h; omega
 | w + 1, p, s, e, m, σ, hz, h, hw, hR => by
  rw [exprR_eq, Bool.and_eq_true] at hR
  obtain ⟨hm, hk⟩ := hR
  have ha := targs_of p s e m σ hz (by omega) hm (fun x hx m' hm' => type_spec' w p s x m' σ hz (by have := zSb hx; rw [zsd] at h; omega) (by omega) hm')
  have hn := namedT_spec p s e σ hz (by omega)
  have hmd := madeT_spec p s e (zDa p s e.args).1 σ hz
  have hlen := argsT_len p s e.args
  refine zc rfl rfl rfl (by simp [zd, za]) ?_
  rw [exprT_eq]
  generalize zAb p s e.kind e.name e.args.length = f at *
  by_cases hf : f = 0
  ·replace hmd := hmd hf
   subst hf
   generalize zDa p s e.args = q at *
   obtain ⟨l, g⟩ := q
   simp only at ha hmd hlen ⊢
   by_cases hg : g = 0
   ·subst hg
    rw [<- hlen rfl] at hk
    replace hmd := hmd hk
    generalize zed p s e.kind e.op e.name l = r at *
    obtain ⟨t, ok⟩ := r
    simp only at hmd ⊢
    clear hlen hk hm h
    rw [za] at ha hn hmd
    simp [zd, ze] at ha hn hmd
    cases ok <;> simp [*, F103, zd, za, ze, zVa]
   ·clear hmd hlen hk hm h
    replace hg := eqn hg
    rw [za] at ha hn
    simp [zd, ze] at ha hn
    simp [*, F103, zd, za, ze, zVa]
  ·clear hmd hlen hk hm h ha
   replace hf := eqn hf
   rw [za] at hn
   simp [zd, ze] at hn
   simp [*, F103, zd, za, ze, zVa]
theorem type_spec (p : Prog) (s : List Vr) (e : Expr) (m : Int) (σ : zf) (hz : Fit p) (hw : wtE e < 1099510000000) (hR : zdb e m = true) : zi E 103 [zd p, zZa s, zo e] σ = some (.ret (zVa (zqb p s e)), σ) :=
 type_spec' (wtE e) p s e m σ hz (Nat.le_refl _) hw hR
end PE.U

namespace PE.U
open Go PE
def e0 : Expr := ⟨0, 0, 0, [], []⟩
def arg0 (l : List Expr) : Expr := l[0]?.getD e0
def arg1 (l : List Expr) : Expr := l[1]?.getD e0
mutual
def zhd : Stmt -> Bool
 | ⟨k, _, _, _, th, el⟩ => decide (k = 6) || (decide (k = 4) && (zma th || zma el))
def zma : List Stmt -> Bool
 | [] => false
 | x :: r => zhd x || zma r
end
theorem leaves1_eq (s : Stmt) : zhd s = (decide (s.kind = 6) || (decide (s.kind = 4) && (zma s.thn || zma s.els))) := by cases s; rw [zhd]
theorem leavesT_any (l : List Stmt) : zma l = l.any zhd := by
 induction l with
 | nil => rfl
 | cons x r ih => rw [zma, ih]; rfl
mutual
def ends1 : Stmt -> Bool
 | ⟨k, _, _, a, th, el⟩ => if k = 8 then true else if k = 4 then zVb th && zVb el else if k = 5 then (decide ((arg0 a).kind = 2) && decide ((arg0 a).n = 1)) && !zma th else false
def zVb : List Stmt -> Bool
 | [] => false
 | x :: r => ends1 x || zVb r
end
theorem ends1_eq (s : Stmt) : ends1 s = if s.kind = 8 then true else if s.kind = 4 then zVb s.thn && zVb s.els else if s.kind = 5 then (decide ((arg0 s.args).kind = 2) && decide ((arg0 s.args).n = 1)) && !zma s.thn else false := by cases s; rw [ends1]
theorem endsT_any (l : List Stmt) : zVb l = l.any ends1 := by
 induction l with
 | nil => rfl
 | cons x r ih => rw [zVb, ih]; rfl
theorem stmtsR_all (l : List Stmt) (m : Int) : zL l m = l.all fun x => znb x m := by
 induction l with
 | nil => rfl
 | cons x r ih => simp [zL, ih]
theorem zHc {s : Stmt} {m : Int} (h : znb s m = true) : (s.args.length : Int) = (zP s.kind).2.2.1 /\ (∀ x ∈ s.args, zdb x 100 = true) /\ zL s.thn (m - 1) = true /\ zL s.els (m - 1) = true := by
 rw [stmtR_eq] at h
 simp only [Bool.and_eq_true] at h
 obtain ⟨h1, h2, h3, h4, h5, h6⟩ := h
 refine ⟨?_, ?_, h5, h6⟩
 ·unfold headR at h1
  simp at h1
  exact h1.2.1
 ·unfold zKd at h2
  rw [List.all_eq_true] at h2
  exact h2
theorem leaves_spec' : ∀ w (l : List Stmt), wtSs l <= w -> w < 1099508500000 -> zi E 81 [zg l] [] = some (.ret (.bool (zma l)), [])
 | 0, l, h, hw => by
  have hl : l = [] := by
   have := zha l
   exact List.eq_nil_of_length_eq_zero (by omega)
  subst hl
  refine zc rfl rfl rfl (by simp [zg]) ?_
  have hc := zEa [] (fun _ => true) 107 [] [] [] (by simp) (by simp) (by simp)
  simp at hc
  simp [*, F81, zg, zma]
 | w + 1, l, h, hw => by
  have hlen := zha l
  refine zc rfl rfl rfl (by simp [zg]) ?_
  have hcl : ∀ x ∈ l, zi E 107 ([] ++ [zE x] ++ []) [] = some (.ret (.bool (zhd x)), []) := by
   intro x hx
   have hwx := zLc hx
   rw [zOa] at hwx
   have i1 := leaves_spec' w x.thn (by omega) (by omega)
   have i2 := leaves_spec' w x.els (by omega) (by omega)
   rw [leaves1_eq]
   clear hwx hx h hlen
   refine zc rfl rfl rfl (by simp [zb]) ?_
   simp [zg] at i1 i2
   generalize zma x.thn = b1 at *
   generalize zma x.els = b2 at *
   by_cases k6 : x.kind = 6
   ·replace k6 := eqp k6
    simp [*, F107, zb, ze, zg]
   ·replace k6 := eqn k6
    by_cases k4 : x.kind = 4
    ·replace k4 := eqp k4
     cases b1 <;> simp [*, F107, zb, ze, zg]
    ·replace k4 := eqn k4
     simp [*, F107, zb, ze, zg]
  have hc := zEa l zhd 107 [] [] [] (by omega) (by simp) hcl
  rw [<- leavesT_any] at hc
  clear hcl h hlen
  simp [*, F81, zg]
theorem leaves_spec (l : List Stmt) (h : wtSs l < 1099508000000) : zi E 81 [zg l] [] = some (.ret (.bool (zma l)), []) := leaves_spec' (wtSs l) l (Nat.le_refl _) (by omega)
set_option maxHeartbeats 1000000 in
theorem ends_spec' : ∀ w (l : List Stmt) (m : Int), wtSs l <= w -> w < 1099508000000 -> zL l m = true -> zi E 52 [zg l] [] = some (.ret (.bool (zVb l)), [])
 | 0, l, m, h, hw, _ => by
  have hl : l = [] := by
   have := zha l
   exact List.eq_nil_of_length_eq_zero (by omega)
  subst hl
  refine zc rfl rfl rfl (by simp [zg]) ?_
  have hc := zEa [] (fun _ => true) 80 [] [] [] (by simp) (by simp) (by simp)
  simp at hc
  simp [*, F52, zg, zVb]
 | w + 1, l, m, h, hw, hR => by
  have hlen := zha l
  refine zc rfl rfl rfl (by simp [zg]) ?_
  have hcl : ∀ x ∈ l, zi E 80 ([] ++ [zE x] ++ []) [] = some (.ret (.bool (ends1 x)), []) := by
   intro x hx
   have hwx := zLc hx
   rw [zOa] at hwx
   have hxR : znb x m = true := by rw [stmtsR_all, List.all_eq_true] at hR; exact hR x hx
   obtain ⟨r1, r2, r3, r4⟩ := zHc hxR
   have i1 := ends_spec' w x.thn _ (by omega) (by omega) r3
   have i2 := ends_spec' w x.els _ (by omega) (by omega) r4
   have i3 := leaves_spec x.thn (by omega)
   rw [ends1_eq]
   clear hwx hx h hlen hxR hR r2 r3 r4
   refine zc rfl rfl rfl (by simp [zb]) ?_
   simp [zg] at i1 i2 i3
   generalize zVb x.thn = b1 at *
   generalize zVb x.els = b2 at *
   generalize zma x.thn = b3 at *
   by_cases k8 : x.kind = 8
   ·replace k8 := eqp k8
    simp [*, F80, zb, ze, zg]
   replace k8 := eqn k8
   by_cases k4 : x.kind = 4
   ·replace k4 := eqp k4
    cases b1 <;> simp [*, F80, zb, ze, zg]
   replace k4 := eqn k4
   by_cases k5 : x.kind = 5
   ·have hl1 : x.args.length = 1 := by rw [k5] at r1; simp [zP] at r1; omega
    obtain ⟨y, hy⟩ := List.length_eq_one_iff.1 hl1
    have hget : x.args[0]? = some y := by rw [hy]; rfl
    have ha0 : arg0 x.args = y := by unfold arg0; rw [hget]; rfl
    rw [ha0]
    clear hy hl1 r1 ha0
    replace k5 := eqp k5
    by_cases y2 : y.kind = 2
    ·replace y2 := eqp y2
     by_cases y1 : y.n = 1
     ·replace y1 := eqp y1
      simp [*, F80, zb, ze, zg, za]
     ·replace y1 := eqn y1
      simp [*, F80, zb, ze, zg, za]
    ·replace y2 := eqn y2
     simp [*, F80, zb, ze, zg, za]
   ·replace k5 := eqn k5
    clear r1
    simp [*, F80, zb, ze, zg]
  have hc := zEa l ends1 80 [] [] [] (by omega) (by simp) hcl
  rw [<- endsT_any] at hc
  clear hcl h hlen hR
  simp [*, F52, zg]
theorem ends_spec (l : List Stmt) (m : Int) (h : wtSs l < 1099508000000) (hR : zL l m = true) : zi E 52 [zg l] [] = some (.ret (.bool (zVb l)), []) := ends_spec' (wtSs l) l m (Nat.le_refl _) h hR
end PE.U

namespace PE.U
open Go PE
def fob (p : Prog) (res n : Int) : Obj := .arr 4 [.agg [zva p.arrays, funcs p.funcs, .int .i64 res, .int .i64 n]]
def zsc (p : Prog) (s : List Vr) (e : Expr) (t : Int) : Int := if (zqb p s e).2 ≠ 0 then (zqb p s e).2 else if (zqb p s e).1 = t then 0 else 51
theorem want_spec {p : Prog} {s : List Vr} {e : Expr} {t m : Int} {σ : zf} {k : Nat} {res n : Int} (hk : σ[k]? = some (fob p res n)) (hz : Fit p) (hw : wtE e < 1099510000000) (hR : zdb e m = true) :
  zi E 102 [.ptr k 0 0, zZa s, zo e, .int .i64 t] σ = some (.ret (.int .i64 (zsc p s e t)), σ) := by
 refine zc rfl rfl rfl (by simp [za]) ?_
 have h1 := type_spec p s e m σ hz hw hR
 unfold zsc
 generalize zqb p s e = q at *
 obtain ⟨ty, f⟩ := q
 simp only
 clear hR hw hz
 rw [za] at h1
 simp [zd, ze, zVa] at h1
 unfold fob at hk
 by_cases hf : f = 0
 ·subst hf
  have h2 := zTd (decide (ty = t)) 51 []
  by_cases ht : ty = t
  ·replace ht := eqp ht
   simp [ht] at h2
   simp [*, F102, za, ze]
  ·replace ht := eqn ht
   simp [ht] at h2
   simp [*, F102, za, ze]
 ·replace hf := eqn hf
  simp [*, F102, za, ze]
def boundT (p : Prog) (s : List Vr) (k t : Int) (nm : List UInt8) (a : List Expr) (d : Int) : Int :=
 if k = 1 then
  if zsc p s (arg0 a) t ≠ 0 then zsc p s (arg0 a) t
  else match zta s nm with
   | [] => 0
   | v :: _ => if v.depth < d then 0 else 50
 else if k = 2 then match zta s nm with
  | [] => 50
  | v :: _ => zsc p s (arg0 a) v.type
 else if k = 3 /\ zPc p nm = false then 50
 else if zsc p s (arg0 a) 1 ≠ 0 then zsc p s (arg0 a) 1 else zsc p s (arg1 a) 1
set_option maxHeartbeats 4000000 in
theorem bound_spec {p : Prog} {s : List Vr} {x : Stmt} {d m : Int} {σ : zf} {k : Nat} {res n : Int} (hk : σ[k]? = some (fob p res n)) (hz : Fit p) (hw : wtS x < 1099509000000) (hR : znb x m = true) (hb : 1 <= x.kind /\ x.kind <= 3) :
  zi E 105 [.ptr k 0 0, zE x, zZa s, .int .i64 d] σ = some (.ret (.int .i64 (boundT p s x.kind x.type x.name x.args d)), σ) := by
 refine zc rfl rfl rfl (by simp [zb]) ?_
 obtain ⟨r1, r2, _, _⟩ := zHc hR
 rw [zOa] at hw
 have hwant : ∀ y ∈ x.args, ∀ t, zi E 102 [.ptr k 0 0, zZa s, zo y, .int .i64 t] σ = some (.ret (.int .i64 (zsc p s y t)), σ) := by
  intro y hy t
  have := zSb hy
  exact want_spec hk hz (by omega) (r2 y hy)
 have hf := find_spec s x.name σ
 have hfi := fun b => zTd b 50 []
 have hh := array_spec p x.name [] (by have := hz.a; omega)
 have h3 : decide (0 <= zlb p x.name) = zPc p x.name := idx_ge (fun f : PArr => decide (f.name = x.name)) p.arrays
 have h3' : (zlb p x.name < 0) = (zPc p x.name = false) := by
  rw [<- h3, decide_eq_false_iff_not]; apply propext; omega
 clear r2 hR hw hz h3
 unfold boundT
 unfold fob at hk
 simp [zd] at hh
 by_cases k1 : x.kind = 1
 ·have hl1 : x.args.length = 1 := by rw [k1] at r1; simp [zP] at r1; omega
  obtain ⟨y, hy⟩ := List.length_eq_one_iff.1 hl1
  have hget : x.args[0]? = some y := by rw [hy]; rfl
  have ha0 : arg0 x.args = y := by unfold arg0; rw [hget]; rfl
  rw [ha0]
  have hw1 := hwant y (by rw [hy]; simp) x.type
  clear hy hl1 r1 ha0 hwant hb h3' hh
  replace k1 := eqp k1
  rw [za] at hw1
  simp [ze] at hw1
  generalize zsc p s y x.type = f at *
  by_cases hff : f = 0
  ·subst hff
   generalize zta s x.name = vs at *
   cases vs with
   | nil =>
    have hfi := hfi true
    simp at hfi hf
    simp [*, F105, zb, ze, za]
   | cons v r =>
    rw [zbc] at hf
    by_cases hd : v.depth < d
    ·have hfi := hfi true
     replace hd := eqp hd
     simp at hfi
     simp [*, F105, zb, ze, za]
    ·have hfi := hfi false
     replace hd := eqn hd
     simp at hfi
     simp [*, F105, zb, ze, za]
  ·replace hff := eqn hff
   clear hfi
   simp [*, F105, zb, ze, za]
 by_cases k2 : x.kind = 2
 ·have hl1 : x.args.length = 1 := by rw [k2] at r1; simp [zP] at r1; omega
  obtain ⟨y, hy⟩ := List.length_eq_one_iff.1 hl1
  have hget : x.args[0]? = some y := by rw [hy]; rfl
  have ha0 : arg0 x.args = y := by unfold arg0; rw [hget]; rfl
  rw [ha0]
  have hw1 := hwant y (by rw [hy]; simp)
  have k3 : (x.kind = 3) = False := eqn (by omega)
  clear hy hl1 r1 ha0 hwant hb h3' hh hfi
  replace k1 := eqn k1
  replace k2 := eqp k2
  generalize zta s x.name = vs at *
  cases vs with
  | nil =>
   clear hw1
   simp at hf
   simp [*, F105, zb, ze, za]
  | cons v r =>
   have hw1 := hw1 v.type
   rw [za] at hw1
   simp [ze] at hw1
   rw [zbc] at hf
   simp [*, F105, zb, ze, za]
 ·have k3 : x.kind = 3 := by omega
  have hl2 : x.args.length = 2 := by rw [k3] at r1; simp [zP] at r1; omega
  obtain ⟨y, z, hy⟩ : ∃ y z, x.args = [y, z] := by
   match h : x.args, hl2 with
   | [y, z], _ => exact ⟨y, z, rfl⟩
  have hget : x.args[0]? = some y := by rw [hy]; rfl
  have hget1 : x.args[1]? = some z := by rw [hy]; rfl
  have ha0 : arg0 x.args = y := by unfold arg0; rw [hget]; rfl
  have ha1 : arg1 x.args = z := by unfold arg1; rw [hget1]; rfl
  rw [ha0, ha1]
  have hw1 := hwant y (by rw [hy]; simp) 1
  have hw2 := hwant z (by rw [hy]; simp) 1
  clear hy hl2 r1 ha0 ha1 hwant hb hfi
  replace k1 := eqn k1
  replace k2 := eqn k2
  replace k3 := eqp k3
  rw [za] at hw1 hw2
  simp [ze] at hw1 hw2
  generalize zPc p x.name = b at *
  cases b
  ·clear hw1 hw2
   simp at h3'
   replace h3' := eqp h3'
   simp [*, F105, zb, ze, za]
  ·simp at h3'
   replace h3' : (zlb p x.name < 0) = False := eqn (by omega)
   generalize zsc p s y 1 = f at *
   by_cases hff : f = 0
   ·subst hff
    simp [*, F105, zb, ze, za]
   ·replace hff := eqn hff
    simp [*, F105, zb, ze, za]
def stmtT (p : Prog) (res : Int) (s : List Vr) (k t : Int) (nm : List UInt8) (a : List Expr) (d : Int) (loop : Bool) : Int :=
 if k = 4 \/ k = 5 then zsc p s (arg0 a) 2
 else if k = 8 then zsc p s (arg0 a) res
 else if k = 9 then zsc p s (arg0 a) 1
 else if k = 10 then (zqb p s (arg0 a)).2
 else if k = 6 \/ k = 7 then (if loop then 0 else 53)
 else boundT p s k t nm a d
set_option maxHeartbeats 4000000 in
theorem stmtT_spec {p : Prog} {s : List Vr} {x : Stmt} {d m : Int} {loop : Bool} {σ : zf} {k : Nat} {res n : Int} (hk : σ[k]? = some (fob p res n)) (hz : Fit p) (hw : wtS x < 1099509000000) (hR : znb x m = true) :
  zi E 77 [.ptr k 0 0, zE x, zZa s, .int .i64 d, .bool loop] σ = some (.ret (.int .i64 (stmtT p res s x.kind x.type x.name x.args d loop)), σ) := by
 refine zc rfl rfl rfl (by simp [zb]) ?_
 obtain ⟨r1, r2, _, _⟩ := zHc hR
 have hbound : 1 <= x.kind /\ x.kind <= 3 -> zi E 105 [.ptr k 0 0, zE x, zZa s, .int .i64 d] σ = some (.ret (.int .i64 (boundT p s x.kind x.type x.name x.args d)), σ) := fun h => bound_spec hk hz hw hR h
 rw [zOa] at hw
 have hwant : ∀ y ∈ x.args, ∀ t, zi E 102 [.ptr k 0 0, zZa s, zo y, .int .i64 t] σ = some (.ret (.int .i64 (zsc p s y t)), σ) := by
  intro y hy t
  have := zSb hy
  exact want_spec hk hz (by omega) (r2 y hy)
 have hexp : ∀ y ∈ x.args, zi E 103 [zd p, zZa s, zo y] σ = some (.ret (zVa (zqb p s y)), σ) := by
  intro y hy
  have := zSb hy
  exact type_spec p s y 100 σ hz (by omega) (r2 y hy)
 have hone : (x.kind = 4 \/ x.kind = 5 \/ x.kind = 8 \/ x.kind = 9 \/ x.kind = 10) -> ∃ y, x.args = [y] := by
  intro h
  have : x.args.length = 1 := by rcases h with h | h | h | h | h <;> (rw [h] at r1; simp [zP] at r1; omega)
  exact List.length_eq_one_iff.1 this
 have hkind : 1 <= x.kind /\ x.kind <= 10 := by
  by_cases h : 1 <= x.kind /\ x.kind <= 10
  ·exact h
  ·exfalso
   have : (zP x.kind).2.2.1 = -1 := by
    unfold zP
    repeat' (first | rw [if_neg (by omega)] | rfl)
   omega
 clear r2 hR hw hz
 unfold stmtT
 unfold fob at hk
 by_cases k4 : x.kind = 4 \/ x.kind = 5
 ·obtain ⟨y, hy⟩ := hone (by rcases k4 with h | h <;> simp [h])
  have hget : x.args[0]? = some y := by rw [hy]; rfl
  have ha0 : arg0 x.args = y := by unfold arg0; rw [hget]; rfl
  rw [ha0]
  have hw1 := hwant y (by rw [hy]; simp) 2
  rw [za] at hw1
  simp [ze] at hw1
  rw [if_pos k4]
  clear hy r1 ha0 hwant hexp hone hbound hkind
  rcases k4 with k4 | k4
  ·replace k4 := eqp k4
   simp [*, F77, zb, ze, za]
  ·by_cases k4' : x.kind = 4
   ·omega
   ·replace k4 := eqp k4
    replace k4' := eqn k4'
    simp [*, F77, zb, ze, za]
 have k5 : ¬ x.kind = 5 := fun h => k4 (Or.inr h)
 have k4' : ¬ x.kind = 4 := fun h => k4 (Or.inl h)
 rw [if_neg k4]
 clear k4
 by_cases k8 : x.kind = 8
 ·obtain ⟨y, hy⟩ := hone (by simp [k8])
  have hget : x.args[0]? = some y := by rw [hy]; rfl
  have ha0 : arg0 x.args = y := by unfold arg0; rw [hget]; rfl
  rw [ha0]
  have hw1 := hwant y (by rw [hy]; simp) res
  rw [za] at hw1
  simp [ze] at hw1
  clear hy r1 ha0 hwant hexp hone hbound hkind
  replace k4' := eqn k4'
  replace k5 := eqn k5
  replace k8 := eqp k8
  simp [*, F77, zb, ze, za]
 by_cases k9 : x.kind = 9
 ·obtain ⟨y, hy⟩ := hone (by simp [k9])
  have hget : x.args[0]? = some y := by rw [hy]; rfl
  have ha0 : arg0 x.args = y := by unfold arg0; rw [hget]; rfl
  rw [ha0]
  have hw1 := hwant y (by rw [hy]; simp) 1
  rw [za] at hw1
  simp [ze] at hw1
  clear hy r1 ha0 hwant hexp hone hbound hkind
  replace k4' := eqn k4'
  replace k5 := eqn k5
  replace k8 := eqn k8
  replace k9 := eqp k9
  simp [*, F77, zb, ze, za]
 by_cases k10 : x.kind = 10
 ·obtain ⟨y, hy⟩ := hone (by simp [k10])
  have hget : x.args[0]? = some y := by rw [hy]; rfl
  have ha0 : arg0 x.args = y := by unfold arg0; rw [hget]; rfl
  rw [ha0]
  have hw1 := hexp y (by rw [hy]; simp)
  rw [za] at hw1
  simp [ze, zd, zVa] at hw1
  clear hy r1 ha0 hwant hexp hone hbound hkind
  replace k4' := eqn k4'
  replace k5 := eqn k5
  replace k8 := eqn k8
  replace k9 := eqn k9
  replace k10 := eqp k10
  simp [*, F77, zb, ze, za]
 by_cases k6 : x.kind = 6 \/ x.kind = 7
 ·rw [if_neg k8, if_neg k9, if_neg k10, if_pos k6]
  have hfi := zTd loop 53 []
  clear r1 hwant hexp hone hbound hkind
  replace k4' := eqn k4'
  replace k5 := eqn k5
  replace k8 := eqn k8
  replace k9 := eqn k9
  replace k10 := eqn k10
  rcases k6 with k6 | k6
  ·replace k6 := eqp k6
   simp [*, F77, zb, ze, za]
  ·by_cases k6' : x.kind = 6
   ·omega
   ·replace k6 := eqp k6
    replace k6' := eqn k6'
    simp [*, F77, zb, ze, za]
 ·rw [if_neg k8, if_neg k9, if_neg k10, if_neg k6]
  have k7 : ¬ x.kind = 7 := fun h => k6 (Or.inr h)
  have k6' : ¬ x.kind = 6 := fun h => k6 (Or.inl h)
  have hb := hbound (by omega)
  clear r1 hwant hexp hone hbound hkind k6
  replace k4' := eqn k4'
  replace k5 := eqn k5
  replace k8 := eqn k8
  replace k9 := eqn k9
  replace k10 := eqn k10
  replace k7 := eqn k7
  replace k6' := eqn k6'
  rw [zb] at hb
  simp [ze, zg] at hb
  simp [*, F77, zb, ze, za, zg]
end PE.U

namespace PE.U
open Go PE
mutual
def zLb (p : Prog) (res : Int) : Stmt -> List Vr -> Int -> Bool -> Int -> Int × Int
 | ⟨k, t, nm, a, th, el⟩, vs, d, loop, n =>
  if stmtT p res vs k t nm a d loop ≠ 0 then (stmtT p res vs k t nm a d loop, n)
  else
   let q := zT p res th (if k = 1 then ⟨nm, t, d⟩ :: vs else vs) (d + 1) (loop || decide (k = 5)) (n + 1)
   if q.1 ≠ 0 then q else zT p res el (if k = 1 then ⟨nm, t, d⟩ :: vs else vs) (d + 1) loop q.2
def zT (p : Prog) (res : Int) : List Stmt -> List Vr -> Int -> Bool -> Int -> Int × Int
 | [], _, _, _, n => (0, n)
 | x :: r, vs, d, loop, n =>
  let q := zLb p res x vs d loop n
  if q.1 ≠ 0 then q else zT p res r (if x.kind = 1 then ⟨x.name, x.type, d⟩ :: vs else vs) d loop q.2
end
def zga (d : Int) (x : Stmt) (vs : List Vr) : List Vr := if x.kind = 1 then ⟨x.name, x.type, d⟩ :: vs else vs
theorem zWd (p : Prog) (res : Int) (x : Stmt) (vs : List Vr) (d : Int) (loop : Bool) (n : Int) : zLb p res x vs d loop n =
  if stmtT p res vs x.kind x.type x.name x.args d loop ≠ 0 then (stmtT p res vs x.kind x.type x.name x.args d loop, n)
  else if (zT p res x.thn (zga d x vs) (d + 1) (loop || decide (x.kind = 5)) (n + 1)).1 ≠ 0 then zT p res x.thn (zga d x vs) (d + 1) (loop || decide (x.kind = 5)) (n + 1)
  else zT p res x.els (zga d x vs) (d + 1) loop (zT p res x.thn (zga d x vs) (d + 1) (loop || decide (x.kind = 5)) (n + 1)).2 := by
 cases x; rw [zLb]; rfl
theorem zXb (p : Prog) (res : Int) (x : Stmt) (r : List Stmt) (vs : List Vr) (d : Int) (loop : Bool) (n : Int) : zT p res (x :: r) vs d loop n =
  if (zLb p res x vs d loop n).1 ≠ 0 then zLb p res x vs d loop n else zT p res r (zga d x vs) d loop (zLb p res x vs d loop n).2 := by
 rw [zT]; rfl
def zua (p : Prog) (res d : Int) (loop : Bool) (l : List Stmt) (vs : List Vr) (n : Int) : List Vr × Int := match l with
 | [] => (vs, n)
 | x :: r => zua p res d loop r (zga d x vs) (zLb p res x vs d loop n).2
def zKb (p : Prog) (res d : Int) (loop : Bool) (l : List Stmt) (vs : List Vr) (n : Int) : Prop := match l with
 | [] => True
 | x :: r => (zLb p res x vs d loop n).1 = 0 /\ zKb p res d loop r (zga d x vs) (zLb p res x vs d loop n).2
theorem blockT_go (p : Prog) (res d : Int) (loop : Bool) (r : List Stmt) : ∀ (l : List Stmt) (vs : List Vr) (n : Int), zKb p res d loop l vs n →
  zT p res (l ++ r) vs d loop n = zT p res r (zua p res d loop l vs n).1 d loop (zua p res d loop l vs n).2
 | [], _, _, _ => rfl
 | x :: l, vs, n, h => by
  simp only [zKb] at h
  rw [List.cons_append, zXb, if_neg (by rw [h.1]; simp)]
  exact blockT_go p res d loop r l _ _ h.2
theorem blockGo_snoc (p : Prog) (res d : Int) (loop : Bool) (x : Stmt) : ∀ (l : List Stmt) (vs : List Vr) (n : Int),
  zua p res d loop (l ++ [x]) vs n = (zga d x (zua p res d loop l vs n).1, (zLb p res x (zua p res d loop l vs n).1 d loop (zua p res d loop l vs n).2).2)
 | [], _, _ => rfl
 | y :: l, vs, n => by
  rw [List.cons_append, zua, blockGo_snoc p res d loop x l]; rfl
theorem zJd (p : Prog) (res d : Int) (loop : Bool) (x : Stmt) : ∀ (l : List Stmt) (vs : List Vr) (n : Int), zKb p res d loop l vs n -> (zLb p res x (zua p res d loop l vs n).1 d loop (zua p res d loop l vs n).2).1 = 0 -> zKb p res d loop (l ++ [x]) vs n
 | [], _, _, _, h => ⟨h, trivial⟩
 | y :: l, vs, n, hf, h => by
  simp only [zKb] at hf
  exact ⟨hf.1, zJd p res d loop x l _ _ hf.2 h⟩
mutual
theorem block1_count (p : Prog) (res : Int) : ∀ (x : Stmt) (vs : List Vr) (d : Int) (loop : Bool) (n : Int), n <= (zLb p res x vs d loop n).2 /\ (zLb p res x vs d loop n).2 <= n + wtS x
 | ⟨k, t, nm, a, th, el⟩, vs, d, loop, n => by
  rw [zWd]
  have h1 := zKc p res th (zga d ⟨k, t, nm, a, th, el⟩ vs) (d + 1) (loop || decide (k = 5)) (n + 1)
  have h2 := zKc p res el (zga d ⟨k, t, nm, a, th, el⟩ vs) (d + 1) loop (zT p res th (zga d ⟨k, t, nm, a, th, el⟩ vs) (d + 1) (loop || decide (k = 5)) (n + 1)).2
  rw [zOa]
  simp only
  split
  ·simp only; omega
  ·split
   ·omega
   ·omega
theorem zKc (p : Prog) (res : Int) : ∀ (l : List Stmt) (vs : List Vr) (d : Int) (loop : Bool) (n : Int), n <= (zT p res l vs d loop n).2 /\ (zT p res l vs d loop n).2 <= n + wtSs l
 | [], vs, d, loop, n => by simp [zT, wtSs]
 | x :: r, vs, d, loop, n => by
  rw [zXb]
  have h1 := block1_count p res x vs d loop n
  have h2 := zKc p res r (zga d x vs) d loop (zLb p res x vs d loop n).2
  simp only [wtSs]
  split
  ·omega
  ·omega
end
theorem zpe (p : Prog) (res d : Int) (loop : Bool) : ∀ (l : List Stmt) (vs : List Vr) (n : Int), n <= (zua p res d loop l vs n).2 /\ (zua p res d loop l vs n).2 <= n + wtSs l
 | [], vs, n => by simp [zua, wtSs]
 | x :: r, vs, n => by
  have h1 := block1_count p res x vs d loop n
  have h2 := zpe p res d loop r (zga d x vs) (zLb p res x vs d loop n).2
  simp only [wtSs, zua]
  omega
set_option maxRecDepth 20000 in
set_option maxHeartbeats 8000000 in
theorem block_spec' : ∀ w (p : Prog) (res : Int) (l : List Stmt) (vs : List Vr) (d m n : Int) (loop : Bool) (σ : zf) (k : Nat), wtSs l <= w -> w < 1099508000000 -> Fit p -> zL l m = true -> 0 <= d -> d + m <= 1000000 -> 0 <= m -> 0 <= n -> n + wtSs l < 4000000000000 -> σ[k]? = some (fob p res n) →
  zi E 50 [.ptr k 0 0, zg l, zZa vs, .int .i64 d, .bool loop] σ = some (.ret (.int .i64 (zT p res l vs d loop n).1), σ.set k (fob p res (zT p res l vs d loop n).2))
 := by
 intro w
 induction w with
 | zero =>
  intro p res l vs d m n loop σ k h hw hz hR hd hdm hm hn0 hnw hk
  have hl : l = [] := by
   have := zha l
   exact List.eq_nil_of_length_eq_zero (by omega)
  subst hl
  have hset : σ.set k (fob p res n) = σ := by
   have hlt := (List.getElem?_eq_some_iff.1 hk)
   obtain ⟨h1, h2⟩ := hlt
   rw [<- h2, List.set_getElem_self]
  refine zc rfl rfl rfl (by simp [zg]) ?_
  simp only [zT, hset]
  simp [F50, zg]
  refine zz ([] : List Stmt) K50_0 B50_0 (fun d' => [(2, zZa vs), (18, .int .i64 d'.length)]) (fun _ => σ) (fun _ => True) (by simp) (by simp) ?_ ?_
  ·intros d' x r s1 hl' hlt
   simp at hlt
  ·intros s1 hp h1 h2 h3 h4
   simp at h1 h2 h3
   simp [*]
 | succ w ih =>
  intro p res l vs d m n loop σ k h hw hz hR hd hdm hm hn0 hnw hk
  have hlen := zha l
  have hset : σ.set k (fob p res n) = σ := by
   have hlt := (List.getElem?_eq_some_iff.1 hk)
   obtain ⟨h1, h2⟩ := hlt
   rw [<- h2, List.set_getElem_self]
  have hklt : k < σ.length := (List.getElem?_eq_some_iff.1 hk).1
  have hwd : zN .i64 (d + 1) = d + 1 := zj (by omega) (by omega)
  refine zc rfl rfl rfl (by simp [zg]) ?_
  simp [F50, zg]
  refine zz l K50_0 B50_0 (fun q => [(2, zZa (zua p res d loop q vs n).1), (18, .int .i64 q.length)]) (fun q => σ.set k (fob p res (zua p res d loop q vs n).2)) (fun q => zKb p res d loop q vs n) (by omega) (by simp [zua, zKb, hset]) ?_ ?_
  ·intros q x r s1 hl' hlt hget hget' hw1 hp h1 h2 h3 h4
   have hT := blockT_go p res d loop (x :: r) q vs n hp
   rw [<- hl'.eq, zXb, zWd] at hT
   have hG := blockGo_snoc p res d loop x q vs n
   have hF := zJd p res d loop x q vs n hp
   rw [zWd] at hG hF
   have hxR : znb x m = true := by rw [stmtsR_all, List.all_eq_true] at hR; exact hR x hl'.mem
   have hm1 : 1 <= m := by
    by_cases h1 : 1 <= m
    ·exact h1
    ·rw [stmtR_eq] at hxR; unfold headR at hxR; simp at hxR; omega
   have hwx := zLc hl'.mem
   rw [zOa] at hwx
   obtain ⟨r1, r2, r3, r4⟩ := zHc hxR
   have hgc := zpe p res d loop q vs n
   have hws : wtSs l = wtSs q + (1 + wtS x + wtSs r) := by rw [hl'.eq, zrc]; rfl
   rw [zOa] at hws
   generalize zua p res d loop q vs n = g at *
   obtain ⟨v1, n1⟩ := g
   simp only at hT hG hF h3 h4 hgc
   have hwn : zN .i64 (n1 + 1) = n1 + 1 := zj (by omega) (by omega)
   have hk1 : (σ.set k (fob p res n1))[k]? = some (fob p res n1) := by rw [List.getElem?_set_self hklt]
   have hst := stmtT_spec (d := d) (s := v1) (x := x) (loop := loop) hk1 hz (by rw [zOa]; omega) hxR
   have hi1 := ih p res x.thn (zga d x v1) (d + 1) (m - 1) (n1 + 1) (loop || decide (x.kind = 5)) (σ.set k (fob p res (n1 + 1))) k (by omega) (by omega) hz r3 (by omega) (by omega) (by omega) (by omega) (by omega) (by rw [List.getElem?_set_self hklt])
   rw [List.set_set] at hi1
   have hc1 := zKc p res x.thn (zga d x v1) (d + 1) (loop || decide (x.kind = 5)) (n1 + 1)
   generalize hT1 : zT p res x.thn (zga d x v1) (d + 1) (loop || decide (x.kind = 5)) (n1 + 1) = t1 at *
   obtain ⟨f1, n2⟩ := t1
   simp only at hc1
   have hi2 := ih p res x.els (zga d x v1) (d + 1) (m - 1) n2 loop (σ.set k (fob p res n2)) k (by omega) (by omega) hz r4 (by omega) (by omega) (by omega) (by omega) (by omega) (by rw [List.getElem?_set_self hklt])
   rw [List.set_set] at hi2
   simp only at hT hG hF hi1
   generalize hT2 : zT p res x.els (zga d x v1) (d + 1) loop n2 = t2 at *
   obtain ⟨f2, n3⟩ := t2
   simp only at hT hG hF hi2
   generalize stmtT p res v1 x.kind x.type x.name x.args d loop = f0 at *
   have hwi := with_spec v1 ⟨x.name, x.type⟩ d (σ.set k (fob p res (n1 + 1)))
   have hb : zga d x v1 = if x.kind = 1 then ⟨x.name, x.type, d⟩ :: v1 else v1 := rfl
   clear ih hT1 hT2 r1 r2 r3 r4 hws hgc hc1 hnw hn0 hwx hxR hl' hR h hlen hset
   rw [zb] at hst
   simp [ze, zg, encPar] at hst hi1 hi2 hwi
   simp [ze, zg] at h1 h2 h3 h4
   unfold fob at *
   by_cases hf0 : f0 = 0
   case neg =>
    simp [hf0] at hT
    rw [hT]
    clear hT hG hF hi1 hi2 hwi hb hp
    replace hf0 := eqn hf0
    simp [*, zb, ze, zg]
   subst hf0
   by_cases hk1 : x.kind = 1
   ·have hk5 : ¬ x.kind = 5 := by omega
    rw [if_pos hk1] at hb
    replace hk1 := eqp hk1
    replace hk5 := eqn hk5
    rw [hb] at hi1 hi2 hG
    clear hb
    simp only [hk5, decide_false, Bool.or_false] at hi1
    by_cases hf1 : f1 = 0
    case neg =>
     simp [hf1] at hT
     rw [hT]
     clear hT hG hF hi2 hp
     replace hf1 := eqn hf1
     cases loop <;> simp [*, zb, ze, zg]
    subst hf1
    by_cases hf2 : f2 = 0
    case neg =>
     simp [hf2] at hT
     rw [hT]
     clear hT hG hF hp
     replace hf2 := eqn hf2
     cases loop <;> simp [*, zb, ze, zg]
    subst hf2
    simp at hG hF
    clear hT hp
    cases loop <;> simp [*, zb, ze, zg]
   ·rw [if_neg hk1] at hb
    replace hk1 := eqn hk1
    rw [hb] at hi1 hi2 hG
    clear hb hwi
    by_cases hf1 : f1 = 0
    case neg =>
     simp [hf1] at hT
     rw [hT]
     clear hT hG hF hi2 hp
     replace hf1 := eqn hf1
     cases loop <;> simp at hi1 <;> simp [*, zb, ze, zg]
    subst hf1
    by_cases hf2 : f2 = 0
    case neg =>
     simp [hf2] at hT
     rw [hT]
     clear hT hG hF hp
     replace hf2 := eqn hf2
     cases loop <;> simp at hi1 <;> simp [*, zb, ze, zg]
    subst hf2
    simp at hG hF
    clear hT hp
    cases loop <;> simp at hi1 <;> simp [*, zb, ze, zg]
  ·intros s1 hp h1 h2 h3 h4
   clear ih
   have hT := blockT_go p res d loop [] l vs n hp
   rw [List.append_nil, zT] at hT
   rw [hT]
   simp at h1 h2 h3 h4
   clear hT hp hR
   simp [*]
end PE.U

namespace PE.U
open Go PE
def skOf : List PV -> SK
 | [] => .fit
 | _ => .plain
theorem zEb (sz : Nat) (l : List PV) : strip (acc sz l) = .slice (skOf l) sz l := by cases l <;> rfl
def sq1 : ICode -> ICode
 | .seq a _ => a
 | c => c
def sq2 : ICode -> ICode
 | .seq _ b => b
 | c => c
theorem zde (p : Prog) (nm : List UInt8) (hl : p.funcs.length < 1099511627776) : zi E 63 [zd p, .str nm] [] = some (.ret (.int .i64 (zwa p nm)), []) := by
 refine zc rfl rfl rfl (by simp [zd]) ?_
 simp [F63, zd, funcs]
 refine zz p.funcs K63_0 B63_0 (fun d => [(5, .int .i64 d.length)]) (fun _ => []) (fun d => ∀ y ∈ d, decide (y.name = nm) = false) (by omega) (by simp) ?_ ?_
 ·intros d x r s1 hl' hlt hget hget' hw hp h1 h2 h3 h4
  simp at h1 h2 h3
  by_cases hx : x.name = nm
  ·have hh : zwa p nm = d.length := idx_hit hl' hp (decide_eq_true hx)
   rw [hh]
   replace hx := eqp hx
   clear hp hh hl'
   simp [*, zm]
  ·have hnx : ∀ y ∈ d ++ [x], ¬ y.name = nm := by
    intro y hy
    rcases List.mem_append.1 hy with h | h
    ·exact of_decide_eq_false (hp y h)
    ·rw [List.mem_singleton.1 h]; exact hx
   replace hx := eqn hx
   clear hp hl'
   simp [*, zm]
   all_goals (try grind)
 ·intros s1 hp h1 h2 h3 h4
  have hh : zwa p nm = -1 := zBd hp
  rw [hh]
  simp at h1 h2 h3
  clear hp hh
  simp [*]
theorem rarray_spec (p : Prog) (nm : List UInt8) (hl : p.arrays.length < 1099511627776) : zi E 62 [zd p, .str nm] [] = some (.ret (.int .i64 (zlb p nm)), []) := by
 refine zc rfl rfl rfl (by simp [zd]) ?_
 simp [F62, zd, zva]
 refine zz p.arrays K62_0 B62_0 (fun d => [(5, .int .i64 d.length)]) (fun _ => []) (fun d => ∀ y ∈ d, decide (y.name = nm) = false) (by omega) (by simp) ?_ ?_
 ·intros d x r s1 hl' hlt hget hget' hw hp h1 h2 h3 h4
  simp at h1 h2 h3
  by_cases hx : x.name = nm
  ·have hh : zlb p nm = d.length := idx_hit hl' hp (decide_eq_true hx)
   rw [hh]
   replace hx := eqp hx
   clear hp hh hl'
   simp [*, zK]
  ·have hnx : ∀ y ∈ d ++ [x], ¬ y.name = nm := by
    intro y hy
    rcases List.mem_append.1 hy with h | h
    ·exact of_decide_eq_false (hp y h)
    ·rw [List.mem_singleton.1 h]; exact hx
   replace hx := eqn hx
   clear hp hl'
   simp [*, zK]
   all_goals (try grind)
 ·intros s1 hp h1 h2 h3 h4
  have hh : zlb p nm = -1 := zBd hp
  rw [hh]
  simp at h1 h2 h3
  clear hp hh
  simp [*]
def operR (op : Int) : Int × Int :=
 if op = 18 \/ op = 19 \/ op = 22 then (2, 2)
 else if op = 16 \/ op = 17 then (0, 2)
 else if 12 <= op /\ op <= 15 then (1, 2)
 else (1, 1)
theorem oper_spec (op : Int) : zi E 111 [.int .i64 op] [] = some (.ret (.tup [.int .i64 (operR op).1, .int .i64 (operR op).2]), []) := by
 refine zc rfl rfl rfl (by simp) ?_
 unfold operR
 (simp [*, F111]) <;> (repeat' (first | ((first | refine sP _ ?_ ?_ | refine gP _ ?_ ?_ | refine sN _ ?_ ?_ | refine gN _ ?_ ?_) <;> intro hc <;> (first | replace hc := eqn hc | replace hc := eqp hc) <;> simp [*, F111]) | ((first | refine sM _ ?_ ?_ | refine gM _ ?_ ?_ | refine sB _ ?_ ?_ | refine gB _ ?_ ?_) <;> intro hc <;> simp [*, F111])))
 all_goals (try grind)
def parOf (v : Vr) : Par := ⟨v.name, v.type⟩
def zia (s : List Vr) : List Par := (s.map parOf).reverse
theorem zgb (s : List Vr) : (zia s).length = s.length := by simp [zia]
theorem zXc (v : Vr) (s : List Vr) : zia (v :: s) = zia s ++ [parOf v] := by simp [zia]
theorem varsOf_append (a b : List Vr) : zia (a ++ b) = zia b ++ zia a := by simp [zia]
theorem varsOf_get (d : List Vr) (v : Vr) (r : List Vr) : (zia (d ++ v :: r))[r.length]? = some (parOf v) := by
 rw [varsOf_append, zXc, List.append_assoc, List.getElem?_append_right (by rw [zgb]; omega), zgb]
 simp
def typeV (s : List Vr) (nm : List UInt8) : Int := ((zta s nm).head?.map (·.type)).getD 0
structure FV where
 d : List Vr
 c : List Vr
theorem rfind_spec (s : List Vr) (nm : List UInt8) (hl : s.length < 1099511627776) : zi E 29 [parsV (zia s), .str nm] [] = some (.ret (.tup [.int .i64 (typeV s nm), .bool (!decide (zta s nm = []))]), []) := by
 refine zc rfl rfl rfl (by simp [parsV]) ?_
 have hvl := zgb s
 have hw0 : zN .i64 ((s.length : Int) - 1) = (s.length : Int) - 1 := zj (by omega) (by omega)
 simp [F29, parsV, hvl, hw0]
 refine zza K29_0 B29_0 (fun c : FV => c.c.length) (fun c => [(6, .int .i64 ((c.c.length : Int) - 1))]) (fun c => []) (fun c => []) (fun c => zta c.c nm = zta s nm /\ s = c.d ++ c.c) ⟨[], s⟩ (by simp) ?_
 rintro ⟨d, c⟩ s1 ⟨hc, hs⟩ h1 h2 h3 h4 h5
 simp at h1 h3 h5 hc hs
 clear h2 h4
 unfold typeV
 rw [<- hc]
 cases c with
 | nil =>
  simp at h3
  clear hc hs
  simp [*, zta]
 | cons v r =>
  have hg := varsOf_get d v r
  rw [<- hs] at hg
  have hlen : r.length + d.length < 1099511627776 := by
   have := congrArg List.length hs
   simp at this; omega
  have e1 : (((v :: r).length : Int) - 1) = r.length := by simp
  rw [e1] at h3
  have hw : zN .i64 ((r.length : Int) - 1) = (r.length : Int) - 1 := zj (by omega) (by omega)
  rw [zRa] at hc ⊢
  by_cases hn : v.name = nm
  ·rw [if_pos hn]
   replace hn := eqp hn
   clear hc hs hvl hlen e1
   simp [*, encPar, parOf]
  ·rw [if_neg hn] at hc ⊢
   replace hn := eqn hn
   have hk : ∃ d', s = d' ++ r := ⟨d ++ [v], by rw [hs]; simp⟩
   obtain ⟨d', hd'⟩ := hk
   clear hs hvl hlen e1
   simp [*, encPar, parOf, -hd']
   exact ⟨⟨d', r⟩, by simp, rfl, hc, hd'⟩
end PE.U

namespace PE.U
open Go PE
def okR (tk : Int) (l : List Int) (y : Int) : Bool := !((!decide (tk = 0) && !decide (y = tk)) || !decide (y = at0 l))
theorem made_oper (p : Prog) (s : List Vr) (k o : Int) (nm : List UInt8) (l : List Int) (h : (k = 4 /\ l.length = 1) \/ (k = 5 /\ l.length = 2)) : zed p s k o nm l = ((operR o).2, l.all (okR (operR o).1 l)) := by
 have hk : k = 4 \/ k = 5 := by rcases h with h | h <;> simp [h.1]
 have key : ∀ x : Int, (takesT o x).1 = (operR o).2 /\ ((takesT o x).2 = true <-> ((operR o).1 = 0 \/ x = (operR o).1)) := by
  intro x
  unfold takesT operR
  split
  ·simp
  split
  ·simp
  split
  ·rw [if_pos (by omega)]; simp
  ·rw [if_neg (by omega)]; simp
 obtain ⟨k1, k2⟩ := key (at0 l)
 rcases h with ⟨rfl, hl⟩ | ⟨rfl, hl⟩
 ·obtain ⟨x, rfl⟩ := List.length_eq_one_iff.1 hl
  unfold zed
  simp only [show ¬ (4 : Int) = 2 from by decide, show ¬ (4 : Int) = 3 from by decide, show ¬ (4 : Int) = 6 from by decide, if_false, if_true]
  refine Prod.ext k1 ?_
  simp only
  rw [Bool.eq_iff_iff, k2]
  simp [okR, at0]
 ·obtain ⟨x, y, rfl⟩ : ∃ x y, l = [x, y] := by
   match l, hl with
   | [x, y], _ => exact ⟨x, y, rfl⟩
  unfold zed
  simp only [show ¬ (5 : Int) = 2 from by decide, show ¬ (5 : Int) = 3 from by decide, show ¬ (5 : Int) = 6 from by decide, show ¬ (5 : Int) = 4 from by decide, if_false, if_true]
  refine Prod.ext k1 ?_
  simp only
  rw [Bool.eq_iff_iff, Bool.and_eq_true, k2]
  simp [okR, at0, at1]
  grind
def typeTail : ICode := sq2 (sq2 (sq2 (sq2 F88.body)))
set_option maxRecDepth 20000 in
set_option maxHeartbeats 8000000 in
theorem type_tail (p : Prog) (s : List Vr) (e : Expr) (m : Int) (hz : Fit p) (hw : wtE e < 1099510000000) (hm : zkb e.args m = true) (hk : kindR e.kind e.op e.n e.name e.args.length = true) (h0 : zAb p s e.kind e.name e.args.length = 0)
  (IH : ∀ x ∈ e.args, ∀ m, zdb x m = true -> zi E 88 [zd p, parsV (zia s), zo x] [] = some (.ret (zVa (zqb p s x)), []))
  (s1 : St) (b1 : s1.bx 3 = .cells [zva p.arrays, funcs p.funcs]) (b2 : s1.bx 5 = .cells [.int .i64 e.kind, .int .i64 e.op, .int .i64 e.n, .str e.name, ze e.args])
  (t1 : s1.fr 1 = parsV (zia s)) (t3 : s1.fr 3 = .lptr 3 0) (t5 : s1.fr 5 = .lptr 5 0) (t8 : s1.fr 8 = .int .i64 (zwa p e.name)) (t9 : s1.fr 9 = .int .i64 (typeV s e.name)) (st : s1.st = []) :
  zpa (exec (zi E) typeTail s1) (leaveQ F88.res false 0 (isR (.ret (zVa (zqb p s e)), []))) := by
 have hla := zPb e.args
 rw [zsd] at hw
 obtain ⟨fr, bx, st'⟩ := s1
 simp only at b1 b2 t1 t3 t5 t8 t9 st
 subst st
 have hT := (exprT_eq p s e).symm
 rw [if_neg (by rw [h0]; simp)] at hT
 generalize zqb p s e = R at hT ⊢
 simp [typeTail, sq2, F88, ze] at b2 ⊢
 refine zz e.args K88_0 B88_0 (fun d => [(11, acc 1 ((zDa p s d).1.map (PV.int .i64))), (12, .int .i64 d.length)]) (fun _ => []) (fun d => (zDa p s d).2 = 0) (by omega) (by simp [zDa]) ?_ ?_
 ·intros d x r s1 hl' hlt hget hget' hw1 hp h1 h2 h3 h4
  have hx : zdb x (m - 1) = true := by
   rw [exprsR_all, List.all_eq_true] at hm
   have := hm x hl'.mem
   simp at this; exact this.2
  have ih := IH x hl'.mem _ hx
  have hlen := argsT_len p s d hp
  obtain ⟨f1, f2⟩ := argsT_pre p s x r d hp
  rw [<- hl'.eq] at f1
  clear IH hm hx hl' hk h0
  rw [za] at ih
  simp [zVa, zd, ze] at ih
  simp at h1 h2 h3
  have hroom : (d.length + 1) * 8 <= zn := by simp only [zn]; omega
  generalize zqb p s x = q at *
  obtain ⟨t, f⟩ := q
  simp only at ih f1 f2
  by_cases hf : f = 0
  ·subst hf
   have f2 := f2 rfl
   clear f1 hT
   simp [*, za, ze]
   all_goals (try grind)
  ·have f1 := f1 hf
   clear f2
   rw [f1] at hT
   simp [hf] at hT
   replace hf := eqn hf
   clear f1
   subst hT
   simp [*, za, ze, zVa]
 intros s1 hp h1 h2 h3 h4
 have hlen := argsT_len p s e.args hp
 rw [if_neg (by rw [hp]; simp)] at hT
 rw [<- hlen] at hk
 generalize (zDa p s e.args).1 = l at *
 simp at h1 h2 h3
 clear IH hm hp
 by_cases k2 : e.kind = 2
 ·replace k2 := eqp k2
  simp [zed, k2] at hT
  clear hk h0
  subst hT
  simp [*, zVa]
 by_cases k3 : e.kind = 3
 ·have hv : zed p s e.kind e.op e.name l = (typeV s e.name, true) := by unfold zed; rw [if_neg k2, if_pos k3]; rfl
  rw [hv] at hT
  simp at hT
  replace k2 := eqn k2
  replace k3 := eqp k3
  clear hk h0 hv
  subst hT
  simp [*, zVa]
 by_cases k7 : e.kind = 7
 ·have hl1 : l.length <= 8 := by
   unfold kindR at hk; simp [k2, k3, k7] at hk; exact hk.2.2
  rcases zid (fun f : Func => decide (f.name = e.name)) p.funcs with ⟨a1, a2⟩ | ⟨n, f, a1, a2, a3, a4, a5⟩
  ·have a2 : zIb p e.name = none := a2
   unfold zAb at h0
   rw [if_neg k3, if_neg (by omega), if_pos k7, a2] at h0
   exact absurd h0 (by simp)
  ·have a1 : zwa p e.name = n := a1
   have a3 : zIb p e.name = some f := a3
   have hpl : f.params.length = l.length := by
    unfold zAb at h0
    rw [if_neg k3, if_neg (by omega), if_pos k7, a3] at h0
    simp only at h0
    split at h0
    ·omega
    ·exact absurd h0 (by decide)
   have hv : zed p s e.kind e.op e.name l = (f.type, decide (l = f.params.map (·.type))) := by
    unfold zed; rw [if_neg k2, if_neg k3, if_neg (by omega), if_neg (by omega), if_neg (by omega), if_pos k7, a3]
   rw [hv, types_eq hpl.symm] at hT
   rw [a1] at t8
   have n0 : ¬ ((n : Int) < 0) := by omega
   have n1 : (0 <= (n : Int)) := by omega
   replace k2 := eqn k2
   replace k3 := eqn k3
   replace k7 := eqp k7
   clear hk h0 hv a5 a4 a1 a3
   simp [*, funcs]
   refine zz (l.zip f.params) K88_1 B88_1 (fun d => [(15, .int .i64 d.length)]) (fun _ => []) (fun d => (d.all fun x => decide (x.1 = x.2.type)) = true) (by simp; omega) ?_ ?_ ?_
   ·simp [*]
   ·intros d x r s2 hl' hlt hget hget' hw2 hp g1 g2 g3 g4
    simp at g1 g2 g3
    have hzz : (l.zip f.params)[d.length]? = some x := hget
    rw [List.getElem?_zip_eq_some] at hzz
    obtain ⟨z1, z2⟩ := hzz
    obtain ⟨x1, x2⟩ := x
    simp only at z1 z2
    have hz2 : (l.zip f.params).length = l.length := by simp [hpl]
    have hlt' : (d.length : Int) < l.length := by rw [hz2] at hlt; omega
    have hlt2 : (d.length : Int) < e.args.length := by omega
    by_cases hx : x1 = x2.type
    ·replace hp : ((d ++ [(x1, x2)]).all fun x => decide (x.1 = x.2.type)) = true := by rw [List.all_append, hp]; simp [hx]
     replace hx := eqp hx
     clear hl' hget hget' hlt hz2 hT
     simp [*, zEb, zm, parsV, encPar, funcs]
     all_goals (try grind)
    ·have hf : ((l.zip f.params).all fun x => decide (x.1 = x.2.type)) = false := by rw [hl'.eq]; simp [hx]
     rw [hf] at hT
     simp at hT
     replace hx := eqn hx
     clear hl' hget hget' hp hlt hz2
     subst hT
     simp [*, zEb, zm, parsV, encPar, funcs, zVa]
   ·intros s2 hp g1 g2 g3 g4
    simp at g1 g2 g3
    rw [hp] at hT
    simp at hT
    have hz2 : (l.zip f.params).length = l.length := by simp [hpl]
    rw [hpl, Nat.min_self] at g3
    have hnl : ¬ ((l.length : Int) < l.length) := by omega
    clear hp hz2
    subst hT
    simp [*, zEb, zm, parsV, encPar, funcs, zVa]
 by_cases k6 : e.kind = 6
 ·have hl : l.length = 1 := by
   unfold kindR at hk; simp [k2, k3, k6] at hk; exact hk.2.2
  obtain ⟨x, rfl⟩ := List.length_eq_one_iff.1 hl
  have hv : zed p s e.kind e.op e.name [x] = (1, decide (x = 1)) := by unfold zed; rw [if_neg k2, if_neg k3, if_pos k6]; rfl
  rw [hv] at hT
  replace k2 := eqn k2
  replace k3 := eqn k3
  replace k7 := eqn k7
  replace k6 := eqp k6
  clear hk h0 hv hl
  by_cases hx : x = 1
  ·subst hx
   simp at hT
   subst hT
   simp [*, zVa]
  ·simp [hx] at hT
   replace hx := eqn hx
   subst hT
   simp [*, zVa]
 by_cases k45 : e.kind = 4 \/ e.kind = 5
 ·have hll : (e.kind = 4 /\ l.length = 1) \/ (e.kind = 5 /\ l.length = 2) := by
   rcases k45 with k | k
   ·left; refine ⟨k, ?_⟩; unfold kindR at hk; simp [k] at hk; exact hk.2.2.2
   ·right; refine ⟨k, ?_⟩; unfold kindR at hk; simp [k] at hk; exact hk.2.2.2
  rw [made_oper p s _ _ _ _ hll] at hT
  have ho := oper_spec e.op
  have hl0 : ∃ x r, l = x :: r := by
   rcases hll with ⟨_, h⟩ | ⟨_, h⟩ <;> cases l <;> simp at h ⊢
  have hl2 : l.length <= 2 := by rcases hll with ⟨_, h⟩ | ⟨_, h⟩ <;> omega
  obtain ⟨x0, r0, hx0⟩ := hl0
  have hat : at0 l = x0 := by rw [hx0]; rfl
  have hg0 : l[0]? = some x0 := by rw [hx0]; rfl
  generalize operR e.op = oq at *
  obtain ⟨tk, mk⟩ := oq
  simp only at hT ho
  unfold okR at hT
  rw [hat] at hT
  replace k2 := eqn k2
  replace k3 := eqn k3
  replace k7 := eqn k7
  replace k6 := eqn k6
  clear hk h0 hat hx0 hll hlen hla hw hz
  have k4' : e.kind = 5 -> (e.kind = 4) = False := fun h => eqn (by omega)
  rcases k45 with k4 | k4
  case' inl => replace k4 := eqp k4; clear k4'
  case' inr => replace k4' := k4' k4; replace k4 := eqp k4
  all_goals
   simp [*]
   refine zz l K88_2 B88_2 (fun d => [(18, .int .i64 d.length)]) (fun _ => []) (fun d => (d.all fun y => !((!decide (tk = 0) && !decide (y = tk)) || !decide (y = x0))) = true) (by omega) ?_ ?_ ?_
   ·simp [*]
   ·intros d x r s2 hl' hlt hget hget' hw2 hp g1 g2 g3 g4
    simp at g1 g2 g3
    have hbad : (!((!decide (tk = 0) && !decide (x = tk)) || !decide (x = x0))) = false -> (l.all fun y => !((!decide (tk = 0) && !decide (y = tk)) || !decide (y = x0))) = false := by
     intro h; rw [hl'.eq, List.all_append, List.all_cons, h]; simp
    have hgood : (!((!decide (tk = 0) && !decide (x = tk)) || !decide (x = x0))) = true -> ((d ++ [x]).all fun y => !((!decide (tk = 0) && !decide (y = tk)) || !decide (y = x0))) = true := by
     intro h; rw [List.all_append, hp, List.all_cons, h]; simp
    clear hl' hp h1 h2 h3
    by_cases c1 : tk = 0
    ·by_cases c2 : x = x0
     ·replace hgood := hgood (by simp [c1, c2])
      replace c1 := eqp c1
      replace c2 := eqp c2
      clear hbad hT
      simp [*, zEb]
      all_goals (try grind)
     ·rw [hbad (by simp [c2])] at hT
      simp at hT
      replace c1 := eqp c1
      replace c2 := eqn c2
      clear hbad hgood
      subst hT
      simp [*, zEb, zVa]
    ·by_cases c3 : x = tk
     ·by_cases c2 : x = x0
      ·replace hgood := hgood (by rw [decide_eq_true c3, decide_eq_true c2]; simp)
       replace c1 := eqn c1
       replace c2 := eqp c2
       replace c3 := eqp c3
       clear hbad hT
       simp [*, zEb]
       all_goals (try grind)
      ·rw [hbad (by simp [c2])] at hT
       simp at hT
       replace c1 := eqn c1
       replace c2 := eqn c2
       replace c3 := eqp c3
       clear hbad hgood
       subst hT
       simp [*, zEb, zVa]
     ·rw [hbad (by simp [c1, c3])] at hT
      simp at hT
      replace c1 := eqn c1
      replace c3 := eqn c3
      clear hbad hgood
      subst hT
      simp [*, zEb, zVa]
   ·intros s2 hp g1 g2 g3 g4
    simp at g1 g2 g3
    rw [hp] at hT
    simp at hT
    clear hp h1 h2 h3
    subst hT
    simp [*, zEb, zVa]
 ·have k4 : ¬ e.kind = 4 := fun h => k45 (Or.inl h)
  have k5 : ¬ e.kind = 5 := fun h => k45 (Or.inr h)
  have hv : zed p s e.kind e.op e.name l = (1, true) := by unfold zed; rw [if_neg k2, if_neg k3, if_neg k6, if_neg k4, if_neg k5, if_neg k7]
  rw [hv] at hT
  simp at hT
  replace k2 := eqn k2
  replace k3 := eqn k3
  replace k7 := eqn k7
  replace k6 := eqn k6
  replace k4 := eqn k4
  replace k5 := eqn k5
  clear hk h0 hv k45
  subst hT
  simp [*, zEb, zVa]
set_option maxRecDepth 20000 in
set_option maxHeartbeats 8000000 in
theorem rTypeOf_spec' : ∀ w (p : Prog) (s : List Vr) (e : Expr) (m : Int), Fit p -> wtE e <= w -> w < 1099510000000 -> s.length < 1099509000000 -> zdb e m = true -> zi E 88 [zd p, parsV (zia s), zo e] [] = some (.ret (zVa (zqb p s e)), []) := by
 intro w
 induction w with
 | zero => intro p s e m _ h _ _ _; rw [zsd] at h; omega
 | succ w ih =>
  intro p s e m hz h hw hsl hR
  rw [exprR_eq, Bool.and_eq_true] at hR
  obtain ⟨hm, hk⟩ := hR
  have hla := zPb e.args
  have hwe := zsd e
  have hp := zde p e.name (by have := hz.f; omega)
  have ha := rarray_spec p e.name (by have := hz.a; omega)
  have hf := rfind_spec s e.name (by omega)
  have hT := (exprT_eq p s e).symm
  have tail := type_tail p s e m hz (by omega) hm hk
  have h3 : (zlb p e.name < 0) = (zPc p e.name = false) := by
   have : decide (0 <= zlb p e.name) = zPc p e.name := idx_ge (fun f : PArr => decide (f.name = e.name)) p.arrays
   rw [<- this, decide_eq_false_iff_not]; apply propext; omega
  replace tail := fun h0 => tail h0 (fun x hx m' hm' => ih p s x m' hz (by have := zSb hx; omega) (by omega) hsl hm')
  have hal : e.args.length < 1099510000000 := by omega
  clear h hw hm hk hla hwe ih
  generalize zqb p s e = R at *
  refine zc rfl rfl rfl (by simp [zd, za, parsV]) ?_
  rw [show F88.body = .seq (sq1 F88.body) (.seq (sq1 (sq2 F88.body)) (.seq (sq1 (sq2 (sq2 F88.body))) (.seq (sq1 (sq2 (sq2 (sq2 F88.body)))) typeTail))) from rfl]
  simp [zd, parsV, zVa] at hp ha hf
  unfold zAb at hT tail
  by_cases k3 : e.kind = 3
  ·rw [if_pos k3] at hT tail
   have k7 : (e.kind = 7) = False := eqn (by omega)
   have k6 : (e.kind = 6) = False := eqn (by omega)
   replace k3 := eqp k3
   by_cases hv : zta s e.name = []
   ·rw [if_pos hv] at hT
    simp at hT
    replace hv := eqp hv
    clear tail
    subst hT
    simp [*, F88, sq1, sq2, zd, za, parsV, zVa, ze]
   ·rw [if_neg hv] at tail
    replace tail := tail rfl
    replace hv := eqn hv
    clear hT
    simp [*, F88, sq1, sq2, zd, za, parsV, zVa, ze]
    refine tail _ ?_ ?_ ?_ ?_ ?_ ?_ ?_ ?_ <;> simp [*, parsV, ze]
  rw [if_neg k3] at hT tail
  by_cases k6 : e.kind = 6
  ·rw [if_pos k6] at hT tail
   have k7 : (e.kind = 7) = False := eqn (by omega)
   replace k3 := eqn k3
   replace k6 := eqp k6
   cases hb : zPc p e.name
   ·rw [hb] at hT h3
    simp at hT h3
    replace h3 := eqp h3
    clear tail
    subst hT
    simp [*, F88, sq1, sq2, zd, za, parsV, zVa, ze]
   ·rw [hb] at tail h3
    replace tail := tail rfl
    replace h3 : (zlb p e.name < 0) = False := by rw [h3]; simp
    clear hT
    simp [*, F88, sq1, sq2, zd, za, parsV, zVa, ze]
    refine tail _ ?_ ?_ ?_ ?_ ?_ ?_ ?_ ?_ <;> simp [*, parsV, ze]
  rw [if_neg k6] at hT tail
  by_cases k7 : e.kind = 7
  ·rw [if_pos k7] at hT tail
   replace k3 := eqn k3
   replace k6 := eqn k6
   replace k7 := eqp k7
   rcases zid (fun f : Func => decide (f.name = e.name)) p.funcs with ⟨a1, a2⟩ | ⟨n, f, a1, a2, a3, a4, a5⟩
   ·have a1 : zwa p e.name = -1 := a1
    have a2 : zIb p e.name = none := a2
    rw [a2] at hT
    simp at hT
    rw [a1] at hp
    clear tail a2
    subst hT
    simp [*, F88, sq1, sq2, zd, za, parsV, zVa, ze]
   ·have a1 : zwa p e.name = n := a1
    have a3 : zIb p e.name = some f := a3
    have hpf := hz.p f (List.mem_of_getElem? a2)
    rw [a3] at hT tail
    simp only at hT tail
    have n0 : ¬ ((n : Int) < 0) := by omega
    rw [a1] at hp tail
    simp only [funcs] at hp
    by_cases hq : f.params.length = e.args.length
    ·rw [if_pos hq] at tail
     replace tail := tail rfl
     have hq' : ((e.args.length : Int) = f.params.length) = True := eqp (by omega)
     clear hT a5 a4 a3 a1 hq
     simp [*, F88, sq1, sq2, zd, za, parsV, zVa, ze, funcs, zm]
     refine tail _ ?_ ?_ ?_ ?_ ?_ ?_ ?_ ?_ <;> simp [*, parsV, ze, funcs]
    ·rw [if_neg hq] at hT
     simp at hT
     have hq' : ((e.args.length : Int) = f.params.length) = False := eqn (by omega)
     clear tail a5 a4 a3 a1 hq
     subst hT
     simp [*, F88, sq1, sq2, zd, za, parsV, zVa, ze, funcs, zm]
  ·rw [if_neg k7] at tail
   replace tail := tail rfl
   replace k3 := eqn k3
   replace k6 := eqn k6
   replace k7 := eqn k7
   clear hT
   simp [*, F88, sq1, sq2, zd, za, parsV, zVa, ze]
   refine tail _ ?_ ?_ ?_ ?_ ?_ ?_ ?_ ?_ <;> simp [*, parsV, ze]
theorem rTypeOf_spec (p : Prog) (s : List Vr) (e : Expr) (m : Int) (hz : Fit p) (hw : wtE e < 1099510000000) (hs : s.length < 1099509000000) (hR : zdb e m = true) : zi E 88 [zd p, parsV (zia s), zo e] [] = some (.ret (zVa (zqb p s e)), []) :=
 rTypeOf_spec' (wtE e) p s e m hz (Nat.le_refl _) hw hs hR
end PE.U

namespace PE.U
open Go PE
set_option maxHeartbeats 1000000 in
theorem breaks_spec' : ∀ w (l : List Stmt), wtSs l <= w -> w < 1099508500000 -> zi E 65 [zg l] [] = some (.ret (.bool (zma l)), [])
 | w, l, h, hw => by
  have hlen := zha l
  refine zc rfl rfl rfl (by simp [zg]) ?_
  simp [F65, zg]
  refine zz l K65_0 B65_0 (fun d => [(3, .int .i64 d.length)]) (fun _ => []) (fun d => zma d = false) (by omega) (by simp [zma]) ?_ ?_
  ·intros d x r s1 hl' hlt hget hget' hw1 hp h1 h2 h3 h4
   simp at h1 h2 h3
   have hwx := zLc hl'.mem
   rw [zOa] at hwx
   obtain ⟨w, rfl⟩ : ∃ k, w = k + 1 := ⟨w - 1, by omega⟩
   have i1 := breaks_spec' w x.thn (by omega) (by omega)
   have i2 := breaks_spec' w x.els (by omega) (by omega)
   have hyes : zhd x = true -> zma l = true := by intro h; rw [leavesT_any, hl'.eq]; simp [h]
   have hno : zhd x = false -> zma (d ++ [x]) = false := by intro h; rw [leavesT_any] at hp ⊢; rw [List.any_append, hp]; simp [h]
   rw [leaves1_eq] at hyes hno
   clear hl' hp h hwx
   simp [zg] at i1 i2
   generalize zma x.thn = b1 at *
   generalize zma x.els = b2 at *
   by_cases k6 : x.kind = 6
   ·replace hyes := hyes (by simp [k6])
    replace k6 := eqp k6
    clear hno
    simp [*, zb, zg]
   by_cases k4 : x.kind = 4
   ·cases b1
    ·cases b2
     ·replace hno := hno (by simp [k4])
      replace k6 := eqn k6
      replace k4 := eqp k4
      clear hyes
      simp [*, zb, zg]
      all_goals (try grind)
     ·replace hyes := hyes (by simp [k4])
      replace k6 := eqn k6
      replace k4 := eqp k4
      clear hno
      simp [*, zb, zg]
    ·replace hyes := hyes (by simp [k4])
     replace k6 := eqn k6
     replace k4 := eqp k4
     clear hno
     simp [*, zb, zg]
   ·replace hno := hno (by simp [k4, k6])
    replace k6 := eqn k6
    replace k4 := eqn k4
    clear hyes
    simp [*, zb, zg]
    all_goals (try grind)
  ·intros s1 hp h1 h2 h3 h4
   simp at h1 h2 h3
   simp [*]
theorem breaks_spec (l : List Stmt) (h : wtSs l < 1099508000000) : zi E 65 [zg l] [] = some (.ret (.bool (zma l)), []) := breaks_spec' (wtSs l) l (Nat.le_refl _) (by omega)
set_option maxHeartbeats 1000000 in
theorem rends_spec' : ∀ w (l : List Stmt) (m : Int), wtSs l <= w -> w < 1099508000000 -> zL l m = true -> zi E 31 [zg l] [] = some (.ret (.bool (zVb l)), [])
 | w, l, m, h, hw, hR => by
  have hlen := zha l
  refine zc rfl rfl rfl (by simp [zg]) ?_
  simp [F31, zg]
  refine zz l K31_0 B31_0 (fun d => [(3, .int .i64 d.length)]) (fun _ => []) (fun d => zVb d = false) (by omega) (by simp [zVb]) ?_ ?_
  ·intros d x r s1 hl' hlt hget hget' hw1 hp h1 h2 h3 h4
   simp at h1 h2 h3
   have hwx := zLc hl'.mem
   rw [zOa] at hwx
   obtain ⟨w, rfl⟩ : ∃ k, w = k + 1 := ⟨w - 1, by omega⟩
   have hxR : znb x m = true := by rw [stmtsR_all, List.all_eq_true] at hR; exact hR x hl'.mem
   obtain ⟨r1, r2, r3, r4⟩ := zHc hxR
   have i1 := rends_spec' w x.thn _ (by omega) (by omega) r3
   have i2 := rends_spec' w x.els _ (by omega) (by omega) r4
   have i3 := breaks_spec x.thn (by omega)
   have hyes : ends1 x = true -> zVb l = true := by intro h; rw [endsT_any, hl'.eq]; simp [h]
   have hno : ends1 x = false -> zVb (d ++ [x]) = false := by intro h; rw [endsT_any] at hp ⊢; rw [List.any_append, hp]; simp [h]
   rw [ends1_eq] at hyes hno
   clear hl' hp h hwx hxR hR r2 r3 r4
   simp [zg] at i1 i2 i3
   generalize zVb x.thn = b1 at *
   generalize zVb x.els = b2 at *
   generalize zma x.thn = b3 at *
   by_cases k8 : x.kind = 8
   ·replace hyes := hyes (by simp [k8])
    replace k8 := eqp k8
    clear hno r1
    simp [*, zb, zg, ze]
   by_cases k4 : x.kind = 4
   ·rw [if_neg k8, if_pos k4] at hyes hno
    have k5 : (x.kind = 5) = False := eqn (by omega)
    replace k8 := eqn k8
    replace k4 := eqp k4
    clear r1
    cases b1
    ·replace hno := hno rfl
     clear hyes
     simp [*, zb, zg, ze]
     all_goals (try grind)
    ·cases b2
     ·replace hno := hno rfl
      clear hyes
      simp [*, zb, zg, ze]
      all_goals (try grind)
     ·replace hyes := hyes rfl
      clear hno
      simp [*, zb, zg, ze]
   by_cases k5 : x.kind = 5
   ·rw [if_neg k8, if_neg k4, if_pos k5] at hyes hno
    have hl1 : x.args.length = 1 := by rw [k5] at r1; simp [zP] at r1; omega
    obtain ⟨y, hy⟩ := List.length_eq_one_iff.1 hl1
    have hg0 : x.args[0]? = some y := by rw [hy]; rfl
    have ha0 : arg0 x.args = y := by unfold arg0; rw [hg0]; rfl
    rw [ha0] at hyes hno
    clear hy hl1 r1 ha0
    replace k8 := eqn k8
    replace k4 := eqn k4
    replace k5 := eqp k5
    by_cases y2 : y.kind = 2
    ·by_cases y1 : y.n = 1
     ·cases b3
      ·replace hyes := hyes (by simp [y1, y2])
       replace y2 := eqp y2
       replace y1 := eqp y1
       clear hno
       simp [*, zb, zg, ze, za]
      ·replace hno := hno (by simp)
       replace y2 := eqp y2
       replace y1 := eqp y1
       clear hyes
       simp [*, zb, zg, ze, za]
       all_goals (try grind)
     ·replace hno := hno (by simp [y1])
      replace y2 := eqp y2
      replace y1 := eqn y1
      clear hyes
      simp [*, zb, zg, ze, za]
      all_goals (try grind)
    ·replace hno := hno (by simp [y2])
     replace y2 := eqn y2
     clear hyes
     simp [*, zb, zg, ze, za]
     all_goals (try grind)
   ·rw [if_neg k8, if_neg k4, if_neg k5] at hyes hno
    replace hno := hno rfl
    replace k8 := eqn k8
    replace k4 := eqn k4
    replace k5 := eqn k5
    clear hyes r1
    simp [*, zb, zg, ze]
    all_goals (try grind)
  ·intros s1 hp h1 h2 h3 h4
   simp at h1 h2 h3
   clear hR
   simp [*]
theorem rends_spec (l : List Stmt) (m : Int) (h : wtSs l < 1099508000000) (hR : zL l m = true) : zi E 31 [zg l] [] = some (.ret (.bool (zVb l)), []) := rends_spec' (wtSs l) l m (Nat.le_refl _) h hR
def cob (p : Prog) (f : Func) (n : Int) : Obj := .arr 7 [.agg [zva p.arrays, funcs p.funcs, .str f.name, .int .i64 f.type, parsV f.params, zg f.body, .int .i64 n]]
theorem rwant_spec {p : Prog} {g : Func} {s : List Vr} {e : Expr} {t m : Int} {σ : zf} {k : Nat} {n : Int} (hk : σ[k]? = some (cob p g n)) (hz : Fit p) (hs : s.length < 1099509000000) (hw : wtE e < 1099510000000) (hR : zdb e m = true) :
  zi E 87 [.ptr k 0 0, parsV (zia s), zo e, .int .i64 t] σ = some (.ret (.int .i64 (zsc p s e t)), σ) := by
 refine zc rfl rfl rfl (by simp [za, parsV]) ?_
 have h1 := rTypeOf_spec p s e m hz hw hs hR
 unfold zsc
 generalize zqb p s e = q at *
 obtain ⟨ty, f⟩ := q
 simp only
 clear hR hw hz hs
 rw [za] at h1
 simp [zd, ze, zVa, parsV] at h1
 unfold cob at hk
 by_cases hf : f = 0
 ·subst hf
  by_cases ht : ty = t
  ·replace ht := eqp ht
   simp [*, F87, za, ze, parsV]
  ·replace ht := eqn ht
   simp [*, F87, za, ze, parsV]
 ·replace hf := eqn hf
  simp [*, F87, za, ze, parsV]
theorem findV_append (a b : List Vr) (nm : List UInt8) : zta (a ++ b) nm = if zta a nm = [] then zta b nm else zta a nm ++ b := by
 induction a with
 | nil => simp [zta]
 | cons v r ih =>
  rw [List.cons_append, zRa, zRa, ih]
  by_cases h : v.name = nm <;> simp [h]
theorem findV_mem {s : List Vr} {nm : List UInt8} {v : Vr} {r : List Vr} (h : zta s nm = v :: r) : v ∈ s := by
 induction s with
 | nil => simp [zta] at h
 | cons x q ih =>
  rw [zRa] at h
  split at h
  ·cases h; simp
  ·simp [ih h]
structure Lay (s : List Vr) (d : Int) (q : Nat) where
 inner : List Vr
 outer : List Vr
 eq : s = inner ++ outer
 len : outer.length = q
 ins : ∀ v ∈ inner, v.depth = d
 outs : ∀ v ∈ outer, v.depth < d
theorem lay_let {s : List Vr} {d : Int} {q : Nat} (L : Lay s d q) (nm : List UInt8) : (match zta s nm with | [] => (0 : Int) | v :: _ => if v.depth < d then 0 else 50) = if zta L.inner nm = [] then 0 else 50 := by
 obtain ⟨inner, outer, rfl, len, ins, outs⟩ := L
 simp only
 rw [findV_append]
 by_cases h : zta inner nm = []
 ·rw [if_pos h, if_pos h]
  cases hb : zta outer nm with
  | nil => rfl
  | cons v r =>
   simp only
   rw [if_pos (outs v (findV_mem hb))]
 ·rw [if_neg h, if_neg h]
  cases hb : zta inner nm with
  | nil => exact absurd hb h
  | cons v r =>
   simp only [List.cons_append]
   rw [if_neg (by rw [ins v (findV_mem hb)]; omega)]
theorem lay_drop {s : List Vr} {d : Int} {q : Nat} (L : Lay s d q) : (zia s).drop q = zia L.inner := by
 obtain ⟨inner, outer, rfl, len, ins, outs⟩ := L
 simp only
 rw [varsOf_append, List.drop_append_of_le_length (by rw [zgb, len]; exact Nat.le_refl _), List.drop_of_length_le (by rw [zgb, len]; exact Nat.le_refl _), List.nil_append]
set_option maxRecDepth 20000 in
set_option maxHeartbeats 8000000 in
theorem rown_spec {p : Prog} {g : Func} {s : List Vr} {x : Stmt} {d m : Int} {loop : Bool} {σ : zf} {k q : Nat} {n : Int} (hk : σ[k]? = some (cob p g n)) (L : Lay s d q) (hz : Fit p) (hs : s.length < 1099509000000) (hw : wtS x < 1099509000000) (hR : znb x m = true) :
  zi E 64 [.ptr k 0 0, zE x, parsV (zia s), .int .i64 q, .bool loop] σ = some (.ret (.int .i64 (stmtT p g.type s x.kind x.type x.name x.args d loop)), σ) := by
 refine zc rfl rfl rfl (by simp [zb, parsV]) ?_
 obtain ⟨r1, r2, _, _⟩ := zHc hR
 rw [zOa] at hw
 have hwant : ∀ y ∈ x.args, ∀ t, zi E 87 [.ptr k 0 0, parsV (zia s), zo y, .int .i64 t] σ = some (.ret (.int .i64 (zsc p s y t)), σ) := by
  intro y hy t
  have := zSb hy
  exact rwant_spec hk hz hs (by omega) (r2 y hy)
 have hexp : ∀ y ∈ x.args, zi E 88 [zd p, parsV (zia s), zo y] [] = some (.ret (zVa (zqb p s y)), []) := by
  intro y hy
  have := zSb hy
  exact rTypeOf_spec p s y 100 hz (by omega) hs (r2 y hy)
 have hone : (x.kind = 1 \/ x.kind = 2 \/ x.kind = 4 \/ x.kind = 5 \/ x.kind = 8 \/ x.kind = 9 \/ x.kind = 10) -> ∃ y, x.args = [y] := by
  intro h
  have : x.args.length = 1 := by rcases h with h | h | h | h | h | h | h <;> (rw [h] at r1; simp [zP] at r1; omega)
  exact List.length_eq_one_iff.1 this
 have hkind : 1 <= x.kind /\ x.kind <= 10 := by
  by_cases h : 1 <= x.kind /\ x.kind <= 10
  ·exact h
  ·exfalso
   have : (zP x.kind).2.2.1 = -1 := by
    unfold zP
    repeat' (first | rw [if_neg (by omega)] | rfl)
   omega
 have hf := rfind_spec s x.name (by omega)
 have hil : L.inner.length < 1099511627776 := by
  have := congrArg List.length L.eq; rw [List.length_append] at this; omega
 have hql : q <= s.length := by
  have := congrArg List.length L.eq; rw [List.length_append, L.len] at this; omega
 have hfi := rfind_spec L.inner x.name hil
 have hdrop := lay_drop L
 have hlet := lay_let L x.name
 have hvl := zgb s
 have hh := rarray_spec p x.name (by have := hz.a; omega)
 have h3 : decide (0 <= zlb p x.name) = zPc p x.name := idx_ge (fun f : PArr => decide (f.name = x.name)) p.arrays
 have h3' : (zlb p x.name < 0) = (zPc p x.name = false) := by
  rw [<- h3, decide_eq_false_iff_not]; apply propext; omega
 have hlvl : ((zia s).map encPar).length = s.length := by simp [zia]
 clear r2 hR hw hz h3 hil
 unfold stmtT
 unfold cob at hk
 simp [zd] at hh
 have one : ∀ y, x.args = [y] -> x.args[0]? = some y /\ arg0 x.args = y := by
  intro y hy
  have hget : x.args[0]? = some y := by rw [hy]; rfl
  exact ⟨hget, by unfold arg0; rw [hget]; rfl⟩
 by_cases k1 : x.kind = 1
 ·obtain ⟨y, hy⟩ := hone (by simp [k1])
  obtain ⟨hget, ha0⟩ := one y hy
  have hw1 := hwant y (by rw [hy]; simp) x.type
  rw [if_neg (by omega), if_neg (by omega), if_neg (by omega), if_neg (by omega), if_neg (by omega)]
  have hb : boundT p s x.kind x.type x.name x.args d = if zsc p s (arg0 x.args) x.type ≠ 0 then zsc p s (arg0 x.args) x.type else if zta L.inner x.name = [] then 0 else 50 := by
   unfold boundT
   rw [if_pos k1]
   split
   ·rfl
   ·exact hlet
  rw [hb, ha0]
  rw [za] at hw1
  simp [ze, parsV] at hw1 hfi
  have hd2 : List.drop q ((zia s).map encPar) = (zia L.inner).map encPar := by rw [<- List.map_drop, hdrop]
  have htk : List.take s.length ((zia s).map encPar) = (zia s).map encPar := List.take_of_length_le (by rw [hlvl]; exact Nat.le_refl _)
  unfold parsV
  generalize (zia s).map encPar = vs at *
  replace k1 := eqp k1
  clear hy r1 ha0 hwant hexp hone hkind h3' hh one hf hlet hdrop hvl hb
  generalize zsc p s y x.type = f at *
  have q0 : (0 <= (q : Int)) := by omega
  by_cases hff : f = 0
  ·subst hff
   by_cases hin : zta L.inner x.name = []
   ·replace hin := eqp hin
    simp [*, F64, zb, ze, za, parsV]
   ·replace hin := eqn hin
    simp [*, F64, zb, ze, za, parsV]
  ·replace hff := eqn hff
   simp [*, F64, zb, ze, za, parsV]
 clear hfi hdrop hlet hql hvl hlvl
 by_cases k2 : x.kind = 2
 ·obtain ⟨y, hy⟩ := hone (by simp [k2])
  obtain ⟨hget, ha0⟩ := one y hy
  have hw1 := hwant y (by rw [hy]; simp)
  rw [if_neg (by omega), if_neg (by omega), if_neg (by omega), if_neg (by omega), if_neg (by omega)]
  unfold boundT
  rw [if_neg k1, if_pos k2, ha0]
  clear hy r1 ha0 hwant hexp hone hkind h3' hh one
  replace k1 := eqn k1
  replace k2 := eqp k2
  unfold typeV at hf
  generalize zta s x.name = vs at *
  cases vs with
  | nil =>
   clear hw1
   simp [parsV] at hf
   simp [*, F64, zb, ze, za, parsV]
  | cons v r =>
   have hw1 := hw1 v.type
   rw [za] at hw1
   simp [ze, parsV] at hw1 hf
   simp [*, F64, zb, ze, za, parsV]
 clear hf
 by_cases k3 : x.kind = 3
 ·have hl2 : x.args.length = 2 := by rw [k3] at r1; simp [zP] at r1; omega
  obtain ⟨y, z, hy⟩ : ∃ y z, x.args = [y, z] := by
   match h : x.args, hl2 with
   | [y, z], _ => exact ⟨y, z, rfl⟩
  have hget : x.args[0]? = some y := by rw [hy]; rfl
  have hget1 : x.args[1]? = some z := by rw [hy]; rfl
  have ha0 : arg0 x.args = y := by unfold arg0; rw [hget]; rfl
  have ha1 : arg1 x.args = z := by unfold arg1; rw [hget1]; rfl
  rw [if_neg (by omega), if_neg (by omega), if_neg (by omega), if_neg (by omega), if_neg (by omega)]
  unfold boundT
  rw [if_neg k1, if_neg k2, ha0, ha1]
  have hw1 := hwant y (by rw [hy]; simp) 1
  have hw2 := hwant z (by rw [hy]; simp) 1
  clear hy hl2 r1 ha0 ha1 hwant hexp hone hkind one
  replace k1 := eqn k1
  replace k2 := eqn k2
  replace k3 := eqp k3
  rw [za] at hw1 hw2
  simp [ze, parsV] at hw1 hw2
  generalize zPc p x.name = b at *
  cases b
  ·clear hw1 hw2
   simp at h3'
   replace h3' := eqp h3'
   simp [*, F64, zb, ze, za, parsV]
  ·simp at h3'
   replace h3' : (zlb p x.name < 0) = False := eqn (by omega)
   generalize zsc p s y 1 = f at *
   by_cases hff : f = 0
   ·subst hff
    simp [*, F64, zb, ze, za, parsV]
   ·replace hff := eqn hff
    simp [*, F64, zb, ze, za, parsV]
 clear hh h3'
 by_cases k45 : x.kind = 4 \/ x.kind = 5
 ·obtain ⟨y, hy⟩ := hone (by rcases k45 with h | h <;> simp [h])
  obtain ⟨hget, ha0⟩ := one y hy
  have hw1 := hwant y (by rw [hy]; simp) 2
  rw [if_pos k45, ha0]
  rw [za] at hw1
  simp [ze, parsV] at hw1
  clear hy r1 ha0 hwant hexp hone one
  have k5' : x.kind = 5 -> (x.kind = 4) = False := fun h => eqn (by omega)
  replace k1 := eqn k1
  replace k2 := eqn k2
  replace k3 := eqn k3
  clear hkind
  rcases k45 with k4 | k4
  ·replace k4 := eqp k4
   clear k5'
   simp [*, F64, zb, ze, za, parsV]
  ·replace k5' := k5' k4
   replace k4 := eqp k4
   simp [*, F64, zb, ze, za, parsV]
 rw [if_neg k45]
 have k4 : (x.kind = 4) = False := eqn fun h => k45 (Or.inl h)
 have k5 : (x.kind = 5) = False := eqn fun h => k45 (Or.inr h)
 replace k1 := eqn k1
 replace k2 := eqn k2
 replace k3 := eqn k3
 clear k45
 by_cases k8 : x.kind = 8
 ·obtain ⟨y, hy⟩ := hone (by simp [k8])
  obtain ⟨hget, ha0⟩ := one y hy
  have hw1 := hwant y (by rw [hy]; simp) g.type
  rw [if_pos k8, ha0]
  rw [za] at hw1
  simp [ze, parsV] at hw1
  clear hy r1 ha0 hwant hexp hone one hkind
  replace k8 := eqp k8
  simp [*, F64, zb, ze, za, parsV]
 by_cases k9 : x.kind = 9
 ·obtain ⟨y, hy⟩ := hone (by simp [k9])
  obtain ⟨hget, ha0⟩ := one y hy
  have hw1 := hwant y (by rw [hy]; simp) 1
  rw [if_neg k8, if_pos k9, ha0]
  rw [za] at hw1
  simp [ze, parsV] at hw1
  clear hy r1 ha0 hwant hexp hone one hkind
  replace k8 := eqn k8
  replace k9 := eqp k9
  simp [*, F64, zb, ze, za, parsV]
 by_cases k10 : x.kind = 10
 ·obtain ⟨y, hy⟩ := hone (by simp [k10])
  obtain ⟨hget, ha0⟩ := one y hy
  have hw1 := hexp y (by rw [hy]; simp)
  rw [if_neg k8, if_neg k9, if_pos k10, ha0]
  rw [za] at hw1
  simp [ze, parsV, zd, zVa] at hw1
  clear hy r1 ha0 hwant hexp hone one hkind
  replace k8 := eqn k8
  replace k9 := eqn k9
  replace k10 := eqp k10
  simp [*, F64, zb, ze, za, parsV]
 rw [if_neg k8, if_neg k9, if_neg k10, if_pos (by
  have := of_eq_false k1; have := of_eq_false k2; have := of_eq_false k3; have := of_eq_false k4; have := of_eq_false k5
  omega)]
 replace k8 := eqn k8
 replace k9 := eqn k9
 replace k10 := eqn k10
 clear r1 hwant hexp hone one hkind
 cases loop <;> simp [*, F64, zb, ze, za, parsV]
end PE.U

namespace PE.U
open Go PE
theorem blockGo_len (p : Prog) (res d : Int) (loop : Bool) : ∀ (l : List Stmt) (vs : List Vr) (n : Int), (zua p res d loop l vs n).1.length <= vs.length + l.length
 | [], vs, n => by simp [zua]
 | x :: r, vs, n => by
  have h2 := blockGo_len p res d loop r (zga d x vs) (zLb p res x vs d loop n).2
  have h1 : (zga d x vs).length <= vs.length + 1 := by unfold zga; split <;> simp
  simp only [zua, List.length_cons]; omega
theorem lay_behind {s : List Vr} {d : Int} {q : Nat} (L : Lay s d q) (x : Stmt) : Nonempty (Lay (zga d x s) d q) := by
 obtain ⟨inner, outer, rfl, len, ins, outs⟩ := L
 unfold zga
 split
 ·refine ⟨⟨⟨x.name, x.type, d⟩ :: inner, outer, rfl, len, ?_, outs⟩⟩
  intro v hv
  rcases List.mem_cons.1 hv with rfl | hv
  ·rfl
  ·exact ins v hv
 ·exact ⟨⟨inner, outer, rfl, len, ins, outs⟩⟩
theorem lay_under {s : List Vr} {d : Int} {q : Nat} (L : Lay s d q) : ∀ v ∈ s, v.depth < d + 1 := by
 obtain ⟨inner, outer, rfl, len, ins, outs⟩ := L
 intro v hv
 rcases List.mem_append.1 hv with h | h
 ·have := ins v h; omega
 ·have := outs v h; omega
set_option maxRecDepth 20000 in
set_option maxHeartbeats 16000000 in
theorem rblock_spec' : ∀ w (p : Prog) (g : Func) (l : List Stmt) (vs : List Vr) (d m n : Int) (loop : Bool) (σ : zf) (k : Nat), wtSs l <= w -> w < 1099508000000 -> Fit p -> zL l m = true -> 0 <= n -> n + wtSs l < 4000000000000 -> vs.length + wtSs l < 1099508500000 -> (∀ v ∈ vs, v.depth < d) -> σ[k]? = some (cob p g n) →
  zi E 30 [.ptr k 0 0, zg l, parsV (zia vs), .bool loop] σ = some (.ret (.int .i64 (zT p g.type l vs d loop n).1), σ.set k (cob p g (zT p g.type l vs d loop n).2)) := by
 intro w
 induction w with
 | zero =>
  intro p g l vs d m n loop σ k h hw hz hR hn0 hnw hvl hvd hk
  have hl : l = [] := by
   have := zha l
   exact List.eq_nil_of_length_eq_zero (by omega)
  subst hl
  have hset : σ.set k (cob p g n) = σ := by
   have hlt := (List.getElem?_eq_some_iff.1 hk)
   obtain ⟨h1, h2⟩ := hlt
   rw [<- h2, List.set_getElem_self]
  have hvl2 := zgb vs
  have hroom : vs.length * 24 <= zn := by simp only [zn]; omega
  refine zc rfl rfl rfl (by simp [zg, parsV]) ?_
  simp only [zT, hset]
  simp [F30, zg, parsV, hvl2, hroom]
  refine zz ([] : List Stmt) K30_0 B30_0 (fun d' => [(9, acc 2 ((zia vs).map encPar)), (10, .int .i64 d'.length)]) (fun _ => σ) (fun _ => True) (by simp) (by simp) ?_ ?_
  ·intros d' x r s1 hl' hlt
   simp at hlt
  ·intros s1 hp h1 h2 h3 h4
   simp at h1 h2 h3
   simp [*]
 | succ w ih =>
  intro p g l vs d m n loop σ k h hw hz hR hn0 hnw hvl hvd hk
  have hlen := zha l
  have hset : σ.set k (cob p g n) = σ := by
   have hlt := (List.getElem?_eq_some_iff.1 hk)
   obtain ⟨h1, h2⟩ := hlt
   rw [<- h2, List.set_getElem_self]
  have hklt : k < σ.length := (List.getElem?_eq_some_iff.1 hk).1
  have hvl2 := zgb vs
  have hroom : vs.length * 24 <= zn := by simp only [zn]; omega
  refine zc rfl rfl rfl (by simp [zg, parsV]) ?_
  simp [F30, zg, parsV, hvl2, hroom]
  refine zz l K30_0 B30_0 (fun q => [(9, acc 2 ((zia (zua p g.type d loop q vs n).1).map encPar)), (10, .int .i64 q.length)]) (fun q => σ.set k (cob p g (zua p g.type d loop q vs n).2)) (fun q => zKb p g.type d loop q vs n /\ Nonempty (Lay (zua p g.type d loop q vs n).1 d vs.length)) (by omega) ?_ ?_ ?_
  ·simp [zua, zKb, hset]
   exact ⟨⟨[], vs, rfl, rfl, by simp, hvd⟩⟩
  ·intros q x r s1 hl' hlt hget hget' hw1 hp h1 h2 h3 h4
   obtain ⟨hp, ⟨L⟩⟩ := hp
   have hT := blockT_go p g.type d loop (x :: r) q vs n hp
   rw [<- hl'.eq, zXb, zWd] at hT
   have hG := blockGo_snoc p g.type d loop x q vs n
   have hF := zJd p g.type d loop x q vs n hp
   rw [zWd] at hG hF
   have hxR : znb x m = true := by rw [stmtsR_all, List.all_eq_true] at hR; exact hR x hl'.mem
   have hwx := zLc hl'.mem
   rw [zOa] at hwx
   obtain ⟨r1, r2, r3, r4⟩ := zHc hxR
   have hgc := zpe p g.type d loop q vs n
   have hgl := blockGo_len p g.type d loop q vs n
   have hws : wtSs l = wtSs q + (1 + wtS x + wtSs r) := by rw [hl'.eq, zrc]; rfl
   rw [zOa] at hws
   have hlq := zha q
   generalize zua p g.type d loop q vs n = gg at *
   obtain ⟨v1, n1⟩ := gg
   simp only at hT hG hF h3 h4 hgc hgl L
   have hwn : zN .i64 (n1 + 1) = n1 + 1 := zj (by omega) (by omega)
   have hk1 : (σ.set k (cob p g n1))[k]? = some (cob p g n1) := by rw [List.getElem?_set_self hklt]
   have hst := rown_spec (x := x) (loop := loop) hk1 L hz (by omega) (by rw [zOa]; omega) hxR
   obtain ⟨L2⟩ := lay_behind L x
   have hun := lay_under L2
   have hbl : (zga d x v1).length <= v1.length + 1 := by unfold zga; split <;> simp
   have hvv := zgb v1
   have hi1 := ih p g x.thn (zga d x v1) (d + 1) (m - 1) (n1 + 1) (loop || decide (x.kind = 5)) (σ.set k (cob p g (n1 + 1))) k (by omega) (by omega) hz r3 (by omega) (by omega) (by omega) hun (by rw [List.getElem?_set_self hklt])
   rw [List.set_set] at hi1
   have hc1 := zKc p g.type x.thn (zga d x v1) (d + 1) (loop || decide (x.kind = 5)) (n1 + 1)
   generalize hT1 : zT p g.type x.thn (zga d x v1) (d + 1) (loop || decide (x.kind = 5)) (n1 + 1) = t1 at *
   obtain ⟨f1, n2⟩ := t1
   simp only at hc1
   have hi2 := ih p g x.els (zga d x v1) (d + 1) (m - 1) n2 loop (σ.set k (cob p g n2)) k (by omega) (by omega) hz r4 (by omega) (by omega) (by omega) hun (by rw [List.getElem?_set_self hklt])
   rw [List.set_set] at hi2
   simp only at hT hG hF hi1
   generalize hT2 : zT p g.type x.els (zga d x v1) (d + 1) loop n2 = t2 at *
   obtain ⟨f2, n3⟩ := t2
   simp only at hT hG hF hi2
   generalize stmtT p g.type v1 x.kind x.type x.name x.args d loop = f0 at *
   have hb : zga d x v1 = if x.kind = 1 then ⟨x.name, x.type, d⟩ :: v1 else v1 := rfl
   have hroom1 : (v1.length + 1) * 24 <= zn := by simp only [zn]; omega
   have hL3 : Nonempty (Lay (zga d x v1) d vs.length) := ⟨L2⟩
   clear ih hT1 hT2 r1 r2 r3 r4 hws hgc hc1 hnw hn0 hwx hxR hl' hR h hlen hset L L2 hun hlq hbl hgl hroom hvd hvl
   rw [zb] at hst
   simp [ze, zg, parsV] at hst hi1 hi2
   simp [ze, zg] at h1 h2 h3 h4
   unfold cob at *
   simp only [zg, parsV] at hst hi1 hi2 h4 hk ⊢
   by_cases hf0 : f0 = 0
   case neg =>
    simp [hf0] at hT
    rw [hT]
    clear hT hG hF hi1 hi2 hb hp hL3
    replace hf0 := eqn hf0
    simp [*, zb, ze, zg, parsV]
   subst hf0
   by_cases hk1 : x.kind = 1
   ·have hk5 : ¬ x.kind = 5 := by omega
    rw [if_pos hk1] at hb
    replace hk1 := eqp hk1
    replace hk5 := eqn hk5
    rw [hb] at hi1 hi2 hG hL3
    clear hb
    rw [zXc] at hi1 hi2
    simp only [parOf, hk5, decide_false, Bool.or_false, List.map_append, List.map_cons, List.map_nil, encPar] at hi1 hi2
    by_cases hf1 : f1 = 0
    case neg =>
     simp [hf1] at hT
     rw [hT]
     clear hT hG hF hi2 hp hL3
     replace hf1 := eqn hf1
     cases loop <;> simp [*, zb, ze, zg, parsV]
    subst hf1
    by_cases hf2 : f2 = 0
    case neg =>
     simp [hf2] at hT
     rw [hT]
     clear hT hG hF hp hL3
     replace hf2 := eqn hf2
     cases loop <;> simp [*, zb, ze, zg, parsV]
    subst hf2
    simp at hG hF
    clear hT hp
    have hv2 : (zia (⟨x.name, x.type, d⟩ :: v1)).map encPar = (zia v1).map encPar ++ [.agg [.str x.name, .int .i64 x.type]] := by rw [zXc]; simp [parOf, encPar]
    cases loop <;> simp [*, zb, ze, zg, parsV]
   ·rw [if_neg hk1] at hb
    replace hk1 := eqn hk1
    rw [hb] at hi1 hi2 hG hL3
    clear hb
    by_cases hf1 : f1 = 0
    case neg =>
     simp [hf1] at hT
     rw [hT]
     clear hT hG hF hi2 hp hL3
     replace hf1 := eqn hf1
     cases loop <;> simp at hi1 <;> simp [*, zb, ze, zg, parsV]
    subst hf1
    by_cases hf2 : f2 = 0
    case neg =>
     simp [hf2] at hT
     rw [hT]
     clear hT hG hF hp hL3
     replace hf2 := eqn hf2
     cases loop <;> simp at hi1 <;> simp [*, zb, ze, zg, parsV]
    subst hf2
    simp at hG hF
    clear hT hp
    cases loop <;> simp at hi1 <;> simp [*, zb, ze, zg, parsV]
  ·intros s1 hp h1 h2 h3 h4
   obtain ⟨hp, _⟩ := hp
   have hT := blockT_go p g.type d loop [] l vs n hp
   rw [List.append_nil, zT] at hT
   rw [hT]
   simp at h1 h2 h3 h4
   clear hT hp hR ih
   simp [*]
end PE.U

namespace PE.U
open Go PE
abbrev Cnt := List (List UInt8 × Int)
def znd (l : Cnt) : List (PV × PV) := l.map fun x => (.str x.1, .int .i64 x.2)
def getC (nm : List UInt8) : Cnt -> Int
 | [] => 0
 | x :: r => if nm = x.1 then x.2 else getC nm r
def hasC (nm : List UInt8) (l : Cnt) : Bool := l.any fun x => decide (nm = x.1)
def setC (nm : List UInt8) (v : Int) : Cnt -> Cnt
 | [] => [(nm, v)]
 | x :: r => if nm = x.1 then (nm, v) :: r else x :: setC nm v r
theorem find_cnt (nm : List UInt8) (l : Cnt) : zda true (.str nm) (znd l) = some (if hasC nm l then some (.int .i64 (getC nm l)) else none) := by
 induction l with
 | nil => simp [znd, hasC]
 | cons x r ih =>
  have ih' : zda true (.str nm) (r.map fun x => (PV.str x.1, PV.int .i64 x.2)) = _ := ih
  simp only [znd, List.map_cons, zda, zqd, if_true]
  by_cases h : nm = x.1
  ·simp [h, hasC, getC]
  ·have hd : decide (nm = x.1) = false := decide_eq_false h
   simp only [decide_eq_false h, ih', getC, if_neg h, hasC, List.any_cons, Bool.false_or]
   rfl
theorem set_cnt (nm : List UInt8) (v : Int) (l : Cnt) : zpc true (.str nm) (.int .i64 v) (znd l) = some (znd (setC nm v l)) := by
 induction l with
 | nil => simp [znd, setC]
 | cons x r ih =>
  have ih' : zpc true (.str nm) (.int .i64 v) (r.map fun x => (PV.str x.1, PV.int .i64 x.2)) = _ := ih
  simp only [znd, List.map_cons, zpc, zqd, if_true]
  by_cases h : nm = x.1
  ·simp [h, setC]
  ·simp [h, ih', setC, znd]
noncomputable def bump (l : Cnt) (nm : List UInt8) : Cnt := setC nm (zN .i64 (getC nm l + 1)) l
noncomputable def zW (l : Cnt) (d : List (List UInt8)) : Cnt := d.foldl bump l
theorem zne (l : Cnt) (d : List (List UInt8)) (x : List UInt8) : zW l (d ++ [x]) = bump (zW l d) x := by simp [zW]
theorem getC_none {nm : List UInt8} {l : Cnt} (h : hasC nm l = false) : getC nm l = 0 := by
 induction l with
 | nil => rfl
 | cons x r ih =>
  simp [hasC] at h ih
  rw [getC, if_neg h.1]
  exact ih (by simpa [hasC] using h.2)
theorem setC_keys (nm : List UInt8) (v : Int) (l : Cnt) : (setC nm v l).length = (if hasC nm l then l.length else l.length + 1) /\ ∀ y, hasC y (setC nm v l) = (decide (y = nm) || hasC y l) := by
 induction l with
 | nil => simp [setC, hasC]
 | cons x r ih =>
  obtain ⟨i1, i2⟩ := ih
  unfold setC
  by_cases h : nm = x.1
  ·rw [if_pos h]
   subst h
   refine ⟨by simp [hasC], fun y => ?_⟩
   simp [hasC]
  ·rw [if_neg h]
   refine ⟨?_, fun y => ?_⟩
   ·have : hasC nm (x :: r) = hasC nm r := by simp [hasC, h]
    rw [List.length_cons, i1, this]
    split <;> simp
   ·have e1 : hasC y (x :: setC nm v r) = (decide (y = x.1) || hasC y (setC nm v r)) := by simp [hasC]
    have e2 : hasC y (x :: r) = (decide (y = x.1) || hasC y r) := by simp [hasC]
    rw [e1, e2, i2]
    cases decide (y = x.1) <;> simp
theorem counts_len (d : List (List UInt8)) : (zW [] d).length <= d.length /\ ((zW [] d).length = d.length <-> d.Nodup) /\ ∀ y, hasC y (zW [] d) = decide (y ∈ d) := by
 suffices h : ∀ d : List (List UInt8), (zW [] d.reverse).length <= d.length /\ ((zW [] d.reverse).length = d.length <-> d.Nodup) /\ ∀ y, hasC y (zW [] d.reverse) = decide (y ∈ d) by
  have := h d.reverse
  rw [(List.reverse_perm d).nodup_iff] at this
  simpa using this
 intro d
 induction d with
 | nil => simp [zW, hasC]
 | cons x r ih =>
  obtain ⟨i1, i2, i3⟩ := ih
  rw [List.reverse_cons, zne]
  unfold bump
  obtain ⟨k1, k2⟩ := setC_keys x (zN .i64 (getC x (zW [] r.reverse) + 1)) (zW [] r.reverse)
  rw [i3] at k1
  refine ⟨?_, ?_, ?_⟩
  ·rw [k1]; split <;> simp <;> omega
  ·rw [k1, List.nodup_cons]
   by_cases hx : x ∈ r
   ·simp [hx]; omega
   ·simp [hx]; exact i2
  ·intro y
   rw [k2, i3]
   simp
theorem mapLen (l : Cnt) : (znd l).length = l.length := by simp [znd]
def twiceM (l : List Par) : Bool := !decide ((l.map (·.name)).Nodup)
set_option maxHeartbeats 1000000 in
theorem twice_spec (l : List Par) (hl : l.length < 1099511000000) : zi E 49 [parsV l] [] = some (.ret (.bool (twiceM l)), []) := by
 refine zc rfl rfl rfl (by simp [parsV]) ?_
 simp [F49, parsV]
 refine zz l K49_0 B49_0 (fun d => [(9, .int .i64 d.length)]) (fun d => [.mp (znd (zW [] (d.map (·.name))))]) (fun _ => True) (by omega) (by simp [zW, znd]) ?_ ?_
 ·intros d x r s1 hl' hlt hget hget' hw1 hp h1 h2 h3 h4
  simp at h1 h2 h3 h4
  have f1 := find_cnt x.name (zW [] (d.map (·.name)))
  have s1' := set_cnt x.name (zN .i64 (getC x.name (zW [] (d.map (·.name))) + 1)) (zW [] (d.map (·.name)))
  have e1 : zW [] ((d ++ [x]).map (·.name)) = setC x.name (zN .i64 (getC x.name (zW [] (d.map (·.name))) + 1)) (zW [] (d.map (·.name))) := by rw [List.map_append, List.map_cons, List.map_nil, zne]; rfl
  have e2 := getC_none (nm := x.name) (l := zW [] (d.map (·.name)))
  generalize zW [] (d.map (·.name)) = c at *
  clear hl'
  cases hh : hasC x.name c
  ·rw [hh] at f1
   have e2 := e2 hh
   rw [e2] at s1' e1
   simp at f1 s1' e1
   simp [*, encPar]
  ·rw [hh] at f1
   clear e2
   simp at f1 s1' e1
   simp [*, encPar]
 ·intros s1 hp h1 h2 h3 h4
  simp at h1 h2 h3 h4
  obtain ⟨c1, c2, c3⟩ := counts_len (l.map (·.name))
  have hlen := mapLen (zW [] (l.map (·.name)))
  simp only [List.length_map] at c1 c2
  generalize zW [] (l.map (·.name)) = c at *
  have hR : twiceM l = decide ((c.length : Int) < l.length) := by
   unfold twiceM
   rw [<- decide_not, decide_eq_decide, <- c2]; omega
  clear c1 c2 c3 hp
  simp [*]
def zPd : List UInt8 := [109, 97, 105, 110]
def zmc (p : Prog) : Bool := decide ((p.arrays.map (·.name) ++ p.funcs.map (·.name)).Nodup) && (match zIb p zPd with
 | some f => decide (f.type = 1) && decide (f.params = [])
 | none => false)
set_option maxHeartbeats 4000000 in
theorem tnamed_spec (p : Prog) (hz : Fit p) : zi E 48 [zd p] [] = some (.ret (.bool (zmc p)), []) := by
 have ha := hz.a
 have hf := hz.f
 have hpl := place_spec p zPd [] (by omega)
 have hsum : zN .i64 ((p.arrays.length : Int) + p.funcs.length) = (p.arrays.length : Int) + p.funcs.length := zj (by omega) (by omega)
 refine zc rfl rfl rfl (by simp [zd]) ?_
 simp [F48, zd, zva, funcs]
 refine zz p.arrays K48_0 B48_0 (fun d => [(13, .int .i64 d.length)]) (fun d => [.mp (znd (zW [] (d.map (·.name))))]) (fun _ => True) (by omega) (by simp [zW, znd]) ?_ ?_
 ·intros d x r s1 hl' hlt hget hget' hw1 hp h1 h2 h3 h4
  simp at h1 h2 h3 h4
  have f1 := find_cnt x.name (zW [] (d.map (·.name)))
  have s1' := set_cnt x.name (zN .i64 (getC x.name (zW [] (d.map (·.name))) + 1)) (zW [] (d.map (·.name)))
  have e1 : zW [] ((d ++ [x]).map (·.name)) = setC x.name (zN .i64 (getC x.name (zW [] (d.map (·.name))) + 1)) (zW [] (d.map (·.name))) := by rw [List.map_append, List.map_cons, List.map_nil, zne]; rfl
  have e2 := getC_none (nm := x.name) (l := zW [] (d.map (·.name)))
  generalize zW [] (d.map (·.name)) = c at *
  clear hl' hpl hsum ha hf
  cases hh : hasC x.name c
  ·rw [hh] at f1
   have e2 := e2 hh
   rw [e2] at s1' e1
   simp at f1 s1' e1
   simp [*, zK]
  ·rw [hh] at f1
   clear e2
   simp at f1 s1' e1
   simp [*, zK]
 intros s1 hp h1 h2 h3 h4
 simp at h1 h2 h3 h4
 clear hp
 simp [*]
 refine zz p.funcs K48_1 B48_1 (fun d => [(26, .int .i64 d.length)]) (fun d => [.mp (znd (zW [] (p.arrays.map (·.name) ++ d.map (·.name))))]) (fun _ => True) (by omega) ?_ ?_ ?_
 ·simp [*]
 ·intros d x r s2 hl' hlt hget hget' hw1 hp g1 g2 g3 g4
  simp at g1 g2 g3 g4
  have f1 := find_cnt x.name (zW [] (p.arrays.map (·.name) ++ d.map (·.name)))
  have s1' := set_cnt x.name (zN .i64 (getC x.name (zW [] (p.arrays.map (·.name) ++ d.map (·.name))) + 1)) (zW [] (p.arrays.map (·.name) ++ d.map (·.name)))
  have e1 : zW [] (p.arrays.map (·.name) ++ (d ++ [x]).map (·.name)) = setC x.name (zN .i64 (getC x.name (zW [] (p.arrays.map (·.name) ++ d.map (·.name))) + 1)) (zW [] (p.arrays.map (·.name) ++ d.map (·.name))) := by rw [List.map_append, List.map_cons, List.map_nil, <- List.append_assoc, zne]; rfl
  have e2 := getC_none (nm := x.name) (l := zW [] (p.arrays.map (·.name) ++ d.map (·.name)))
  generalize zW [] (p.arrays.map (·.name) ++ d.map (·.name)) = c at *
  clear hl' hpl hsum ha hf h1 h2 h4
  cases hh : hasC x.name c
  ·rw [hh] at f1
   have e2 := e2 hh
   rw [e2] at s1' e1
   simp at f1 s1' e1
   simp [*, zm]
  ·rw [hh] at f1
   clear e2
   simp at f1 s1' e1
   simp [*, zm]
 ·intros s2 hp g1 g2 g3 g4
  simp at g1 g2 g3 g4
  obtain ⟨c1, c2, c3⟩ := counts_len (p.arrays.map (·.name) ++ p.funcs.map (·.name))
  have hlen := mapLen (zW [] (p.arrays.map (·.name) ++ p.funcs.map (·.name)))
  simp only [List.length_map, List.length_append] at c1 c2
  unfold zmc
  have hR : decide ((p.arrays.map (·.name) ++ p.funcs.map (·.name)).Nodup) = decide (((zW [] (p.arrays.map (·.name) ++ p.funcs.map (·.name))).length : Int) = (p.arrays.length : Int) + p.funcs.length) := by
   rw [decide_eq_decide, <- c2]; omega
  rw [hR]
  generalize zW [] (p.arrays.map (·.name) ++ p.funcs.map (·.name)) = c at *
  clear c1 c2 c3 hp h1 h2 h4 hR
  simp [zd, zPd, zva, funcs] at hpl
  rcases zid (fun f : Func => decide (f.name = zPd)) p.funcs with ⟨a1, a2⟩ | ⟨n, f, a1, a2, a3, a4, a5⟩
  ·have a1 : zwa p zPd = -1 := a1
   have a2 : zIb p zPd = none := a2
   simp [zPd] at a1
   rw [a1] at hpl
   rw [a2]
   clear ha hf a2 a1
   by_cases hq : (c.length : Int) = (p.arrays.length : Int) + p.funcs.length
   ·replace hq := eqp hq
    simp [*]
   ·replace hq := eqn hq
    simp [*]
  ·have a1 : zwa p zPd = n := a1
   have a3 : zIb p zPd = some f := a3
   simp [zPd] at a1
   rw [a1] at hpl
   rw [a3]
   clear ha hf a3 a4 a5 a1
   by_cases hq : (c.length : Int) = (p.arrays.length : Int) + p.funcs.length
   ·replace hq := eqp hq
    by_cases ht : f.type = 1
    ·replace ht := eqp ht
     simp [*, zm, parsV]
    ·replace ht := eqn ht
     simp [*, zm, parsV]
   ·replace hq := eqn hq
    simp [*]
end PE.U

namespace PE.U
open Go PE
def zUa (p : Prog) (f : Func) : Int × Int :=
 if twiceM f.params then (50, 0)
 else
  let q := zT p f.type f.body (zS f.params) 1 false 0
  (if q.1 = 0 /\ zVb f.body = false then 52 else q.1, q.2)
def zWb (p : Prog) : List Func -> Int -> Int × Int × Int
 | [], _ => (0, 0, 0)
 | f :: r, i => if (zUa p f).1 ≠ 0 then ((zUa p f).1, i, (zUa p f).2) else zWb p r (i + 1)
def zdc (p : Prog) : Int × Int × Int := if zzb p then if zmc p then zWb p p.funcs 0 else (50, 0, 0) else (1, 0, 0)
def zra (r : Int × Int × Int) : PV := .tup [.int .i64 r.1, .agg [.int .i64 r.2.1, .int .i64 r.2.2]]
theorem zpd (p : Prog) (r : List Func) : ∀ (d : List Func) (i : Int), (∀ f ∈ d, (zUa p f).1 = 0) -> zWb p (d ++ r) i = zWb p r (i + d.length)
 | [], i, _ => by simp
 | f :: d, i, h => by
  have h1 := h f (by simp)
  rw [List.cons_append, zWb, if_neg (by rw [h1]; simp), zpd p r d (i + 1) (fun g hg => h g (by simp [hg]))]
  rw [List.length_cons]
  congr 1; omega
theorem PSz.fit {p : Prog} (h : PSz p) : Fit p := ⟨h.1, h.2.1, fun f hf => (h.2.2 f hf).2⟩
set_option maxRecDepth 20000 in
set_option maxHeartbeats 8000000 in
theorem check_spec (p : Prog) (hz : PSz p) : zi E 19 [zd p] [] = some (.ret (zra (zdc p)), []) := by
 have hfit := hz.fit
 obtain ⟨z1, z2, z3⟩ := hz
 have hr := tright_spec p ⟨z1, z2, z3⟩
 have hn := tnamed_spec p hfit
 refine zc rfl rfl rfl (by simp [zd]) ?_
 unfold zdc
 cases hR : zzb p
 ·rw [hR] at hr
  clear hn hfit z3
  simp [zd] at hr
  simp [*, F19, zd, zra]
 cases hN : zmc p
 ·rw [hR] at hr
  rw [hN] at hn
  clear hfit z3
  simp [zd] at hr hn
  simp [*, F19, zd, zra]
 rw [hR] at hr
 rw [hN] at hn
 simp [zd, funcs] at hr hn
 simp [hr, hn, F19, zd, funcs]
 refine zfc p.funcs K19_0 B19_0 (fun d => [(21, .int .i64 d.length)]) (fun d => [(3, .cells [.int .i64 0, .int .i64 0])]) (fun d => d.map fun f => fob p f.type (zUa p f).2) (fun d => ∀ f ∈ d, (zUa p f).1 = 0) (by omega) (by simp) ?_ ?_
 ·intros d x r s1 hl' hlt hget hget' hw1 hp h1 h2 h3 h5 h4
  have hC := zpd p (x :: r) d 0 hp
  rw [<- hl'.eq, zWb, Int.zero_add] at hC
  obtain ⟨y1, y2⟩ := z3 x hl'.mem
  have hbR : zL x.body 100 = true := by
   unfold zzb at hR
   rw [Bool.and_eq_true, List.all_eq_true, List.all_eq_true] at hR
   have := hR.2 x hl'.mem
   unfold zkd at this
   simp only [Bool.and_eq_true] at this
   exact this.2.2.2.1
  have e1 := twice_spec x.params (by omega)
  have e2 := scoped_spec x.params [] (by omega)
  have e3 := ends_spec x.body 100 y1 hbR
  have hlen : (d.map fun f => fob p f.type (zUa p f).2).length = d.length := by simp
  have e4 := block_spec' (wtSs x.body) p x.type x.body (zS x.params) 1 100 0 false ((d.map fun f => fob p f.type (zUa p f).2) ++ [fob p x.type 0]) d.length (Nat.le_refl _) y1 hfit hbR (by omega) (by omega) (by omega) (by omega) (by omega) (by rw [List.getElem?_append_right (by omega), hlen]; simp)
  have hnx : (zUa p x).1 = 0 -> ∀ f ∈ d ++ [x], (zUa p f).1 = 0 := by
   intro h f hf
   rcases List.mem_append.1 hf with hf | hf
   ·exact hp f hf
   ·rw [List.mem_singleton.1 hf]; exact h
  have hset : ∀ v, ((d.map fun f => fob p f.type (zUa p f).2) ++ [fob p x.type 0]).set d.length v = (d.map fun f => fob p f.type (zUa p f).2) ++ [v] := by
   intro v
   rw [List.set_append_right _ _ (by omega), hlen]; simp
  have hmap : (d ++ [x]).map (fun f => fob p f.type (zUa p f).2) = (d.map fun f => fob p f.type (zUa p f).2) ++ [fob p x.type (zUa p x).2] := by simp
  rw [hset] at e4
  have h1x : zUa p x = if twiceM x.params then (50, 0) else (if (zT p x.type x.body (zS x.params) 1 false 0).1 = 0 /\ zVb x.body = false then 52 else (zT p x.type x.body (zS x.params) 1 false 0).1, (zT p x.type x.body (zS x.params) 1 false 0).2) := rfl
  generalize hfx : zUa p x = fx at *
  generalize zT p x.type x.body (zS x.params) 1 false 0 = q at *
  generalize twiceM x.params = tw at *
  generalize zVb x.body = en at *
  obtain ⟨f, n⟩ := q
  obtain ⟨fe, fn⟩ := fx
  simp only at e4 hC hnx hmap h1x
  generalize hσ : (d.map fun f => fob p f.type (zUa p f).2) = σ at *
  have hget0 : (σ ++ [fob p x.type n])[d.length]? = some (fob p x.type n) := by rw [List.getElem?_append_right (by omega), hlen]; simp
  simp at h1 h2 h3 h4 h5
  simp [parsV] at e1 e2
  simp [zg] at e3 e4
  clear hl' hR hN hset hbR y1 y2 z1 z2 z3 hfit hp
  unfold fob at *
  simp only [funcs] at e4 hget0 hmap
  cases tw
  case true =>
   simp at h1x
   obtain ⟨rfl, rfl⟩ := h1x
   simp at hC
   clear e2 e3 e4 hnx hmap hget0 hlen hfx
   simp [*, zm, parsV, zg, zra]
  simp at h1x
  obtain ⟨ha, rfl⟩ := h1x
  by_cases hf : f = 0
  ·subst hf
   cases en
   ·simp at ha
    subst ha
    simp at hC
    clear hnx hmap hfx
    simp [*, zm, parsV, zg, zra]
   ·simp at ha
    subst ha
    replace hnx := hnx rfl
    have keep : fn = (zUa p x).2 /\ ∀ g, g ∈ d \/ g = x -> (zUa p g).1 = 0 := ⟨by rw [hfx], fun g hg => hnx g (by simpa using hg)⟩
    clear hC hnx hfx hmap
    simp [*, -keep, zm, parsV, zg, zra]
    exact ⟨⟨rfl, keep.1⟩, keep.2⟩
  ·simp [hf] at ha
   subst ha
   simp [hf] at hC
   replace hf := eqn hf
   clear hnx hmap hfx
   simp [*, zm, parsV, zg, zra]
 ·intros s1 hp h1 h2 h3 h5 h4
  have hC := zpd p [] p.funcs 0 hp
  rw [List.append_nil, zWb] at hC
  rw [hC]
  simp at h1 h2 h3 h4 h5
  clear hp hC z3
  simp [*, zra]
end PE.U

namespace PE.U
open Go PE
theorem nodup_idx {α : Type} (f : α -> List UInt8) (l : List α) : (l.map f).Nodup <-> ∀ d x r, l = d ++ x :: r -> idx (fun y => decide (f y = f x)) l = d.length := by
 constructor
 ·intro h d x r e
  subst e
  refine idx_hit (x := x) (r := r) rfl ?_ (by simp)
  intro y hy
  rw [List.map_append, List.nodup_append] at h
  exact decide_eq_false (h.2.2 _ (List.mem_map_of_mem hy) _ (by simp))
 ·intro h
  have : ∀ d r, l = d ++ r -> (d.map f).Nodup := by
   intro d
   suffices hs : ∀ d : List α, ∀ r, l = d.reverse ++ r -> (d.reverse.map f).Nodup by
    intro r e
    have := hs d.reverse r (by simpa using e)
    simpa using this
   intro d
   induction d with
   | nil => intro r _; simp
   | cons x d ih =>
    intro r e
    rw [List.reverse_cons, List.append_assoc] at e
    have h1 := ih _ e
    have h2 := h d.reverse x r (by simpa using e)
    rw [List.reverse_cons, List.map_append, List.nodup_append]
    refine ⟨h1, by simp, ?_⟩
    intro a ha b hb hab
    simp only [List.map_cons, List.map_nil, List.mem_singleton] at hb
    subst hb
    rw [List.mem_map] at ha
    obtain ⟨y, hy, rfl⟩ := ha
    -- y stands ahead of x, with its name
    obtain ⟨s, t, hst⟩ := List.append_of_mem hy
    have h3 : idx (fun y => decide (f y = f x)) l <= s.length := by
     rw [e, hst]
     clear h2 h1 ih e h
     have : ∀ s : List α, idx (fun y => decide (f y = f x)) ((s ++ y :: t) ++ ([x] ++ r)) <= s.length := by
      intro s
      unfold idx
      have hf : (((s ++ y :: t) ++ ([x] ++ r)).findIdx? fun y => decide (f y = f x)).isSome = true := by
       rw [List.findIdx?_isSome, List.any_eq_true]
       exact ⟨y, by simp, by simp [hab]⟩
      cases hfi : ((s ++ y :: t) ++ ([x] ++ r)).findIdx? fun y => decide (f y = f x) with
      | none => simp
      | some i =>
       simp only
       have hle : i <= s.length := by
        rcases Nat.lt_or_ge s.length i with hlt | hge
        ·rw [List.findIdx?_eq_some_iff_getElem] at hfi
         obtain ⟨_, _, h3⟩ := hfi
         have := h3 s.length hlt
         simp [hab] at this
        ·exact hge
       omega
     exact this s
    rw [h2, hst] at h3
    simp at h3
    omega
  have := this l [] (by simp)
  exact this
theorem idx_neg {α : Type} (p : α -> Bool) (l : List α) : idx p l < 0 <-> ∀ y ∈ l, p y = false := by
 rcases zid p l with ⟨a1, a2⟩ | ⟨n, f, a1, a2, a3, a4, a5⟩
 ·rw [a1]
  simp only [List.find?_eq_none] at a2
  constructor
  ·intro _ y hy; simpa using a2 y hy
  ·intro _; omega
 ·rw [a1]
  constructor
  ·intro h; omega
  ·intro h
   have := h f (List.mem_of_getElem? a2)
   rw [a5] at this; exact absurd this (by decide)
set_option maxHeartbeats 4000000 in
theorem globals_spec (p : Prog) (hz : Fit p) : zi E 28 [zd p] [] = some (.ret (.bool (zmc p)), []) := by
 have ha := hz.a
 have hf := hz.f
 have hpl := zde p zPd (by omega)
 have hcond : decide ((p.arrays.map (·.name) ++ p.funcs.map (·.name)).Nodup) = true <-> (∀ d x r, p.arrays = d ++ x :: r -> zlb p x.name = d.length /\ zwa p x.name < 0) /\ (∀ d x r, p.funcs = d ++ x :: r -> zwa p x.name = d.length) := by
  rw [decide_eq_true_eq, List.nodup_append, nodup_idx (fun a : PArr => a.name), nodup_idx (fun a : Func => a.name)]
  constructor
  ·rintro ⟨h1, h2, h3⟩
   refine ⟨fun d x r e => ⟨h1 d x r e, ?_⟩, h2⟩
   rw [zwa, idx_neg]
   intro y hy
   have := h3 x.name (List.mem_map_of_mem (by rw [e]; simp)) y.name (List.mem_map_of_mem hy)
   exact decide_eq_false fun h => this h.symm
  ·rintro ⟨h1, h2⟩
   refine ⟨fun d x r e => (h1 d x r e).1, h2, ?_⟩
   intro a ha b hb hab
   rw [List.mem_map] at ha hb
   obtain ⟨x, hx, rfl⟩ := ha
   obtain ⟨y, hy, rfl⟩ := hb
   obtain ⟨s, t, hst⟩ := List.append_of_mem hx
   have := (h1 s x t hst).2
   rw [zwa, idx_neg] at this
   have := this y hy
   simp only [decide_eq_false_iff_not] at this
   exact this hab.symm
 refine zc rfl rfl rfl (by simp [zd]) ?_
 have hno : ¬ ((∀ d x r, p.arrays = d ++ x :: r -> zlb p x.name = d.length /\ zwa p x.name < 0) /\ (∀ d x r, p.funcs = d ++ x :: r -> zwa p x.name = d.length)) -> zmc p = false := by
  intro h
  rw [<- hcond] at h
  rw [Bool.not_eq_true] at h
  unfold zmc
  rw [h]; rfl
 simp [F28, zd, zva, funcs]
 refine zz p.arrays K28_0 B28_0 (fun d => [(3, .int .i64 d.length)]) (fun _ => []) (fun d => ∀ e x r, d = e ++ x :: r -> zlb p x.name = e.length /\ zwa p x.name < 0) (by omega) (by simp) ?_ ?_
 ·intros d x r s1 hl' hlt hget hget' hw1 hp h1 h2 h3 h4
  simp at h1 h2 h3 h4
  have e1 := rarray_spec p x.name (by omega)
  have e2 := zde p x.name (by omega)
  simp [zd, zva, funcs] at e1 e2
  have hbad : ¬ (zlb p x.name = d.length /\ zwa p x.name < 0) -> zmc p = false := fun h => hno fun hh => h (hh.1 d x r hl'.eq)
  have hgood : zlb p x.name = d.length -> zwa p x.name < 0 -> ∀ e y q, d ++ [x] = e ++ y :: q -> zlb p y.name = e.length /\ zwa p y.name < 0 := by
   intro g1 g2 e y q hh
   rcases List.append_eq_append_iff.1 hh with ⟨a, ha1, ha2⟩ | ⟨a, ha1, ha2⟩
   ·cases a with
    | nil => simp at ha1 ha2; obtain ⟨rfl, rfl⟩ := ha2; subst ha1; exact ⟨g1, g2⟩
    | cons z a => simp at ha2
   ·cases a with
    | nil => simp at ha1 ha2; obtain ⟨rfl, rfl⟩ := ha2; subst ha1; exact ⟨g1, g2⟩
    | cons z a =>
     simp at ha2
     obtain ⟨rfl, _⟩ := ha2
     exact hp e y a ha1
  generalize zmc p = R at *
  clear hno hcond hl' hp hpl
  by_cases c1 : zlb p x.name = d.length
  ·by_cases c2 : zwa p x.name < 0
   ·replace hgood := hgood c1 c2
    have c2' : (0 <= zwa p x.name) = False := eqn (by omega)
    replace c1 := eqp c1
    clear hbad c2
    simp [*, -hgood, zK]
    exact hgood
   ·have hR := hbad (fun h => c2 h.2)
    have c2' : (0 <= zwa p x.name) = True := eqp (by omega)
    subst hR
    replace c1 := eqp c1
    clear hbad c2 hgood
    simp [*, zK]
  ·have hR := hbad (fun h => c1 h.1)
   subst hR
   replace c1 := eqn c1
   clear hbad hgood
   simp [*, zK]
 intros s1 hp h1 h2 h3 h4
 simp at h1 h2 h3 h4
 simp [h1, h2, h3, h4]
 refine zz p.funcs K28_1 B28_1 (fun d => [(4, .int .i64 d.length)]) (fun _ => []) (fun d => ∀ e x r, d = e ++ x :: r -> zwa p x.name = e.length) (by omega) ?_ ?_ ?_
 ·simp
 ·intros d x r s2 hl' hlt hget hget' hw1 hp2 g1 g2 g3 g4
  simp at g1 g2 g3 g4
  have e2 := zde p x.name (by omega)
  simp [zd, zva, funcs] at e2
  have hbad : ¬ (zwa p x.name = d.length) -> zmc p = false := fun h => hno fun hh => h (hh.2 d x r hl'.eq)
  have hgood : zwa p x.name = d.length -> ∀ e y q, d ++ [x] = e ++ y :: q -> zwa p y.name = e.length := by
   intro g1 e y q hh
   rcases List.append_eq_append_iff.1 hh with ⟨a, ha1, ha2⟩ | ⟨a, ha1, ha2⟩
   ·cases a with
    | nil => simp at ha1 ha2; obtain ⟨rfl, rfl⟩ := ha2; subst ha1; exact g1
    | cons z a => simp at ha2
   ·cases a with
    | nil => simp at ha1 ha2; obtain ⟨rfl, rfl⟩ := ha2; subst ha1; exact g1
    | cons z a =>
     simp at ha2
     obtain ⟨rfl, _⟩ := ha2
     exact hp2 e y a ha1
  generalize zmc p = R at *
  clear hno hcond hl' hp hp2 hpl h1 h3
  by_cases c1 : zwa p x.name = d.length
  ·replace hgood := hgood c1
   replace c1 := eqp c1
   clear hbad
   simp [*, -hgood, zm]
   exact hgood
  ·have hR := hbad c1
   subst hR
   replace c1 := eqn c1
   clear hbad hgood
   simp [*, zm]
 ·intros s2 hp2 g1 g2 g3 g4
  simp at g1 g2 g3 g4
  have hyes : decide ((p.arrays.map (·.name) ++ p.funcs.map (·.name)).Nodup) = true := hcond.2 ⟨fun d x r e => hp d x r e, fun d x r e => hp2 d x r e⟩
  simp [zd, zPd, zva, funcs] at hpl
  clear hcond hno hp hp2 h1 h3
  rcases zid (fun f : Func => decide (f.name = zPd)) p.funcs with ⟨a1, a2⟩ | ⟨n, f, a1, a2, a3, a4, a5⟩
  ·have a1 : zwa p zPd = -1 := a1
   have a2 : zIb p zPd = none := a2
   simp [zPd] at a1
   rw [a1] at hpl
   have hN : zmc p = false := by unfold zmc; rw [a2]; simp
   rw [hN]
   clear ha hf a2 a1 hyes
   simp [*]
  ·have a1 : zwa p zPd = n := a1
   have a3 : zIb p zPd = some f := a3
   simp [zPd] at a1
   rw [a1] at hpl
   have hN : zmc p = (decide (f.type = 1) && decide (f.params = [])) := by unfold zmc; rw [hyes, a3]; rfl
   rw [hN]
   clear ha hf a3 a4 a5 a1 hyes hN
   by_cases ht : f.type = 1
   ·replace ht := eqp ht
    simp [*, zm, parsV]
   ·replace ht := eqn ht
    simp [*, zm, parsV]
theorem zvd (l : List Par) : zia (zS l) = l := by
 suffices h : ∀ l : List Par, zia (zS l.reverse) = l.reverse by
  have := h l.reverse
  simpa using this
 intro l
 induction l with
 | nil => rfl
 | cons x r ih =>
  rw [List.reverse_cons, scopedV_snoc, zXc, ih]; rfl
theorem scopedV_len (l : List Par) : (zS l).length = l.length := by
 have := congrArg List.length (zvd l)
 rw [zgb] at this; exact this
theorem scopedV_depth (l : List Par) : ∀ v ∈ zS l, v.depth = 0 := by
 suffices h : ∀ l : List Par, ∀ v ∈ zS l.reverse, v.depth = 0 by
  have := h l.reverse
  simpa using this
 intro l
 induction l with
 | nil => intro v hv; simp [zS] at hv
 | cons x r ih =>
  rw [List.reverse_cons, scopedV_snoc]
  intro v hv
  rcases List.mem_cons.1 hv with rfl | hv
  ·rfl
  ·exact ih v hv
theorem scopedV_find (l : List Par) (nm : List UInt8) : zta (zS l) nm = [] <-> nm ∉ l.map (·.name) := by
 suffices h : ∀ s : List Vr, zta s nm = [] <-> nm ∉ (zia s).map (·.name) by
  rw [h, zvd]
 intro s
 induction s with
 | nil => simp [zta, zia]
 | cons v r ih =>
  rw [zRa, zXc, List.map_append, List.mem_append]
  by_cases h : v.name = nm
  ·simp [h, parOf]
  ·rw [if_neg h, ih]
   simp [parOf]
   intro _ hh; exact h hh.symm
end PE.U

namespace PE.U
open Go PE
set_option maxRecDepth 20000 in
set_option maxHeartbeats 16000000 in
theorem rcheckP_spec (p : Prog) (hz : PSz p) : zi E 13 [zd p] [] = some (.ret (zra (zdc p)), []) := by
 have hfit := hz.fit
 obtain ⟨z1, z2, z3⟩ := hz
 have hr := right_spec p ⟨z1, z2, z3⟩
 have hn := globals_spec p hfit
 refine zc rfl rfl rfl (by simp [zd]) ?_
 unfold zdc
 cases hR : zzb p
 ·rw [hR] at hr
  clear hn hfit z3
  simp [zd] at hr
  simp [*, F13, zd, zra]
 cases hN : zmc p
 ·rw [hR] at hr
  rw [hN] at hn
  clear hfit z3
  simp [zd] at hr hn
  simp [*, F13, zd, zra]
 rw [hR] at hr
 rw [hN] at hn
 simp [zd, funcs] at hr hn
 simp [hr, hn, F13, zd, funcs]
 refine zfc p.funcs K13_1 B13_1 (fun d => [(4, .int .i64 d.length)]) (fun d => [(3, .cells [.int .i64 0, .int .i64 0])]) (fun d => d.map fun f => cob p f (zUa p f).2) (fun d => ∀ f ∈ d, (zUa p f).1 = 0) (by omega) (by simp) ?_ ?_
 ·intros d x r s1 hl' hlt hget hget' hw1 hp h1 h2 h3 h5 h4
  have hC := zpd p (x :: r) d 0 hp
  rw [<- hl'.eq, zWb, Int.zero_add] at hC
  obtain ⟨y1, y2⟩ := z3 x hl'.mem
  have hfR : zkd x = true := by
   unfold zzb at hR
   rw [Bool.and_eq_true, List.all_eq_true, List.all_eq_true] at hR
   exact hR.2 x hl'.mem
  have hbR : zL x.body 100 = true := by
   unfold zkd at hfR
   simp only [Bool.and_eq_true] at hfR
   exact hfR.2.2.2.1
  have hp8 : x.params.length <= 8 := by
   unfold zkd at hfR
   simp only [Bool.and_eq_true, decide_eq_true_eq] at hfR
   exact hfR.2.2.1
  have e3 := rends_spec x.body 100 y1 hbR
  have hlen : (d.map fun f => cob p f (zUa p f).2).length = d.length := by simp
  have e4 := rblock_spec' (wtSs x.body) p x x.body (zS x.params) 1 100 0 false ((d.map fun f => cob p f (zUa p f).2) ++ [cob p x 0]) d.length (Nat.le_refl _) y1 hfit hbR (by omega) (by omega) (by rw [scopedV_len]; omega) (by intro v hv; rw [scopedV_depth _ v hv]; omega) (by rw [List.getElem?_append_right (by omega), hlen]; simp)
  rw [zvd] at e4
  have hnx : (zUa p x).1 = 0 -> ∀ f ∈ d ++ [x], (zUa p f).1 = 0 := by
   intro h f hf
   rcases List.mem_append.1 hf with hf | hf
   ·exact hp f hf
   ·rw [List.mem_singleton.1 hf]; exact h
  have hset : ∀ v, ((d.map fun f => cob p f (zUa p f).2) ++ [cob p x 0]).set d.length v = (d.map fun f => cob p f (zUa p f).2) ++ [v] := by
   intro v
   rw [List.set_append_right _ _ (by omega), hlen]; simp
  rw [hset] at e4
  have h1x : zUa p x = if twiceM x.params then (50, 0) else (if (zT p x.type x.body (zS x.params) 1 false 0).1 = 0 /\ zVb x.body = false then 52 else (zT p x.type x.body (zS x.params) 1 false 0).1, (zT p x.type x.body (zS x.params) 1 false 0).2) := rfl
  generalize hfx : zUa p x = fx at *
  generalize zT p x.type x.body (zS x.params) 1 false 0 = q at *
  have htw : twiceM x.params = !decide ((x.params.map (·.name)).Nodup) := rfl
  generalize twiceM x.params = tw at *
  generalize zVb x.body = en at *
  obtain ⟨f, n⟩ := q
  obtain ⟨fe, fn⟩ := fx
  simp only at e4 hC hnx h1x
  generalize hσ : (d.map fun f => cob p f (zUa p f).2) = σ at *
  have hget0 : (σ ++ [cob p x n])[d.length]? = some (cob p x n) := by rw [List.getElem?_append_right (by omega), hlen]; simp
  simp at h1 h2 h3 h4 h5
  simp [zg, parsV] at e3 e4
  clear hl' hR hN hset hbR hfR y1 y2 z1 z2 z3 hfit hp
  have hcx : cob p x 0 = .arr 7 [.agg [zva p.arrays, .slice .plain 4 (p.funcs.map zm), .str x.name, .int .i64 x.type, .slice .plain 2 (x.params.map encPar), .slice .plain 6 (x.body.map zE), .int .i64 0]] := rfl
  have hcn : cob p x n = .arr 7 [.agg [zva p.arrays, .slice .plain 4 (p.funcs.map zm), .str x.name, .int .i64 x.type, .slice .plain 2 (x.params.map encPar), .slice .plain 6 (x.body.map zE), .int .i64 n]] := rfl
  rw [hcx, hcn] at e4
  rw [hcn] at hget0
  have keep : tw = false -> fe = 0 -> (.arr 7 [.agg [zva p.arrays, .slice .plain 4 (p.funcs.map zm), .str x.name, .int .i64 x.type, .slice .plain 2 (x.params.map encPar), .slice .plain 6 (x.body.map zE), .int .i64 n]] = cob p x (zUa p x).2) /\ ∀ g, g ∈ d \/ g = x -> (zUa p g).1 = 0 := by
   intro h1 h2
   rw [h1] at h1x
   simp at h1x
   rw [hfx]
   simp only
   rw [h1x.2, <- hcn]
   exact ⟨rfl, fun g hg => hnx h2 g (by simpa using hg)⟩
  clear hcx hcn hnx hfx
  simp [*, -keep, zm, parsV, zg]
  refine zfc x.params K13_0 B13_0 (fun d => [(6, .int .i64 d.length)]) (fun _ => [(3, .cells [.int .i64 0, .int .i64 0])]) (fun _ => σ) (fun d => (d.map (·.name)).Nodup) (by omega) ?_ ?_ ?_
  ·simp [*, -keep]
  ·intros d2 y r2 s2 hl2 hlt2 hget2 hget2' hw2 hp2 k1 k2 k3 k5 k4
   simp at k1 k2 k3 k4 k5
   have hf2 := rfind_spec (zS d2) y.name (by rw [scopedV_len]; omega)
   rw [zvd] at hf2
   have htk : x.params.take d2.length = d2 := by rw [hl2.eq]; simp
   have hdup : zta (zS d2) y.name ≠ [] -> tw = true := by
    intro h
    rw [htw, hl2.eq]
    simp only [Bool.not_eq_true', decide_eq_false_iff_not]
    intro hh
    rw [List.map_append, List.nodup_append] at hh
    rw [ne_eq, scopedV_find, Classical.not_not] at h
    exact hh.2.2 _ h _ (by simp) rfl
   have hok : zta (zS d2) y.name = [] -> ((d2 ++ [y]).map (·.name)).Nodup := by
    intro h
    rw [scopedV_find] at h
    rw [List.map_append, List.nodup_append]
    refine ⟨hp2, by simp, ?_⟩
    intro a ha b hb hab
    simp at hb
    rw [hb] at hab
    rw [hab] at ha
    exact h ha
   have htk2 : (x.params.map encPar).take d2.length = d2.map encPar := by rw [<- List.map_take, htk]
   generalize hfv : zta (zS d2) y.name = fv at *
   simp [zVa, parsV] at hf2
   have hlt2i : (d2.length : Int) < x.params.length := by omega
   have hle2 : d2.length <= x.params.length := by omega
   clear htw hl2 hp2 e3 e4 htk hfv hget0 keep
   cases fv with
   | nil =>
    replace hok := hok rfl
    clear hdup hC
    simp at hf2
    simp [*, -hok, encPar]
    all_goals (try grind)
   | cons z zr =>
    replace hdup := hdup (by simp)
    subst hdup
    simp at h1x
    obtain ⟨rfl, rfl⟩ := h1x
    simp at hC
    clear hok
    simp at hf2
    simp [*, encPar, zra]
  ·intros s2 hp2 k1 k2 k3 k5 k4
   simp at k1 k2 k3 k4 k5
   have htwf : tw = false := by rw [htw]; simp; exact hp2
   replace keep := keep htwf
   subst htwf
   simp at h1x
   obtain ⟨ha, rfl⟩ := h1x
   clear hp2 htw
   simp [*, -keep, zm, parsV, zg]
   by_cases hf : f = 0
   ·subst hf
    cases en
    ·simp at ha
     subst ha
     simp at hC
     clear keep
     simp [*, zm, parsV, zg, zra]
    ·simp at ha
     subst ha
     replace keep := keep rfl
     clear hC
     simp [*, -keep, zm, parsV, zg, zra]
     exact keep
   ·simp [hf] at ha
    subst ha
    simp [hf] at hC
    replace hf := eqn hf
    clear keep
    simp [*, zm, parsV, zg, zra]
 ·intros s1 hp h1 h2 h3 h5 h4
  have hC := zpd p [] p.funcs 0 hp
  rw [List.append_nil, zWb] at hC
  rw [hC]
  simp at h1 h2 h3 h4 h5
  clear hp hC z3
  simp [*, zra]
end PE.U

namespace PE.U
open Go PE
def zx : List Par -> Nm -> Nat -> List Par × Nm × Nat
 | [], N, c => ([], N, c)
 | x :: r, N, c =>
  let z := zx r ((x.name, newN c) :: N) (c + 1)
  (⟨newN c, x.type⟩ :: z.1, z.2)
theorem renPs_append : ∀ (a b : List Par) (N : Nm) (c : Nat), zx (a ++ b) N c = ((zx a N c).1 ++ (zx b (zx a N c).2.1 (zx a N c).2.2).1, (zx b (zx a N c).2.1 (zx a N c).2.2).2)
 | [], b, N, c => by simp [zx]
 | x :: r, b, N, c => by simp [zx, renPs_append r b]
theorem zob : ∀ (a : List Par) (N : Nm) (c : Nat), (zx a N c).1.length = a.length /\ (zx a N c).2.1.length = N.length + a.length /\ (zx a N c).2.2 = c + a.length
 | [], N, c => by simp [zx]
 | x :: r, N, c => by
  have := zob r ((x.name, newN c) :: N) (c + 1)
  simp only [zx, List.length_cons] at this ⊢
  omega
def renF (f : Func) : Func := ⟨f.name, f.type, (zx f.params [] 0).1, (renB f.body (zx f.params [] 0).2.1 (zx f.params [] 0).2.2).1⟩
def renC (f : Func) : Nat := (renB f.body (zx f.params [] 0).2.1 (zx f.params [] 0).2.2).2.2
def renP (p : Prog) : Prog := ⟨p.arrays, p.funcs.map renF⟩
def renM (p : Prog) : Prog × Int := if (zdc p).1 = 0 then (renP p, 0) else (⟨[], []⟩, 1)
def encRen (q : Prog × Int) : PV := .tup [zd q.1, .int .i64 q.2]
theorem cst_new (σ : zf) : cst (σ ++ [.arr 1 [.agg [.int .i64 0]]]) σ.length 0 = σ ++ [.arr 1 [.agg [.int .i64 0]]] := by
 unfold cst cobj; simp
theorem cst_last (σ : zf) (x : Obj) (c : Nat) : cst (σ ++ [x]) σ.length c = σ ++ [cobj c] := by
 unfold cst; simp
theorem aS {cf : zC} {s0 s : St} {r : List GOp} {Q : Ex -> St -> Prop} {a : _} {b : _} {o : _} {sz : Nat} {l : List PV} (f : PV -> Option (PV × Bx × zf)) (h : after cf s0 r Q (doOp a b o s (f (acc sz l)))) :
  after cf s0 r Q (doOp a b o s (match isOwn (acc sz l) with | none => f (strip (acc sz l)) | some (z, k) => f (.slice .own z k))) := by
 cases l <;> exact h
set_option maxHeartbeats 4000000 in
theorem rename_spec (p : Prog) (hz : PSz p) : zi E 9 [zd p] [] = some (.ret (encRen (renM p)), []) := by
 refine zc rfl rfl rfl (by simp [zd]) ?_
 have hc := rcheckP_spec p hz
 unfold renM
 by_cases h0 : (zdc p).1 = 0
 ·rw [if_pos h0]
  generalize zdc p = q at *
  obtain ⟨e, n⟩ := q
  simp only at h0
  subst h0
  obtain ⟨ars, fs⟩ := p
  obtain ⟨z1, z2, z3⟩ := hz
  simp only at z1 z2 z3
  have hra : ars.length * 24 <= zn := by simp only [zn]; omega
  simp [zra, zd, zva, funcs] at hc
  simp [*, F9, zd, encRen, zva, funcs]
  clear hc
  refine aS (fun v => some (.undef, .cells [v, .slice .fit 4 []], [])) ?_
  simp
  refine zfc fs K9_1 B9_1 (fun d => [(7, .int .i64 d.length)]) (fun d => [(6, .cells [acc 2 (ars.map zK), acc 4 ((d.map renF).map zm)])]) (fun d => d.map fun f => cobj (renC f)) (fun d => True) (by omega) ?_ ?_ ?_
  ·simp
  ·intro d x r s1 hl' hlt hget hget' hw1 hp h1 h2 h3 h4 h5
   simp at h1 h2 h3 h4 h5
   have hzx := z3 x hl'.mem
   obtain ⟨fnm, fty, ps, body⟩ := x
   simp only at hzx
   have hdec : decide (d.length < fs.length) = true := decide_eq_true hlt
   have hT := cst_new (d.map fun f => cobj (renC f))
   have hTl := cst_last (d.map fun f => cobj (renC f)) (.arr 1 [.agg [.int .i64 0]])
   have hlT : (d.map fun f => cobj (renC f)).length < ((d.map fun f => cobj (renC f)) ++ [Obj.arr 1 [.agg [.int .i64 0]]]).length := by simp
   have hroom : (d.length + 1) * 72 <= zn := by simp only [zn]; omega
   rw [List.length_map] at hT hTl hlT
   have hbk := rblock_spec (wtSs body) body (zx ps [] 0).2.1 (zx ps [] 0).2.2 _ d.length (Nat.le_refl _) (by omega) (by have := zob ps [] 0; simp only [List.length_nil] at this; omega) (by have := zob ps [] 0; omega) hlT
   have hren : renF ⟨fnm, fty, ps, body⟩ = ⟨fnm, fty, (zx ps [] 0).1, (renB body (zx ps [] 0).2.1 (zx ps [] 0).2.2).1⟩ := rfl
   have hcn : renC ⟨fnm, fty, ps, body⟩ = (renB body (zx ps [] 0).2.1 (zx ps [] 0).2.2).2.2 := rfl
   rw [hTl] at hbk
   simp only [prs] at hbk
   clear hl' z3
   simp [*, zm, funcs, parsV]
   have hnx : ∀ c, c <= 9000000000000 -> zi E 22 [.ptr d.length 0 0] (d.map (fun f => cobj (renC f)) ++ [cobj c]) = some (.ret (.str (newN c)), d.map (fun f => cobj (renC f)) ++ [cobj (c + 1)]) := by
    intro c hc
    have := next_spec hlT c hc
    rw [hTl, hTl] at this
    exact this
   refine zfc ps K9_0 B9_0 (fun e => [(11, acc 2 ((zx e [] 0).2.1.map encPr).reverse), (12, .int .i64 e.length)]) (fun e => [(10, .cells [.str fnm, .int .i64 fty, acc 2 ((zx e [] 0).1.map encPar), .slice .fit 6 []])]) (fun e => d.map (fun f => cobj (renC f)) ++ [cobj (zx e [] 0).2.2]) (fun _ => True) (by omega) ?_ ?_ ?_
   ·simp [zx, cobj]
   ·intro e y r' s2 kl klt kget kget' kw1 kp k1 k2 k3 k4 k5
    simp at k1 k2 k3 k4 k5
    have hps := zob e [] 0
    have hap := renPs_append e [y] [] 0
    rw [hap]
    generalize zx e [] 0 = q at *
    obtain ⟨po, N0, c0⟩ := q
    simp only [List.length_nil] at hps hap
    have kdec : decide (e.length < ps.length) = true := decide_eq_true klt
    have hr1 : (po.length + 1) * 24 <= zn := by simp only [zn]; omega
    have hr2 : (N0.length + 1) * 32 <= zn := by simp only [zn]; omega
    replace hnx := hnx c0 (by omega)
    obtain ⟨ynm, yty⟩ := y
    simp only [zx]
    generalize newN c0 = nw at *
    clear hbk hap hps hren hcn hT hTl hlT kl hzx hdec h1 h3 h4 h5 hget
    simp only at k3 k4 k5
    simp [*, encPar, encPr]
    exact (acc_ne (by simp)).symm
   ·intro s2 kp k1 k2 k3 k4 k5
    simp at k1 k2 k3 k4 k5
    clear hnx hT hlT hzx h3 h5
    generalize zx ps [] 0 = q at *
    obtain ⟨po, N0, c0⟩ := q
    simp only at hbk k3 k4 k5 hcn hren
    generalize renB body N0 c0 = q at *
    obtain ⟨bo, N1, c1⟩ := q
    simp only at hbk hcn hren
    rw [hTl] at hbk
    clear hTl
    simp at hbk
    simp [*, zm, parsV]
    exact (acc_ne (by simp)).symm
  ·intro s1 hp h1 h2 h3 h4 h5
   simp at h1 h2 h3 h4 h5
   simp [*, renP]
 ·rw [if_neg h0]
  generalize zdc p = q at *
  obtain ⟨e, n⟩ := q
  simp only at h0
  replace h0 := eqn h0
  obtain ⟨ars, fs⟩ := p
  simp [zra, zd, zva, funcs] at hc
  simp [*, F9, zd, encRen, zva, funcs]
end PE.U

namespace PE.U
open Go PE
theorem counter_spec (σ : zf) : zi E 53 [] σ = some (.ret (.fn 82 [] [.ptr σ.length 0 0]), σ ++ [kobj 0]) := by
 refine zc rfl rfl rfl (by simp) ?_
 simp [F53, kobj]
abbrev fst3 (es : List (PV × PV)) (c : Nat) (row : List PV) : zf := [.mp es, kobj c, .arr 2 row]
theorem kst3 (es : List (PV × PV)) (row : List PV) (c : Nat) : kst (fst3 es 0 row) 1 c = fst3 es c row := rfl
theorem kst2 (es : List (PV × PV)) (c : Nat) : kst [.mp es, kobj 0] 1 c = [.mp es, kobj c] := rfl
theorem wf3 {es : List (PV × PV)} {N : Nm} (hM : MapN es N) (c : Nat) (l : List Par) : WfS (fst3 es c (l.map encPar)) := by
 intro n hn
 have h1 := hM.flat n
 have h2 := pl_par (k := n) l
 simp [zf.wf, Obj.below, kobj, h1, h2]
theorem wf2 {es : List (PV × PV)} {N : Nm} (hM : MapN es N) (c : Nat) : WfS [.mp es, kobj c] := by
 intro n hn
 have h1 := hM.flat n
 simp [zf.wf, Obj.below, kobj, h1]
set_option maxHeartbeats 8000000 in
theorem pfunc_spec (f : Func) (hb : wtSs f.body < 1099508000000) (hp : f.params.length < 1099509000000) (hsc : scSs (f.params.map (·.name)).reverse f.body) : zi E 21 [zm f] [] = some (.ret (zm (renF f)), []) := by
 obtain ⟨fnm, fty, ps, body⟩ := f
 simp only at hb hp hsc
 refine zc rfl rfl rfl (by simp [zm]) ?_
 have hcn := counter_spec [.mp []]
 simp only [List.length_singleton, List.singleton_append] at hcn
 have hnames : ∀ (e : List Par) (N : Nm) (c : Nat), (zx e N c).2.1.map (·.1) = (e.map (·.name)).reverse ++ N.map (·.1) := by
  intro e
  induction e with
  | nil => intro N c; simp [zx]
  | cons y r ih => intro N c; simp [zx, ih]
 by_cases hl : ps = []
 ·subst hl
  have hpc := pclone_nil [.mp [], kobj 0]
  have hbk := pblock_spec (wtSs body) body [] 0 [] [.mp [], kobj 0] 0 1 (Nat.le_refl _) (by omega) (by simp; omega) (by omega) .nil (by simpa using hsc) (by simp) (by simp) rfl (wf2 .nil 0)
  rw [kst2, kst2] at hbk
  have hren : renF ⟨fnm, fty, [], body⟩ = ⟨fnm, fty, [], (renB body [] 0).1⟩ := rfl
  rw [hren]
  generalize renB body [] 0 = q at *
  obtain ⟨o, N1, c1⟩ := q
  simp only at hbk
  clear hren hnames hsc hb hp
  simp [zg] at hbk
  simp [*, F21, zm, parsV, zg]
  refine zza K21_0 B21_0 (fun _ : Unit => 0) (fun _ => [(16, .int .i64 0)]) (fun _ => []) (fun _ => [.mp [], kobj 0]) (fun _ => True) () ⟨by simp, by simp, by simp, trivial⟩ ?_
  rintro ⟨⟩ s1 - q1 q2 q3 q4 q5
  simp at q1 q2 q3 q5
  simp [*]
 ·have hne : ps.map encPar ≠ [] := by simpa using hl
  have hroom : (ps.map encPar).length * 24 <= zn := by simp only [zn, List.length_map]; omega
  have hpc := pclone [.mp [], kobj 0] hne hroom
  simp only [List.length_map, List.length_cons, List.length_nil, List.cons_append, List.nil_append, Nat.zero_add] at hpc
  simp [*, F21, zm, parsV, zg]
  refine zza K21_0 B21_0 (fun q : List Par × List (PV × PV) => ps.length - q.1.length) (fun q => [(16, .int .i64 q.1.length)]) (fun _ => [])
   (fun q => fst3 q.2 (zx q.1 [] 0).2.2 ((zx q.1 [] 0).1.map encPar ++ (ps.drop q.1.length).map encPar))
   (fun q => q.1.length <= ps.length /\ q.1 = ps.take q.1.length /\ MapN q.2 (zx q.1 [] 0).2.1) ([], []) ⟨by simp, by simp, by simp [zx], by simp, by simp, by simpa [zx] using MapN.nil⟩ ?_
  rintro ⟨d, es0⟩ s1 ⟨hdl, hdt, hM0⟩ h1 h2 h3 h2b h4
  simp only at hdl hdt hM0
  simp at h1 h2 h3
  clear hcn hpc h2b
  by_cases hend : d.length = ps.length
  ·have hdd : d = ps := by rw [hdt, hend, List.take_length]
   subst hdd
   have hdec : decide (d.length < d.length) = false := by simp
   simp only [List.drop_length, List.map_nil, List.append_nil] at h4
   have hps := zob d [] 0
   have hnm := hnames d [] 0
   have hbk := pblock_spec (wtSs body) body (zx d [] 0).2.1 (zx d [] 0).2.2 es0 (fst3 es0 0 ((zx d [] 0).1.map encPar)) 0 1 (Nat.le_refl _) (by omega) (by simp at hps; omega) (by omega) hM0 (by rw [hnm]; simpa using hsc) (by simp) (by simp) rfl (wf3 hM0 0 _)
   rw [kst3, kst3] at hbk
   have hren : renF ⟨fnm, fty, d, body⟩ = ⟨fnm, fty, (zx d [] 0).1, (renB body (zx d [] 0).2.1 (zx d [] 0).2.2).1⟩ := rfl
   rw [hren]
   generalize zx d [] 0 = q0 at *
   obtain ⟨po, N0, c0⟩ := q0
   simp only at hbk hps h4 hren ⊢
   obtain rfl : c0 = d.length := by have := hps.2.2; omega
   generalize renB body N0 d.length = q at *
   obtain ⟨o, N1, c1⟩ := q
   simp only at hbk
   have htk2 : (po.map encPar).take d.length = po.map encPar := List.take_of_length_le (by rw [List.length_map, hps.1]; exact Nat.le_refl _)
   have hle : d.length <= po.length := by rw [hps.1]; exact Nat.le_refl _
   clear hren hnames hsc hb hp hdt hM0 hnm hps
   simp [zg] at hbk
   simp [*, zm, parsV, zg, strip_parF, fr1_mslice]
  ·obtain ⟨x, rr, hd1⟩ : ∃ x rr, ps.drop d.length = x :: rr := by
    cases hq : ps.drop d.length with
    | nil => have := congrArg List.length hq; simp at this; omega
    | cons x rr => exact ⟨x, rr, rfl⟩
   have hlt : d.length < ps.length := by omega
   have hdec : decide (d.length < ps.length) = true := decide_eq_true hlt
   have hd2 : ps.drop (d.length + 1) = rr := by rw [<- List.drop_drop, hd1]; rfl
   have heq : ps = d ++ x :: rr := by
    have := List.take_append_drop d.length ps
    rw [hd1, <- hdt] at this; exact this.symm
   have hdt2 : d ++ [x] = ps.take (d ++ [x]).length := by
    have hg0 : ps[d.length]? = some x := by rw [heq]; simp
    rw [List.length_append, List.length_singleton, List.take_add_one, <- hdt, hg0]; rfl
   have hw1 : zN .i64 ((d.length : Int) + 1) = (d.length : Int) + 1 := by rw [zj] <;> omega
   have hap := renPs_append d [x] [] 0
   have hps := zob d [] 0
   simp only [hd1, List.map_cons] at h4
   generalize zx d [] 0 = q at *
   obtain ⟨out, N0, c0⟩ := q
   simp only [List.length_nil] at hps hap hM0 h4
   obtain rfl : c0 = d.length := by have := hps.2.2; omega
   have hA : (out.map encPar).length = d.length := by rw [List.length_map]; exact hps.1
   generalize hAe : out.map encPar = A at *
   generalize hR : rr.map encPar = R at *
   have hg : ∀ e, (A ++ e :: R)[d.length]? = some e := fun e => by rw [<- hA]; exact mid_get A R e
   have hs : ∀ e e', (A ++ e :: R).set d.length e' = A ++ e' :: R := fun e e' => by rw [<- hA]; exact mid_set A R e e'
   obtain ⟨nm, ty⟩ := x
   obtain ⟨es1, hms, hM1⟩ := hM0.set nm (newN d.length)
   have hfi : zda true (.str nm) es1 = some (some (.str (newN d.length))) := by
    have := hM1.get (x := nm) (by simp)
    rw [this]; simp [zfa]
   have hnx : ∀ e row, zi E 82 [.ptr 1 0 0] (fst3 e d.length row) = some (.ret (.str (newN d.length)), fst3 e (d.length + 1) row) := fun e row => fresh_spec (σ := fst3 e 0 row) (by simp) d.length (by omega)
   simp only [zx] at hap
   generalize newN d.length = nw at *
   simp only [encPar] at h4
   clear hnames hsc hb hp hdt hM0 heq hl hne hroom hps
   replace hap := Nonempty.intro (PLift.up hap)
   replace hdt2 := Nonempty.intro (PLift.up hdt2)
   replace hAe := Nonempty.intro (PLift.up hAe)
   replace hR := Nonempty.intro (PLift.up hR)
   replace hM1 := Nonempty.intro (PLift.up hM1)
   simp [*]
   obtain ⟨⟨hap⟩⟩ := hap
   obtain ⟨⟨hdt2⟩⟩ := hdt2
   obtain ⟨⟨hAe⟩⟩ := hAe
   obtain ⟨⟨hR⟩⟩ := hR
   obtain ⟨⟨hM1⟩⟩ := hM1
   refine ⟨d ++ [⟨nm, ty⟩], by simp; omega, by simp, es1, ⟨rfl, by rw [hap], ?_⟩, by simp; omega, hdt2, by rw [hap]; exact hM1⟩
   rw [hap]
   simp [<- List.map_drop, hd2, hAe, hR, encPar]
end PE.U

namespace PE.U
open Go PE
def zHb (s : List Vr) : List (List UInt8) := s.map (·.name)
end PE.U

namespace PE.U
open Go PE
theorem findV_nms {s : List Vr} {nm : List UInt8} (h : zta s nm ≠ []) : nm ∈ zHb s := by
 induction s with
 | nil => exact absurd rfl h
 | cons v r ih =>
  rw [zRa] at h
  unfold zHb
  by_cases e : v.name = nm
  ·simp [e]
  ·rw [if_neg e] at h
   have := ih h
   unfold zHb at this
   simp only [List.map_cons, List.mem_cons]
   exact .inr this
section
variable {p : Prog} {s : List Vr}
mutual
theorem expr_sc : ∀ (e : Expr), (zqb p s e).2 = 0 -> scE (zHb s) e
 | ⟨k, o, n, nm, ar⟩, hz => by
  rw [zqb] at hz
  split at hz
  ·rename_i h1; exact absurd hz h1
  rename_i h1
  split at hz
  ·rename_i h2; exact absurd hz h2
  rename_i h2
  rw [scE]
  refine ⟨fun hk => ?_, args_sc ar (by simpa using h2)⟩
  have h1' : zAb p s k nm ar.length = 0 := by simpa using h1
  unfold zAb at h1'
  rw [if_pos hk] at h1'
  split at h1'
  ·cases h1'
  ·rename_i hf; exact findV_nms hf
theorem args_sc : ∀ (l : List Expr), (zDa p s l).2 = 0 -> scEs (zHb s) l
 | [], _ => by rw [scEs]; trivial
 | x :: r, hz => by
  rw [zDa] at hz
  split at hz
  ·rename_i h1; exact absurd hz h1
  rename_i h1
  split at hz
  ·rename_i h2; exact absurd hz h2
  rename_i h2
  rw [scEs]
  exact ⟨expr_sc x (by simpa using h1), args_sc r (by simpa using h2)⟩
end
theorem want_sc {e : Expr} {t : Int} (h : zsc p s e t = 0) : scE (zHb s) e := by
 unfold zsc at h
 split at h
 ·rename_i h1; exact absurd h h1
 ·rename_i h1; exact expr_sc e (by simpa using h1)
theorem sc_one {l : List Expr} (hl : (l.length : Int) = 1) (h : scE (zHb s) (arg0 l)) : scEs (zHb s) l := by
 match l, hl with
 | [x], _ => simp only [scEs]; exact ⟨h, trivial⟩
 | [], hl => simp at hl
 | _ :: _ :: _, hl => simp at hl; omega
theorem sc_two {l : List Expr} (hl : (l.length : Int) = 2) (h : scE (zHb s) (arg0 l)) (h2 : scE (zHb s) (arg1 l)) : scEs (zHb s) l := by
 match l, hl with
 | [x, y], _ => simp only [scEs]; exact ⟨h, h2, trivial⟩
 | [], hl => simp at hl
 | [_], hl => simp at hl
 | _ :: _ :: _ :: _, hl => simp at hl; omega
theorem stmt_sc {res k t d : Int} {nm : List UInt8} {ar : List Expr} {loop : Bool} (hl : (ar.length : Int) = (zP k).2.2.1) (hz : stmtT p res s k t nm ar d loop = 0) : scEs (zHb s) ar /\ (k = 2 -> nm ∈ zHb s) := by
 unfold stmtT at hz
 by_cases k1 : k = 4 \/ k = 5
 ·rw [if_pos k1] at hz
  exact ⟨sc_one (by rcases k1 with rfl | rfl <;> simpa [zP] using hl) (want_sc hz), fun e => by omega⟩
 rw [if_neg k1] at hz
 by_cases k2 : k = 8
 ·rw [if_pos k2] at hz; subst k2; exact ⟨sc_one (by simpa [zP] using hl) (want_sc hz), fun e => by omega⟩
 rw [if_neg k2] at hz
 by_cases k3 : k = 9
 ·rw [if_pos k3] at hz; subst k3; exact ⟨sc_one (by simpa [zP] using hl) (want_sc hz), fun e => by omega⟩
 rw [if_neg k3] at hz
 by_cases k4 : k = 10
 ·rw [if_pos k4] at hz; subst k4; exact ⟨sc_one (by simpa [zP] using hl) (expr_sc _ hz), fun e => by omega⟩
 rw [if_neg k4] at hz
 by_cases k5 : k = 6 \/ k = 7
 ·have : ar = [] := List.eq_nil_of_length_eq_zero (by rcases k5 with rfl | rfl <;> simp [zP] at hl <;> simp [hl])
  subst this
  exact ⟨by simp [scEs], fun e => by omega⟩
 rw [if_neg k5] at hz
 unfold boundT at hz
 by_cases q1 : k = 1
 ·subst q1
  simp only [if_true] at hz
  split at hz
  ·rename_i h1; exact absurd hz h1
  rename_i h1
  exact ⟨sc_one (by simpa [zP] using hl) (want_sc (by simpa using h1)), fun e => by omega⟩
 simp only [q1, if_false] at hz
 by_cases q2 : k = 2
 ·subst q2
  simp only [if_true] at hz
  have hf : zta s nm ≠ [] := by intro e; rw [e] at hz; cases hz
  split at hz
  ·cases hz
  exact ⟨sc_one (by simpa [zP] using hl) (want_sc hz), fun _ => findV_nms hf⟩
 simp only [q2, if_false] at hz
 by_cases q3 : k = 3
 ·subst q3
  split at hz
  ·cases hz
  split at hz
  ·rename_i h4; exact absurd hz h4
  rename_i h4
  exact ⟨sc_two (by simpa [zP] using hl) (want_sc (by simpa using h4)) (want_sc hz), fun e => by omega⟩
 ·have h6 : ¬ k = 6 := fun e => k5 (.inl e)
  have h7 : ¬ k = 7 := fun e => k5 (.inr e)
  have h8 : ¬ k = 4 := fun e => k1 (.inl e)
  have h9 : ¬ k = 5 := fun e => k1 (.inr e)
  simp [zP, q1, q2, q3, h6, h7, h8, h9, k2, k3, k4] at hl
end
theorem behind_nms (d : Int) (x : Stmt) (vs : List Vr) : zHb (zga d x vs) = if x.kind = 1 then x.name :: zHb vs else zHb vs := by
 unfold zga zHb
 split <;> rfl
mutual
theorem block1_sc {p : Prog} {res : Int} : ∀ (x : Stmt) (m : Int) (s : List Vr) (d : Int) (loop : Bool) (n : Int), znb x m = true -> (zLb p res x s d loop n).1 = 0 -> scS (zHb s) x
 | ⟨k, t, nm, ar, th, el⟩, m, s, d, loop, n, hR, hz => by
  obtain ⟨r1, r2, r3, r4⟩ := zHc hR
  simp only at r1 r2 r3 r4
  rw [zWd] at hz
  simp only at hz
  split at hz
  ·rename_i h1; exact absurd hz h1
  rename_i h1
  split at hz
  ·rename_i h2; exact absurd hz h2
  rename_i h2
  have e0 := stmt_sc (p := p) (res := res) r1 (by simpa using h1)
  have hb := behind_nms d ⟨k, t, nm, ar, th, el⟩ s
  simp only at hb
  have e1 := blockT_sc th (m - 1) _ (d + 1) (loop || decide (k = 5)) (n + 1) r3 (by simpa using h2)
  have e2 := blockT_sc el (m - 1) _ (d + 1) loop _ r4 hz
  rw [hb] at e1 e2
  rw [scS]
  exact ⟨e0.1, e0.2, e1, e2⟩
theorem blockT_sc {p : Prog} {res : Int} : ∀ (l : List Stmt) (m : Int) (s : List Vr) (d : Int) (loop : Bool) (n : Int), zL l m = true -> (zT p res l s d loop n).1 = 0 -> scSs (zHb s) l
 | [], m, s, d, loop, n, _, _ => by rw [scSs]; trivial
 | x :: r, m, s, d, loop, n, hR, hz => by
  simp only [zL, Bool.and_eq_true] at hR
  rw [zXb] at hz
  split at hz
  ·rename_i h1; exact absurd hz h1
  rename_i h1
  have e1 := block1_sc x m s d loop n hR.1 (by simpa using h1)
  have e2 := blockT_sc r m _ d loop _ hR.2 hz
  rw [behind_nms] at e2
  rw [scSs]
  exact ⟨e1, e2⟩
end
theorem scoped_nms (ps : List Par) : zHb (zS ps) = (ps.map (·.name)).reverse := by
 have : ∀ (l : List Par) (s : List Vr), zHb (l.foldl (fun s p => ⟨p.name, p.type, 0⟩ :: s) s) = (l.map (·.name)).reverse ++ zHb s := by
  intro l
  induction l with
  | nil => intro s; simp
  | cons x r ih => intro s; rw [List.foldl_cons, ih]; simp [zHb]
 unfold zS
 rw [this ps []]
 simp [zHb]
theorem checkGo_all (p : Prog) : ∀ (l : List Func) (i : Int), (zWb p l i).1 = 0 -> ∀ f ∈ l, (zUa p f).1 = 0
 | [], _, _, f, hf => by simp at hf
 | g :: r, i, h, f, hf => by
  rw [zWb] at h
  split at h
  ·rename_i h1; exact absurd h h1
  rename_i h1
  rcases List.mem_cons.1 hf with rfl | hf
  ·simpa using h1
  ·exact checkGo_all p r (i + 1) h f hf
theorem check_sc (p : Prog) (h : (zdc p).1 = 0) : ∀ f ∈ p.funcs, scSs (f.params.map (·.name)).reverse f.body := by
 unfold zdc at h
 split at h
 case isFalse => cases h
 rename_i hR
 split at h
 case isFalse => cases h
 intro f hf
 have h1 := checkGo_all p p.funcs 0 h f hf
 unfold zUa at h1
 split at h1
 ·cases h1
 simp only at h1
 unfold zzb at hR
 simp only [Bool.and_eq_true, List.all_eq_true] at hR
 have hfR := hR.2 f hf
 have hb : zL f.body 100 = true := by
  unfold zkd at hfR
  simp only [Bool.and_eq_true] at hfR
  simp_all
 have hz : (zT p f.type f.body (zS f.params) 1 false 0).1 = 0 := by
  by_cases e : (zT p f.type f.body (zS f.params) 1 false 0).1 = 0
  ·exact e
  ·simp [e] at h1
 have := blockT_sc f.body 100 _ 1 false 0 hb hz
 rw [scoped_nms] at this
 exact this
end PE.U

namespace PE.U
open Go PE
set_option maxHeartbeats 8000000 in
theorem pren_spec (p : Prog) (hz : PSz p) : zi E 8 [zd p] [] = some (.ret (encRen (renM p)), []) := by
 refine zc rfl rfl rfl (by simp [zd]) ?_
 have hc := check_spec p hz
 unfold renM
 by_cases h0 : (zdc p).1 = 0
 ·rw [if_pos h0]
  have hsc := check_sc p h0
  generalize zdc p = q at *
  obtain ⟨e, n⟩ := q
  simp only at h0
  subst h0
  obtain ⟨ars, fs⟩ := p
  obtain ⟨z1, z2, z3⟩ := hz
  simp only at z1 z2 z3 hsc
  simp [zra, zd, zva, funcs] at hc
  by_cases hl : ars = []
  ·subst hl
   have hac := aclone_nil []
   simp only [List.map_nil] at hc
   simp [*, F8, zd, encRen, zva, funcs]
   clear hc hac
   refine zfc fs K8_0 B8_0 (fun d => [(23, .int .i64 d.length)]) (fun d => [(2, .cells [.slice .plain 2 [], acc 4 ((d.map renF).map zm)])]) (fun _ => []) (fun _ => True) (by omega) ?_ ?_ ?_
   ·simp
   ·intro d x r s1 hl' hlt hget hget' hw1 hp h1 h2 h3 h4 h5
    simp at h1 h2 h3 h4
    have hzx := z3 x hl'.mem
    have hf := pfunc_spec x hzx.1 hzx.2 (hsc x hl'.mem)
    have hdec : decide (d.length < fs.length) = true := decide_eq_true hlt
    have hroom : (d.length + 1) * 72 <= zn := by simp only [zn]; omega
    obtain ⟨fnm, fty, ps, body⟩ := x
    generalize hy : renF ⟨fnm, fty, ps, body⟩ = y at *
    obtain ⟨ynm, yty, yps, ybody⟩ := y
    clear hl' z3 hsc
    simp [zm, parsV, zg] at hf
    simp [*, zm, parsV, zg]
    exact (acc_ne (by simp)).symm
   ·intro s1 hp h1 h2 h3 h4 h5
    simp at h1 h2 h3 h4
    simp [*, renP]
  ·have hne : ars.map zK ≠ [] := by simpa using hl
   have hroom : (ars.map zK).length * 24 <= zn := by simp only [zn, List.length_map]; omega
   have hac := aclone [] hne hroom
   simp only [List.length_map, List.length_nil, List.nil_append] at hac
   simp [*, F8, zd, encRen, zva, funcs]
   clear hc hac hroom
   refine zfc fs K8_0 B8_0 (fun d => [(23, .int .i64 d.length)]) (fun d => [(2, .cells [.mslice 0 0 ars.length 2, acc 4 ((d.map renF).map zm)])]) (fun _ => [.arr 2 (ars.map zK)]) (fun _ => True) (by omega) ?_ ?_ ?_
   ·simp
   ·intro d x r s1 hl' hlt hget hget' hw1 hp h1 h2 h3 h4 h5
    simp at h1 h2 h3 h4
    have hzx := z3 x hl'.mem
    have hf := pfunc_spec x hzx.1 hzx.2 (hsc x hl'.mem)
    have hdec : decide (d.length < fs.length) = true := decide_eq_true hlt
    have hroom : (d.length + 1) * 72 <= zn := by simp only [zn]; omega
    obtain ⟨fnm, fty, ps, body⟩ := x
    generalize hy : renF ⟨fnm, fty, ps, body⟩ = y at *
    obtain ⟨ynm, yty, yps, ybody⟩ := y
    clear hl' z3 hsc
    simp [zm, parsV, zg] at hf
    simp [*, zm, parsV, zg]
    exact (acc_ne (by simp)).symm
   ·intro s1 hp h1 h2 h3 h4 h5
    simp at h1 h2 h3 h4
    have htk : (ars.map zK).take ars.length = ars.map zK := List.take_of_length_le (by rw [List.length_map]; exact Nat.le_refl _)
    simp [*, renP, fr1_mslice, strip_arrF]
 ·rw [if_neg h0]
  generalize zdc p = q at *
  obtain ⟨e, n⟩ := q
  simp only at h0
  replace h0 := eqn h0
  obtain ⟨ars, fs⟩ := p
  simp [zra, zd, zva, funcs] at hc
  simp [*, F8, zd, encRen, zva, funcs]
end PE.U

namespace PE.U
open Go PE
set_option maxHeartbeats 2000000 in
theorem sameEs_self : ∀ (w : Nat) (l : List Expr), wtEs l <= w -> w < 1099511000000 -> zi E 59 [ze l, ze l] [] = some (.ret (.bool true), []) := by
 intro w
 induction w using Nat.strongRecOn with
 | _ w IH =>
 intro l h hw
 refine zc rfl rfl rfl (by simp [ze]) ?_
 have hlen := zPb l
 simp [F59, ze]
 refine zz l K59_0 B59_0 (fun d => [(5, .int .i64 d.length)]) (fun _ => []) (fun d => True) (by omega) (by simp) ?_ ?_
 ·intros d x r s1 hl' hlt hget hget' hw1 hp h1 h2 h3 h4
  simp at h1 h2 h3
  have hwx := zSb hl'.mem
  have hwe := zsd x
  have ih := IH (wtEs x.args) (by omega) x.args (Nat.le_refl _) (by omega)
  have hdec : decide (d.length < l.length) = true := decide_eq_true hlt
  clear IH hl' hwx hwe h h2
  simp [ze] at ih
  simp [*, za, ze]
 ·intros s1 hp h1 h2 h3 h4
  simp at h1 h2 h3
  simp [*]
set_option maxHeartbeats 2000000 in
theorem sameSs_self : ∀ (w : Nat) (l : List Stmt), wtSs l <= w -> w < 1099511000000 -> zi E 24 [zg l, zg l] [] = some (.ret (.bool true), []) := by
 intro w
 induction w using Nat.strongRecOn with
 | _ w IH =>
 intro l h hw
 refine zc rfl rfl rfl (by simp [zg]) ?_
 have hlen := zha l
 simp [F24, zg]
 refine zz l K24_0 B24_0 (fun d => [(5, .int .i64 d.length)]) (fun _ => []) (fun d => True) (by omega) (by simp) ?_ ?_
 ·intros d x r s1 hl' hlt hget hget' hw1 hp h1 h2 h3 h4
  simp at h1 h2 h3
  have hwx := zLc hl'.mem
  have hwe := zOa x
  have ih1 := IH (wtSs x.thn) (by omega) x.thn (Nat.le_refl _) (by omega)
  have ih2 := IH (wtSs x.els) (by omega) x.els (Nat.le_refl _) (by omega)
  have ie := sameEs_self (wtEs x.args) x.args (Nat.le_refl _) (by omega)
  have hdec : decide (d.length < l.length) = true := decide_eq_true hlt
  clear IH hl' hwx hwe h h2
  simp [ze, zg] at ih1 ih2 ie
  simp [*, zb, ze, zg]
 ·intros s1 hp h1 h2 h3 h4
  simp at h1 h2 h3
  simp [*]
set_option maxHeartbeats 4000000 in
theorem zae (p : Prog) (hz : PSz p) : zi E 11 [zd p, zd p] [] = some (.ret (.bool true), []) := by
 refine zc rfl rfl rfl (by simp [zd]) ?_
 obtain ⟨ars, fs⟩ := p
 obtain ⟨z1, z2, z3⟩ := hz
 simp only at z1 z2 z3
 simp [F11, zd, zva, funcs]
 refine zz ars K11_0 B11_0 (fun d => [(5, .int .i64 d.length)]) (fun _ => []) (fun d => True) (by omega) (by simp) ?_ ?_
 ·intros d x r s1 hl' hlt hget hget' hw1 hp h1 h2 h3 h4
  simp at h1 h2 h3
  have hdec : decide (d.length < ars.length) = true := decide_eq_true hlt
  clear hl' z3
  obtain ⟨nm, sz⟩ := x
  simp [*, zK]
 ·intros s1 hp h1 h2 h3 h4
  simp at h1 h2 h3
  simp [*]
  refine zz fs K11_2 B11_2 (fun d => [(6, .int .i64 d.length)]) (fun _ => []) (fun d => True) (by omega) (by simp) ?_ ?_
  ·intros d x r s2 hl' hlt hget hget' hw1 kp k1 k2 k3 k4
   simp at k1 k2 k3
   have hzx := z3 x hl'.mem
   have hdec : decide (d.length < fs.length) = true := decide_eq_true hlt
   obtain ⟨fnm, fty, ps, body⟩ := x
   simp only at hzx
   have ib := sameSs_self (wtSs body) body (Nat.le_refl _) (by omega)
   simp [zg] at ib
   clear hl' z3
   simp [*, zm, parsV, zg]
   refine zz ps K11_1 B11_1 (fun e => [(9, .int .i64 e.length)]) (fun _ => []) (fun e => True) (by omega) (by simp) ?_ ?_
   ·intros e y r' s3 jl jlt jget jget' jw1 jp j1 j2 j3 j4
    simp at j1 j2 j3
    have jdec : decide (e.length < ps.length) = true := decide_eq_true jlt
    obtain ⟨ynm, yty⟩ := y
    clear jl hzx
    simp [*, encPar]
   ·intros s3 jp j1 j2 j3 j4
    simp at j1 j2 j3
    simp [*]
  ·intros s2 kp k1 k2 k3 k4
   simp at k1 k2 k3
   simp [*]
end PE.U

namespace PE.U
open Go PE
theorem vfindV_mem {s : List Vr} {nm : List UInt8} (h : ¬ zta s nm = []) : nm ∈ zHb s := by
 induction s with
 | nil => exact absurd rfl h
 | cons v r ih =>
  rw [zRa] at h
  split at h
  ·rename_i hn; simp [zHb, hn]
  ·have := ih h; simp only [zHb, List.map_cons, List.mem_cons] at this ⊢; exact .inr this
theorem checkGo_ok (p : Prog) : ∀ (l : List Func) (i : Int), (zWb p l i).1 = 0 -> ∀ f ∈ l, (zUa p f).1 = 0
 | [], _, _, _, h => by cases h
 | g :: r, i, h, f, hf => by
  rw [zWb] at h
  split at h
  ·rename_i h1; exact absurd h h1
  rename_i h1
  rcases List.mem_cons.1 hf with rfl | hf
  ·simpa using h1
  ·exact checkGo_ok p r _ h f hf
end PE.U

namespace PE.U
open Go PE
theorem u8_dig {a b : Nat} (ha : a < 10) (hb : b < 10) (h : UInt8.ofNat (48 + a) = UInt8.ofNat (48 + b)) : a = b := by
 have := congrArg UInt8.toNat h
 simp at this
 omega
theorem digF_inj : ∀ (k a b : Nat), a < 10 ^ k -> b < 10 ^ k -> digF k a = digF k b -> a = b
 | 0, a, b, ha, hb, _ => by simp at ha hb; omega
 | k + 1, a, b, ha, hb, h => by
  have ne : ∀ n, digF (k + 1) n ≠ [] := by
   intro n; unfold digF; split <;> simp
  rw [Nat.pow_succ] at ha hb
  by_cases h1 : a < 10 <;> by_cases h2 : b < 10
  ·rw [digF, digF, if_pos h1, if_pos h2] at h
   exact u8_dig h1 h2 (by simpa using h)
  ·rw [digF, digF, if_pos h1, if_neg h2] at h
   have hl := congrArg List.length h
   simp at hl
   cases k with
   | zero => simp at hb; omega
   | succ k =>
    have : digF (k + 1) (b / 10) ≠ [] := by unfold digF; split <;> simp
    exact absurd hl this
  ·rw [digF, digF, if_neg h1, if_pos h2] at h
   have hl := congrArg List.length h
   simp at hl
   cases k with
   | zero => simp at ha; omega
   | succ k =>
    have : digF (k + 1) (a / 10) ≠ [] := by unfold digF; split <;> simp
    exact absurd hl this
  ·rw [digF, digF, if_neg h1, if_neg h2] at h
   obtain ⟨e1, e2⟩ := List.append_inj' h rfl
   have := digF_inj k (a / 10) (b / 10) (by omega) (by omega) e1
   have := u8_dig (Nat.mod_lt a (by omega)) (Nat.mod_lt b (by omega)) (by simpa using e2)
   omega
theorem newN_inj {a b : Nat} (ha : a < 10000000000000) (hb : b < 10000000000000) (h : newN a = newN b) : a = b := by
 unfold newN zBc at h
 have h := List.cons.inj h
 exact digF_inj 20 a b (Nat.lt_trans ha (by decide)) (Nat.lt_trans hb (by decide)) h.2
def NI (N : Nm) (c : Nat) : Prop := (N.map (·.2)).Nodup /\ ∀ x ∈ N.map (·.2), ∃ i, i < c /\ x = newN i
theorem NI.next {N : Nm} {c : Nat} (h : NI N c) (hc : c < 9000000000000) (nm : List UInt8) : NI ((nm, newN c) :: N) (c + 1) := by
 refine ⟨?_, ?_⟩
 ·rw [List.map_cons, List.nodup_cons]
  refine ⟨fun hm => ?_, h.1⟩
  obtain ⟨i, hi, he⟩ := h.2 _ hm
  have := newN_inj (by omega) (by omega) he
  omega
 ·intro x hx
  rw [List.map_cons, List.mem_cons] at hx
  rcases hx with rfl | hx
  ·exact ⟨c, by omega, rfl⟩
  ·obtain ⟨i, hi, he⟩ := h.2 x hx
   exact ⟨i, by omega, he⟩
theorem NI.le {N : Nm} {c d : Nat} (h : NI N c) (hd : c <= d) : NI N d := ⟨h.1, fun x hx => by obtain ⟨i, hi, he⟩ := h.2 x hx; exact ⟨i, by omega, he⟩⟩
theorem findN_mem {N : Nm} {nm : List UInt8} (h : nm ∈ N.map (·.1)) : zfa nm N ∈ N.map (·.2) := by
 induction N with
 | nil => simp at h
 | cons x r ih =>
  unfold zfa
  split
  ·simp
  ·rename_i hx
   rw [List.map_cons, List.mem_cons] at h
   rcases h with h | h
   ·exact absurd h.symm hx
   ·rw [List.map_cons, List.mem_cons]; exact .inr (ih h)
theorem ren_e0 (N : Nm) : renE N e0 = e0 := by unfold e0; simp [renE, zX]
theorem ren_arg0 (N : Nm) (l : List Expr) : arg0 (zX N l) = renE N (arg0 l) := by
 cases l with
 | nil => exact (ren_e0 N).symm
 | cons x r => simp [zX, arg0]
theorem ren_arg1 (N : Nm) (l : List Expr) : arg1 (zX N l) = renE N (arg1 l) := by
 match l with
 | [] => exact (ren_e0 N).symm
 | [x] => simp only [zX]; exact (ren_e0 N).symm
 | x :: y :: r => simp [zX, arg1]
theorem ren_func (p : Prog) (nm : List UInt8) : zIb (renP p) nm = (zIb p nm).map renF := by
 unfold zIb renP
 rw [List.find?_map]
 rfl
theorem ni_pars : ∀ (ps : List Par) (N : Nm) (c : Nat), NI N c -> c + ps.length < 9000000000000 -> NI (zx ps N c).2.1 (zx ps N c).2.2
 | [], N, c, h, _ => by simpa [zx] using h
 | x :: r, N, c, h, hc => by
  have := ni_pars r ((x.name, newN c) :: N) (c + 1) (h.next (by simp at hc; omega) x.name) (by simp at hc; omega)
  simpa [zx] using this
theorem ni_ren : ∀ (s : Stmt) (N : Nm) (c : Nat), NI N c -> c + wtS s <= 4000000000000 -> NI (renS s N c).2.1 (renS s N c).2.2
 | ⟨k, ty, nm, ar, th, el⟩, N, c, h, hc => by
  have hb := renS_bd ⟨k, ty, nm, ar, th, el⟩ N c
  have hw := zOa ⟨k, ty, nm, ar, th, el⟩
  have h1 := zTb th (if k = 1 then (nm, newN c) :: N else N) (if k = 1 then c + 1 else c)
  have h2 := zTb el (if k = 1 then (nm, newN c) :: N else N) (renB th (if k = 1 then (nm, newN c) :: N else N) (if k = 1 then c + 1 else c)).2.2
  simp only [renS] at hb ⊢
  by_cases hk : k = 1
  ·simp only [hk, if_true] at h1 h2 ⊢
   exact (h.next (by omega) nm).le (by omega)
  ·simp only [hk, if_false] at h1 h2 ⊢
   exact h.le (by omega)
end PE.U

namespace PE.U
open Go PE
theorem digF_len2 : ∀ (k j n : Nat), 1 <= j -> n < 10 ^ j -> (digF k n).length <= j
 | 0, j, n, _, _ => by simp [digF]
 | k + 1, j, n, hj, h => by
  unfold digF
  split
  ·simpa using hj
  ·rename_i hn
   cases j with
   | zero => omega
   | succ j =>
    cases j with
    | zero => simp at h; omega
    | succ j =>
     have := digF_len2 k (j + 1) (n / 10) (by omega) (by rw [Nat.pow_succ] at h; omega)
     simp only [List.length_append, List.length_cons, List.length_nil]
     omega
theorem dig_byte {a : Nat} (h : a < 10) : zB (UInt8.ofNat (48 + a)) = true := by
 have : a = 0 \/ a = 1 \/ a = 2 \/ a = 3 \/ a = 4 \/ a = 5 \/ a = 6 \/ a = 7 \/ a = 8 \/ a = 9 := by omega
 rcases this with rfl | rfl | rfl | rfl | rfl | rfl | rfl | rfl | rfl | rfl <;> decide
theorem digF_bytes : ∀ (k n : Nat), (digF k n).all zB = true
 | 0, n => rfl
 | k + 1, n => by
  unfold digF
  split
  ·rename_i h; rw [List.all_cons, dig_byte h]; rfl
  ·rw [List.all_append, digF_bytes k]
   rw [List.all_cons, dig_byte (Nat.mod_lt n (by omega : 0 < 10))]; rfl
theorem newN_name {c : Nat} (h : c < 10000000000000) : zcb (newN c) = true := by
 have hl := digF_len2 20 13 c (by omega) (by simpa using h)
 have hw : wordM (newN c) = false := by
  have hall : words.all (fun w => decide (w.head? ≠ some 118)) = true := by decide
  unfold wordM
  rw [List.contains_eq_any_beq]
  rw [List.any_eq_false]
  intro x hx he
  have := List.all_eq_true.1 hall x hx
  simp at he
  subst he
  simp [newN] at this
 unfold zcb
 rw [hw]
 have hb : (newN c).all zB = true := by
  unfold newN zBc
  rw [List.all_cons, digF_bytes]
  decide
 rw [hb]
 have hlen : (newN c).length <= 20 := by unfold newN zBc; simp only [List.length_cons]; omega
 simp [newN] at hlen ⊢
 exact ⟨by decide, hlen⟩
def NV (N : Nm) : Prop := ∀ x ∈ N.map (·.2), zcb x = true
theorem NI.valid {N : Nm} {c : Nat} (h : NI N c) (hc : c < 9000000000000) : NV N := by
 intro x hx
 obtain ⟨i, hi, rfl⟩ := h.2 x hx
 exact newN_name (by omega)
theorem findN_valid {N : Nm} (hv : NV N) {nm : List UInt8} (h : zcb nm = true) : zcb (zfa nm N) = true := by
 induction N with
 | nil => exact h
 | cons x r ih =>
  unfold zfa
  split
  ·exact hv _ (by simp)
  ·exact ih fun y hy => hv y (by rw [List.map_cons, List.mem_cons]; exact .inr hy)
mutual
theorem exprR_ren {N : Nm} (hv : NV N) : ∀ (e : Expr) (m : Int), zdb e m = true -> zdb (renE N e) m = true
 | ⟨k, o, n, nm, ar⟩, m, h => by
  rw [zdb, Bool.and_eq_true] at h
  rw [renE, zdb, Bool.and_eq_true, zZc]
  refine ⟨exprsR_ren hv ar m h.1, ?_⟩
  by_cases k3 : k = 3
  ·subst k3
   have hk := h.2
   simp [kindR] at hk ⊢
   exact ⟨hk.1, findN_valid hv hk.2.1, hk.2.2⟩
  ·rw [if_neg k3]; exact h.2
theorem exprsR_ren {N : Nm} (hv : NV N) : ∀ (l : List Expr) (m : Int), zkb l m = true -> zkb (zX N l) m = true
 | [], m, _ => by rw [zX, zkb]
 | x :: r, m, h => by
  rw [zkb, Bool.and_eq_true, Bool.and_eq_true] at h
  rw [zX, zkb, Bool.and_eq_true, Bool.and_eq_true]
  exact ⟨⟨h.1.1, exprR_ren hv x (m - 1) h.1.2⟩, exprsR_ren hv r m h.2⟩
end
mutual
theorem leaves1_ren : ∀ (s : Stmt) (N : Nm) (c : Nat), zhd (renS s N c).1 = zhd s
 | ⟨k, ty, nm, ar, th, el⟩, N, c => by
  simp only [renS, zhd]
  rw [zfe th, zfe el]
theorem zfe : ∀ (l : List Stmt) (N : Nm) (c : Nat), zma (renB l N c).1 = zma l
 | [], N, c => by simp [renB]
 | x :: r, N, c => by
  simp only [renB, zma]
  rw [leaves1_ren x, zfe r]
end
theorem ren_kind (N : Nm) (e : Expr) : (renE N e).kind = e.kind /\ (renE N e).n = e.n := by rw [renE_eq]; exact ⟨rfl, rfl⟩
mutual
theorem ends1_ren : ∀ (s : Stmt) (N : Nm) (c : Nat), ends1 (renS s N c).1 = ends1 s
 | ⟨k, ty, nm, ar, th, el⟩, N, c => by
  simp only [renS, ends1]
  rw [endsT_ren th, endsT_ren el, zfe th, ren_arg0, (ren_kind N (arg0 ar)).1, (ren_kind N (arg0 ar)).2]
theorem endsT_ren : ∀ (l : List Stmt) (N : Nm) (c : Nat), zVb (renB l N c).1 = zVb l
 | [], N, c => by simp [renB]
 | x :: r, N, c => by
  simp only [renB, zVb]
  rw [ends1_ren x, endsT_ren r]
end
end PE.U

namespace PE.U
open Go PE
theorem name_ne {nm : List UInt8} (h : zcb nm = true) : nm ≠ [] := by
 rintro rfl
 exact absurd h (by decide)
theorem argsR_ren {N : Nm} (hv : NV N) : ∀ (l : List Expr), zKd l = true -> zKd (zX N l) = true
 | [], _ => by rw [zX]; rfl
 | x :: r, h => by
  unfold zKd at h ⊢
  rw [List.all_cons, Bool.and_eq_true] at h
  rw [zX, List.all_cons, Bool.and_eq_true]
  exact ⟨exprR_ren hv x 100 h.1, argsR_ren hv r h.2⟩
theorem doR_ren (N : Nm) (k : Int) (l : List Expr) : doR k (zX N l) = doR k l := by
 cases l with
 | nil => rw [zX]
 | cons x r =>
  rw [zX]
  unfold doR
  simp only
  rw [(ren_kind N x).1]
theorem headR_ren {k ty m : Int} {nm nm' : List UInt8} {ar ar' : List Expr} {th el th' el' : List Stmt} (hl : ar'.length = ar.length) (hn : nm' = nm \/ (zcb nm = true /\ zcb nm' = true)) (h : headR ⟨k, ty, nm, ar, th, el⟩ m = true) : headR ⟨k, ty, nm', ar', th', el'⟩ m = true := by
 unfold headR at h ⊢
 simp only [hl] at h ⊢
 rcases hn with rfl | ⟨h1, h2⟩
 ·exact h
 ·have e1 := name_ne h1
  have e2 := name_ne h2
  rw [h1] at h
  rw [h2]
  simpa [e1, e2] using h
theorem empty_ren (l : List Stmt) (N : Nm) (c : Nat) : (renB l N c).1.isEmpty = l.isEmpty := by
 cases l <;> simp [renB]
theorem headR_name {k ty m : Int} {nm : List UInt8} {ar : List Expr} {th el : List Stmt} (h : headR ⟨k, ty, nm, ar, th, el⟩ m = true) (hk : k = 1 \/ k = 2) : zcb nm = true := by
 unfold headR at h
 rcases hk with rfl | rfl <;> simp [zP] at h <;> simp_all
mutual
theorem stmtR_ren : ∀ (s : Stmt) (N : Nm) (c : Nat) (m : Int), NI N c -> c + wtS s <= 4000000000000 -> znb s m = true -> znb (renS s N c).1 m = true
 | ⟨k, ty, nm, ar, th, el⟩, N, c, m, hN, hc, h => by
  have hw := zOa ⟨k, ty, nm, ar, th, el⟩
  simp only at hw
  rw [znb] at h
  simp only [Bool.and_eq_true] at h
  obtain ⟨h1, h2, h3, ⟨h4, h5⟩, h6, h7⟩ := h
  have hv := hN.valid (by omega)
  simp only [renS]
  rw [znb]
  simp only [Bool.and_eq_true]
  rw [doR_ren, empty_ren, empty_ren]
  have hN1 : NI (if k = 1 then (nm, newN c) :: N else N) (if k = 1 then c + 1 else c) := by
   split
   ·exact hN.next (by omega) nm
   ·exact hN
  have hc1 : (if k = 1 then c + 1 else c) <= c + 1 := by split <;> omega
  have hb := zTb th (if k = 1 then (nm, newN c) :: N else N) (if k = 1 then c + 1 else c)
  refine ⟨headR_ren (zZc N ar) ?_ h1, argsR_ren hv ar h2, h3, ⟨h4, h5⟩, stmtsR_ren th _ _ (m - 1) hN1 (by omega) h6, stmtsR_ren el _ _ (m - 1) (hN1.le hb.2.1) (by omega) h7⟩
  by_cases hk : k = 1 \/ k = 2
  ·rw [if_pos hk]
   have hnm := headR_name h1 hk
   exact .inr ⟨hnm, findN_valid (hN1.valid (by omega)) hnm⟩
  ·rw [if_neg hk]; exact .inl rfl
theorem stmtsR_ren : ∀ (l : List Stmt) (N : Nm) (c : Nat) (m : Int), NI N c -> c + wtSs l <= 4000000000000 -> zL l m = true -> zL (renB l N c).1 m = true
 | [], N, c, m, _, _, _ => by simp [renB, zL]
 | x :: r, N, c, m, hN, hc, h => by
  have hw : wtSs (x :: r) = 1 + wtS x + wtSs r := rfl
  have hb := renS_bd x N c
  rw [zL, Bool.and_eq_true] at h
  simp only [renB, zL, Bool.and_eq_true]
  exact ⟨stmtR_ren x N c m hN (by omega) h.1, stmtsR_ren r _ _ m (ni_ren x N c hN (by omega)) (by omega) h.2⟩
end
theorem pars_ren : ∀ (ps : List Par) (N : Nm) (c : Nat), c + ps.length < 9000000000000 -> ps.all parR = true -> (zx ps N c).1.all parR = true
 | [], N, c, _, _ => by simp [zx]
 | x :: r, N, c, hc, h => by
  simp only [List.length_cons] at hc
  rw [List.all_cons, Bool.and_eq_true] at h
  simp only [zx, List.all_cons, Bool.and_eq_true]
  refine ⟨?_, pars_ren r _ _ (by omega) h.2⟩
  have h1 := h.1
  unfold parR at h1 ⊢
  simp only [Bool.and_eq_true] at h1 ⊢
  exact ⟨newN_name (by omega), h1.2⟩
theorem right_ren (p : Prog) (hz : PSz p) (h : zzb p = true) : zzb (renP p) = true := by
 obtain ⟨z1, z2, z3⟩ := hz
 unfold zzb at h ⊢
 rw [Bool.and_eq_true] at h ⊢
 refine ⟨h.1, ?_⟩
 have h2 := h.2
 show (p.funcs.map renF).all zkd = true
 rw [List.all_map, List.all_eq_true]
 intro f hf
 have hr := List.all_eq_true.1 h2 f hf
 have hzf := z3 f hf
 have hl := zob f.params [] 0
 show zkd (renF f) = true
 unfold zkd at hr ⊢
 simp only [Bool.and_eq_true] at hr ⊢
 obtain ⟨r1, r2, r3, r4, r5⟩ := hr
 refine ⟨r1, r2, ?_, ?_, ?_⟩
 ·show decide ((zx f.params [] 0).1.length <= 8) = true
  rw [hl.1]; exact r3
 ·exact stmtsR_ren f.body _ _ 100 (ni_pars f.params [] 0 ⟨by simp, fun x h => by simp at h⟩ (by omega)) (by omega) r4
 ·exact pars_ren f.params [] 0 (by omega) r5
theorem named_ren (p : Prog) : zmc (renP p) = zmc p := by
 unfold zmc
 rw [ren_func]
 have e : (renP p).funcs.map (·.name) = p.funcs.map (·.name) := by
  show (p.funcs.map renF).map (·.name) = _
  rw [List.map_map]; rfl
 have e2 : (renP p).arrays = p.arrays := rfl
 rw [e, e2]
 cases zIb p zPd with
 | none => rfl
 | some f =>
  have h : decide ((zx f.params [] 0).1 = []) = decide (f.params = []) := by cases f.params <;> simp [zx]
  show (_ && (decide (f.type = 1) && decide ((zx f.params [] 0).1 = []))) = _
  rw [h]
end PE.U

namespace PE.U
open Go PE
inductive RV : Nm -> List Vr -> List Vr -> Prop
 | nil : RV [] [] []
 | cons {N : Nm} {s s' : List Vr} (o w : List UInt8) (t d : Int) (h : RV N s s') : RV ((o, w) :: N) (⟨o, t, d⟩ :: s) (⟨w, t, d⟩ :: s')
theorem RV.olds {N : Nm} {s s' : List Vr} (h : RV N s s') : N.map (·.1) = zHb s := by
 induction h with
 | nil => rfl
 | cons o w t d h ih => simp only [zHb, List.map_cons] at ih ⊢; rw [ih]
theorem RV.news {N : Nm} {s s' : List Vr} (h : RV N s s') : N.map (·.2) = zHb s' := by
 induction h with
 | nil => rfl
 | cons o w t d h ih => simp only [zHb, List.map_cons] at ih ⊢; rw [ih]
theorem RV.find {N : Nm} {s s' : List Vr} (h : RV N s s') (hN : (N.map (·.2)).Nodup) {nm : List UInt8} (hf : zta s nm ≠ []) :
  ∃ v r v' r', zta s nm = v :: r /\ zta s' (zfa nm N) = v' :: r' /\ v'.type = v.type /\ v'.depth = v.depth := by
 induction h with
 | nil => exact absurd rfl hf
 | cons o w t d h ih =>
  rw [List.map_cons, List.nodup_cons] at hN
  rw [zRa] at hf ⊢
  unfold zfa
  by_cases ho : o = nm
  ·subst ho
   simp only [if_true]
   rw [zRa]
   simp
  ·simp only [ho, if_false] at hf ⊢
   have hm := findN_mem (N := _) (by rw [h.olds]; exact vfindV_mem hf)
   have hw : ¬ w = zfa nm _ := fun e => hN.1 (e ▸ hm)
   rw [zRa]
   simp only [hw, if_false]
   exact ih hN.2 hf
theorem findV_none {s : List Vr} {nm : List UInt8} (h : nm ∉ zHb s) : zta s nm = [] := by
 cases hf : zta s nm with
 | nil => rfl
 | cons v r => exact absurd (vfindV_mem (by rw [hf]; simp)) h
theorem pars_types : ∀ (ps : List Par) (N : Nm) (c : Nat), (zx ps N c).1.map (·.type) = ps.map (·.type)
 | [], N, c => by simp [zx]
 | x :: r, N, c => by simp [zx, pars_types r]
section
variable {p : Prog} {N : Nm} {s s' : List Vr} (h : RV N s s') (hN : (N.map (·.2)).Nodup)
include h hN
theorem named_typ {k : Int} {nm : List UInt8} {a : Nat} (hz : zAb p s k nm a = 0) : zAb (renP p) s' k (if k = 3 then zfa nm N else nm) a = 0 := by
 unfold zAb at hz ⊢
 by_cases k3 : k = 3
 ·simp only [k3, if_true] at hz ⊢
  split at hz
  ·cases hz
  ·rename_i hf
   obtain ⟨v, r, v', r', _, e, _⟩ := h.find hN hf
   rw [e]; simp
 simp only [k3, if_false] at hz ⊢
 by_cases k6 : k = 6
 ·simp only [k6, if_true] at hz ⊢; exact hz
 simp only [k6, if_false] at hz ⊢
 by_cases k7 : k = 7
 ·simp only [k7, if_true] at hz ⊢
  rw [ren_func]
  cases hf : zIb p nm with
  | none => rw [hf] at hz; cases hz
  | some f =>
   rw [hf] at hz
   simp only [Option.map_some] at hz ⊢
   have hl := (zob f.params [] 0).1
   show (if (zx f.params [] 0).1.length = a then (0 : Int) else 51) = 0
   rw [hl]; exact hz
 ·simp only [k7, if_false]
theorem made_typ {k o : Int} {nm : List UInt8} {a : Nat} (hz : zAb p s k nm a = 0) (l : List Int) : zed (renP p) s' k o (if k = 3 then zfa nm N else nm) l = zed p s k o nm l := by
 unfold zed
 by_cases k2 : k = 2
 ·simp only [k2, if_true]
 simp only [k2, if_false]
 by_cases k3 : k = 3
 ·simp only [k3, if_true]
  unfold zAb at hz
  simp only [k3, if_true] at hz
  split at hz
  ·cases hz
  ·rename_i hf
   obtain ⟨v, r, v', r', e1, e, e2, _⟩ := h.find hN hf
   rw [e, e1]; simp [e2]
 simp only [k3, if_false]
 rw [ren_func]
 by_cases k7 : k = 7
 ·subst k7
  cases zIb p nm with
  | none => rfl
  | some f =>
   have ht := pars_types f.params [] 0
   simp only [Option.map_some]
   have e : (renF f).params.map (·.type) = f.params.map (·.type) := ht
   rw [e]
   rfl
 ·simp only [k7, if_false]
mutual
theorem expr_typ : ∀ (e : Expr), (zqb p s e).2 = 0 -> zqb (renP p) s' (renE N e) = zqb p s e
 | ⟨k, o, n, nm, ar⟩, hz => by
  rw [zqb] at hz ⊢
  split at hz
  ·rename_i h1; exact absurd hz h1
  rename_i h1
  split at hz
  ·rename_i h2; exact absurd hz h2
  rename_i h2
  have h1' : zAb p s k nm ar.length = 0 := by simpa using h1
  have h2' : (zDa p s ar).2 = 0 := by simpa using h2
  have ha := args_typ ar h2'
  rw [renE, zqb, zZc, named_typ h hN h1', ha, made_typ h hN h1', if_neg (by simp), if_neg h2, if_neg h1]
theorem args_typ : ∀ (l : List Expr), (zDa p s l).2 = 0 -> zDa (renP p) s' (zX N l) = zDa p s l
 | [], _ => by rw [zX, zDa, zDa]
 | x :: r, hz => by
  rw [zDa] at hz ⊢
  split at hz
  ·rename_i h1; exact absurd hz h1
  rename_i h1
  split at hz
  ·rename_i h2; exact absurd hz h2
  rename_i h2
  have e1 := expr_typ x (by simpa using h1)
  have e2 := args_typ r (by simpa using h2)
  rw [zX, zDa, e1, e2, if_neg h1, if_neg h2]
end
theorem zYd {e : Expr} {t : Int} (hz : zsc p s e t = 0) : zsc (renP p) s' (renE N e) t = 0 := by
 unfold zsc at hz ⊢
 split at hz
 ·rename_i h1; exact absurd hz h1
 rename_i h1
 rw [expr_typ h hN e (by simpa using h1), if_neg h1]
 exact hz
end
theorem RV.fresh {N : Nm} {s s' : List Vr} (h : RV N s s') {c : Nat} (hN : NI N c) (hc : c < 9000000000000) : zta s' (newN c) = [] := by
 refine findV_none ?_
 rw [<- h.news]
 intro hm
 obtain ⟨i, hi, he⟩ := hN.2 _ hm
 have := newN_inj (by omega) (by omega) he
 omega
theorem stmt_typ {p : Prog} {N : Nm} {s s' : List Vr} {c : Nat} (h : RV N s s') (hN : NI N c) (hc : c < 9000000000000) {res k t d : Int} {nm : List UInt8} {ar : List Expr} {loop : Bool} (hz : stmtT p res s k t nm ar d loop = 0) :
  stmtT (renP p) res s' k t (if k = 1 \/ k = 2 then zfa nm (if k = 1 then (nm, newN c) :: N else N) else nm) (zX N ar) d loop = 0 := by
 unfold stmtT at hz ⊢
 rw [ren_arg0]
 by_cases k1 : k = 4 \/ k = 5
 ·rw [if_pos k1] at hz ⊢; exact zYd h hN.1 hz
 rw [if_neg k1] at hz ⊢
 by_cases k2 : k = 8
 ·rw [if_pos k2] at hz ⊢; exact zYd h hN.1 hz
 rw [if_neg k2] at hz ⊢
 by_cases k3 : k = 9
 ·rw [if_pos k3] at hz ⊢; exact zYd h hN.1 hz
 rw [if_neg k3] at hz ⊢
 by_cases k4 : k = 10
 ·rw [if_pos k4] at hz ⊢; rw [expr_typ h hN.1 _ hz]; exact hz
 rw [if_neg k4] at hz ⊢
 by_cases k5 : k = 6 \/ k = 7
 ·rw [if_pos k5] at hz ⊢; exact hz
 rw [if_neg k5] at hz ⊢
 unfold boundT at hz ⊢
 rw [ren_arg0, ren_arg1]
 by_cases q1 : k = 1
 ·subst q1
  simp only [if_true, true_or] at hz ⊢
  split at hz
  ·rename_i h1; exact absurd hz h1
  rename_i h1
  have hf : zfa nm ((nm, newN c) :: N) = newN c := by simp [zfa]
  rw [if_neg (by rw [zYd h hN.1 (by simpa using h1)]; simp), hf, h.fresh hN hc]
 simp only [q1, if_false, false_or] at hz ⊢
 by_cases q2 : k = 2
 ·subst q2
  simp only [if_true] at hz ⊢
  have hf : zta s nm ≠ [] := by intro e; rw [e] at hz; cases hz
  obtain ⟨v, r, v', r', e1, e2, e3, _⟩ := h.find hN.1 hf
  rw [e1] at hz
  rw [e2]
  simp only at hz ⊢
  rw [e3]
  exact zYd h hN.1 hz
 simp only [q2, if_false] at hz ⊢
 have ha : zPc (renP p) nm = zPc p nm := rfl
 rw [ha]
 split at hz
 ·cases hz
 rename_i h3
 rw [if_neg h3]
 split at hz
 ·rename_i h4; exact absurd hz h4
 rename_i h4
 rw [if_neg (by rw [zYd h hN.1 (by simpa using h4)]; simp)]
 exact zYd h hN.1 hz
mutual
theorem block1_typ {p : Prog} {res : Int} : ∀ (x : Stmt) (N : Nm) (c : Nat) (s s' : List Vr) (d : Int) (loop : Bool) (n n' : Int), RV N s s' -> NI N c -> c + wtS x <= 4000000000000 -> (zLb p res x s d loop n).1 = 0 -> (zLb (renP p) res (renS x N c).1 s' d loop n').1 = 0
 | ⟨k, t, nm, ar, th, el⟩, N, c, s, s', d, loop, n, n', h, hN, hc, hz => by
  have hw := zOa ⟨k, t, nm, ar, th, el⟩
  simp only at hw
  rw [zLb] at hz
  simp only [renS]
  rw [zLb]
  split at hz
  ·rename_i h1; exact absurd hz h1
  rename_i h1
  rw [if_neg (by rw [stmt_typ h hN (by omega) (by simpa using h1)]; simp)]
  simp only at hz ⊢
  have hb := zTb th (if k = 1 then (nm, newN c) :: N else N) (if k = 1 then c + 1 else c)
  have hc1 : (if k = 1 then c + 1 else c) <= c + 1 := by split <;> omega
  have hN1 : NI (if k = 1 then (nm, newN c) :: N else N) (if k = 1 then c + 1 else c) := by
   split
   ·exact hN.next (by omega) nm
   ·exact hN
  have h1 : RV (if k = 1 then (nm, newN c) :: N else N) (if k = 1 then ⟨nm, t, d⟩ :: s else s) (if k = 1 then ⟨if k = 1 \/ k = 2 then zfa nm (if k = 1 then (nm, newN c) :: N else N) else nm, t, d⟩ :: s' else s') := by
   by_cases k1 : k = 1
   ·subst k1
    simp only [if_true, true_or]
    have hf : zfa nm ((nm, newN c) :: N) = newN c := by simp [zfa]
    rw [hf]
    exact .cons _ _ _ _ h
   ·simp only [k1, if_false]; exact h
  generalize (if k = 1 then Vr.mk nm t d :: s else s) = s1 at *
  generalize (if k = 1 then Vr.mk (if k = 1 \/ k = 2 then zfa nm (if k = 1 then (nm, newN c) :: N else N) else nm) t d :: s' else s') = s1' at *
  split at hz
  ·rename_i h2; exact absurd hz h2
  rename_i h2
  have e1 := blockT_typ (p := p) (res := res) th _ _ _ _ (d + 1) (loop || decide (k = 5)) (n + 1) (n' + 1) h1 hN1 (by omega) (by simpa using h2)
  rw [if_neg (by rw [e1]; simp)]
  exact blockT_typ el _ _ _ _ (d + 1) loop _ _ h1 (hN1.le hb.2.1) (by omega) hz
theorem blockT_typ {p : Prog} {res : Int} : ∀ (l : List Stmt) (N : Nm) (c : Nat) (s s' : List Vr) (d : Int) (loop : Bool) (n n' : Int), RV N s s' -> NI N c -> c + wtSs l <= 4000000000000 -> (zT p res l s d loop n).1 = 0 -> (zT (renP p) res (renB l N c).1 s' d loop n').1 = 0
 | [], N, c, s, s', d, loop, n, n', _, _, _, _ => by simp [renB, zT]
 | x :: r, N, c, s, s', d, loop, n, n', h, hN, hc, hz => by
  have hw : wtSs (x :: r) = 1 + wtS x + wtSs r := rfl
  have hb := renS_bd x N c
  rw [zXb] at hz
  split at hz
  ·rename_i h1; exact absurd hz h1
  rename_i h1
  have e1 := block1_typ (p := p) (res := res) x N c s s' d loop n n' h hN (by omega) (by simpa using h1)
  simp only [renB]
  rw [zXb, if_neg (by rw [e1]; simp)]
  have h2 : RV (renS x N c).2.1 (zga d x s) (zga d (renS x N c).1 s') := by
   obtain ⟨k, t, nm, ar, th, el⟩ := x
   simp only [renS, zga]
   by_cases k1 : k = 1
   ·subst k1
    simp only [if_true, true_or]
    have hf : zfa nm ((nm, newN c) :: N) = newN c := by simp [zfa]
    rw [hf]
    exact .cons _ _ _ _ h
   ·simp only [k1, if_false]; exact h
  exact blockT_typ r _ _ _ _ d loop _ _ h2 (ni_ren x N c hN (by omega)) (by omega) hz
end
end PE.U

namespace PE.U
open Go PE
theorem pars_news : ∀ (ps : List Par) (N : Nm) (c : Nat), (zx ps N c).2.1.map (·.2) = ((zx ps N c).1.map (·.name)).reverse ++ N.map (·.2)
 | [], N, c => by simp [zx]
 | x :: r, N, c => by
  have := pars_news r ((x.name, newN c) :: N) (c + 1)
  simp only [zx, this]
  simp
theorem pars_rv : ∀ (ps : List Par) (N : Nm) (c : Nat) (s s' : List Vr), RV N s s' -> RV (zx ps N c).2.1 (ps.foldl (fun s p => ⟨p.name, p.type, 0⟩ :: s) s) ((zx ps N c).1.foldl (fun s p => ⟨p.name, p.type, 0⟩ :: s) s')
 | [], N, c, s, s', h => by simpa [zx] using h
 | x :: r, N, c, s, s', h => by
  have := pars_rv r ((x.name, newN c) :: N) (c + 1) _ _ (.cons x.name (newN c) x.type 0 h)
  simpa [zx] using this
theorem func_ren (p : Prog) (hz : PSz p) (f : Func) (hf : f ∈ p.funcs) (h : (zUa p f).1 = 0) : (zUa (renP p) (renF f)).1 = 0 := by
 have hzf := hz.2.2 f hf
 have hl := zob f.params [] 0
 have hn := ni_pars f.params [] 0 ⟨by simp, fun x h => by simp at h⟩ (by omega)
 unfold zUa at h ⊢
 have ht : twiceM (renF f).params = false := by
  unfold twiceM
  have := hn.1
  rw [pars_news] at this
  simp only [List.map_nil, List.append_nil] at this
  have this := (List.reverse_perm _).nodup_iff.1 this
  show (!decide (((zx f.params [] 0).1.map (·.name)).Nodup)) = false
  rw [decide_eq_true this]; rfl
 rw [ht]
 split at h
 ·cases h
 simp only at h ⊢
 have he : zVb (renF f).body = zVb f.body := endsT_ren f.body _ _
 have hrv := pars_rv f.params [] 0 [] [] .nil
 by_cases hb : (zT p f.type f.body (zS f.params) 1 false 0).1 = 0
 ·have hb' : (zT (renP p) f.type (renF f).body (zS (renF f).params) 1 false 0).1 = 0 := blockT_typ f.body _ _ _ _ 1 false 0 0 hrv hn (by omega) hb
  rw [hb] at h
  show (if (zT (renP p) f.type (renF f).body (zS (renF f).params) 1 false 0).1 = 0 /\ zVb (renF f).body = false then 52 else (zT (renP p) f.type (renF f).body (zS (renF f).params) 1 false 0).1) = 0
  rw [hb', he]
  exact h
 ·simp [hb] at h
theorem checkGo_zero (q : Prog) : ∀ (l : List Func) (i : Int), (∀ f ∈ l, (zUa q f).1 = 0) -> (zWb q l i).1 = 0
 | [], _, _ => rfl
 | f :: r, i, h => by
  rw [zWb, if_neg (by rw [h f (by simp)]; simp)]
  exact checkGo_zero q r (i + 1) fun g hg => h g (by simp [hg])
theorem check_ren (p : Prog) (hz : PSz p) (h : (zdc p).1 = 0) : (zdc (renP p)).1 = 0 := by
 unfold zdc at h ⊢
 split at h
 case isFalse => cases h
 rename_i h1
 split at h
 case isFalse => cases h
 rename_i h2
 rw [if_pos (right_ren p hz h1), named_ren, if_pos h2]
 refine checkGo_zero _ _ _ fun g hg => ?_
 obtain ⟨f, hf, rfl⟩ := List.mem_map.1 hg
 exact func_ren p hz f hf (checkGo_ok p p.funcs 0 h f hf)
end PE.U

namespace PE.U
open Go PE
def NL (N : Nm) : Prop := ∀ x ∈ N.map (·.2), x.length <= 12
theorem newN_len {c : Nat} (h : c < 100000000000) : (newN c).length <= 12 := by
 have hl := digF_len2 20 11 c (by omega) (by simpa using h)
 unfold newN zBc
 simp only [List.length_cons]
 omega
theorem NI.short {N : Nm} {c : Nat} (h : NI N c) (hc : c < 100000000000) : NL N := by
 intro x hx
 obtain ⟨i, hi, rfl⟩ := h.2 x hx
 exact newN_len (by omega)
theorem findN_len {N : Nm} (hv : NL N) (nm : List UInt8) : 1 + (zfa nm N).length <= 13 * (1 + nm.length) := by
 induction N with
 | nil => simp only [zfa]; omega
 | cons x r ih =>
  unfold zfa
  split
  ·have := hv x.2 (by simp); omega
  ·exact ih fun y hy => hv y (by rw [List.map_cons, List.mem_cons]; exact .inr hy)
mutual
theorem wtE_ren {N : Nm} (hv : NL N) : ∀ (e : Expr), wtE (renE N e) <= 13 * wtE e
 | ⟨k, o, n, nm, ar⟩ => by
  have h1 := wtEs_ren hv ar
  have h2 := findN_len hv nm
  rw [renE, wtE, wtE]
  split <;> omega
theorem wtEs_ren {N : Nm} (hv : NL N) : ∀ (l : List Expr), wtEs (zX N l) <= 13 * wtEs l
 | [] => by rw [zX, wtEs]; omega
 | x :: r => by
  have h1 := wtE_ren hv x
  have h2 := wtEs_ren hv r
  rw [zX, wtEs, wtEs]; omega
end
mutual
theorem wtS_ren : ∀ (s : Stmt) (N : Nm) (c : Nat), NI N c -> c + wtS s < 100000000000 -> wtS (renS s N c).1 <= 13 * wtS s
 | ⟨k, ty, nm, ar, th, el⟩, N, c, hN, hc => by
  have hw := zOa ⟨k, ty, nm, ar, th, el⟩
  simp only at hw
  have hN1 : NI (if k = 1 then (nm, newN c) :: N else N) (if k = 1 then c + 1 else c) := by
   split
   ·exact hN.next (by omega) nm
   ·exact hN
  have hc1 : (if k = 1 then c + 1 else c) <= c + 1 := by split <;> omega
  have hb := zTb th (if k = 1 then (nm, newN c) :: N else N) (if k = 1 then c + 1 else c)
  have h1 := wtEs_ren (hN.short (by omega)) ar
  have h2 := findN_len (hN1.short (by omega)) nm
  have h3 := wtSs_ren th _ _ hN1 (by omega)
  have h4 := wtSs_ren el _ _ (hN1.le hb.2.1) (by omega)
  simp only [renS]
  rw [wtS, hw]
  split <;> omega
theorem wtSs_ren : ∀ (l : List Stmt) (N : Nm) (c : Nat), NI N c -> c + wtSs l < 100000000000 -> wtSs (renB l N c).1 <= 13 * wtSs l
 | [], N, c, _, _ => by simp [renB, wtSs]
 | x :: r, N, c, hN, hc => by
  have hw : wtSs (x :: r) = 1 + wtS x + wtSs r := rfl
  have hb := renS_bd x N c
  have h1 := wtS_ren x N c hN (by omega)
  have h2 := wtSs_ren r _ _ (ni_ren x N c hN (by omega)) (by omega)
  simp only [renB]
  rw [wtSs, hw]
  omega
end
def PSm (p : Prog) : Prop := p.arrays.length < 1099509000000 /\ p.funcs.length < 1099509000000 /\ ∀ f ∈ p.funcs, wtSs f.body <= 80008000128 /\ f.params.length <= 6400164
theorem psz_ren (p : Prog) (h : PSm p) : PSz (renP p) := by
 obtain ⟨h1, h2, h3⟩ := h
 refine ⟨h1, by show (p.funcs.map renF).length < _; simpa using h2, ?_⟩
 intro g hg
 obtain ⟨f, hf, rfl⟩ := List.mem_map.1 hg
 have hl := zob f.params [] 0
 have hb := h3 f hf
 have hw := wtSs_ren f.body _ _ (ni_pars f.params [] 0 ⟨by simp, fun x h => by simp at h⟩ (by omega)) (by omega)
 refine ⟨?_, ?_⟩
 ·show wtSs (renB f.body (zx f.params [] 0).2.1 (zx f.params [] 0).2.2).1 < _
  omega
 ·show (zx f.params [] 0).1.length < _
  omega
end PE.U

namespace PE.U
open Go PE
def left (T : List Tok) (p : PS) : Nat := T.length - p.at'
def Fw (p q : PS) : Prop := p.at' <= q.at' /\ (zLa p = true -> zLa q = true)
theorem Fw.refl (p : PS) : Fw p p := ⟨Nat.le_refl _, id⟩
theorem Fw.trans {p q r : PS} (a : Fw p q) (b : Fw q r) : Fw p r := ⟨Nat.le_trans a.1 b.1, fun h => b.2 (a.2 h)⟩
theorem zQ (p : PS) : Fw p (adv p) := ⟨Nat.le_succ _, id⟩
theorem zq (T : List Tok) (s : List UInt8) (p : PS) : Fw p (zxa T s p) := by
 unfold zxa
 split
 ·exact ⟨Nat.le_succ _, id⟩
 ·split
  ·exact Fw.refl _
  ·exact ⟨Nat.le_refl _, fun _ => rfl⟩
theorem zzc (T : List Tok) (k : Int) (p : PS) : Fw p (zaa T k p).2 := by
 unfold zaa
 split
 ·exact Fw.refl _
 ·split
  ·exact ⟨Nat.le_succ _, id⟩
  ·exact ⟨Nat.le_refl _, fun _ => rfl⟩
theorem fw_typed (T : List Tok) (p : PS) : Fw p (zca T p).2 := by
 unfold zca
 split
 ·exact zQ p
 ·exact zq T _ p
theorem fw_deepF (d : Int) (p : PS) : Fw p (deepF d p) := by
 unfold deepF
 split
 ·split
  ·exact Fw.refl _
  ·exact ⟨Nat.le_refl _, fun _ => by simp [zLa]⟩
 ·exact Fw.refl _
theorem fw_deepS (d : Int) (p : PS) : Fw p (deepS d p) := by
 unfold deepS
 split
 ·exact ⟨Nat.le_refl _, fun _ => by simp [zLa]⟩
 ·exact Fw.refl _
theorem zjb {T : List Tok} {p : PS} {s : List UInt8} (I : Inv1 T p) (h : isF T s p = true) : left T (adv p) + 1 = left T p := by
 have := I.lt
 unfold left adv; simp only; omega
theorem zCa {T : List Tok} {p q : PS} (h : Fw p q) : left T q <= left T p := by
 unfold left; have := h.1; omega
structure Enough (T : List Tok) (n : Nat) : Prop where
 primary : ∀ d p, Inv1 T p -> 64 * left T p + 1 <= n -> ∃ v p', zFc T n d p = some (v, p') /\ Inv1 T p' /\ Fw p p'
 unary : ∀ d p, Inv1 T p -> 64 * left T p + 2 <= n -> ∃ v p', unaryF T n d p = some (v, p') /\ Inv1 T p' /\ Fw p p'
 expr : ∀ (k : Nat) L d p, Inv1 T p -> L = 11 - (k : Int) -> k <= 10 -> 64 * left T p + 3 + 2 * k <= n -> ∃ v p', znc T n L d p = some (v, p') /\ Inv1 T p' /\ Fw p p'
 loop : ∀ (k : Nat) L d a p, Inv1 T p -> L = 11 - (k : Int) -> 1 <= k -> k <= 10 -> 64 * left T p + 2 + 2 * k <= n -> ∃ v p', zSa T n L d a p = some (v, p') /\ Inv1 T p' /\ Fw p p'
 args : ∀ d p, Inv1 T p -> 64 * left T p + 26 <= n -> ∃ v p', argsF T n d p = some (v, p') /\ Inv1 T p' /\ Fw p p'
 al : ∀ d l (f : Bool) p, Inv1 T p -> 64 * left T p + 24 + f.toNat <= n -> ∃ v p', zka T n d l f p = some (v, p') /\ Inv1 T p' /\ Fw p p'
theorem enough_of {T : List Tok} {n : Nat} (E : Enough T n) : Enough T (n + 1) := by
 refine ⟨?_, ?_, ?_, ?_, ?_, ?_⟩
 ·intro d p I h
  simp only [zFc]
  split
  ·exact ⟨_, _, rfl, I, Fw.refl _⟩
  split
  ·rename_i hc
   have hl := zjb I hc
   obtain ⟨v, p', e, I', F⟩ := E.expr 10 1 (d + 1) (adv p) (I.adv _ hc) (by omega) (by omega) (by omega)
   rw [e]
   exact ⟨_, _, rfl, I'.must _, ((zQ p).trans F).trans (zq _ _ _)⟩
  split
  ·rename_i hc; exact ⟨_, _, rfl, I.adv _ hc, zQ p⟩
  split
  ·rename_i hc; exact ⟨_, _, rfl, I.adv _ hc, zQ p⟩
  split
  ·rename_i hc; exact ⟨_, _, rfl, ((I.adv _ hc).must _).must _, ((zQ p).trans (zq _ _ _)).trans (zq _ _ _)⟩
  split
  ·rename_i hc; exact ⟨_, _, rfl, I.next (by rw [hc]; decide) _ _, zQ p⟩
  have I1 := I.text 1 (by decide)
  have F1 := zzc T 1 p
  have hl1 := zCa (T := T) F1
  split
  ·rename_i hc
   have hl := zjb I1 hc
   obtain ⟨v, p', e, I', F⟩ := E.args (d + 1) _ (I1.adv _ hc) (by omega)
   rw [e]
   exact ⟨_, _, rfl, I', (F1.trans (zQ _)).trans F⟩
  split
  ·rename_i hc
   have hl := zjb I1 hc
   obtain ⟨v, p', e, I', F⟩ := E.expr 10 1 (d + 1) _ (I1.adv _ hc) (by omega) (by omega) (by omega)
   rw [e]
   exact ⟨_, _, rfl, I'.must _, ((F1.trans (zQ _)).trans F).trans (zq _ _ _)⟩
  exact ⟨_, _, rfl, I1, F1⟩
 ·intro d p I h
  simp only [unaryF]
  have I1 := I.deepF d
  have F1 := fw_deepF d p
  have hl1 := zCa (T := T) F1
  cases hu : unF T (deepF d p) with
  | none =>
   simp only
   obtain ⟨v, p', e, I', F⟩ := E.primary d _ I1 (by omega)
   exact ⟨v, p', e, I', F1.trans F⟩
  | some i =>
   simp only
   have hi : isF T (signR ((i + 20 : Nat) : Int)) (deepF d p) = true := (unF_get hu).2.1
   have hl := zjb I1 hi
   split
   ·have F2 := zq T [40] (adv (deepF d p))
    have hl2 := zCa (T := T) F2
    obtain ⟨v, p', e, I', F⟩ := E.expr 10 1 (d + 1) _ ((I1.adv _ hi).must [40]) (by omega) (by omega) (by omega)
    rw [e]
    exact ⟨_, _, rfl, I'.must _, (((F1.trans (zQ _)).trans F2).trans F).trans (zq _ _ _)⟩
   ·obtain ⟨v, p', e, I', F⟩ := E.unary (d + 1) _ (I1.adv _ hi) (by omega)
    rw [e]
    exact ⟨_, _, rfl, I', (F1.trans (zQ _)).trans F⟩
 ·intro k L d p I hL hk h
  simp only [znc]
  split
  ·exact E.unary d p I (by omega)
  ·rename_i h10
   obtain ⟨v, p', e, I', F⟩ := E.expr (k - 1) (L + 1) d p I (by omega) (by omega) (by omega)
   rw [e]
   have hl := zCa (T := T) F
   obtain ⟨v2, p2, e2, I2, F2⟩ := E.loop k L d v p' I' hL (by omega) hk (by omega)
   exact ⟨v2, p2, e2, I2, F.trans F2⟩
 ·intro k L d a p I hL hk1 hk h
  simp only [zSa]
  split
  ·exact ⟨_, _, rfl, I, Fw.refl _⟩
  ·rename_i hne
   obtain ⟨s, hs⟩ := opF_pos hne
   have hl := zjb I hs
   obtain ⟨v, p', e, I', F⟩ := E.expr (k - 1) (L + 1) d (adv p) (I.adv _ hs) (by omega) (by omega) (by omega)
   rw [e]
   have hl2 := zCa (T := T) F
   obtain ⟨v2, p2, e2, I2, F2⟩ := E.loop k L d _ p' I' hL hk1 hk (by omega)
   exact ⟨v2, p2, e2, I2, ((zQ p).trans F).trans F2⟩
 ·intro d p I h
  simp only [argsF]
  split
  ·rename_i hc; exact ⟨_, _, rfl, I.adv _ hc, zQ p⟩
  ·obtain ⟨v, p', e, I', F⟩ := E.al d [] true p I (by simp; omega)
   rw [e]
   exact ⟨_, _, rfl, I'.must _, F.trans (zq _ _ _)⟩
 ·intro d l f p I h
  simp only [zka]
  have fin : ∀ q : PS, Inv1 T q -> Fw p q -> 64 * left T q + 24 <= n -> ∃ v p', (if zLa q then some (l, q) else match znc T n 1 d q with | none => none | some x => zka T n d (l ++ [x.1]) false x.2) = some (v, p') /\ Inv1 T p' /\ Fw p p' := by
   intro q Iq Fq hq
   split
   ·exact ⟨_, _, rfl, Iq, Fq⟩
   ·obtain ⟨v, p', e, I', F⟩ := E.expr 10 1 d q Iq (by omega) (by omega) (by omega)
    rw [e]
    have hl := zCa (T := T) F
    obtain ⟨v2, p2, e2, I2, F2⟩ := E.al d (l ++ [v]) false p' I' (by simp; omega)
    exact ⟨v2, p2, e2, I2, (Fq.trans F).trans F2⟩
  cases f
  ·cases c2 : isF T [44] p
   ·exact ⟨l, p, rfl, I, Fw.refl _⟩
   ·have hl := zjb I c2
    replace h : 64 * left T p + 24 <= n + 1 := by simpa using h
    have hh := fin (adv p) (I.adv _ c2) (zQ p) (by omega)
    exact hh
  ·simp at h
   have hh := fin p I (Fw.refl _) (by omega)
   exact hh
theorem enough (T : List Tok) : ∀ n, Enough T n
 | 0 => ⟨fun _ _ _ h => by omega, fun _ _ _ h => by omega, fun _ _ _ _ _ _ _ h => by omega, fun _ _ _ _ _ _ _ _ _ h => by omega, fun _ _ _ h => by omega, fun _ _ _ _ _ h => by omega⟩
 | n + 1 => enough_of (enough T n)
end PE.U

namespace PE.U
open Go PE
theorem zac {T : List Tok} {n : Nat} {p : PS} (I : Inv1 T p) (h : 64 * left T p + 23 <= n) : ∃ v p', znc T n 1 1 p = some (v, p') /\ Inv1 T p' /\ Fw p p' :=
 (enough T n).expr 10 1 1 p I (by omega) (by omega) (by omega)
theorem zge {T : List Tok} {n : Nat} {p : PS} (I : Inv1 T p) (h : 64 * left T p + 23 <= n) : ∃ v p', zhe T n p = some (v, p') /\ Inv1 T p' /\ Fw p p' := by
 unfold zhe
 have hl := zCa (T := T) (zq T [40] p)
 obtain ⟨v, p', e, I', F⟩ := zac (n := n) (I.must [40]) (by omega)
 rw [e]
 exact ⟨_, _, rfl, I'.must _, ((zq _ _ _).trans F).trans (zq _ _ _)⟩
def Go1 (p q : PS) : Prop := p.at' < q.at' \/ zLa q = true
theorem text_go {T : List Tok} {k : Int} {p : PS} : Go1 p (zaa T k p).2 := by
 unfold zaa
 split
 ·rename_i h; exact Or.inr h
 ·split
  ·exact Or.inl (Nat.lt_succ_self _)
  ·exact Or.inr (by simp [zLa])
theorem must_go {T : List Tok} {s : List UInt8} {p : PS} : Go1 p (zxa T s p) := by
 unfold zxa
 split
 ·exact Or.inl (Nat.lt_succ_self _)
 ·split
  ·rename_i h; exact Or.inr (by simp [zLa, h])
  ·exact Or.inr (by simp [zLa])
theorem typed_go {T : List Tok} {p : PS} : Go1 p (zca T p).2 := by
 unfold zca
 split
 ·exact Or.inl (Nat.lt_succ_self _)
 ·exact must_go
theorem adv_go (p : PS) : Go1 p (adv p) := Or.inl (Nat.lt_succ_self _)
theorem Go1.fw {p q r : PS} (h : Go1 p q) (f : Fw q r) : Go1 p r := by
 rcases h with h | h
 ·exact Or.inl (Nat.lt_of_lt_of_le h f.1)
 ·exact Or.inr (f.2 h)
theorem Fw.go {p q r : PS} (f : Fw p q) (h : Go1 q r) : Go1 p r := by
 rcases h with h | h
 ·exact Or.inl (Nat.lt_of_le_of_lt f.1 h)
 ·exact Or.inr h
theorem named_enough {T : List Tok} {n : Nat} {p : PS} (I : Inv1 T p) (h : 64 * left T p + 26 <= n) : ∃ v p', namedF T n p = some (v, p') /\ Inv1 T p' /\ Fw p p' /\ Go1 p p' := by
 unfold namedF
 have I1 := I.text 1 (by decide)
 have F1 := zzc T 1 p
 have G1 := text_go (T := T) (k := 1) (p := p)
 have hl1 := zCa (T := T) F1
 split
 ·rename_i hc
  have hl := zjb I1 hc
  obtain ⟨v, p', e, I', F⟩ := (enough T n).args 2 _ (I1.adv _ hc) (by omega)
  rw [e]
  exact ⟨_, _, rfl, I', (F1.trans (zQ _)).trans F, G1.fw ((zQ _).trans F)⟩
 split
 ·rename_i hc
  have hl := zjb I1 hc
  obtain ⟨v, p', e, I', F⟩ := zac (n := n) (I1.adv _ hc) (by omega)
  rw [e]
  simp only
  have F2 := (zq T [93] p').trans (zq T [61] _)
  have hl2 := zCa (T := T) F
  have hl3 := zCa (T := T) F2
  obtain ⟨v2, p2, e2, I2, F3⟩ := zac (n := n) ((I'.must [93]).must [61]) (by omega)
  rw [e2]
  exact ⟨_, _, rfl, I2, (((F1.trans (zQ _)).trans F).trans F2).trans F3, G1.fw ((((zQ _).trans F).trans F2).trans F3)⟩
 ·have F2 := zq T [61] (zaa T 1 p).2
  have hl3 := zCa (T := T) F2
  obtain ⟨v2, p2, e2, I2, F3⟩ := zac (n := n) (I1.must [61]) (by omega)
  rw [e2]
  exact ⟨_, _, rfl, I2, (F1.trans F2).trans F3, G1.fw (F2.trans F3)⟩
structure EnoughS (T : List Tok) (n : Nat) : Prop where
 stmt : ∀ d p, Inv1 T p -> 64 * left T p + 28 <= n -> ∃ v p', stmtF T n d p = some (v, p') /\ Inv1 T p' /\ Fw p p' /\ Go1 p p'
 block : ∀ d l p, Inv1 T p -> 64 * left T p + 30 <= n -> ∃ v p', zBb T n d l p = some (v, p') /\ Inv1 T p' /\ Fw p p'
 over : ∀ d l p, Inv1 T p -> 1 <= n -> zLa p = true -> ∃ v p', zBb T n d l p = some (v, p') /\ Inv1 T p' /\ Fw p p'
theorem enoughS_of {T : List Tok} {n : Nat} (E : EnoughS T n) : EnoughS T (n + 1) := by
 refine ⟨?_, ?_, ?_⟩
 ·intro d p I0 h
  simp only [stmtF]
  have I := I0.deepS d
  have F0 := fw_deepS d p
  have hl0 := zCa (T := T) F0
  generalize deepS d p = q at *
  have fin : ∀ r, Fw q r -> Go1 q r -> Fw p r /\ Go1 p r := fun r a b => ⟨F0.trans a, F0.go b⟩
  split
  ·have G1 := typed_go (T := T) (p := q)
   have F1 := ((fw_typed T q).trans (zzc T 1 _)).trans (zq T [61] _)
   have hl := zCa (T := T) F1
   obtain ⟨v, p', e, I', F⟩ := zac (n := n) ((I.typed.text 1 (by decide)).must [61]) (by omega)
   rw [e]
   have := fin _ ((F1.trans F).trans (zq T [59] _)) (G1.fw ((((zzc T 1 _).trans (zq T [61] _)).trans F).trans (zq T [59] _)))
   exact ⟨_, _, rfl, I'.must _, this.1, this.2⟩
  split
  ·rename_i hc
   have hl := zjb I hc
   obtain ⟨v, p', e, I', F⟩ := zge (n := n) (I.adv _ hc) (by omega)
   rw [e]
   simp only
   have F2 := F.trans (zq T [123] p')
   have hl2 := zCa (T := T) F2
   obtain ⟨v2, p2, e2, I2, F3⟩ := E.block (d + 1) [] _ (I'.must [123]) (by omega)
   rw [e2]
   simp only
   have hl3 := zCa (T := T) F3
   split
   ·rename_i hc2
    have hl4 := zjb I2 hc2
    have F4 := (zQ p2).trans (zq T [123] _)
    have hl5 := zCa (T := T) (zq T [123] (adv p2))
    obtain ⟨v3, p3, e3, I3, F5⟩ := E.block (d + 1) [] _ ((I2.adv _ hc2).must [123]) (by omega)
    rw [e3]
    have := fin _ (((((zQ q).trans F2).trans F3).trans F4).trans F5) ((adv_go q).fw (((F2.trans F3).trans F4).trans F5))
    exact ⟨_, _, rfl, I3, this.1, this.2⟩
   ·have := fin _ (((zQ q).trans F2).trans F3) ((adv_go q).fw (F2.trans F3))
    exact ⟨_, _, rfl, I2, this.1, this.2⟩
  split
  ·rename_i hc
   have hl := zjb I hc
   obtain ⟨v, p', e, I', F⟩ := zge (n := n) (I.adv _ hc) (by omega)
   rw [e]
   simp only
   have F2 := F.trans (zq T [123] p')
   have hl2 := zCa (T := T) F2
   obtain ⟨v2, p2, e2, I2, F3⟩ := E.block (d + 1) [] _ (I'.must [123]) (by omega)
   rw [e2]
   have := fin _ (((zQ q).trans F2).trans F3) ((adv_go q).fw (F2.trans F3))
   exact ⟨_, _, rfl, I2, this.1, this.2⟩
  split
  ·rename_i hc
   have := fin _ ((zQ q).trans (zq T [59] _)) ((adv_go q).fw (zq T [59] _))
   exact ⟨_, _, rfl, (I.adv _ hc).must _, this.1, this.2⟩
  split
  ·rename_i hc
   have := fin _ ((zQ q).trans (zq T [59] _)) ((adv_go q).fw (zq T [59] _))
   exact ⟨_, _, rfl, (I.adv _ hc).must _, this.1, this.2⟩
  split
  ·rename_i hc
   have hl := zjb I hc
   obtain ⟨v, p', e, I', F⟩ := zac (n := n) (I.adv _ hc) (by omega)
   rw [e]
   have := fin _ (((zQ q).trans F).trans (zq T [59] _)) ((adv_go q).fw (F.trans (zq T [59] _)))
   exact ⟨_, _, rfl, I'.must _, this.1, this.2⟩
  split
  ·rename_i hc
   have hl := zjb I hc
   obtain ⟨v, p', e, I', F⟩ := zge (n := n) (I.adv _ hc) (by omega)
   rw [e]
   have := fin _ (((zQ q).trans F).trans (zq T [59] _)) ((adv_go q).fw (F.trans (zq T [59] _)))
   exact ⟨_, _, rfl, I'.must _, this.1, this.2⟩
  ·obtain ⟨v, p', e, I', F, G⟩ := named_enough (n := n) I (by omega)
   rw [e]
   have := fin _ (F.trans (zq T [59] _)) (G.fw (zq T [59] _))
   exact ⟨_, _, rfl, I'.must _, this.1, this.2⟩
 ·intro d l p I h
  simp only [zBb]
  split
  ·exact ⟨_, _, rfl, I, Fw.refl _⟩
  split
  ·rename_i hc; exact ⟨_, _, rfl, I.adv _ hc, zQ p⟩
  ·obtain ⟨v, p', e, I', F, G⟩ := E.stmt d p I (by omega)
   rw [e]
   simp only
   rcases G with hg | hg
   ·have hl : left T p' + 1 <= left T p := by
     have := I'.lt; have := I.lt; unfold left; omega
    obtain ⟨v2, p2, e2, I2, F2⟩ := E.block d (l ++ [v]) p' I' (by omega)
    exact ⟨v2, p2, e2, I2, F.trans F2⟩
   ·obtain ⟨v2, p2, e2, I2, F2⟩ := E.over d (l ++ [v]) p' I' (by omega) hg
    exact ⟨v2, p2, e2, I2, F.trans F2⟩
 ·intro d l p I h ho
  simp only [zBb]
  rw [if_pos ho]
  exact ⟨_, _, rfl, I, Fw.refl _⟩
theorem enoughS (T : List Tok) : ∀ n, EnoughS T n
 | 0 => ⟨fun _ _ _ h => by omega, fun _ _ _ _ h => by omega, fun _ _ _ _ h => by omega⟩
 | n + 1 => enoughS_of (enoughS T n)
end PE.U

namespace PE.U
open Go PE
theorem params_enough {T : List Tok} : ∀ n l (f : Bool) p, Inv1 T p -> left T p + 2 + f.toNat <= n -> ∃ v p', zYa T n l f p = some (v, p') /\ Inv1 T p' /\ Fw p p' := by
 intro n
 induction n with
 | zero => intro l f p _ h; omega
 | succ n ih =>
  intro l f p I h
  simp only [zYa]
  have ov : ∀ l q, Inv1 T q -> zLa q = true -> 1 <= n -> ∃ v p', zYa T n l false q = some (v, p') /\ Inv1 T p' /\ Fw q p' := by
   intro l q Iq ho hn
   obtain ⟨n, rfl⟩ : ∃ m, n = m + 1 := ⟨n - 1, by omega⟩
   have hc : isF T [44] q = false := by unfold isF; rw [ho]; rfl
   refine ⟨l, q, ?_, Iq, Fw.refl _⟩
   simp [zYa, hc]
  have fin : ∀ q : PS, Inv1 T q -> Fw p q -> left T q + 2 <= n -> ∃ v p', (if zLa q then some (l, q) else zYa T n (l ++ [⟨(zaa T 1 (zca T q).2).1, (zca T q).1⟩]) false (zaa T 1 (zca T q).2).2) = some (v, p') /\ Inv1 T p' /\ Fw p p' := by
   intro q Iq Fq hq
   split
   ·exact ⟨_, _, rfl, Iq, Fq⟩
   ·have F := (fw_typed T q).trans (zzc T 1 _)
    have hl := zCa (T := T) F
    have I2 := Iq.typed.text 1 (by decide)
    obtain ⟨v2, p2, e2, I3, F2⟩ := ih (l ++ [⟨(zaa T 1 (zca T q).2).1, (zca T q).1⟩]) false _ I2 (by simp; omega)
    exact ⟨v2, p2, e2, I3, (Fq.trans F).trans F2⟩
  cases f
  ·cases c2 : isF T [44] p
   ·exact ⟨l, p, rfl, I, Fw.refl _⟩
   ·have hl := zjb I c2
    replace h : left T p + 2 <= n + 1 := by simpa using h
    have hh := fin (adv p) (I.adv _ c2) (zQ p) (by omega)
    exact hh
  ·replace h : left T p + 2 + 1 <= n + 1 := by simpa using h
   have hh := fin p I (Fw.refl _) (by omega)
   exact hh
theorem function_enough {T : List Tok} {n : Nat} {t : Int} {s : List UInt8} {p : PS} (I : Inv1 T p) (h : 64 * left T p + 30 <= n) : ∃ v p', zjd T n t s p = some (v, p') /\ Inv1 T p' /\ Fw p p' := by
 unfold zjd
 have I1 := I.must [40]
 have F1 := zq T [40] p
 have hl1 := zCa (T := T) F1
 split
 ·rename_i hc
  have F2 := (zQ (zxa T [40] p)).trans (zq T [123] _)
  have hl2 := zCa (T := T) F2
  obtain ⟨v, p', e, I', F⟩ := (enoughS T n).block 1 [] _ ((I1.adv _ hc).must [123]) (by omega)
  rw [e]
  exact ⟨_, _, rfl, I', (F1.trans F2).trans F⟩
 ·obtain ⟨v, p', e, I', F⟩ := params_enough n [] true _ I1 (by simp; omega)
  rw [e]
  simp only
  have F2 := (zq T [41] p').trans (zq T [123] _)
  have hl2 := zCa (T := T) F
  have hl3 := zCa (T := T) F2
  obtain ⟨v2, p2, e2, I2, F3⟩ := (enoughS T n).block 1 [] _ ((I'.must [41]).must [123]) (by omega)
  rw [e2]
  exact ⟨_, _, rfl, I2, ((F1.trans F).trans F2).trans F3⟩
theorem prog_enough {T : List Tok} : ∀ n ars fs p, Inv1 T p -> 64 * left T p + 31 <= n \/ (zLa p = true /\ 1 <= n) -> ∃ v p', progF T n ars fs p = some (v, p') /\ Inv1 T p' := by
 intro n
 induction n with
 | zero => intro ars fs p _ h; omega
 | succ n ih =>
  intro ars fs p I h
  simp only [progF]
  split
  ·exact ⟨_, _, rfl, I⟩
  rename_i hno
  replace h : 64 * left T p + 31 <= n + 1 := by
   rcases h with h | h
   ·exact h
   ·exact absurd h.1 hno
  split
  ·exact ⟨_, _, rfl, I⟩
  have G1 := typed_go (T := T) (p := p)
  have I2 := I.typed.text 1 (by decide)
  have F1 := (fw_typed T p).trans (zzc T 1 _)
  have G2 : Go1 p (zaa T 1 (zca T p).2).2 := G1.fw (zzc T 1 _)
  have hl := zCa (T := T) F1
  have nx : ∀ q, Inv1 T q -> Go1 p q -> 64 * left T q + 31 <= n \/ (zLa q = true /\ 1 <= n) := by
   intro q Iq G
   rcases G with g | g
   ·left
    have := Iq.lt; have := I.lt; unfold left at *; omega
   ·exact Or.inr ⟨g, by omega⟩
  split
  ·rename_i hc
   have I3 := (((I2.adv _ hc.2.2).text 0 (by decide)).must [93]).must [59]
   exact ih _ _ _ I3 (nx _ I3 (G2.fw ((((zQ _).trans (zzc T 0 _)).trans (zq T [93] _)).trans (zq T [59] _))))
  ·obtain ⟨v, p', e, I', F⟩ := function_enough (n := n) (t := (zca T p).1) (s := (zaa T 1 (zca T p).2).1) I2 (by omega)
   rw [e]
   exact ih _ _ _ I' (nx _ I' (G2.fw F))
end PE.U

namespace PE.U
open Go PE
def TokOK (t : Tok) : Prop := t.kind = 0 -> digs t.text = true /\ t.text.length < 1000000
theorem tokGo_ok : ∀ n (q : List UInt8) line acc, q.length < n -> q.length <= 100000 -> (∀ t ∈ acc, TokOK t) -> (zab n q line acc).2.1 = 0 →
  (∀ t ∈ (zab n q line acc).1, TokOK t) /\ (zab n q line acc).1.length <= acc.length + q.length + 1 /\ 0 < (zab n q line acc).1.length /\ ∃ t, (zab n q line acc).1[(zab n q line acc).1.length - 1]? = some t /\ t.kind = 3 := by
 intro n
 induction n with
 | zero => intro q line acc h; omega
 | succ n ih =>
  intro q line acc hq hs ha h0
  cases q with
  | nil =>
   simp only [zab]
   refine ⟨?_, by simp, by simp, ⟨3, [], line⟩, by simp, rfl⟩
   intro t ht
   rcases List.mem_append.1 ht with h | h
   ·exact ha t h
   ·rw [List.mem_singleton.1 h]; intro h; exact absurd h (by simp)
  | cons b r =>
   simp only [List.length_cons] at hq hs
   have mono : ∀ (q' : List UInt8) line' acc', q'.length <= r.length -> acc'.length + q'.length <= acc.length + r.length + 1 -> (∀ t ∈ acc', TokOK t) -> (zab n q' line' acc').2.1 = 0 →
     (∀ t ∈ (zab n q' line' acc').1, TokOK t) /\ (zab n q' line' acc').1.length <= acc.length + (b :: r).length + 1 /\ 0 < (zab n q' line' acc').1.length /\ ∃ t, (zab n q' line' acc').1[(zab n q' line' acc').1.length - 1]? = some t /\ t.kind = 3 := by
    intro q' line' acc' h1 h2 h3 h4
    obtain ⟨x1, x2, x3, x4⟩ := ih q' line' acc' (by omega) (by omega) h3 h4
    exact ⟨x1, by simp only [List.length_cons]; omega, x3, x4⟩
   simp only [zab] at h0 ⊢
   split at h0
   ·rename_i c; rw [if_pos c]; exact mono r _ _ (Nat.le_refl _) (by omega) ha h0
   rename_i c; rw [if_neg c]
   split at h0
   ·rename_i c; rw [if_pos c]; exact mono r _ _ (Nat.le_refl _) (by omega) ha h0
   rename_i c; rw [if_neg c]
   split at h0
   ·rename_i c; rw [if_pos c]
    have hl : ((b :: r).dropWhile (· != 10)).length <= r.length := by
     rw [List.dropWhile_cons, c.1]
     simp only [show ((47 : UInt8) != 10) = true from rfl, if_true]
     rw [zAc, List.length_drop]; omega
    exact mono _ _ _ hl (by omega) ha h0
   rename_i c; rw [if_neg c]
   split at h0
   ·rename_i c; rw [if_pos c]
    split at h0
    ·exact absurd h0 (by simp)
    rename_i c2; rw [if_neg c2]
    have hw : 0 < ((b :: r).takeWhile zB).length := by rw [List.takeWhile_cons, c]; simp
    have hw2 := (List.takeWhile_prefix (l := b :: r) (p := zB)).length_le
    simp only [List.length_cons] at hw2
    refine mono _ _ _ (by rw [List.length_drop]; simp only [List.length_cons]; omega) (by rw [List.length_drop]; simp only [List.length_cons, List.length_append, List.length_nil]; omega) ?_ h0
    intro t ht
    rcases List.mem_append.1 ht with h | h
    ·exact ha t h
    ·rw [List.mem_singleton.1 h]
     intro hk
     simp only at hk
     refine ⟨?_, by simp only; omega⟩
     simp only [tokBad, hk, Bool.or_eq_true, Bool.and_eq_true, decide_eq_true_eq, Bool.not_eq_true', not_or, not_and, Bool.not_eq_false] at c2
     have := c2.2 trivial
     simp only [zId, Bool.and_eq_true] at this
     exact this.1
   rename_i c; rw [if_neg c]
   split at h0
   ·exact absurd h0 (by simp)
   rename_i c2; rw [if_neg c2]
   have hp : 0 < (zMd (b :: r)).length := List.length_pos_iff.2 c2
   have hp2 := sign_len (b :: r)
   simp only [List.length_cons] at hp2
   refine mono _ _ _ (by rw [List.length_drop]; simp only [List.length_cons]; omega) (by rw [List.length_drop]; simp only [List.length_cons, List.length_append, List.length_nil]; omega) ?_ h0
   intro t ht
   rcases List.mem_append.1 ht with h | h
   ·exact ha t h
   ·rw [List.mem_singleton.1 h]; intro h; exact absurd h (by simp)
theorem tokens_inv (s : List UInt8) (h : (zF s).2.1 = 0) : Inv1 (zF s).1 ⟨0, false, false⟩ := by
 unfold zF at h ⊢
 split at h
 ·exact absurd h (by decide)
 rename_i hs
 rw [if_neg hs]
 obtain ⟨x1, x2, x3, x4⟩ := tokGo_ok (s.length + 1) s 1 [] (by omega) (by omega) (by simp) h
 exact ⟨x3, x4, by simp at x2; omega, x1⟩
def fuel (l : List Tok) : Nat := 64 * l.length + 100
def zbb (s : List UInt8) : Prog × Int × Int :=
 if (zF s).2.1 = 0 then
  match progF (zF s).1 (fuel (zF s).1) [] [] ⟨0, false, false⟩ with
  | none => (⟨[], []⟩, 0, 0)
  | some q =>
   if q.2.deep then (⟨[], []⟩, 2, (tk (zF s).1 q.2.at').line)
   else if q.2.bad then (⟨[], []⟩, 20, (tk (zF s).1 q.2.at').line)
   else if zzb q.1 then (q.1, 0, 0) else (⟨[], []⟩, 2, 0)
 else (⟨[], []⟩, (zF s).2.1, (zF s).2.2)
end PE.U

namespace PE.U
open Go PE
def Short (T : List Tok) (M : Nat) : Prop := 8 <= M /\ ∀ t ∈ T, t.text.length + 8 <= M
theorem short_text {T : List Tok} {M : Nat} {k : Int} {p : PS} (I : Inv1 T p) (h : Short T M) : (zaa T k p).1.length + 8 <= M := by
 unfold zaa
 split
 ·simpa using h.1
 ·split
  ·refine h.2 _ ?_
   rw [<- tk_get' I.lt]; exact List.getElem_mem I.lt
  ·simpa using h.1
def wa (M : Nat) (p : PS) : Nat := M * p.at'
theorem zgc (M : Nat) (p : PS) : wa M (adv p) = wa M p + M := Nat.mul_succ _ _
theorem zec {M : Nat} {p q : PS} (h : Fw p q) : wa M p <= wa M q := Nat.mul_le_mul_left _ h.1
structure Light (T : List Tok) (M n : Nat) : Prop where
 primary : ∀ d p v p', Inv1 T p -> zFc T n d p = some (v, p') -> Inv1 T p' /\ Fw p p' /\ wtE v + 2 * wa M p <= 2 * wa M p' + M
 unary : ∀ d p v p', Inv1 T p -> unaryF T n d p = some (v, p') -> Inv1 T p' /\ Fw p p' /\ wtE v + 2 * wa M p <= 2 * wa M p' + M
 expr : ∀ L d p v p', Inv1 T p -> znc T n L d p = some (v, p') -> Inv1 T p' /\ Fw p p' /\ wtE v + 2 * wa M p <= 2 * wa M p' + M
 loop : ∀ L d a p v p', Inv1 T p -> zSa T n L d a p = some (v, p') -> ∀ k : Nat, wtE a + k <= 2 * wa M p + M -> Inv1 T p' /\ Fw p p' /\ wtE v + k <= 2 * wa M p' + M
 args : ∀ d p v p', Inv1 T p -> argsF T n d p = some (v, p') -> Inv1 T p' /\ Fw p p' /\ wtEs v + 2 * wa M p <= 2 * wa M p' + 2 * M
 al : ∀ d l (f : Bool) p v p', Inv1 T p -> zka T n d l f p = some (v, p') -> ∀ k : Nat, wtEs l + k <= 2 * wa M p + (if f then 0 else 2 * M) -> Inv1 T p' /\ Fw p p' /\ wtEs v + k <= 2 * wa M p' + 2 * M
theorem light_of {T : List Tok} {M n : Nat} (hS : Short T M) (E : Light T M n) : Light T M (n + 1) := by
 have h8 := hS.1
 refine ⟨?_, ?_, ?_, ?_, ?_, ?_⟩
 ·intro d p v p' I h
  simp only [zFc] at h
  split at h
  ·cases h; exact ⟨I, Fw.refl _, by simp [wtE, wtEs]; omega⟩
  split at h
  ·rename_i hc
   split at h
   ·cases h
   ·rename_i q hq
    cases h
    obtain ⟨I', F, W⟩ := E.expr _ _ _ _ _ (I.adv _ hc) hq
    have := zgc M p
    have := zec (M := M) (zq T [41] q.2)
    exact ⟨I'.must _, ((zQ p).trans F).trans (zq _ _ _), by omega⟩
  split at h
  ·rename_i hc; cases h
   have := zgc M p
   exact ⟨I.adv _ hc, zQ p, by simp [wtE, wtEs]; omega⟩
  split at h
  ·rename_i hc; cases h
   have := zgc M p
   exact ⟨I.adv _ hc, zQ p, by simp [wtE, wtEs]; omega⟩
  split at h
  ·rename_i hc; cases h
   have F := ((zQ p).trans (zq T [40] _)).trans (zq T [41] _)
   have := zec (M := M) F
   exact ⟨((I.adv _ hc).must _).must _, F, by simp [wtE, wtEs]; omega⟩
  split at h
  ·rename_i hc; cases h
   have := zgc M p
   exact ⟨I.next (by rw [hc]; decide) _ _, zQ p, by simp [wtE, wtEs]; omega⟩
  have I1 := I.text 1 (by decide)
  have F1 := zzc T 1 p
  have w1 := zec (M := M) F1
  have hs := short_text (k := 1) I hS
  split at h
  ·rename_i hc
   split at h
   ·cases h
   ·rename_i q hq
    cases h
    obtain ⟨I', F, W⟩ := E.args _ _ _ _ (I1.adv _ hc) hq
    have := zgc M (zaa T 1 p).2
    exact ⟨I', (F1.trans (zQ _)).trans F, by simp only [wtE]; omega⟩
  split at h
  ·rename_i hc
   split at h
   ·cases h
   ·rename_i q hq
    cases h
    obtain ⟨I', F, W⟩ := E.expr _ _ _ _ _ (I1.adv _ hc) hq
    have := zgc M (zaa T 1 p).2
    have := zec (M := M) (zq T [93] q.2)
    exact ⟨I'.must _, ((F1.trans (zQ _)).trans F).trans (zq _ _ _), by simp only [wtE, wtEs]; omega⟩
  ·cases h
   exact ⟨I1, F1, by simp only [wtE, wtEs]; omega⟩
 ·intro d p v p' I h
  simp only [unaryF] at h
  have I1 := I.deepF d
  have F1 := fw_deepF d p
  have w1 := zec (M := M) F1
  cases hu : unF T (deepF d p) with
  | none =>
   rw [hu] at h
   obtain ⟨I', F, W⟩ := E.primary _ _ _ _ I1 h
   exact ⟨I', F1.trans F, by omega⟩
  | some i =>
   rw [hu] at h
   simp only at h
   have hi : isF T (signR ((i + 20 : Nat) : Int)) (deepF d p) = true := (unF_get hu).2.1
   have := zgc M (deepF d p)
   split at h
   ·split at h
    ·cases h
    ·rename_i q hq
     cases h
     have F2 := zq T [40] (adv (deepF d p))
     have := zec (M := M) F2
     obtain ⟨I', F, W⟩ := E.expr _ _ _ _ _ ((I1.adv _ hi).must _) hq
     have := zec (M := M) (zq T [41] q.2)
     exact ⟨I'.must _, (((F1.trans (zQ _)).trans F2).trans F).trans (zq _ _ _), by simp only [wtE, wtEs, List.length_nil]; omega⟩
   ·split at h
    ·cases h
    ·rename_i q hq
     cases h
     obtain ⟨I', F, W⟩ := E.unary _ _ _ _ (I1.adv _ hi) hq
     exact ⟨I', (F1.trans (zQ _)).trans F, by simp only [wtE, wtEs, List.length_nil]; omega⟩
 ·intro L d p v p' I h
  simp only [znc] at h
  split at h
  ·exact E.unary _ _ _ _ I h
  ·split at h
   ·cases h
   ·rename_i q hq
    obtain ⟨I', F, W⟩ := E.expr _ _ _ _ _ I hq
    obtain ⟨I2, F2, W2⟩ := E.loop _ _ _ _ _ _ I' h (2 * wa M p) W
    exact ⟨I2, F.trans F2, W2⟩
 ·intro L d a p v p' I h k hk
  simp only [zSa] at h
  split at h
  ·cases h; exact ⟨I, Fw.refl _, hk⟩
  ·rename_i hne
   obtain ⟨s, hs⟩ := opF_pos hne
   have := zgc M p
   split at h
   ·cases h
   ·rename_i q hq
    obtain ⟨I', F, W⟩ := E.expr _ _ _ _ _ (I.adv _ hs) hq
    obtain ⟨I2, F2, W2⟩ := E.loop _ _ _ _ _ _ I' h k (by simp only [wtE, wtEs, List.length_nil]; omega)
    exact ⟨I2, ((zQ p).trans F).trans F2, W2⟩
 ·intro d p v p' I h
  simp only [argsF] at h
  split at h
  ·rename_i hc; cases h
   have := zgc M p
   exact ⟨I.adv _ hc, zQ p, by simp only [wtEs]; omega⟩
  ·split at h
   ·cases h
   ·rename_i q hq
    cases h
    obtain ⟨I', F, W⟩ := E.al _ _ _ _ _ _ I hq (2 * wa M p) (by simp [wtEs])
    have := zec (M := M) (zq T [41] q.2)
    exact ⟨I'.must _, F.trans (zq _ _ _), by omega⟩
 ·intro d l f p v p' I h k hk
  simp only [zka] at h
  have fin : ∀ q : PS, Inv1 T q -> Fw p q -> wtEs l + k + (if f then 0 else M + 1) <= 2 * wa M q + (if f then 0 else M + 1) -> (f = false -> wtEs l + k <= 2 * wa M q) -> (if zLa q then some (l, q) else match znc T n 1 d q with | none => none | some x => zka T n d (l ++ [x.1]) false x.2) = some (v, p') -> Inv1 T p' /\ Fw p p' /\ wtEs v + k <= 2 * wa M p' + 2 * M := by
   intro q Iq Fq hq hq2 h
   have hq3 : wtEs l + k <= 2 * wa M q := by cases f <;> simp at hq <;> omega
   split at h
   ·cases h; exact ⟨Iq, Fq, by omega⟩
   ·split at h
    ·cases h
    ·rename_i x hx
     obtain ⟨I', F, W⟩ := E.expr _ _ _ _ _ Iq hx
     obtain ⟨I2, F2, W2⟩ := E.al _ _ _ _ _ _ I' h k (by rw [wtEs_append]; simp [wtEs]; omega)
     exact ⟨I2, (Fq.trans F).trans F2, W2⟩
  cases f
  ·cases c2 : isF T [44] p
   ·rw [c2] at h
    simp at h hk
    obtain ⟨rfl, rfl⟩ := h
    exact ⟨I, Fw.refl _, by omega⟩
   ·have := zgc M p
    rw [c2] at h
    simp at hk
    exact fin (adv p) (I.adv _ c2) (zQ p) (by simp; omega) (fun _ => by omega) h
  ·simp at hk
   exact fin p I (Fw.refl _) (by simp; omega) (fun h => by cases h) h
theorem light {T : List Tok} {M : Nat} (hS : Short T M) : ∀ n, Light T M n
 | 0 => ⟨fun _ _ _ _ _ h => by simp [zFc] at h, fun _ _ _ _ _ h => by simp [unaryF] at h, fun _ _ _ _ _ _ h => by simp [znc] at h, fun _ _ _ _ _ _ _ h => by simp [zSa] at h, fun _ _ _ _ _ h => by simp [argsF] at h, fun _ _ _ _ _ _ _ h => by simp [zka] at h⟩
 | n + 1 => light_of hS (light hS n)
end PE.U

namespace PE.U
open Go PE
section
variable {T : List Tok} {M : Nat}
theorem light1 (hS : Short T M) {n : Nat} {p p' : PS} {v : Expr} (I : Inv1 T p) (h : znc T n 1 1 p = some (v, p')) : Inv1 T p' /\ Fw p p' /\ wtE v + 2 * wa M p <= 2 * wa M p' + M := (light hS n).expr _ _ _ _ _ I h
theorem lightI (hS : Short T M) {n : Nat} {p p' : PS} {v : Expr} (I : Inv1 T p) (h : zhe T n p = some (v, p')) : Inv1 T p' /\ Fw p p' /\ wtE v + 2 * wa M p <= 2 * wa M p' + M := by
 unfold zhe at h
 split at h
 ·cases h
 ·rename_i q hq
  cases h
  obtain ⟨I', F, W⟩ := light1 hS (I.must _) hq
  have := zec (M := M) (zq T [40] p)
  have := zec (M := M) (zq T [41] q.2)
  exact ⟨I'.must _, ((zq _ _ _).trans F).trans (zq _ _ _), by omega⟩
theorem lightN (hS : Short T M) {n : Nat} {p p' : PS} {v : Stmt} (I : Inv1 T p) (h : namedF T n p = some (v, p')) : Inv1 T p' /\ Fw p p' /\ wtS v + 2 * wa M p <= 2 * wa M p' + 3 * M := by
 unfold namedF at h
 have h8 := hS.1
 have I1 := I.text 1 (by decide)
 have F1 := zzc T 1 p
 have w1 := zec (M := M) F1
 have hs := short_text (k := 1) I hS
 split at h
 ·rename_i hc
  split at h
  ·cases h
  ·rename_i q hq
   cases h
   obtain ⟨I', F, W⟩ := (light hS n).args _ _ _ _ (I1.adv _ hc) hq
   have := zgc M (zaa T 1 p).2
   exact ⟨I', (F1.trans (zQ _)).trans F, by simp only [wtS, wtE, wtEs, wtSs, List.length_nil]; omega⟩
 split at h
 ·rename_i hc
  split at h
  ·cases h
  ·rename_i q hq
   obtain ⟨I', F, W⟩ := light1 hS (I1.adv _ hc) hq
   have := zgc M (zaa T 1 p).2
   have F2 := (zq T [93] q.2).trans (zq T [61] _)
   have := zec (M := M) F2
   split at h
   ·cases h
   ·rename_i r hr
    cases h
    obtain ⟨I2, F3, W2⟩ := light1 hS ((I'.must [93]).must [61]) hr
    exact ⟨I2, (((F1.trans (zQ _)).trans F).trans F2).trans F3, by simp only [wtS, wtE, wtEs, wtSs, List.length_nil]; omega⟩
 ·split at h
  ·cases h
  ·rename_i q hq
   cases h
   obtain ⟨I', F, W⟩ := light1 hS (I1.must _) hq
   have := zec (M := M) (zq T [61] (zaa T 1 p).2)
   exact ⟨I', (F1.trans (zq _ _ _)).trans F, by simp only [wtS, wtE, wtEs, wtSs, List.length_nil]; omega⟩
end
end PE.U

namespace PE.U
open Go PE
def ovM (M : Nat) (p : PS) : Nat := if zLa p then 8 * M else 0
theorem ovM_le (M : Nat) (p : PS) : ovM M p <= 8 * M := by unfold ovM; split <;> omega
theorem ovM_fw {M : Nat} {p q : PS} (h : Fw p q) : ovM M p <= ovM M q := by
 unfold ovM
 cases ho : zLa p
 ·simp
 ·rw [h.2 ho]; exact Nat.le_refl _
theorem go_wa {M : Nat} {p q : PS} (h : Go1 p q) : wa M p + M <= wa M q \/ ovM M q = 8 * M := by
 rcases h with h | h
 ·left
  unfold wa
  have := Nat.mul_le_mul_left M h
  rw [Nat.mul_succ] at this
  exact this
 ·right
  unfold ovM; rw [if_pos h]
theorem named_go {T : List Tok} {M n : Nat} {p p' : PS} {v : Stmt} (hS : Short T M) (I : Inv1 T p) (h : namedF T n p = some (v, p')) : Go1 p p' := by
 unfold namedF at h
 have I1 := I.text 1 (by decide)
 have F1 := zzc T 1 p
 have G1 := text_go (T := T) (k := 1) (p := p)
 split at h
 ·rename_i hc
  split at h
  ·cases h
  ·rename_i q hq
   cases h
   obtain ⟨I', F, W⟩ := (light hS n).args _ _ _ _ (I1.adv _ hc) hq
   exact G1.fw ((zQ _).trans F)
 split at h
 ·rename_i hc
  split at h
  ·cases h
  ·rename_i q hq
   obtain ⟨I', F, W⟩ := light1 hS (I1.adv _ hc) hq
   have F2 := (zq T [93] q.2).trans (zq T [61] _)
   split at h
   ·cases h
   ·rename_i r hr
    cases h
    obtain ⟨I2, F3, W2⟩ := light1 hS ((I'.must [93]).must [61]) hr
    exact G1.fw ((((zQ _).trans F).trans F2).trans F3)
 ·split at h
  ·cases h
  ·rename_i q hq
   cases h
   obtain ⟨I', F, W⟩ := light1 hS (I1.must _) hq
   exact G1.fw ((zq _ _ _).trans F)
structure LightS (T : List Tok) (M n : Nat) : Prop where
 stmt : ∀ d p v p', Inv1 T p -> stmtF T n d p = some (v, p') -> Inv1 T p' /\ Fw p p' /\ wtS v + 1 + 8 * wa M p <= 8 * wa M p' + ovM M p'
 block : ∀ d l p v p', Inv1 T p -> zBb T n d l p = some (v, p') -> ∀ k : Nat, wtSs l + k <= 8 * wa M p + ovM M p -> Inv1 T p' /\ Fw p p' /\ wtSs v + k <= 8 * wa M p' + ovM M p'
theorem lightS_of {T : List Tok} {M n : Nat} (hS : Short T M) (E : LightS T M n) : LightS T M (n + 1) := by
 have h8 := hS.1
 refine ⟨?_, ?_⟩
 ·intro d p v p' I0 h
  simp only [stmtF] at h
  have I := I0.deepS d
  have F0 := fw_deepS d p
  have w0 : wa M (deepS d p) = wa M p := by unfold wa deepS; split <;> rfl
  generalize deepS d p = q at *
  -- something is taken, and what is made weighs little
  have fin : ∀ r : PS, Fw q r -> Go1 q r -> ∀ W : Nat, W + 2 * wa M q <= 2 * wa M r + 4 * M -> Fw p r /\ W + 1 + 8 * wa M p <= 8 * wa M r + ovM M r := by
   intro r F G W hW
   refine ⟨F0.trans F, ?_⟩
   have := zec (M := M) F
   rcases go_wa (M := M) G with g | g <;> omega
  split at h
  ·have G1 := typed_go (T := T) (p := q)
   have Ft := (fw_typed T q).trans (zzc T 1 _)
   have F1 := Ft.trans (zq T [61] _)
   have hs := short_text (k := 1) I.typed hS
   split at h
   ·cases h
   ·rename_i x hx
    cases h
    obtain ⟨I', F, W⟩ := light1 hS ((I.typed.text 1 (by decide)).must [61]) hx
    have F2 := zq T [59] x.2
    have := zec (M := M) F1
    have := zec (M := M) F2
    have := fin _ ((F1.trans F).trans F2) (G1.fw ((((zzc T 1 _).trans (zq T [61] _)).trans F).trans F2)) (wtS ⟨1, (zca T q).1, (zaa T 1 (zca T q).2).1, [x.1], [], []⟩) (by simp only [wtS, wtEs, wtSs]; omega)
    exact ⟨I'.must _, this.1, this.2⟩
  split at h
  ·rename_i hc
   have wadv := zgc M q
   split at h
   ·cases h
   ·rename_i x hx
    obtain ⟨I', F, W⟩ := lightI hS (I.adv _ hc) hx
    have F2 := zq T [123] x.2
    have w2 := zec (M := M) F2
    have w1 := zec (M := M) F
    split at h
    ·cases h
    ·rename_i y hy
     obtain ⟨I2, F3, W3⟩ := E.block _ _ _ _ _ (I'.must [123]) hy (8 * wa M (zxa T [123] x.2) + ovM M (zxa T [123] x.2)) (by simp [wtSs])
     split at h
     ·rename_i hc2
      split at h
      ·cases h
      ·rename_i z hz
       cases h
       have F4 := (zQ y.2).trans (zq T [123] _)
       have w4 := zec (M := M) F4
       have o4 := ovM_fw (M := M) F4
       obtain ⟨I3, F5, W5⟩ := E.block _ _ _ _ _ ((I2.adv _ hc2).must [123]) hz (8 * wa M (zxa T [123] (adv y.2)) + ovM M (zxa T [123] (adv y.2))) (by simp [wtSs])
       have w5 := zec (M := M) F5
       have w3 := zec (M := M) F3
       exact ⟨I3, F0.trans ((((((zQ q).trans F).trans F2).trans F3).trans F4).trans F5), by simp only [wtS, wtEs, List.length_nil]; omega⟩
     ·cases h
      have w3 := zec (M := M) F3
      exact ⟨I2, F0.trans ((((zQ q).trans F).trans F2).trans F3), by simp only [wtS, wtEs, wtSs, List.length_nil]; omega⟩
  split at h
  ·rename_i hc
   have wadv := zgc M q
   split at h
   ·cases h
   ·rename_i x hx
    obtain ⟨I', F, W⟩ := lightI hS (I.adv _ hc) hx
    have F2 := zq T [123] x.2
    have w2 := zec (M := M) F2
    have w1 := zec (M := M) F
    split at h
    ·cases h
    ·rename_i y hy
     obtain ⟨I2, F3, W3⟩ := E.block _ _ _ _ _ (I'.must [123]) hy (8 * wa M (zxa T [123] x.2) + ovM M (zxa T [123] x.2)) (by simp [wtSs])
     cases h
     have w3 := zec (M := M) F3
     exact ⟨I2, F0.trans ((((zQ q).trans F).trans F2).trans F3), by simp only [wtS, wtEs, wtSs, List.length_nil]; omega⟩
  split at h
  ·rename_i hc
   cases h
   have wadv := zgc M q
   have F2 := zq T [59] (adv q)
   have := zec (M := M) F2
   have := fin _ ((zQ q).trans F2) ((adv_go q).fw F2) (wtS ⟨6, 0, [], [], [], []⟩) (by simp only [wtS, wtEs, wtSs, List.length_nil]; omega)
   exact ⟨(I.adv _ hc).must _, this.1, this.2⟩
  split at h
  ·rename_i hc
   cases h
   have wadv := zgc M q
   have F2 := zq T [59] (adv q)
   have := zec (M := M) F2
   have := fin _ ((zQ q).trans F2) ((adv_go q).fw F2) (wtS ⟨7, 0, [], [], [], []⟩) (by simp only [wtS, wtEs, wtSs, List.length_nil]; omega)
   exact ⟨(I.adv _ hc).must _, this.1, this.2⟩
  split at h
  ·rename_i hc
   have wadv := zgc M q
   split at h
   ·cases h
   ·rename_i x hx
    cases h
    obtain ⟨I', F, W⟩ := light1 hS (I.adv _ hc) hx
    have F2 := zq T [59] x.2
    have := zec (M := M) F2
    have := fin _ (((zQ q).trans F).trans F2) ((adv_go q).fw (F.trans F2)) (wtS ⟨8, 0, [], [x.1], [], []⟩) (by simp only [wtS, wtEs, wtSs, List.length_nil]; omega)
    exact ⟨I'.must _, this.1, this.2⟩
  split at h
  ·rename_i hc
   have wadv := zgc M q
   split at h
   ·cases h
   ·rename_i x hx
    cases h
    obtain ⟨I', F, W⟩ := lightI hS (I.adv _ hc) hx
    have F2 := zq T [59] x.2
    have := zec (M := M) F2
    have := fin _ (((zQ q).trans F).trans F2) ((adv_go q).fw (F.trans F2)) (wtS ⟨9, 0, [], [x.1], [], []⟩) (by simp only [wtS, wtEs, wtSs, List.length_nil]; omega)
    exact ⟨I'.must _, this.1, this.2⟩
  ·split at h
   ·cases h
   ·rename_i x hx
    cases h
    obtain ⟨I', F, W⟩ := lightN hS I hx
    have G := named_go hS I hx
    have F2 := zq T [59] x.2
    have := zec (M := M) F2
    have := fin _ (F.trans F2) (G.fw F2) (wtS x.1) (by omega)
    exact ⟨I'.must _, this.1, this.2⟩
 ·intro d l p v p' I h k hk
  simp only [zBb] at h
  split at h
  ·cases h; exact ⟨I, Fw.refl _, hk⟩
  rename_i hno
  have ho0 : ovM M p = 0 := by unfold ovM; rw [if_neg hno]
  split at h
  ·rename_i hc
   cases h
   have := zgc M p
   exact ⟨I.adv _ hc, zQ p, by omega⟩
  ·split at h
   ·cases h
   ·rename_i x hx
    obtain ⟨I', F, W⟩ := E.stmt _ _ _ _ I hx
    obtain ⟨I2, F2, W2⟩ := E.block _ _ _ _ _ I' h k (by rw [zrc]; simp only [wtSs]; omega)
    exact ⟨I2, F.trans F2, W2⟩
theorem lightS {T : List Tok} {M : Nat} (hS : Short T M) : ∀ n, LightS T M n
 | 0 => ⟨fun _ _ _ _ _ h => by simp [stmtF] at h, fun _ _ _ _ _ _ h => by simp [zBb] at h⟩
 | n + 1 => lightS_of hS (lightS hS n)
end PE.U

namespace PE.U
open Go PE
theorem tokGo_short (N : Nat) : ∀ n (q : List UInt8) line acc, q.length <= N -> (∀ t ∈ acc, t.text.length <= N) -> ∀ t ∈ (zab n q line acc).1, t.text.length <= N := by
 intro n
 induction n with
 | zero => intro q line acc hs ha; exact ha
 | succ n ih =>
  intro q line acc hs ha
  cases q with
  | nil =>
   simp only [zab]
   intro t ht
   rcases List.mem_append.1 ht with h | h
   ·exact ha t h
   ·rw [List.mem_singleton.1 h]; simp
  | cons b r =>
   simp only [List.length_cons] at hs
   simp only [zab]
   split
   ·exact ih _ _ _ (by omega) ha
   split
   ·exact ih _ _ _ (by omega) ha
   split
   ·refine ih _ _ _ ?_ ha
    rw [zAc, List.length_drop]; simp only [List.length_cons]; omega
   split
   ·split
    ·intro t ht; cases ht
    ·have hw2 := (List.takeWhile_prefix (l := b :: r) (p := zB)).length_le
     simp only [List.length_cons] at hw2
     refine ih _ _ _ (by rw [List.length_drop]; simp only [List.length_cons]; omega) ?_
     intro t ht
     rcases List.mem_append.1 ht with h | h
     ·exact ha t h
     ·rw [List.mem_singleton.1 h]; simp only; omega
   split
   ·intro t ht; cases ht
   ·have hp2 := sign_len (b :: r)
    simp only [List.length_cons] at hp2
    refine ih _ _ _ (by rw [List.length_drop]; simp only [List.length_cons]; omega) ?_
    intro t ht
    rcases List.mem_append.1 ht with h | h
    ·exact ha t h
    ·rw [List.mem_singleton.1 h]; simp only; omega
theorem tokens_short (s : List UInt8) : Short (zF s).1 100008 := by
 refine ⟨by decide, ?_⟩
 unfold zF
 split
 ·intro t ht; cases ht
 ·rename_i h
  intro t ht
  have := tokGo_short 100000 _ _ _ _ (by omega) (by simp) t ht
  omega
theorem tokens_count (s : List UInt8) (h : (zF s).2.1 = 0) : (zF s).1.length <= 100001 := by
 unfold zF at h ⊢
 split at h
 ·exact absurd h (by decide)
 rename_i hs
 rw [if_neg hs]
 obtain ⟨x1, x2, x3, x4⟩ := tokGo_ok (s.length + 1) s 1 [] (by omega) (by omega) (by simp) h
 simp at x2; omega
section
variable {T : List Tok} {M : Nat} (hS : Short T M)
theorem block_wt {n : Nat} {d : Int} {p p' : PS} {v : List Stmt} (hS : Short T M) (I : Inv1 T p) (h : zBb T n d [] p = some (v, p')) : wtSs v <= 8 * (M * T.length) + 8 * M := by
 obtain ⟨I', F, W⟩ := (lightS hS n).block _ _ _ _ _ I h (8 * wa M p + ovM M p) (by simp [wtSs])
 have := ovM_le M p'
 have h2 : wa M p' <= M * T.length := Nat.mul_le_mul_left _ (Nat.le_of_lt I'.lt)
 omega
theorem params_len : ∀ n l (f : Bool) p v p', zYa T n l f p = some (v, p') -> v.length <= l.length + n := by
 intro n
 induction n with
 | zero => intro l f p v p' h; simp [zYa] at h
 | succ n ih =>
  intro l f p v p' h
  simp only [zYa] at h
  by_cases hc : (f || isF T [44] p) = true
  ·rw [if_pos hc] at h
   generalize (if f = true then p else adv p) = q at h
   split at h
   ·cases h; omega
   ·have := ih _ _ _ _ _ h
    simp only [List.length_append, List.length_cons, List.length_nil] at this
    omega
  ·rw [if_neg hc] at h; cases h; omega
theorem function_wt {n : Nat} {t : Int} {s : List UInt8} {p p' : PS} {v : Func} (hS : Short T M) (I : Inv1 T p) (h : zjd T n t s p = some (v, p')) : wtSs v.body <= 8 * (M * T.length) + 8 * M /\ v.params.length <= n := by
 unfold zjd at h
 have I1 := I.must [40]
 split at h
 ·rename_i hc
  split at h
  ·cases h
  ·rename_i q hq
   cases h
   exact ⟨block_wt hS ((I1.adv _ hc).must _) hq, by simp⟩
 ·split at h
  ·cases h
  ·rename_i r hr
   have Ir := paramsF_inv _ _ _ _ _ _ hr I1
   have hl := params_len _ _ _ _ _ _ hr
   split at h
   ·cases h
   ·rename_i q hq
    cases h
    exact ⟨block_wt hS ((Ir.must _).must _) hq, by simpa using hl⟩
theorem prog_wt (hS : Short T M) : ∀ n ars fs p v p', n <= 999999980 -> Inv1 T p -> progF T n ars fs p = some (v, p') -> ∀ B : Nat, n <= B →
  (∀ f ∈ fs, wtSs f.body <= 8 * (M * T.length) + 8 * M /\ f.params.length <= B) →
  v.arrays.length <= ars.length + n /\ v.funcs.length <= fs.length + n /\ ∀ f ∈ v.funcs, wtSs f.body <= 8 * (M * T.length) + 8 * M /\ f.params.length <= B := by
 intro n
 induction n with
 | zero => intro ars fs p v p' _ I h; simp [progF] at h
 | succ n ih =>
  intro ars fs p v p' hn I h B hB hf
  simp only [progF] at h
  have I2 := I.typed.text 1 (by decide)
  split at h
  ·cases h; exact ⟨Nat.le_add_right _ _, Nat.le_add_right _ _, hf⟩
  split at h
  ·cases h; exact ⟨Nat.le_add_right _ _, Nat.le_add_right _ _, hf⟩
  split at h
  ·rename_i hc
   have I3 := (((I2.adv _ hc.2.2).text 0 (by decide)).must [93]).must [59]
   obtain ⟨a1, a2, a3⟩ := ih _ _ _ _ _ (by omega) I3 h B (by omega) hf
   simp only [List.length_append, List.length_cons, List.length_nil] at a1
   exact ⟨by omega, by omega, a3⟩
  ·split at h
   ·cases h
   ·rename_i q hq
    have I3 := (zie hq I2 (by omega)).2
    have hw := function_wt hS I2 hq
    obtain ⟨a1, a2, a3⟩ := ih _ _ _ _ _ (by omega) I3 h B (by omega) (by
     intro f hff
     rcases List.mem_append.1 hff with h' | h'
     ·exact hf f h'
     ·rw [List.mem_singleton.1 h']; exact ⟨hw.1, by omega⟩)
    simp only [List.length_append, List.length_cons, List.length_nil] at a2
    exact ⟨by omega, by omega, a3⟩
end
theorem parse_sz (s : List UInt8) (h0 : (zF s).2.1 = 0) {v : Prog} {p' : PS} (h : progF (zF s).1 (fuel (zF s).1) [] [] ⟨0, false, false⟩ = some (v, p')) : PSz v := by
 have I := tokens_inv s h0
 have hc := tokens_count s h0
 have hS := tokens_short s
 have hf : fuel (zF s).1 <= 6400164 := by unfold fuel; omega
 obtain ⟨a1, a2, a3⟩ := prog_wt hS _ _ _ _ _ _ (by omega) I h (fuel (zF s).1) (Nat.le_refl _) (by simp)
 simp only [List.length_nil] at a1 a2
 have hm : 100008 * (zF s).1.length <= 100008 * 100001 := Nat.mul_le_mul_left _ hc
 refine ⟨by omega, by omega, fun f hff => ?_⟩
 obtain ⟨b1, b2⟩ := a3 f hff
 exact ⟨by omega, by omega⟩
theorem parse_run (s : List UInt8) (h0 : (zF s).2.1 = 0) : ∃ v p', progF (zF s).1 (fuel (zF s).1) [] [] ⟨0, false, false⟩ = some (v, p') /\ Inv1 (zF s).1 p' /\ PSz v := by
 have I := tokens_inv s h0
 obtain ⟨v, p', e, I'⟩ := prog_enough (fuel (zF s).1) [] [] _ I (Or.inl (by unfold fuel left; omega))
 exact ⟨v, p', e, I', parse_sz s h0 e⟩
end PE.U

namespace PE.U
open Go PE
def zCd (r : Prog × Int × Int) : PV := .tup [zd r.1, .int .i64 r.2.1, .int .i64 r.2.2]
set_option maxHeartbeats 4000000 in
theorem parse_spec (s : List UInt8) : zi E 6 [.str s] [] = some (.ret (zCd (zbb s)), []) := by
 refine zc rfl rfl rfl (by simp) ?_
 have ht := tokens_spec s
 by_cases h0 : (zF s).2.1 = 0
 ·obtain ⟨v, p', e, I', hz⟩ := parse_run s h0
  have I := tokens_inv s h0
  have hf : fuel (zF s).1 <= 6400164 := by have := tokens_count s h0; unfold fuel; omega
  have hp := (prog_spec e I (by omega)).1
  have hr := right_spec v hz
  have hm : zbb s = if p'.deep then (⟨[], []⟩, 2, (tk (zF s).1 p'.at').line) else if p'.bad then (⟨[], []⟩, 20, (tk (zF s).1 p'.at').line) else if zzb v then (v, 0, 0) else (⟨[], []⟩, 2, 0) := by
   unfold zbb; rw [if_pos h0, e]
  have hg := tk_get I'.lt
  rw [hm]
  clear hm e hz I hf
  generalize zF s = tt at *
  obtain ⟨T, e0, ln⟩ := tt
  simp only at h0 hp hg ht I'
  subst h0
  have hlt := I'.lt
  clear I'
  obtain ⟨pa, pb, pd⟩ := p'
  obtain ⟨ars, fs⟩ := v
  simp [encTokR, toks, pob, zd, zva, funcs] at ht hp hr hg hlt
  cases pd
  ·cases pb
   ·cases hR : zzb ⟨ars, fs⟩
    ·rw [hR] at hr
     simp [*, F6, zCd, zd, zva, funcs]
    ·rw [hR] at hr
     simp [*, F6, zCd, zd, zva, funcs]
   ·clear hr
    simp [*, F6, zCd, zd, zva, funcs, zw]
    exact congrArg Tok.line (tk_get' hlt)
  ·clear hr
   simp [*, F6, zCd, zd, zva, funcs, zw]
   exact congrArg Tok.line (tk_get' hlt)
 ·have hm : zbb s = (⟨[], []⟩, (zF s).2.1, (zF s).2.2) := by unfold zbb; rw [if_neg h0]
  rw [hm]
  clear hm
  generalize zF s = tt at *
  obtain ⟨T, e0, ln⟩ := tt
  simp only at h0 ht
  simp [encTokR, toks] at ht
  replace h0 := eqn h0
  simp [*, F6, zCd, zd, zva, funcs]
end PE.U

namespace PE.U
open Go PE
theorem parse_psz (s : List UInt8) : PSz (zbb s).1 := by
 have h0 : PSz ⟨[], []⟩ := ⟨by simp, by simp, by simp⟩
 unfold zbb
 split
 ·rename_i h
  obtain ⟨v, p', e, I', hz⟩ := parse_run s h
  rw [e]
  simp only
  split
  ·exact h0
  split
  ·exact h0
  split
  ·exact hz
  ·exact h0
 ·exact h0
end PE.U

namespace PE.U
open Go PE
theorem parse_psm (s : List UInt8) : PSm (zbb s).1 := by
 have h0 : PSm ⟨[], []⟩ := ⟨by simp, by simp, by simp⟩
 unfold zbb
 split
 ·rename_i h
  obtain ⟨v, p', e, I', hz⟩ := parse_run s h
  rw [e]
  have hz2 : PSm v := by
   have I := tokens_inv s h
   have hc := tokens_count s h
   have hS := tokens_short s
   have hf : fuel (zF s).1 <= 6400164 := by unfold fuel; omega
   obtain ⟨a1, a2, a3⟩ := prog_wt hS _ _ _ _ _ _ (by omega) I e (fuel (zF s).1) (Nat.le_refl _) (by simp)
   have hm : 100008 * (zF s).1.length <= 100008 * 100001 := Nat.mul_le_mul_left _ hc
   refine ⟨hz.1, hz.2.1, fun f hff => ?_⟩
   obtain ⟨b1, b2⟩ := a3 f hff
   exact ⟨by omega, by omega⟩
  simp only
  split
  ·exact h0
  split
  ·exact h0
  split
  ·exact hz2
  ·exact h0
 ·exact h0
end PE.U

namespace PE.U
open Go PE
def u8s (l : List UInt8) : PV := .slice .plain 1 (l.map fun b => .int .u8 b.toNat)
section
variable (l : List UInt8)
@[simp high] theorem isVar_u8s : zG (u8s l) = true := Eq.trans rfl rfl
@[simp high] theorem strip_u8s : strip (u8s l) = u8s l := Eq.trans rfl rfl
@[simp high] theorem stripA_u8s : stripA (u8s l) = u8s l := Eq.trans rfl rfl
@[simp high] theorem bl_u8 (n : Nat) : zZ n (l.map fun b => PV.int .u8 b.toNat) = true := zDc _ _ _ (fun _ => rfl)
@[simp high] theorem below_u8s (n : Nat) : zI n (u8s l) = true := by simp [u8s]
end
theorem remNat (a b : Nat) : remK (a : Int) (b : Int) = ((a % b : Nat) : Int) := by rw [remK_eq]; rfl
def zMc : List (List UInt8) := [[120, 32, 61, 32, 49, 59], [105, 110, 116, 32, 121, 32, 61, 32, 120, 59], [98, 111, 111, 108, 32, 98, 32, 61, 32, 120, 32, 60, 32, 50, 59], [98, 32, 61, 32, 33, 98, 59], [97, 91, 120, 93, 32, 61, 32, 121, 59], [105, 102, 32, 40, 98, 41, 32, 123], [125, 32, 101, 108, 115, 101, 32, 123], [125], [119, 104, 105, 108, 101, 32, 40, 120, 32, 60, 32, 51, 41, 32, 123], [119, 104, 105, 108, 101, 32, 40, 116, 114, 117, 101, 41, 32, 123], [98, 114, 101, 97, 107, 59], [99, 111, 110, 116, 105, 110, 117, 101, 59], [114, 101, 116, 117, 114, 110, 32, 120, 59], [114, 101, 116, 117, 114, 110, 32, 98, 59], [112, 114, 105, 110, 116, 40, 120, 32, 43, 32, 97, 91, 48, 93, 41, 59], [102, 40, 120, 44, 32, 98, 41, 59], [105, 110, 116, 32, 120, 32, 61, 32, 50, 59], [120, 32, 61, 32, 102, 40, 49, 44, 32, 116, 114, 117, 101, 41, 59], [98, 32, 61, 32, 102, 40, 120, 44, 32, 98, 41, 32, 61, 61, 32, 50, 32, 38, 38, 32, 98, 59], [121, 32, 61, 32, 105, 56, 40, 120, 41, 59], [98, 32, 61, 32, 120, 59], [120, 32, 61, 32, 45, 98, 59], [114, 101, 116, 117, 114, 110, 32, 102, 40, 120, 44, 32, 98, 32, 61, 61, 32, 116, 114, 117, 101, 41, 59], [122, 32, 61, 32, 49, 59], [99, 91, 48, 93, 32, 61, 32, 49, 59], [104, 40, 41, 59], [120, 32, 61, 32, 114, 101, 97, 100, 40, 41, 59], [123], [114, 101, 116, 117, 114, 110, 32, 48, 59], [112, 114, 105, 110, 116, 40, 116, 114, 117, 101, 41, 59], [98, 32, 61, 32, 116, 114, 117, 101, 32, 33, 61, 32, 40, 120, 32, 62, 32, 49, 41, 59]]
theorem texts05_spec : zi E 18 [] [] = some (.ret (.slice .plain 1 (zMc.map PV.str)), []) := by
 refine zc rfl rfl rfl (by simp) ?_
 simp [F18, zMc]
def pre05 : List UInt8 := [105, 110, 116, 32, 97, 91, 52, 93, 59, 10, 105, 110, 116, 32, 102, 40, 105, 110, 116, 32, 120, 44, 32, 98, 111, 111, 108, 32, 98, 41, 32, 123, 10]
def ret05 : List UInt8 := [114, 101, 116, 117, 114, 110, 32, 49, 59, 10]
def suf05 : List UInt8 := [125, 10, 105, 110, 116, 32, 109, 97, 105, 110, 40, 41, 32, 123, 32, 114, 101, 116, 117, 114, 110, 32, 102, 40, 49, 44, 32, 116, 114, 117, 101, 41, 59, 32, 125, 10]
def piece05 (b : UInt8) : List UInt8 := zMc[b.toNat % 31]?.getD [] ++ [10]
def bodyM (l : List UInt8) (ends : Bool) : List UInt8 := pre05 ++ ((l.take 14).flatMap piece05 ++ ((if ends then ret05 else []) ++ suf05))
theorem texts05_get (k : Nat) (h : k < 31) : zMc[k]? = some (zMc[k]?.getD []) /\ (zMc[k]?.getD []).length <= 29 := by
 have : ∀ k, k < 31 -> zMc[k]? = some (zMc[k]?.getD []) /\ (zMc[k]?.getD []).length <= 29 := by decide
 exact this k h
def q05 (l : List UInt8) (i : Nat) : List UInt8 := (l.take i).flatMap piece05
theorem piece05_len (b : UInt8) : (piece05 b).length <= 30 := by
 obtain ⟨g1, g2⟩ := texts05_get (b.toNat % 31) (Nat.mod_lt _ (by decide))
 unfold piece05
 rw [List.length_append]
 simp only [List.length_cons, List.length_nil]
 omega
theorem flat05_len (l : List UInt8) : (l.flatMap piece05).length <= 30 * l.length := by
 induction l with
 | nil => simp
 | cons b r ih =>
  have := piece05_len b
  rw [List.flatMap_cons, List.length_append, List.length_cons]; omega
theorem q05_len (l : List UInt8) (i : Nat) : (q05 l i).length <= 30 * i := by
 have h1 := flat05_len (l.take i)
 have h2 : (l.take i).length <= i := by rw [List.length_take]; omega
 unfold q05; omega
theorem q05_succ (l : List UInt8) (i : Nat) (h : i < l.length) : q05 l (i + 1) = q05 l i ++ (zMc[l[i].toNat % 31]?.getD [] ++ [10]) := by
 unfold q05
 rw [List.take_add_one, List.getElem?_eq_getElem h, Option.toList_some, List.flatMap_append, List.flatMap_singleton]; rfl
set_option maxHeartbeats 1000000 in
theorem body_spec (l : List UInt8) (ends : Bool) (hl : l.length <= 9223372036854775807) : zi E 7 [u8s l, .bool ends] [] = some (.ret (.str (bodyM l ends)), []) := by
 refine zc rfl rfl rfl (by simp) ?_
 have ht := texts05_spec
 have htl : zMc.length = 31 := rfl
 simp [*, F7, u8s]
 refine zza K7_0 B7_0 (fun i : Nat => 14 - i) (fun i => [(5, .str (pre05 ++ q05 l i)), (7, .int .i64 i)]) (fun _ => []) (fun _ => []) (fun i => i <= 14 /\ i <= l.length) 0 (by simp [pre05, q05]) ?_
 rintro i s1 ⟨hi, hil⟩ h1 h2 h3 h4 h5
 simp at h1 h3 h5
 clear h2 h4
 have hlen := q05_len l i
 have hp : pre05.length = 33 := rfl
 by_cases hc : i < l.length /\ i < 14
 ·obtain ⟨c1, c2⟩ := hc
  obtain ⟨g1, g2⟩ := texts05_get (l[i].toNat % 31) (Nat.mod_lt _ (by decide))
  have hrem : remK (l[i].toNat : Int) 31 = ((l[i].toNat % 31 : Nat) : Int) := remNat _ 31
  have htk := q05_succ l i c1
  have hget : l[i]? = some l[i] := List.getElem?_eq_getElem c1
  generalize zMc[l[i].toNat % 31]?.getD [] = t at *
  generalize hb : l[i] = b at *
  generalize hk : b.toNat % 31 = k at *
  generalize q05 l i = q at *
  have k1 : ((i : Int) < l.length) = True := eqp (by omega)
  have k2 : ((i : Int) < 14) = True := eqp (by omega)
  have hw : zN .i64 ((i : Int) + 1) = (i : Int) + 1 := zj (by omega) (by omega)
  have m1 : 33 + q.length + t.length <= 9223372036854775807 := by omega
  have m2 : 33 + q.length + t.length + 1 <= 9223372036854775807 := by omega
  have m1' : 33 + (q.length + t.length) <= 9223372036854775807 := by omega
  have m2' : 33 + (q.length + (t.length + 1)) <= 9223372036854775807 := by omega
  have m2'' : 33 + (q.length + t.length) + 1 <= 9223372036854775807 := by omega
  clear ht hk c1 hb
  simp [*]
  exact ⟨i + 1, by omega, ⟨by rw [htk], by omega⟩, by omega, by have := of_eq_true k1; omega⟩
 ·have e : l.take 14 = l.take i := by
   by_cases h14 : i = 14
   ·rw [h14]
   ·have : l.length <= i := by omega
    rw [List.take_of_length_le this, List.take_of_length_le (by omega)]
  have e2 : bodyM l ends = pre05 ++ (q05 l i ++ ((if ends then ret05 else []) ++ suf05)) := by unfold bodyM q05; rw [e]
  rw [e2]
  clear e e2
  generalize q05 l i = q at *
  have m1 : 33 + q.length + 10 <= 9223372036854775807 := by omega
  have m2 : 33 + q.length + 10 + 36 <= 9223372036854775807 := by omega
  have m3 : 33 + q.length + 36 <= 9223372036854775807 := by omega
  have m1' : 33 + (q.length + 10) <= 9223372036854775807 := by omega
  have m2' : 33 + (q.length + 10) + 36 <= 9223372036854775807 := by omega
  have m3' : 33 + (q.length + 36) <= 9223372036854775807 := by omega
  by_cases k1 : (i : Int) < l.length
  ·have k2 : ¬ (i : Int) < 14 := by omega
   replace k1 := eqp k1
   replace k2 := eqn k2
   clear ht
   cases ends <;> simp [*, ret05, suf05]
  ·replace k1 := eqn k1
   clear ht
   cases ends <;> simp [*, ret05, suf05]
end PE.U

namespace PE.U
open Go PE
def mob (l : List UInt8) (i : Nat) : zf := [.arr 2 [.agg [u8s l, .int .i64 i]]]
def pickM (l : List UInt8) (i n : Nat) : Nat := if l.length < i + 1 \/ 120 < i + 1 then 0 else (l[i]?.getD 0).toNat % n
theorem pick_spec (l : List UInt8) (i n : Nat) (hn : 0 < n /\ n <= 1000) (hi : i <= 1000000000000) (hl : l.length <= 9223372036854775807) :
  zi E 60 [.ptr 0 0 0, .int .i64 n] (mob l i) = some (.ret (.int .i64 (pickM l i n)), mob l (i + 1)) := by
 refine zc rfl rfl rfl (by simp) ?_
 have hw : zN .i64 ((i : Int) + 1) = (i : Int) + 1 := zj (by omega) (by omega)
 by_cases h1 : l.length < i + 1
 ·have k1 : ((l.length : Int) < (i : Int) + 1) = True := eqp (by omega)
  have h2 : pickM l i n = 0 := by simp [pickM, h1]
  clear h1
  simp [*, F60, mob, u8s]
 ·have k1 : ((l.length : Int) < (i : Int) + 1) = False := eqn (by omega)
  by_cases h3 : 120 < i + 1
  ·have k3 : ((120 : Int) < (i : Int) + 1) = True := eqp (by omega)
   have h2 : pickM l i n = 0 := by simp only [pickM, h3, or_true, if_true]
   clear h1 h3
   simp [*, F60, mob, u8s]
  ·have k3 : ((120 : Int) < (i : Int) + 1) = False := eqn (by omega)
   obtain ⟨b, hb⟩ : ∃ b, l[i]? = some b := ⟨_, List.getElem?_eq_getElem (by omega)⟩
   have h2 : pickM l i n = b.toNat % n := by simp only [pickM, h1, h3, or_self, if_false, hb, Option.getD_some]
   have hr : remK (b.toNat : Int) (n : Int) = ((b.toNat % n : Nat) : Int) := remNat _ _
   have hw2 : zN .i64 (i : Int) = (i : Int) := zj (by omega) (by omega)
   have hn0 : (n = 0) = False := eqn (by omega)
   clear h1 h3 hl
   simp [*, F60, mob, u8s]
theorem zpb (l : List UInt8) (i n : Nat) (hn : 0 < n /\ n <= 1000) (hi : i <= 1000000000000) (hl : l.length <= 9223372036854775807) :
  ∃ k : Nat, k < n /\ zi E 60 [.ptr 0 0 0, .int .i64 n] (mob l i) = some (.ret (.int .i64 k), mob l (i + 1)) := by
 refine ⟨_, ?_, pick_spec l i n hn hi hl⟩
 unfold pickM
 split
 ·omega
 ·exact Nat.mod_lt _ hn.1
end PE.U

namespace PE.U
open Go PE
theorem aI {cf : zC} {s0 s : St} {r : List GOp} {Q : Ex -> St -> Prop} {a : _} {b : _} {o : _} {x : _} {c : Prop} [Decidable c] (hc : c) (h : after cf s0 r Q (doOp a b o s (some x))) : after cf s0 r Q (doOp a b o s (if c then some x else none)) := by rw [if_pos hc]; exact h
def BN : Nat -> Nat
 | 0 => 100
 | d + 1 => 2 * BN d + 100
def isStr (l : List UInt8) (i b : Nat) (r : CRes) (st : zf) : Prop := ∃ s i', r = .ret (.str s) /\ st = mob l i' /\ s.length <= b /\ i' <= i + b
@[simp] theorem isStr_str (l : List UInt8) (i b : Nat) (s : List UInt8) (st : zf) : isStr l i b (.ret (.str s)) st = ∃ i', st = mob l i' /\ s.length <= b /\ i' <= i + b := by
 unfold isStr
 apply propext
 constructor
 ·rintro ⟨s', i', h, h2⟩
  cases h
  exact ⟨i', h2⟩
 ·rintro ⟨i', h2⟩
  exact ⟨s, i', rfl, h2⟩
@[simp] theorem mob_inj (l : List UInt8) (i j : Nat) : (mob l i = mob l j) = (i = j) := by
 apply propext
 constructor
 ·intro h; simp [mob] at h; omega
 ·rintro rfl; rfl
structure NT (l : List UInt8) (d : Nat) : Prop where
 num : ∀ i v b, i + BN d <= 900000000000 -> v.length <= 4 -> b.length <= 4 -> PC (zi E 26 [.ptr 0 0 0, .str v, .str b, .int .i64 d] (mob l i)) (isStr l i (BN d))
 truth : ∀ i v b, i + BN d <= 900000000000 -> v.length <= 4 -> b.length <= 4 -> PC (zi E 27 [.ptr 0 0 0, .str v, .str b, .int .i64 d] (mob l i)) (isStr l i (BN d))
theorem NT.num' {l : List UInt8} {d : Nat} (S : NT l d) (i : Nat) (v b : List UInt8) (hi : i + BN d <= 900000000000) (hv : v.length <= 4) (hb : b.length <= 4) :
  ∃ s i', zi E 26 [.ptr 0 0 0, .str v, .str b, .int .i64 d] (mob l i) = some (.ret (.str s), mob l i') /\ s.length <= BN d /\ i' <= i + BN d := by
 obtain ⟨r, st, h, s, i', rfl, rfl, h1, h2⟩ := PC_iff.1 (S.num i v b hi hv hb)
 exact ⟨s, i', h, h1, h2⟩
theorem NT.truth' {l : List UInt8} {d : Nat} (S : NT l d) (i : Nat) (v b : List UInt8) (hi : i + BN d <= 900000000000) (hv : v.length <= 4) (hb : b.length <= 4) :
  ∃ s i', zi E 27 [.ptr 0 0 0, .str v, .str b, .int .i64 d] (mob l i) = some (.ret (.str s), mob l i') /\ s.length <= BN d /\ i' <= i + BN d := by
 obtain ⟨r, st, h, s, i', rfl, rfl, h1, h2⟩ := PC_iff.1 (S.truth i v b hi hv hb)
 exact ⟨s, i', h, h1, h2⟩
theorem one_of (ls : List (List UInt8)) (m : Nat) (h : ls.all (fun t => t.length <= m) = true) (j : Nat) (hj : j < ls.length) : ∃ t, t.length <= m /\ (ls.map PV.str)[j]'(by simpa using hj) = PV.str t := by
 refine ⟨ls[j], ?_, by simp⟩
 have := List.all_eq_true.1 h ls[j] (List.getElem_mem hj)
 simpa using this
def numsL : List (List UInt8) := [[48], [49], [50], [55], [50, 53, 53], [54, 52]]
def onesL : List (List UInt8) := [[45], [126], [105, 56], [117, 49, 54], [105, 51, 50]]
def twosL : List (List UInt8) := [[43], [45], [42], [47], [37], [38], [124], [94], [60, 60], [62, 62], [62, 62, 62]]
def trusL : List (List UInt8) := [[116, 114, 117, 101], [102, 97, 108, 115, 101]]
def cmpsL : List (List UInt8) := [[60], [60, 61], [62], [62, 61], [61, 61], [33, 61]]
set_option maxHeartbeats 4000000 in
theorem num0 (l : List UInt8) (hl : l.length <= 9223372036854775807) : ∀ i v b, i + BN 0 <= 900000000000 -> v.length <= 4 -> b.length <= 4 -> PC (zi E 26 [.ptr 0 0 0, .str v, .str b, .int .i64 0] (mob l i)) (isStr l i (BN 0)) := by
 intro i v b hi hv hb
 refine zic rfl rfl rfl (by simp) ?_
 have hB : BN 0 = 100 := rfl
 rw [hB] at hi
 obtain ⟨k, k1, hk⟩ := zpb l i 14 (by omega) (by omega) hl
 have hr : remK (k : Int) 6 = ((k % 6 : Nat) : Int) := remNat k 6
 simp at hk
 have hm : k % 6 < 6 := Nat.mod_lt _ (by omega)
 generalize k % 6 = z at *
 clear k1
 obtain ⟨j, j1, hj⟩ := zpb l (i + 1) 6 (by omega) (by omega) hl
 obtain ⟨t, t1, ht⟩ := one_of numsL 3 (by decide) j j1
 simp [numsL] at hj ht
 have m1 : v.length + 7 <= 9223372036854775807 := by omega
 have m2 : 2 + v.length <= 9223372036854775807 := by omega
 have : z = 0 \/ z = 1 \/ z = 2 \/ z = 3 \/ z = 4 \/ z = 5 := by omega
 clear hl hm
 rcases this with rfl | rfl | rfl | rfl | rfl | rfl <;> (simp [*, F26]) <;> (repeat' (refine aI (by omega) ?_ <;> simp [*, F26])) <;> (try omega)
set_option maxHeartbeats 4000000 in
theorem numS (l : List UInt8) (hl : l.length <= 9223372036854775807) (d : Nat) (hd : BN d <= 1000000) (hd2 : d <= 100) (S : NT l d) : ∀ i v b, i + BN (d + 1) <= 900000000000 -> v.length <= 4 -> b.length <= 4 -> PC (zi E 26 [.ptr 0 0 0, .str v, .str b, .int .i64 (d + 1 : Nat)] (mob l i)) (isStr l i (BN (d + 1))) := by
 intro i v b hi hv hb
 refine zic rfl rfl rfl (by simp) ?_
 have hB : BN (d + 1) = 2 * BN d + 100 := rfl
 rw [hB] at hi
 obtain ⟨k, k1, hk⟩ := zpb l i 14 (by omega) (by omega) hl
 simp at hk
 have q1 : ((d : Int) + 1 < 1) = False := eqn (by omega)
 have q2 : ((d : Int) < 0) = False := eqn (by omega)
 have q3 : zN .i64 (d : Int) = d := zj (by omega) (by omega)
 have hkk : k < 2 \/ k = 2 \/ k = 3 \/ k = 4 \/ k = 5 \/ k = 6 \/ k = 7 \/ (8 <= k /\ k < 11) \/ k = 11 \/ k = 12 \/ k = 13 := by omega
 have m1 : v.length + 7 <= 9223372036854775807 := by omega
 have m2 : 2 + v.length <= 9223372036854775807 := by omega
 clear k1
 rcases hkk with hkk | hkk
 ·obtain ⟨j, j1, hj⟩ := zpb l (i + 1) 6 (by omega) (by omega) hl
  obtain ⟨t, t1, ht⟩ := one_of numsL 3 (by decide) j j1
  simp [numsL] at hj ht
  have n1 : ((k : Int) < 2) = True := eqp (by omega)
  clear hl hkk
  (simp [*, F26]) <;> (repeat' (refine aI (by omega) ?_ <;> simp [*, F26])) <;> (try omega)
 have n1 : ((k : Int) < 2) = False := eqn (by omega)
 by_cases hk5 : k < 5
 ·have n2 : ((k : Int) < 5) = True := eqp (by omega)
  clear hl hkk hk5
  (simp [*, F26]) <;> (repeat' (refine aI (by omega) ?_ <;> simp [*, F26])) <;> (try omega)
 have n2 : ((k : Int) < 5) = False := eqn (by omega)
 by_cases hk8 : 8 <= k /\ k < 11
 ·obtain ⟨s1, i1, h1, b1, c1⟩ := S.num' (i + 1) v b (by omega) hv hb
  obtain ⟨j, j1, hj⟩ := zpb l i1 11 (by omega) (by omega) hl
  obtain ⟨t, t1, ht⟩ := one_of twosL 3 (by decide) j j1
  obtain ⟨s2, i2, h2, b2, c2⟩ := S.num' (i1 + 1) v b (by omega) hv hb
  simp [twosL] at hj ht
  have n3 : ((k : Int) < 11) = True := eqp (by omega)
  have n4 : ((k : Int) = 5) = False := eqn (by omega)
  have n5 : ((k : Int) = 6) = False := eqn (by omega)
  have n6 : ((k : Int) = 7) = False := eqn (by omega)
  clear hl hkk hk5 hk8
  (simp [*, F26]) <;> (repeat' (refine aI (by omega) ?_ <;> simp [*, F26])) <;> (try omega)
 have hkk : k = 5 \/ k = 6 \/ k = 7 \/ k = 11 \/ k = 12 \/ k = 13 := by omega
 rcases hkk with rfl | rfl | rfl | rfl | rfl | rfl
 ·clear hl hk5 hk8 n1 n2
  simp at hk
  (simp [*, F26]) <;> (repeat' (refine aI (by omega) ?_ <;> simp [*, F26])) <;> (try omega)
 ·obtain ⟨s1, i1, h1, b1, c1⟩ := S.num' (i + 1) v b (by omega) hv hb
  clear hl hk5 hk8 n1 n2
  simp at hk
  (simp [*, F26]) <;> (repeat' (refine aI (by omega) ?_ <;> simp [*, F26])) <;> (try omega)
 ·obtain ⟨j, j1, hj⟩ := zpb l (i + 1) 5 (by omega) (by omega) hl
  obtain ⟨t, t1, ht⟩ := one_of onesL 3 (by decide) j j1
  obtain ⟨s1, i1, h1, b1, c1⟩ := S.num' (i + 1 + 1) v b (by omega) hv hb
  simp [onesL] at hj ht
  clear hl hk5 hk8 n1 n2
  simp at hk
  (simp [*, F26]) <;> (repeat' (refine aI (by omega) ?_ <;> simp [*, F26])) <;> (try omega)
 ·clear hl hk5 hk8 n1 n2
  simp at hk
  simp [*, F26]
 ·clear hl hk5 hk8 n1 n2
  simp at hk
  (simp [*, F26]) <;> (repeat' (refine aI (by omega) ?_ <;> simp [*, F26])) <;> (try omega)
 ·obtain ⟨s1, i1, h1, b1, c1⟩ := S.num' (i + 1) v b (by omega) hv hb
  obtain ⟨s2, i2, h2, b2, c2⟩ := S.truth' i1 v b (by omega) hv hb
  clear hl hk5 hk8 n1 n2
  simp at hk
  (simp [*, F26]) <;> (repeat' (refine aI (by omega) ?_ <;> simp [*, F26])) <;> (try omega)
end PE.U

namespace PE.U
open Go PE
set_option maxHeartbeats 4000000 in
theorem truth0 (l : List UInt8) (hl : l.length <= 9223372036854775807) : ∀ i v b, i + BN 0 <= 900000000000 -> v.length <= 4 -> b.length <= 4 -> PC (zi E 27 [.ptr 0 0 0, .str v, .str b, .int .i64 0] (mob l i)) (isStr l i (BN 0)) := by
 intro i v b hi hv hb
 refine zic rfl rfl rfl (by simp) ?_
 have hB : BN 0 = 100 := rfl
 rw [hB] at hi
 obtain ⟨k, k1, hk⟩ := zpb l i 10 (by omega) (by omega) hl
 have hr : remK (k : Int) 3 = ((k % 3 : Nat) : Int) := remNat k 3
 simp at hk
 have hm : k % 3 < 3 := Nat.mod_lt _ (by omega)
 generalize k % 3 = z at *
 clear k1
 obtain ⟨j, j1, hj⟩ := zpb l (i + 1) 2 (by omega) (by omega) hl
 obtain ⟨t, t1, ht⟩ := one_of trusL 5 (by decide) j j1
 simp [trusL] at hj ht
 have : z = 0 \/ z = 1 \/ z = 2 := by omega
 clear hl hm
 rcases this with rfl | rfl | rfl <;> (simp [*, F27]) <;> (repeat' (refine aI (by omega) ?_ <;> simp [*, F27])) <;> (try omega)
set_option maxHeartbeats 4000000 in
theorem truthS (l : List UInt8) (hl : l.length <= 9223372036854775807) (d : Nat) (hd : BN d <= 1000000) (hd2 : d <= 100) (S : NT l d) : ∀ i v b, i + BN (d + 1) <= 900000000000 -> v.length <= 4 -> b.length <= 4 -> PC (zi E 27 [.ptr 0 0 0, .str v, .str b, .int .i64 (d + 1 : Nat)] (mob l i)) (isStr l i (BN (d + 1))) := by
 intro i v b hi hv hb
 refine zic rfl rfl rfl (by simp) ?_
 have hB : BN (d + 1) = 2 * BN d + 100 := rfl
 rw [hB] at hi
 obtain ⟨k, k1, hk⟩ := zpb l i 10 (by omega) (by omega) hl
 simp at hk
 have q1 : ((d : Int) + 1 < 1) = False := eqn (by omega)
 have q2 : ((d : Int) < 0) = False := eqn (by omega)
 have q3 : zN .i64 (d : Int) = d := zj (by omega) (by omega)
 by_cases hk3 : k < 3
 ·have : k = 0 \/ k = 1 \/ k = 2 := by omega
  obtain ⟨j, j1, hj⟩ := zpb l (i + 1) 2 (by omega) (by omega) hl
  obtain ⟨t, t1, ht⟩ := one_of trusL 5 (by decide) j j1
  simp [trusL] at hj ht
  clear hl k1 hk3
  rcases this with rfl | rfl | rfl <;> simp at hk <;> (simp [*, F27]) <;> (repeat' (refine aI (by omega) ?_ <;> simp [*, F27])) <;> (try omega)
 have n0 : ((k : Int) < 3) = False := eqn (by omega)
 by_cases hk7 : 4 <= k /\ k < 7
 ·obtain ⟨s1, i1, h1, b1, c1⟩ := S.num' (i + 1) v b (by omega) hv hb
  obtain ⟨j, j1, hj⟩ := zpb l i1 6 (by omega) (by omega) hl
  obtain ⟨t, t1, ht⟩ := one_of cmpsL 3 (by decide) j j1
  obtain ⟨s2, i2, h2, b2, c2⟩ := S.num' (i1 + 1) v b (by omega) hv hb
  simp [cmpsL] at hj ht
  have n3 : ((k : Int) < 7) = True := eqp (by omega)
  have n4 : ((k : Int) = 0) = False := eqn (by omega)
  have n5 : ((k : Int) = 3) = False := eqn (by omega)
  have n6 : (k = 0) = False := eqn (by omega)
  clear hl k1 hk3 hk7
  (simp [*, F27]) <;> (repeat' (refine aI (by omega) ?_ <;> simp [*, F27])) <;> (try omega)
 have hkk : k = 3 \/ k = 7 \/ k = 8 \/ k = 9 := by omega
 rcases hkk with rfl | rfl | rfl | rfl
 ·clear hl k1 hk3 hk7 n0
  simp at hk
  (simp [*, F27]) <;> (repeat' (refine aI (by omega) ?_ <;> simp [*, F27])) <;> (try omega)
 ·obtain ⟨s1, i1, h1, b1, c1⟩ := S.truth' (i + 1) v b (by omega) hv hb
  obtain ⟨s2, i2, h2, b2, c2⟩ := S.truth' i1 v b (by omega) hv hb
  clear hl k1 hk3 hk7 n0
  simp at hk
  (simp [*, F27]) <;> (repeat' (refine aI (by omega) ?_ <;> simp [*, F27])) <;> (try omega)
 ·obtain ⟨s1, i1, h1, b1, c1⟩ := S.truth' (i + 1) v b (by omega) hv hb
  obtain ⟨s2, i2, h2, b2, c2⟩ := S.truth' i1 v b (by omega) hv hb
  clear hl k1 hk3 hk7 n0
  simp at hk
  (simp [*, F27]) <;> (repeat' (refine aI (by omega) ?_ <;> simp [*, F27])) <;> (try omega)
 ·obtain ⟨s1, i1, h1, b1, c1⟩ := S.num' (i + 1) v b (by omega) hv hb
  clear hl k1 hk3 hk7 n0
  simp at hk
  (simp [*, F27]) <;> (repeat' (refine aI (by omega) ?_ <;> simp [*, F27])) <;> (try omega)
theorem nt (l : List UInt8) (hl : l.length <= 9223372036854775807) : ∀ d, d <= 3 -> NT l d := by
 intro d
 induction d with
 | zero => intro _; exact ⟨num0 l hl, truth0 l hl⟩
 | succ d ih =>
  intro h
  have hb : BN d <= 1000000 := by
   have : d = 0 \/ d = 1 \/ d = 2 := by omega
   rcases this with rfl | rfl | rfl <;> decide
  exact ⟨numS l hl d hb (by omega) (ih (by omega)), truthS l hl d hb (by omega) (ih (by omega))⟩
end PE.U

namespace PE.U
open Go PE
def SB : Nat -> Nat
 | 0 => 2000
 | d + 1 => 8 * SB d + 3000
structure ST (l : List UInt8) (d : Nat) : Prop where
 stmt : ∀ i v b loop, i + SB d <= 800000000000 -> v.length <= 4 -> b.length <= 4 -> PC (zi E 61 [.ptr 0 0 0, .str v, .str b, .int .i64 d, .bool loop] (mob l i)) (isStr l i (SB d))
theorem ST.to {l : List UInt8} {d : Nat} (S : ST l d) (i : Nat) (v b : List UInt8) (loop : Bool) (hi : i + SB d <= 800000000000) (hv : v.length <= 4) (hb : b.length <= 4) :
  ∃ s i', zi E 61 [.ptr 0 0 0, .str v, .str b, .int .i64 d, .bool loop] (mob l i) = some (.ret (.str s), mob l i') /\ s.length <= SB d /\ i' <= i + SB d := by
 obtain ⟨r, st, h, s, i', rfl, rfl, h1, h2⟩ := PC_iff.1 (S.stmt i v b loop hi hv hb)
 exact ⟨s, i', h, h1, h2⟩
structure BkS where
 m : Nat
 s : List UInt8
 j : Nat
set_option maxHeartbeats 4000000 in
theorem mblock_of (l : List UInt8) (hl : l.length <= 9223372036854775807) (d : Nat) (hd : SB d <= 10000000) (hd2 : d <= 100) (S : ST l d) (i : Nat) (v b : List UInt8) (loop : Bool) (hi : i + (4 * SB d + 10) <= 800000000000) (hv : v.length <= 4) (hb : b.length <= 4) :
  PC (zi E 25 [.ptr 0 0 0, .str v, .str b, .int .i64 d, .bool loop] (mob l i)) (isStr l i (4 * SB d + 10)) := by
 refine zic rfl rfl rfl (by simp) ?_
 obtain ⟨k, k1, hk⟩ := zpb l i 5 (by omega) (by omega) hl
 simp at hk
 simp [hk, F25]
 have hkm : k * SB d <= 4 * SB d := Nat.mul_le_mul_right _ (by omega)
 refine zza K25_0 B25_0 (fun c : BkS => c.m) (fun c => [(11, .str c.s), (12, .int .i64 c.m)]) (fun _ => []) (fun c => mob l c.j) (fun c => c.m <= 4 /\ c.s.length + c.m * SB d <= 4 * SB d /\ c.j + c.m * SB d <= i + 1 + 4 * SB d) ⟨k, [], i + 1⟩ ⟨by simp, by simp, by simp, by simp only [List.length_nil]; omega⟩ ?_
 rintro ⟨m, s, j⟩ s1 ⟨hm, hs, hj⟩ h1 h2 h3 h4 h5
 simp only at hm hs hj
 simp at h1 h3 h5
 clear hk h2 h4 hkm
 cases m with
 | zero =>
  simp at h3 hs hj
  simp [*]
  omega
 | succ m =>
  rw [Nat.succ_mul] at hs hj
  generalize hX : m * SB d = X at *
  obtain ⟨t, j', ht, t1, t2⟩ := S.to j v b loop (by omega) hv hb
  have q1 : ((m : Int) + 1 > 0) = True := eqp (by omega)
  have q2 : ((0 : Int) < (m : Int) + 1) = True := eqp (by omega)
  have q3 : zN .i64 (m : Int) = m := zj (by omega) (by omega)
  have q4 : s.length + t.length <= 9223372036854775807 := by omega
  simp at h3
  clear hl S
  simp [*]
  refine ⟨⟨m, s ++ t, j'⟩, by simp, ?_⟩
  simp only [List.length_append]
  simp [*]
  omega
end PE.U

namespace PE.U
open Go PE
def BkOk (l : List UInt8) (d : Nat) : Prop := ∀ i v b loop, i + (4 * SB d + 10) <= 800000000000 -> v.length <= 4 -> b.length <= 4 →
  ∃ s i', zi E 25 [.ptr 0 0 0, .str v, .str b, .int .i64 d, .bool loop] (mob l i) = some (.ret (.str s), mob l i') /\ s.length <= 4 * SB d + 10 /\ i' <= i + (4 * SB d + 10)
theorem SB_le : ∀ d, 2000 <= SB d
 | 0 => by decide
 | d + 1 => by have := SB_le d; simp only [SB]; omega
set_option maxHeartbeats 8000000 in
theorem stmt_plain (l : List UInt8) (hl : l.length <= 9223372036854775807) (d : Nat) (hd2 : d <= 100) (i : Nat) (v b : List UInt8) (loop : Bool) (hi : i + SB d <= 800000000000) (hv : v.length <= 4) (hb : b.length <= 4) (k : Nat) (k1 : k < 13)
  (hk : zi E 60 [.ptr 0 0 0, .int .i64 13] (mob l i) = some (.ret (.int .i64 k), mob l (i + 1))) (hc : d = 0 \/ k < 6 \/ (k = 6 /\ loop = true) \/ k = 12) :
  PC (zi E 61 [.ptr 0 0 0, .str v, .str b, .int .i64 d, .bool loop] (mob l i)) (isStr l i (SB d)) := by
 refine zic rfl rfl rfl (by simp) ?_
 have hB := SB_le d
 have hB1 : BN 1 = 300 := rfl
 have hB2 : BN 2 = 700 := rfl
 have S1 := nt l hl 1 (by omega)
 have S2 := nt l hl 2 (by omega)
 have hkk : k = 0 \/ k = 1 \/ k = 2 \/ k = 3 \/ k = 4 \/ k = 5 \/ k = 6 \/ k = 7 \/ k = 8 \/ k = 9 \/ k = 10 \/ k = 11 \/ k = 12 := by omega
 obtain ⟨s1, i1, h1, b1, c1⟩ := S2.num' (i + 1) v b (by omega) hv hb
 obtain ⟨s2, i2, h2, b2, c2⟩ := S2.truth' (i + 1) v b (by omega) hv hb
 obtain ⟨s3, i3, h3, b3, c3⟩ := S1.num' (i + 1) v b (by omega) hv hb
 obtain ⟨s4, i4, h4, b4, c4⟩ := S2.num' i3 v b (by omega) hv hb
 obtain ⟨j, j1, hj⟩ := zpb l (i + 1) 4 (by omega) (by omega) hl
 rw [hB1] at b3 c3
 rw [hB2] at b1 c1 b2 c2 b4 c4
 simp at h1 h2 h3 h4 hj
 clear S1 S2 hl hB1 hB2
 have hz : d = 0 \/ 0 < d := by omega
 rcases hkk with rfl | rfl | rfl | rfl | rfl | rfl | rfl | rfl | rfl | rfl | rfl | rfl | rfl
 case inr.inr.inr.inr.inr.inr.inl =>
  simp at hk
  cases loop
  ·have : d = 0 := by simpa using hc
   subst this
   clear hc hz k1
   (simp [*, F61]) <;> (repeat' (refine aI (by omega) ?_ <;> simp [*, F61])) <;> (try omega)
  ·have : j = 0 \/ j = 1 \/ j = 2 \/ j = 3 := by omega
   clear j1 hc hz k1
   rcases this with rfl | rfl | rfl | rfl <;> simp at hj <;> (simp [*, F61]) <;> (repeat' (refine aI (by omega) ?_ <;> simp [*, F61])) <;> (try omega)
 case inr.inr.inr.inr.inr.inr.inr.inr.inr.inr.inr.inr =>
  have : j = 0 \/ j = 1 \/ j = 2 \/ j = 3 := by omega
  clear hc hz k1 j1
  simp at hk
  by_cases hvz : v = [122]
  ·subst hvz
   (simp [*, F61]) <;> (repeat' (refine aI (by omega) ?_ <;> simp [*, F61])) <;> (try omega)
  ·rcases this with rfl | rfl | rfl | rfl <;> simp at hj <;> (simp [*, F61]) <;> (repeat' (refine aI (by omega) ?_ <;> simp [*, F61])) <;> (try omega)
 case inl | inr.inl | inr.inr.inl | inr.inr.inr.inl | inr.inr.inr.inr.inl | inr.inr.inr.inr.inr.inl =>
  clear hc hz k1 j1 hj
  simp at hk
  (simp [*, F61]) <;> (repeat' (refine aI (by omega) ?_ <;> simp [*, F61])) <;> (try omega)
 all_goals
  have : d = 0 := by omega
  subst this
  clear hc hz k1 j1 hj
  simp at hk
  (simp [*, F61]) <;> (repeat' (refine aI (by omega) ?_ <;> simp [*, F61])) <;> (try omega)
set_option maxHeartbeats 8000000 in
theorem stmt_deep (l : List UInt8) (hl : l.length <= 9223372036854775807) (d : Nat) (hd : SB d <= 10000000) (hd2 : d <= 100) (hbk : BkOk l d) (i : Nat) (v b : List UInt8) (loop : Bool) (hi : i + SB (d + 1) <= 800000000000) (hv : v.length <= 4) (hb : b.length <= 4) (k : Nat) (k1 : k < 13)
  (hk : zi E 60 [.ptr 0 0 0, .int .i64 13] (mob l i) = some (.ret (.int .i64 k), mob l (i + 1))) (hc : (k = 6 /\ loop = false) \/ k = 7 \/ k = 8 \/ k = 9 \/ k = 10 \/ k = 11) :
  PC (zi E 61 [.ptr 0 0 0, .str v, .str b, .int .i64 (d + 1 : Nat), .bool loop] (mob l i)) (isStr l i (SB (d + 1))) := by
 refine zic rfl rfl rfl (by simp) ?_
 have hB : SB (d + 1) = 8 * SB d + 3000 := rfl
 rw [hB] at hi
 have hB1 : BN 1 = 300 := rfl
 have hB2 : BN 2 = 700 := rfl
 have S1 := nt l hl 1 (by omega)
 have S2 := nt l hl 2 (by omega)
 have q1 : ((d : Int) + 1 > 0) = True := eqp (by omega)
 have q2 : ((0 : Int) < (d : Int) + 1) = True := eqp (by omega)
 have q3 : zN .i64 (d : Int) = d := zj (by omega) (by omega)
 by_cases k7 : k = 7
 ·subst k7
  obtain ⟨s1, i1, h1, b1, c1⟩ := S1.num' (i + 1) v b (by omega) hv hb
  obtain ⟨s2, i2, h2, b2, c2⟩ := S1.truth' i1 [122] b (by omega) (by simp) hb
  obtain ⟨s3, i3, h3, b3, c3⟩ := hbk i2 [122] [119] loop (by omega) (by simp) (by simp)
  rw [hB1] at b1 c1 b2 c2
  simp at h1 h2 hk
  clear S1 S2 hl hB1 hB2 hbk hc k1
  (simp [*, F61]) <;> (repeat' (refine aI (by omega) ?_ <;> simp [*, F61])) <;> (try omega)
 by_cases k9 : k <= 9
 ·obtain ⟨s1, i1, h1, b1, c1⟩ := S2.truth' (i + 1) v b (by omega) hv hb
  obtain ⟨s2, i2, h2, b2, c2⟩ := hbk i1 v b loop (by omega) hv hb
  obtain ⟨j, j1, hj⟩ := zpb l i2 2 (by omega) (by omega) hl
  obtain ⟨s3, i3, h3, b3, c3⟩ := hbk (i2 + 1) v b loop (by omega) hv hb
  have hj2 : j = 0 \/ j = 1 := by omega
  have : k = 6 /\ loop = false \/ k = 8 \/ k = 9 := by
   rcases hc with h | h | h | h | h | h
   ·exact .inl h
   all_goals omega
  rw [hB2] at b1 c1
  simp at h1 hj
  clear S1 S2 hl hB1 hB2 hbk hc k1 k7 k9 j1
  rcases this with ⟨rfl, rfl⟩ | rfl | rfl <;> simp at hk <;> rcases hj2 with rfl | rfl <;> simp at hj <;> (simp [*, F61]) <;> (repeat' (refine aI (by omega) ?_ <;> simp [*, F61])) <;> (try omega)
 obtain ⟨s1, i1, h1, b1, c1⟩ := S1.truth' (i + 1) v b (by omega) hv hb
 obtain ⟨s2, i2, h2, b2, c2⟩ := hbk i1 v b true (by omega) hv hb
 obtain ⟨j, j1, hj⟩ := zpb l i2 3 (by omega) (by omega) hl
 obtain ⟨t, t1, ht⟩ := one_of [[52], [57], [51, 48]] 3 (by decide) j j1
 have : k = 10 \/ k = 11 := by omega
 rw [hB1] at b1 c1
 simp at h1 hj ht
 clear S1 S2 hl hB1 hB2 hbk hc k1 k7 k9
 rcases this with rfl | rfl <;> simp at hk <;> (simp [*, F61]) <;> (repeat' (refine aI (by omega) ?_ <;> simp [*, F61])) <;> (try omega)
theorem st (l : List UInt8) (hl : l.length <= 9223372036854775807) : ∀ d, d <= 3 -> ST l d /\ BkOk l d := by
 intro d
 induction d with
 | zero =>
  intro _
  have S : ST l 0 := ⟨fun i v b loop hi hv hb => by
   obtain ⟨k, k1, hk⟩ := zpb l i 13 (by omega) (by omega) hl
   exact stmt_plain l hl 0 (by omega) i v b loop hi hv hb k k1 hk (.inl rfl)⟩
  refine ⟨S, fun i v b loop hi hv hb => ?_⟩
  obtain ⟨r, st, h, s, i', rfl, rfl, h1, h2⟩ := PC_iff.1 (mblock_of l hl 0 (by decide) (by omega) S i v b loop hi hv hb)
  exact ⟨s, i', h, h1, h2⟩
 | succ d ih =>
  intro hd
  obtain ⟨_, B⟩ := ih (by omega)
  have hb : SB d <= 10000000 /\ SB (d + 1) <= 10000000 := by
   have : d = 0 \/ d = 1 \/ d = 2 := by omega
   rcases this with rfl | rfl | rfl <;> decide
  have S : ST l (d + 1) := ⟨fun i v b loop hi hv hb' => by
   obtain ⟨k, k1, hk⟩ := zpb l i 13 (by omega) (by omega) hl
   by_cases hc : d + 1 = 0 \/ k < 6 \/ (k = 6 /\ loop = true) \/ k = 12
   ·exact stmt_plain l hl (d + 1) (by omega) i v b loop hi hv hb' k k1 hk hc
   ·exact stmt_deep l hl d hb.1 (by omega) B i v b loop hi hv hb' k k1 hk (by cases loop <;> simp at hc ⊢ <;> omega)⟩
  refine ⟨S, fun i v b loop hi hv hb' => ?_⟩
  obtain ⟨r, st, h, s, i', rfl, rfl, h1, h2⟩ := PC_iff.1 (mblock_of l hl (d + 1) hb.2 (by omega) S i v b loop hi hv hb')
  exact ⟨s, i', h, h1, h2⟩
end PE.U

namespace PE.U
open Go PE
theorem bad_parse : (zbb [120]).1 = ⟨[], []⟩ := by kernel_rfl
set_option maxHeartbeats 8000000 in
set_option maxRecDepth 20000 in
theorem good_of (l : List UInt8) (hl : l.length <= 9223372036854775807) :
  PC (zi E 12 [u8s l] []) (fun r st => st = [] /\ ∃ s, r = .ret (zd (zbb s).1)) := by
 refine zic rfl rfl rfl (by simp [u8s]) ?_
 have hB1 : SB 1 = 19000 := rfl
 have hB2 : SB 2 = 155000 := rfl
 have hB3 : SB 3 = 1243000 := rfl
 have hN : BN 2 = 700 := rfl
 have S2 := nt l hl 2 (by omega)
 obtain ⟨s1, i1, h1, b1, c1⟩ := (st l hl 2 (by omega)).2 0 [120] [98] false (by omega) (by simp) (by simp)
 obtain ⟨s2, i2, h2, b2, c2⟩ := S2.num' i1 [120] [98] (by omega) (by simp) (by simp)
 obtain ⟨s3, i3, h3, b3, c3⟩ := (st l hl 1 (by omega)).2 i2 [120] [98] false (by omega) (by simp) (by simp)
 obtain ⟨s4, i4, h4, b4, c4⟩ := S2.truth' i3 [120] [98] (by omega) (by simp) (by simp)
 obtain ⟨s5, i5, h5, b5, c5⟩ := (st l hl 3 (by omega)).2 i4 [120] [98] false (by omega) (by simp) (by simp)
 obtain ⟨s6, i6, h6, b6, c6⟩ := S2.num' i5 [120] [98] (by omega) (by simp) (by simp)
 rw [hB2] at b1 c1
 rw [hN] at b2 c2 b4 c4 b6 c6
 rw [hB1] at b3 c3
 rw [hB3] at b5 c5
 have hp : ∀ s, zi E 6 [.str s] [] = some (.ret (.tup [.agg [zva (zbb s).1.arrays, funcs (zbb s).1.funcs], .int .i64 (zbb s).2.1, .int .i64 (zbb s).2.2]), []) := fun s => by rw [parse_spec]; rfl
 simp only [zva, funcs] at hp
 simp [mob, u8s] at h1 h2 h3 h4 h5 h6
 have hz : (0 : Nat) <= 0 := Nat.le_refl 0
 clear S2 hB1 hB2 hB3 hN hl
 simp [*, F12, u8s]
 repeat' (refine aI (by omega) ?_; simp [*, F12, u8s])
 (first | refine sP _ ?_ ?_ | refine sN _ ?_ ?_ | refine sM _ ?_ ?_ | refine sB _ ?_ ?_) <;> intro hc <;> simp [hc, F12]
 ·exact ⟨[120], by rw [bad_parse]; rfl⟩
 ·exact ⟨_, rfl⟩
end PE.U

namespace PE.U
open Go PE
def aw61 : List UInt8 := [105, 110, 116, 32, 109, 97, 105, 110, 40, 41, 32, 123, 32, 105, 110, 116, 32, 120, 32, 61, 32, 49, 59, 32, 105, 102, 32, 40, 116, 114, 117, 101, 41, 32, 123, 32, 105, 110, 116, 32, 120, 32, 61, 32, 50, 59, 32, 112, 114, 105, 110, 116, 40, 120, 41, 59, 32, 125, 32, 114, 101, 116, 117, 114, 110, 32, 120, 59, 32, 125]
def aw62 : List UInt8 := [105, 110, 116, 32, 109, 97, 105, 110, 40, 41, 32, 123, 32, 105, 110, 116, 32, 118, 48, 32, 61, 32, 49, 59, 32, 105, 102, 32, 40, 116, 114, 117, 101, 41, 32, 123, 32, 105, 110, 116, 32, 118, 49, 32, 61, 32, 50, 59, 32, 112, 114, 105, 110, 116, 40, 118, 49, 41, 59, 32, 125, 32, 114, 101, 116, 117, 114, 110, 32, 118, 48, 59, 32, 125]
set_option maxRecDepth 100000 in
theorem aw61_ok : (zdc (zbb aw61).1).1 = 0 := by decide +kernel
set_option maxRecDepth 100000 in
theorem aw61_ren : renP (zbb aw61).1 = (zbb aw62).1 := by kernel_rfl
theorem aw60_ok : (zdc ⟨[], []⟩).1 = 50 := by decide +kernel
theorem psz_nil : PSz ⟨[], []⟩ := ⟨by simp, by simp, by simp⟩
set_option maxHeartbeats 1000000 in
theorem awake06_spec : zi E 10 [] [] = some (.ret (.bool true), []) := by
 refine zc rfl rfl rfl (by simp) ?_
 have p1 := parse_spec aw61
 have p2 := parse_spec aw62
 have r1 := pren_spec _ (parse_psz aw61)
 have r2 := pren_spec ⟨[], []⟩ psz_nil
 have s1 := zae _ (parse_psz aw62)
 unfold renM at r1 r2
 rw [if_pos aw61_ok, aw61_ren] at r1
 rw [if_neg (by rw [aw60_ok]; simp)] at r2
 generalize zbb aw61 = q1 at *
 generalize zbb aw62 = q2 at *
 obtain ⟨⟨ar1, fs1⟩, e1, n1⟩ := q1
 obtain ⟨⟨ar2, fs2⟩, e2, n2⟩ := q2
 simp [zCd, zd, encRen, aw61, aw62, zva, funcs] at p1 p2 r1 r2 s1
 simp [*, F10, zva, funcs]
theorem both_ren (p : Prog) (hz : PSz p) (hs : PSm p) : ∃ ar fs e, zi E 8 [zd p] [] = some (.ret (.tup [.agg [zva ar, funcs fs], .int .i64 e]), []) /\ zi E 9 [zd p] [] = some (.ret (.tup [.agg [zva ar, funcs fs], .int .i64 e]), []) ∧
  zi E 11 [.agg [zva ar, funcs fs], .agg [zva ar, funcs fs]] [] = some (.ret (.bool true), []) := by
 have h1 := pren_spec p hz
 have h2 := rename_spec p hz
 have h3 : PSz (renM p).1 := by
  unfold renM
  split
  ·exact psz_ren p hs
  ·exact psz_nil
 have h4 := zae _ h3
 generalize renM p = q at *
 obtain ⟨⟨ar, fs⟩, e⟩ := q
 exact ⟨ar, fs, e, h1, h2, h4⟩
set_option maxHeartbeats 1000000 in
theorem renameBodies_spec (l : List UInt8) (ends : Bool) (hl : l.length <= 9223372036854775807) : zi E 3 [u8s l, .bool ends] [] = some (.ret (.bool true), []) := by
 refine zc rfl rfl rfl (by simp) ?_
 have ha := awake06_spec
 have hb := body_spec l ends hl
 have hp := parse_spec (bodyM l ends)
 obtain ⟨ar, fs, e, h1, h2, h3⟩ := both_ren (zbb (bodyM l ends)).1 (parse_psz _) (parse_psm _)
 generalize zbb (bodyM l ends) = q at *
 obtain ⟨⟨ar0, fs0⟩, e0, n0⟩ := q
 clear hl
 simp [zCd, zd] at hp h1 h2 h3
 simp [*, F3]
set_option maxHeartbeats 1000000 in
theorem renameGood_spec (l : List UInt8) (hl : l.length <= 9223372036854775807) : zi E 4 [u8s l] [] = some (.ret (.bool true), []) := by
 refine zc rfl rfl rfl (by simp) ?_
 have ha := awake06_spec
 obtain ⟨r, st, hg, rfl, s, rfl⟩ := PC_iff.1 (good_of l hl)
 obtain ⟨ar, fs, e, h1, h2, h3⟩ := both_ren (zbb s).1 (parse_psz s) (parse_psm s)
 generalize (zbb s).1 = q at *
 obtain ⟨ar0, fs0⟩ := q
 clear hl
 simp [zd] at hg h1 h2 h3
 simp [*, F4]
end PE.U
