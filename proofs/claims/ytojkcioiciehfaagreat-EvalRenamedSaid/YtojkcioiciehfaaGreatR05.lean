/-
  Texts joined by program: A7R2, A7R3, A7R4, A7T10, A7T11, A7R5, A7R6, A7M1, A7M2, A7M3, A7M4, A7P21, A7P22, A7P23, A7P24, A7P25, A7P26, A7P27, A7P28, A7P29, A7T13a, A7W1, A7V1, A7V2, A7V12, A7V3, A7M5, A7M6, A7M7, A7M8, A7M9, A7M10, A7M11, A7M12, A7M13, A7V4, A7V5, A7V6.
-/
import Derived.Test.YtojkcioiciehfaaGreatR04
import Derived.Laws.BitsLemmas
set_option linter.unusedVariables false
set_option linter.unusedSectionVars false
set_option linter.unusedSimpArgs false
namespace PE.U
open Go PE
def okR (tk : Int) (l : List Int) (y : Int) : Bool := !((!decide (tk = 0) && !decide (y = tk)) || !decide (y = at0 l))
theorem made_oper (p : Prog) (s : List Vr) (k o : Int) (nm : List UInt8) (l : List Int) (h : (k = 4 /\ l.length = 1) \/ (k = 5 /\ l.length = 2)) : ztd p s k o nm l = ((operR o).2, l.all (okR (operR o).1 l)) := by
 have hk : k = 4 \/ k = 5 := by rcases h with h | h <;> simp [h.1]
 have key : ∀ x : Int, (takesT o x).1 = (operR o).2 /\ ((takesT o x).2 = true <-> ((operR o).1 = 0 \/ x = (operR o).1)) := by
  intro x
  unfold takesT operR
  split
  ·simp
  split
  ·simp
  split
  ·rw [if_pos (by omega)]; simp
  ·rw [if_neg (by omega)]; simp
 obtain ⟨k1, k2⟩ := key (at0 l)
 rcases h with ⟨rfl, hl⟩ | ⟨rfl, hl⟩
 ·obtain ⟨x, rfl⟩ := List.length_eq_one_iff.1 hl
  unfold ztd
  simp only [show ¬ (4 : Int) = 2 from by decide, show ¬ (4 : Int) = 3 from by decide, show ¬ (4 : Int) = 6 from by decide, if_false, if_true]
  refine Prod.ext k1 ?_
  simp only
  rw [Bool.eq_iff_iff, k2]
  simp [okR, at0]
 ·obtain ⟨x, y, rfl⟩ : ∃ x y, l = [x, y] := by
   match l, hl with
   | [x, y], _ => exact ⟨x, y, rfl⟩
  unfold ztd
  simp only [show ¬ (5 : Int) = 2 from by decide, show ¬ (5 : Int) = 3 from by decide, show ¬ (5 : Int) = 6 from by decide, show ¬ (5 : Int) = 4 from by decide, if_false, if_true]
  refine Prod.ext k1 ?_
  simp only
  rw [Bool.eq_iff_iff, Bool.and_eq_true, k2]
  simp [okR, at0, at1]
  grind
def typeTail : ICode := sq2 (sq2 (sq2 (sq2 F122.body)))
set_option maxRecDepth 20000 in
set_option maxHeartbeats 8000000 in
theorem type_tail (p : Prog) (s : List Vr) (e : Expr) (m : Int) (hz : Fit p) (hw : wtE e < 1099510000000) (hm : zfb e.args m = true) (hk : zCd e.kind e.op e.n e.name e.args.length = true) (h0 : zxb p s e.kind e.name e.args.length = 0)
  (IH : ∀ x ∈ e.args, ∀ m, zTa x m = true -> zi E 122 [zf p, parsV (zoa s), zw x] [] = some (.ret (zbb (zDb p s x)), []))
  (s1 : St) (b1 : s1.bx 3 = .cells [zka p.arrays, funcs p.funcs]) (b2 : s1.bx 5 = .cells [.int .i64 e.kind, .int .i64 e.op, .int .i64 e.n, .str e.name, zd e.args])
  (t1 : s1.fr 1 = parsV (zoa s)) (t3 : s1.fr 3 = .lptr 3 0) (t5 : s1.fr 5 = .lptr 5 0) (t8 : s1.fr 8 = .int .i64 (zsa p e.name)) (t9 : s1.fr 9 = .int .i64 (typeV s e.name)) (st : s1.st = []) :
  zja (exec (zi E) typeTail s1) (leaveQ F122.res false 0 (isR (.ret (zbb (zDb p s e)), []))) := by
 have hla := zvc e.args
 rw [zEd] at hw
 obtain ⟨fr, bx, st'⟩ := s1
 simp only at b1 b2 t1 t3 t5 t8 t9 st
 subst st
 have hT := (exprT_eq p s e).symm
 rw [if_neg (by rw [h0]; simp)] at hT
 generalize zDb p s e = R at hT ⊢
 simp [typeTail, sq2, F122, zd] at b2 ⊢
 refine zG e.args K122_0 B122_0 (fun d => [(11, acc 1 ((zGa p s d).1.map (PV.int .i64))), (12, .int .i64 d.length)]) (fun _ => []) (fun d => (zGa p s d).2 = 0) (by omega) (by simp [zGa]) ?_ ?_
 ·intros d x r s1 hl' hlt hget hget' hw1 hp h1 h2 h3 h4
  have hx : zTa x (m - 1) = true := by
   rw [exprsR_all, List.all_eq_true] at hm
   have := hm x hl'.mem
   simp at this; exact this.2
  have ih := IH x hl'.mem _ hx
  have hlen := argsT_len p s d hp
  obtain ⟨f1, f2⟩ := argsT_pre p s x r d hp
  rw [<- hl'.eq] at f1
  clear IH hm hx hl' hk h0
  rw [za] at ih
  simp [zbb, zf, zd] at ih
  simp at h1 h2 h3
  have hroom : (d.length + 1) * 8 <= zu := by simp only [zu]; omega
  generalize zDb p s x = q at *
  obtain ⟨t, f⟩ := q
  simp only at ih f1 f2
  by_cases hf : f = 0
  ·subst hf
   have f2 := f2 rfl
   clear f1 hT
   simp [*, za, zd]
   all_goals (try grind)
  ·have f1 := f1 hf
   clear f2
   rw [f1] at hT
   simp [hf] at hT
   replace hf := eqn hf
   clear f1
   subst hT
   simp [*, za, zd, zbb]
 intros s1 hp h1 h2 h3 h4
 have hlen := argsT_len p s e.args hp
 rw [if_neg (by rw [hp]; simp)] at hT
 rw [<- hlen] at hk
 generalize (zGa p s e.args).1 = l at *
 simp at h1 h2 h3
 clear IH hm hp
 by_cases k2 : e.kind = 2
 ·replace k2 := eqp k2
  simp [ztd, k2] at hT
  clear hk h0
  subst hT
  simp [*, zbb]
 by_cases k3 : e.kind = 3
 ·have hv : ztd p s e.kind e.op e.name l = (typeV s e.name, true) := by unfold ztd; rw [if_neg k2, if_pos k3]; rfl
  rw [hv] at hT
  simp at hT
  replace k2 := eqn k2
  replace k3 := eqp k3
  clear hk h0 hv
  subst hT
  simp [*, zbb]
 by_cases k7 : e.kind = 7
 ·have hl1 : l.length <= 8 := by
   unfold zCd at hk; simp [k2, k3, k7] at hk; exact hk.2.2
  rcases zTb (fun f : Func => decide (f.name = e.name)) p.funcs with ⟨a1, a2⟩ | ⟨n, f, a1, a2, a3, a4, a5⟩
  ·have a2 : zAa p e.name = none := a2
   unfold zxb at h0
   rw [if_neg k3, if_neg (by omega), if_pos k7, a2] at h0
   exact absurd h0 (by simp)
  ·have a1 : zsa p e.name = n := a1
   have a3 : zAa p e.name = some f := a3
   have hpl : f.params.length = l.length := by
    unfold zxb at h0
    rw [if_neg k3, if_neg (by omega), if_pos k7, a3] at h0
    simp only at h0
    split at h0
    ·omega
    ·exact absurd h0 (by decide)
   have hv : ztd p s e.kind e.op e.name l = (f.type, decide (l = f.params.map (·.type))) := by
    unfold ztd; rw [if_neg k2, if_neg k3, if_neg (by omega), if_neg (by omega), if_neg (by omega), if_pos k7, a3]
   rw [hv, types_eq hpl.symm] at hT
   rw [a1] at t8
   have n0 : ¬ ((n : Int) < 0) := by omega
   have n1 : (0 <= (n : Int)) := by omega
   replace k2 := eqn k2
   replace k3 := eqn k3
   replace k7 := eqp k7
   clear hk h0 hv a5 a4 a1 a3
   simp [*, funcs]
   refine zG (l.zip f.params) K122_1 B122_1 (fun d => [(15, .int .i64 d.length)]) (fun _ => []) (fun d => (d.all fun x => decide (x.1 = x.2.type)) = true) (by simp; omega) ?_ ?_ ?_
   ·simp [*]
   ·intros d x r s2 hl' hlt hget hget' hw2 hp g1 g2 g3 g4
    simp at g1 g2 g3
    have hzz : (l.zip f.params)[d.length]? = some x := hget
    rw [List.getElem?_zip_eq_some] at hzz
    obtain ⟨z1, z2⟩ := hzz
    obtain ⟨x1, x2⟩ := x
    simp only at z1 z2
    have hz2 : (l.zip f.params).length = l.length := by simp [hpl]
    have hlt' : (d.length : Int) < l.length := by rw [hz2] at hlt; omega
    have hlt2 : (d.length : Int) < e.args.length := by omega
    by_cases hx : x1 = x2.type
    ·replace hp : ((d ++ [(x1, x2)]).all fun x => decide (x.1 = x.2.type)) = true := by rw [List.all_append, hp]; simp [hx]
     replace hx := eqp hx
     clear hl' hget hget' hlt hz2 hT
     simp [*, zRb, zm, parsV, encPar, funcs]
     all_goals (try grind)
    ·have hf : ((l.zip f.params).all fun x => decide (x.1 = x.2.type)) = false := by rw [hl'.eq]; simp [hx]
     rw [hf] at hT
     simp at hT
     replace hx := eqn hx
     clear hl' hget hget' hp hlt hz2
     subst hT
     simp [*, zRb, zm, parsV, encPar, funcs, zbb]
   ·intros s2 hp g1 g2 g3 g4
    simp at g1 g2 g3
    rw [hp] at hT
    simp at hT
    have hz2 : (l.zip f.params).length = l.length := by simp [hpl]
    rw [hpl, Nat.min_self] at g3
    have hnl : ¬ ((l.length : Int) < l.length) := by omega
    clear hp hz2
    subst hT
    simp [*, zRb, zm, parsV, encPar, funcs, zbb]
 by_cases k6 : e.kind = 6
 ·have hl : l.length = 1 := by
   unfold zCd at hk; simp [k2, k3, k6] at hk; exact hk.2.2
  obtain ⟨x, rfl⟩ := List.length_eq_one_iff.1 hl
  have hv : ztd p s e.kind e.op e.name [x] = (1, decide (x = 1)) := by unfold ztd; rw [if_neg k2, if_neg k3, if_pos k6]; rfl
  rw [hv] at hT
  replace k2 := eqn k2
  replace k3 := eqn k3
  replace k7 := eqn k7
  replace k6 := eqp k6
  clear hk h0 hv hl
  by_cases hx : x = 1
  ·subst hx
   simp at hT
   subst hT
   simp [*, zbb]
  ·simp [hx] at hT
   replace hx := eqn hx
   subst hT
   simp [*, zbb]
 by_cases k45 : e.kind = 4 \/ e.kind = 5
 ·have hll : (e.kind = 4 /\ l.length = 1) \/ (e.kind = 5 /\ l.length = 2) := by
   rcases k45 with k | k
   ·left; refine ⟨k, ?_⟩; unfold zCd at hk; simp [k] at hk; exact hk.2.2.2
   ·right; refine ⟨k, ?_⟩; unfold zCd at hk; simp [k] at hk; exact hk.2.2.2
  rw [made_oper p s _ _ _ _ hll] at hT
  have ho := oper_spec e.op
  have hl0 : ∃ x r, l = x :: r := by
   rcases hll with ⟨_, h⟩ | ⟨_, h⟩ <;> cases l <;> simp at h ⊢
  have hl2 : l.length <= 2 := by rcases hll with ⟨_, h⟩ | ⟨_, h⟩ <;> omega
  obtain ⟨x0, r0, hx0⟩ := hl0
  have hat : at0 l = x0 := by rw [hx0]; rfl
  have hg0 : l[0]? = some x0 := by rw [hx0]; rfl
  generalize operR e.op = oq at *
  obtain ⟨tk, mk⟩ := oq
  simp only at hT ho
  unfold okR at hT
  rw [hat] at hT
  replace k2 := eqn k2
  replace k3 := eqn k3
  replace k7 := eqn k7
  replace k6 := eqn k6
  clear hk h0 hat hx0 hll hlen hla hw hz
  have k4' : e.kind = 5 -> (e.kind = 4) = False := fun h => eqn (by omega)
  rcases k45 with k4 | k4
  case' inl => replace k4 := eqp k4; clear k4'
  case' inr => replace k4' := k4' k4; replace k4 := eqp k4
  all_goals
   simp [*]
   refine zG l K122_2 B122_2 (fun d => [(18, .int .i64 d.length)]) (fun _ => []) (fun d => (d.all fun y => !((!decide (tk = 0) && !decide (y = tk)) || !decide (y = x0))) = true) (by omega) ?_ ?_ ?_
   ·simp [*]
   ·intros d x r s2 hl' hlt hget hget' hw2 hp g1 g2 g3 g4
    simp at g1 g2 g3
    have hbad : (!((!decide (tk = 0) && !decide (x = tk)) || !decide (x = x0))) = false -> (l.all fun y => !((!decide (tk = 0) && !decide (y = tk)) || !decide (y = x0))) = false := by
     intro h; rw [hl'.eq, List.all_append, List.all_cons, h]; simp
    have hgood : (!((!decide (tk = 0) && !decide (x = tk)) || !decide (x = x0))) = true -> ((d ++ [x]).all fun y => !((!decide (tk = 0) && !decide (y = tk)) || !decide (y = x0))) = true := by
     intro h; rw [List.all_append, hp, List.all_cons, h]; simp
    clear hl' hp h1 h2 h3
    by_cases c1 : tk = 0
    ·by_cases c2 : x = x0
     ·replace hgood := hgood (by simp [c1, c2])
      replace c1 := eqp c1
      replace c2 := eqp c2
      clear hbad hT
      simp [*, zRb]
      all_goals (try grind)
     ·rw [hbad (by simp [c2])] at hT
      simp at hT
      replace c1 := eqp c1
      replace c2 := eqn c2
      clear hbad hgood
      subst hT
      simp [*, zRb, zbb]
    ·by_cases c3 : x = tk
     ·by_cases c2 : x = x0
      ·replace hgood := hgood (by rw [decide_eq_true c3, decide_eq_true c2]; simp)
       replace c1 := eqn c1
       replace c2 := eqp c2
       replace c3 := eqp c3
       clear hbad hT
       simp [*, zRb]
       all_goals (try grind)
      ·rw [hbad (by simp [c2])] at hT
       simp at hT
       replace c1 := eqn c1
       replace c2 := eqn c2
       replace c3 := eqp c3
       clear hbad hgood
       subst hT
       simp [*, zRb, zbb]
     ·rw [hbad (by simp [c1, c3])] at hT
      simp at hT
      replace c1 := eqn c1
      replace c3 := eqn c3
      clear hbad hgood
      subst hT
      simp [*, zRb, zbb]
   ·intros s2 hp g1 g2 g3 g4
    simp at g1 g2 g3
    rw [hp] at hT
    simp at hT
    clear hp h1 h2 h3
    subst hT
    simp [*, zRb, zbb]
 ·have k4 : ¬ e.kind = 4 := fun h => k45 (Or.inl h)
  have k5 : ¬ e.kind = 5 := fun h => k45 (Or.inr h)
  have hv : ztd p s e.kind e.op e.name l = (1, true) := by unfold ztd; rw [if_neg k2, if_neg k3, if_neg k6, if_neg k4, if_neg k5, if_neg k7]
  rw [hv] at hT
  simp at hT
  replace k2 := eqn k2
  replace k3 := eqn k3
  replace k7 := eqn k7
  replace k6 := eqn k6
  replace k4 := eqn k4
  replace k5 := eqn k5
  clear hk h0 hv k45
  subst hT
  simp [*, zRb, zbb]
set_option maxRecDepth 20000 in
set_option maxHeartbeats 8000000 in
theorem rTypeOf_spec' : ∀ w (p : Prog) (s : List Vr) (e : Expr) (m : Int), Fit p -> wtE e <= w -> w < 1099510000000 -> s.length < 1099509000000 -> zTa e m = true -> zi E 122 [zf p, parsV (zoa s), zw e] [] = some (.ret (zbb (zDb p s e)), []) := by
 intro w
 induction w with
 | zero => intro p s e m _ h _ _ _; rw [zEd] at h; omega
 | succ w ih =>
  intro p s e m hz h hw hsl hR
  rw [exprR_eq, Bool.and_eq_true] at hR
  obtain ⟨hm, hk⟩ := hR
  have hla := zvc e.args
  have hwe := zEd e
  have hp := zve p e.name (by have := hz.f; omega)
  have ha := rarray_spec p e.name (by have := hz.a; omega)
  have hf := rfind_spec s e.name (by omega)
  have hT := (exprT_eq p s e).symm
  have tail := type_tail p s e m hz (by omega) hm hk
  have h3 : (zVa p e.name < 0) = (zeb p e.name = false) := by
   have : decide (0 <= zVa p e.name) = zeb p e.name := idx_ge (fun f : PArr => decide (f.name = e.name)) p.arrays
   rw [<- this, decide_eq_false_iff_not]; apply propext; omega
  replace tail := fun h0 => tail h0 (fun x hx m' hm' => ih p s x m' hz (by have := zAb hx; omega) (by omega) hsl hm')
  have hal : e.args.length < 1099510000000 := by omega
  clear h hw hm hk hla hwe ih
  generalize zDb p s e = R at *
  refine zc rfl rfl rfl (by simp [zf, za, parsV]) ?_
  rw [show F122.body = .seq (sq1 F122.body) (.seq (sq1 (sq2 F122.body)) (.seq (sq1 (sq2 (sq2 F122.body))) (.seq (sq1 (sq2 (sq2 (sq2 F122.body)))) typeTail))) from rfl]
  simp [zf, parsV, zbb] at hp ha hf
  unfold zxb at hT tail
  by_cases k3 : e.kind = 3
  ·rw [if_pos k3] at hT tail
   have k7 : (e.kind = 7) = False := eqn (by omega)
   have k6 : (e.kind = 6) = False := eqn (by omega)
   replace k3 := eqp k3
   by_cases hv : zya s e.name = []
   ·rw [if_pos hv] at hT
    simp at hT
    replace hv := eqp hv
    clear tail
    subst hT
    simp [*, F122, sq1, sq2, zf, za, parsV, zbb, zd]
   ·rw [if_neg hv] at tail
    replace tail := tail rfl
    replace hv := eqn hv
    clear hT
    simp [*, F122, sq1, sq2, zf, za, parsV, zbb, zd]
    refine tail _ ?_ ?_ ?_ ?_ ?_ ?_ ?_ ?_ <;> simp [*, parsV, zd]
  rw [if_neg k3] at hT tail
  by_cases k6 : e.kind = 6
  ·rw [if_pos k6] at hT tail
   have k7 : (e.kind = 7) = False := eqn (by omega)
   replace k3 := eqn k3
   replace k6 := eqp k6
   cases hb : zeb p e.name
   ·rw [hb] at hT h3
    simp at hT h3
    replace h3 := eqp h3
    clear tail
    subst hT
    simp [*, F122, sq1, sq2, zf, za, parsV, zbb, zd]
   ·rw [hb] at tail h3
    replace tail := tail rfl
    replace h3 : (zVa p e.name < 0) = False := by rw [h3]; simp
    clear hT
    simp [*, F122, sq1, sq2, zf, za, parsV, zbb, zd]
    refine tail _ ?_ ?_ ?_ ?_ ?_ ?_ ?_ ?_ <;> simp [*, parsV, zd]
  rw [if_neg k6] at hT tail
  by_cases k7 : e.kind = 7
  ·rw [if_pos k7] at hT tail
   replace k3 := eqn k3
   replace k6 := eqn k6
   replace k7 := eqp k7
   rcases zTb (fun f : Func => decide (f.name = e.name)) p.funcs with ⟨a1, a2⟩ | ⟨n, f, a1, a2, a3, a4, a5⟩
   ·have a1 : zsa p e.name = -1 := a1
    have a2 : zAa p e.name = none := a2
    rw [a2] at hT
    simp at hT
    rw [a1] at hp
    clear tail a2
    subst hT
    simp [*, F122, sq1, sq2, zf, za, parsV, zbb, zd]
   ·have a1 : zsa p e.name = n := a1
    have a3 : zAa p e.name = some f := a3
    have hpf := hz.p f (List.mem_of_getElem? a2)
    rw [a3] at hT tail
    simp only at hT tail
    have n0 : ¬ ((n : Int) < 0) := by omega
    rw [a1] at hp tail
    simp only [funcs] at hp
    by_cases hq : f.params.length = e.args.length
    ·rw [if_pos hq] at tail
     replace tail := tail rfl
     have hq' : ((e.args.length : Int) = f.params.length) = True := eqp (by omega)
     clear hT a5 a4 a3 a1 hq
     simp [*, F122, sq1, sq2, zf, za, parsV, zbb, zd, funcs, zm]
     refine tail _ ?_ ?_ ?_ ?_ ?_ ?_ ?_ ?_ <;> simp [*, parsV, zd, funcs]
    ·rw [if_neg hq] at hT
     simp at hT
     have hq' : ((e.args.length : Int) = f.params.length) = False := eqn (by omega)
     clear tail a5 a4 a3 a1 hq
     subst hT
     simp [*, F122, sq1, sq2, zf, za, parsV, zbb, zd, funcs, zm]
  ·rw [if_neg k7] at tail
   replace tail := tail rfl
   replace k3 := eqn k3
   replace k6 := eqn k6
   replace k7 := eqn k7
   clear hT
   simp [*, F122, sq1, sq2, zf, za, parsV, zbb, zd]
   refine tail _ ?_ ?_ ?_ ?_ ?_ ?_ ?_ ?_ <;> simp [*, parsV, zd]
theorem rTypeOf_spec (p : Prog) (s : List Vr) (e : Expr) (m : Int) (hz : Fit p) (hw : wtE e < 1099510000000) (hs : s.length < 1099509000000) (hR : zTa e m = true) : zi E 122 [zf p, parsV (zoa s), zw e] [] = some (.ret (zbb (zDb p s e)), []) :=
 rTypeOf_spec' (wtE e) p s e m hz (Nat.le_refl _) hw hs hR
end PE.U

namespace PE.U
open Go PE
set_option maxHeartbeats 1000000 in
theorem breaks_spec' : ∀ w (l : List Stmt), wtSs l <= w -> w < 1099508500000 -> zi E 100 [zh l] [] = some (.ret (.bool (zia l)), [])
 | w, l, h, hw => by
  have hlen := zva l
  refine zc rfl rfl rfl (by simp [zh]) ?_
  simp [F100, zh]
  refine zG l K100_0 B100_0 (fun d => [(3, .int .i64 d.length)]) (fun _ => []) (fun d => zia d = false) (by omega) (by simp [zia]) ?_ ?_
  ·intros d x r s1 hl' hlt hget hget' hw1 hp h1 h2 h3 h4
   simp at h1 h2 h3
   have hwx := zSd hl'.mem
   rw [zJa] at hwx
   obtain ⟨w, rfl⟩ : ∃ k, w = k + 1 := ⟨w - 1, by omega⟩
   have i1 := breaks_spec' w x.thn (by omega) (by omega)
   have i2 := breaks_spec' w x.els (by omega) (by omega)
   have hyes : zZc x = true -> zia l = true := by intro h; rw [leavesT_any, hl'.eq]; simp [h]
   have hno : zZc x = false -> zia (d ++ [x]) = false := by intro h; rw [leavesT_any] at hp ⊢; rw [List.any_append, hp]; simp [h]
   rw [leaves1_eq] at hyes hno
   clear hl' hp h hwx
   simp [zh] at i1 i2
   generalize zia x.thn = b1 at *
   generalize zia x.els = b2 at *
   by_cases k6 : x.kind = 6
   ·replace hyes := hyes (by simp [k6])
    replace k6 := eqp k6
    clear hno
    simp [*, zb, zh]
   by_cases k4 : x.kind = 4
   ·cases b1
    ·cases b2
     ·replace hno := hno (by simp [k4])
      replace k6 := eqn k6
      replace k4 := eqp k4
      clear hyes
      simp [*, zb, zh]
      all_goals (try grind)
     ·replace hyes := hyes (by simp [k4])
      replace k6 := eqn k6
      replace k4 := eqp k4
      clear hno
      simp [*, zb, zh]
    ·replace hyes := hyes (by simp [k4])
     replace k6 := eqn k6
     replace k4 := eqp k4
     clear hno
     simp [*, zb, zh]
   ·replace hno := hno (by simp [k4, k6])
    replace k6 := eqn k6
    replace k4 := eqn k4
    clear hyes
    simp [*, zb, zh]
    all_goals (try grind)
  ·intros s1 hp h1 h2 h3 h4
   simp at h1 h2 h3
   simp [*]
theorem breaks_spec (l : List Stmt) (h : wtSs l < 1099508000000) : zi E 100 [zh l] [] = some (.ret (.bool (zia l)), []) := breaks_spec' (wtSs l) l (Nat.le_refl _) (by omega)
set_option maxHeartbeats 1000000 in
theorem rends_spec' : ∀ w (l : List Stmt) (m : Int), wtSs l <= w -> w < 1099508000000 -> zL l m = true -> zi E 73 [zh l] [] = some (.ret (.bool (ztb l)), [])
 | w, l, m, h, hw, hR => by
  have hlen := zva l
  refine zc rfl rfl rfl (by simp [zh]) ?_
  simp [F73, zh]
  refine zG l K73_0 B73_0 (fun d => [(3, .int .i64 d.length)]) (fun _ => []) (fun d => ztb d = false) (by omega) (by simp [ztb]) ?_ ?_
  ·intros d x r s1 hl' hlt hget hget' hw1 hp h1 h2 h3 h4
   simp at h1 h2 h3
   have hwx := zSd hl'.mem
   rw [zJa] at hwx
   obtain ⟨w, rfl⟩ : ∃ k, w = k + 1 := ⟨w - 1, by omega⟩
   have hxR : zBb x m = true := by rw [stmtsR_all, List.all_eq_true] at hR; exact hR x hl'.mem
   obtain ⟨r1, r2, r3, r4⟩ := zpc hxR
   have i1 := rends_spec' w x.thn _ (by omega) (by omega) r3
   have i2 := rends_spec' w x.els _ (by omega) (by omega) r4
   have i3 := breaks_spec x.thn (by omega)
   have hyes : ends1 x = true -> ztb l = true := by intro h; rw [endsT_any, hl'.eq]; simp [h]
   have hno : ends1 x = false -> ztb (d ++ [x]) = false := by intro h; rw [endsT_any] at hp ⊢; rw [List.any_append, hp]; simp [h]
   rw [ends1_eq] at hyes hno
   clear hl' hp h hwx hxR hR r2 r3 r4
   simp [zh] at i1 i2 i3
   generalize ztb x.thn = b1 at *
   generalize ztb x.els = b2 at *
   generalize zia x.thn = b3 at *
   by_cases k8 : x.kind = 8
   ·replace hyes := hyes (by simp [k8])
    replace k8 := eqp k8
    clear hno r1
    simp [*, zb, zh, zd]
   by_cases k4 : x.kind = 4
   ·rw [if_neg k8, if_pos k4] at hyes hno
    have k5 : (x.kind = 5) = False := eqn (by omega)
    replace k8 := eqn k8
    replace k4 := eqp k4
    clear r1
    cases b1
    ·replace hno := hno rfl
     clear hyes
     simp [*, zb, zh, zd]
     all_goals (try grind)
    ·cases b2
     ·replace hno := hno rfl
      clear hyes
      simp [*, zb, zh, zd]
      all_goals (try grind)
     ·replace hyes := hyes rfl
      clear hno
      simp [*, zb, zh, zd]
   by_cases k5 : x.kind = 5
   ·rw [if_neg k8, if_neg k4, if_pos k5] at hyes hno
    have hl1 : x.args.length = 1 := by rw [k5] at r1; simp [zQ] at r1; omega
    obtain ⟨y, hy⟩ := List.length_eq_one_iff.1 hl1
    have hg0 : x.args[0]? = some y := by rw [hy]; rfl
    have ha0 : arg0 x.args = y := by unfold arg0; rw [hg0]; rfl
    rw [ha0] at hyes hno
    clear hy hl1 r1 ha0
    replace k8 := eqn k8
    replace k4 := eqn k4
    replace k5 := eqp k5
    by_cases y2 : y.kind = 2
    ·by_cases y1 : y.n = 1
     ·cases b3
      ·replace hyes := hyes (by simp [y1, y2])
       replace y2 := eqp y2
       replace y1 := eqp y1
       clear hno
       simp [*, zb, zh, zd, za]
      ·replace hno := hno (by simp)
       replace y2 := eqp y2
       replace y1 := eqp y1
       clear hyes
       simp [*, zb, zh, zd, za]
       all_goals (try grind)
     ·replace hno := hno (by simp [y1])
      replace y2 := eqp y2
      replace y1 := eqn y1
      clear hyes
      simp [*, zb, zh, zd, za]
      all_goals (try grind)
    ·replace hno := hno (by simp [y2])
     replace y2 := eqn y2
     clear hyes
     simp [*, zb, zh, zd, za]
     all_goals (try grind)
   ·rw [if_neg k8, if_neg k4, if_neg k5] at hyes hno
    replace hno := hno rfl
    replace k8 := eqn k8
    replace k4 := eqn k4
    replace k5 := eqn k5
    clear hyes r1
    simp [*, zb, zh, zd]
    all_goals (try grind)
  ·intros s1 hp h1 h2 h3 h4
   simp at h1 h2 h3
   clear hR
   simp [*]
theorem rends_spec (l : List Stmt) (m : Int) (h : wtSs l < 1099508000000) (hR : zL l m = true) : zi E 73 [zh l] [] = some (.ret (.bool (ztb l)), []) := rends_spec' (wtSs l) l m (Nat.le_refl _) h hR
def cob (p : Prog) (f : Func) (n : Int) : Obj := .arr 7 [.agg [zka p.arrays, funcs p.funcs, .str f.name, .int .i64 f.type, parsV f.params, zh f.body, .int .i64 n]]
theorem rwant_spec {p : Prog} {g : Func} {s : List Vr} {e : Expr} {t m : Int} {σ : ze} {k : Nat} {n : Int} (hk : σ[k]? = some (cob p g n)) (hz : Fit p) (hs : s.length < 1099509000000) (hw : wtE e < 1099510000000) (hR : zTa e m = true) :
  zi E 121 [.ptr k 0 0, parsV (zoa s), zw e, .int .i64 t] σ = some (.ret (.int .i64 (znc p s e t)), σ) := by
 refine zc rfl rfl rfl (by simp [za, parsV]) ?_
 have h1 := rTypeOf_spec p s e m hz hw hs hR
 unfold znc
 generalize zDb p s e = q at *
 obtain ⟨ty, f⟩ := q
 simp only
 clear hR hw hz hs
 rw [za] at h1
 simp [zf, zd, zbb, parsV] at h1
 unfold cob at hk
 by_cases hf : f = 0
 ·subst hf
  by_cases ht : ty = t
  ·replace ht := eqp ht
   simp [*, F121, za, zd, parsV]
  ·replace ht := eqn ht
   simp [*, F121, za, zd, parsV]
 ·replace hf := eqn hf
  simp [*, F121, za, zd, parsV]
theorem findV_append (a b : List Vr) (nm : List UInt8) : zya (a ++ b) nm = if zya a nm = [] then zya b nm else zya a nm ++ b := by
 induction a with
 | nil => simp [zya]
 | cons v r ih =>
  rw [List.cons_append, zrb, zrb, ih]
  by_cases h : v.name = nm <;> simp [h]
theorem findV_mem {s : List Vr} {nm : List UInt8} {v : Vr} {r : List Vr} (h : zya s nm = v :: r) : v ∈ s := by
 induction s with
 | nil => simp [zya] at h
 | cons x q ih =>
  rw [zrb] at h
  split at h
  ·cases h; simp
  ·simp [ih h]
structure Lay (s : List Vr) (d : Int) (q : Nat) where
 inner : List Vr
 outer : List Vr
 eq : s = inner ++ outer
 len : outer.length = q
 ins : ∀ v ∈ inner, v.depth = d
 outs : ∀ v ∈ outer, v.depth < d
theorem lay_let {s : List Vr} {d : Int} {q : Nat} (L : Lay s d q) (nm : List UInt8) : (match zya s nm with | [] => (0 : Int) | v :: _ => if v.depth < d then 0 else 50) = if zya L.inner nm = [] then 0 else 50 := by
 obtain ⟨inner, outer, rfl, len, ins, outs⟩ := L
 simp only
 rw [findV_append]
 by_cases h : zya inner nm = []
 ·rw [if_pos h, if_pos h]
  cases hb : zya outer nm with
  | nil => rfl
  | cons v r =>
   simp only
   rw [if_pos (outs v (findV_mem hb))]
 ·rw [if_neg h, if_neg h]
  cases hb : zya inner nm with
  | nil => exact absurd hb h
  | cons v r =>
   simp only [List.cons_append]
   rw [if_neg (by rw [ins v (findV_mem hb)]; omega)]
theorem lay_drop {s : List Vr} {d : Int} {q : Nat} (L : Lay s d q) : (zoa s).drop q = zoa L.inner := by
 obtain ⟨inner, outer, rfl, len, ins, outs⟩ := L
 simp only
 rw [varsOf_append, List.drop_append_of_le_length (by rw [zqb, len]; exact Nat.le_refl _), List.drop_of_length_le (by rw [zqb, len]; exact Nat.le_refl _), List.nil_append]
set_option maxRecDepth 20000 in
set_option maxHeartbeats 8000000 in
theorem rown_spec {p : Prog} {g : Func} {s : List Vr} {x : Stmt} {d m : Int} {loop : Bool} {σ : ze} {k q : Nat} {n : Int} (hk : σ[k]? = some (cob p g n)) (L : Lay s d q) (hz : Fit p) (hs : s.length < 1099509000000) (hw : wtS x < 1099509000000) (hR : zBb x m = true) :
  zi E 99 [.ptr k 0 0, zda x, parsV (zoa s), .int .i64 q, .bool loop] σ = some (.ret (.int .i64 (stmtT p g.type s x.kind x.type x.name x.args d loop)), σ) := by
 refine zc rfl rfl rfl (by simp [zb, parsV]) ?_
 obtain ⟨r1, r2, _, _⟩ := zpc hR
 rw [zJa] at hw
 have hwant : ∀ y ∈ x.args, ∀ t, zi E 121 [.ptr k 0 0, parsV (zoa s), zw y, .int .i64 t] σ = some (.ret (.int .i64 (znc p s y t)), σ) := by
  intro y hy t
  have := zAb hy
  exact rwant_spec hk hz hs (by omega) (r2 y hy)
 have hexp : ∀ y ∈ x.args, zi E 122 [zf p, parsV (zoa s), zw y] [] = some (.ret (zbb (zDb p s y)), []) := by
  intro y hy
  have := zAb hy
  exact rTypeOf_spec p s y 100 hz (by omega) hs (r2 y hy)
 have hone : (x.kind = 1 \/ x.kind = 2 \/ x.kind = 4 \/ x.kind = 5 \/ x.kind = 8 \/ x.kind = 9 \/ x.kind = 10) -> ∃ y, x.args = [y] := by
  intro h
  have : x.args.length = 1 := by rcases h with h | h | h | h | h | h | h <;> (rw [h] at r1; simp [zQ] at r1; omega)
  exact List.length_eq_one_iff.1 this
 have hkind : 1 <= x.kind /\ x.kind <= 10 := by
  by_cases h : 1 <= x.kind /\ x.kind <= 10
  ·exact h
  ·exfalso
   have : (zQ x.kind).2.2.1 = -1 := by
    unfold zQ
    repeat' (first | rw [if_neg (by omega)] | rfl)
   omega
 have hf := rfind_spec s x.name (by omega)
 have hil : L.inner.length < 1099511627776 := by
  have := congrArg List.length L.eq; rw [List.length_append] at this; omega
 have hql : q <= s.length := by
  have := congrArg List.length L.eq; rw [List.length_append, L.len] at this; omega
 have hfi := rfind_spec L.inner x.name hil
 have hdrop := lay_drop L
 have hlet := lay_let L x.name
 have hvl := zqb s
 have hh := rarray_spec p x.name (by have := hz.a; omega)
 have h3 : decide (0 <= zVa p x.name) = zeb p x.name := idx_ge (fun f : PArr => decide (f.name = x.name)) p.arrays
 have h3' : (zVa p x.name < 0) = (zeb p x.name = false) := by
  rw [<- h3, decide_eq_false_iff_not]; apply propext; omega
 have hlvl : ((zoa s).map encPar).length = s.length := by simp [zoa]
 clear r2 hR hw hz h3 hil
 unfold stmtT
 unfold cob at hk
 simp [zf] at hh
 have one : ∀ y, x.args = [y] -> x.args[0]? = some y /\ arg0 x.args = y := by
  intro y hy
  have hget : x.args[0]? = some y := by rw [hy]; rfl
  exact ⟨hget, by unfold arg0; rw [hget]; rfl⟩
 by_cases k1 : x.kind = 1
 ·obtain ⟨y, hy⟩ := hone (by simp [k1])
  obtain ⟨hget, ha0⟩ := one y hy
  have hw1 := hwant y (by rw [hy]; simp) x.type
  rw [if_neg (by omega), if_neg (by omega), if_neg (by omega), if_neg (by omega), if_neg (by omega)]
  have hb : boundT p s x.kind x.type x.name x.args d = if znc p s (arg0 x.args) x.type ≠ 0 then znc p s (arg0 x.args) x.type else if zya L.inner x.name = [] then 0 else 50 := by
   unfold boundT
   rw [if_pos k1]
   split
   ·rfl
   ·exact hlet
  rw [hb, ha0]
  rw [za] at hw1
  simp [zd, parsV] at hw1 hfi
  have hd2 : List.drop q ((zoa s).map encPar) = (zoa L.inner).map encPar := by rw [<- List.map_drop, hdrop]
  have htk : List.take s.length ((zoa s).map encPar) = (zoa s).map encPar := List.take_of_length_le (by rw [hlvl]; exact Nat.le_refl _)
  unfold parsV
  generalize (zoa s).map encPar = vs at *
  replace k1 := eqp k1
  clear hy r1 ha0 hwant hexp hone hkind h3' hh one hf hlet hdrop hvl hb
  generalize znc p s y x.type = f at *
  have q0 : (0 <= (q : Int)) := by omega
  by_cases hff : f = 0
  ·subst hff
   by_cases hin : zya L.inner x.name = []
   ·replace hin := eqp hin
    simp [*, F99, zb, zd, za, parsV]
   ·replace hin := eqn hin
    simp [*, F99, zb, zd, za, parsV]
  ·replace hff := eqn hff
   simp [*, F99, zb, zd, za, parsV]
 clear hfi hdrop hlet hql hvl hlvl
 by_cases k2 : x.kind = 2
 ·obtain ⟨y, hy⟩ := hone (by simp [k2])
  obtain ⟨hget, ha0⟩ := one y hy
  have hw1 := hwant y (by rw [hy]; simp)
  rw [if_neg (by omega), if_neg (by omega), if_neg (by omega), if_neg (by omega), if_neg (by omega)]
  unfold boundT
  rw [if_neg k1, if_pos k2, ha0]
  clear hy r1 ha0 hwant hexp hone hkind h3' hh one
  replace k1 := eqn k1
  replace k2 := eqp k2
  unfold typeV at hf
  generalize zya s x.name = vs at *
  cases vs with
  | nil =>
   clear hw1
   simp [parsV] at hf
   simp [*, F99, zb, zd, za, parsV]
  | cons v r =>
   have hw1 := hw1 v.type
   rw [za] at hw1
   simp [zd, parsV] at hw1 hf
   simp [*, F99, zb, zd, za, parsV]
 clear hf
 by_cases k3 : x.kind = 3
 ·have hl2 : x.args.length = 2 := by rw [k3] at r1; simp [zQ] at r1; omega
  obtain ⟨y, z, hy⟩ : ∃ y z, x.args = [y, z] := by
   match h : x.args, hl2 with
   | [y, z], _ => exact ⟨y, z, rfl⟩
  have hget : x.args[0]? = some y := by rw [hy]; rfl
  have hget1 : x.args[1]? = some z := by rw [hy]; rfl
  have ha0 : arg0 x.args = y := by unfold arg0; rw [hget]; rfl
  have ha1 : arg1 x.args = z := by unfold arg1; rw [hget1]; rfl
  rw [if_neg (by omega), if_neg (by omega), if_neg (by omega), if_neg (by omega), if_neg (by omega)]
  unfold boundT
  rw [if_neg k1, if_neg k2, ha0, ha1]
  have hw1 := hwant y (by rw [hy]; simp) 1
  have hw2 := hwant z (by rw [hy]; simp) 1
  clear hy hl2 r1 ha0 ha1 hwant hexp hone hkind one
  replace k1 := eqn k1
  replace k2 := eqn k2
  replace k3 := eqp k3
  rw [za] at hw1 hw2
  simp [zd, parsV] at hw1 hw2
  generalize zeb p x.name = b at *
  cases b
  ·clear hw1 hw2
   simp at h3'
   replace h3' := eqp h3'
   simp [*, F99, zb, zd, za, parsV]
  ·simp at h3'
   replace h3' : (zVa p x.name < 0) = False := eqn (by omega)
   generalize znc p s y 1 = f at *
   by_cases hff : f = 0
   ·subst hff
    simp [*, F99, zb, zd, za, parsV]
   ·replace hff := eqn hff
    simp [*, F99, zb, zd, za, parsV]
 clear hh h3'
 by_cases k45 : x.kind = 4 \/ x.kind = 5
 ·obtain ⟨y, hy⟩ := hone (by rcases k45 with h | h <;> simp [h])
  obtain ⟨hget, ha0⟩ := one y hy
  have hw1 := hwant y (by rw [hy]; simp) 2
  rw [if_pos k45, ha0]
  rw [za] at hw1
  simp [zd, parsV] at hw1
  clear hy r1 ha0 hwant hexp hone one
  have k5' : x.kind = 5 -> (x.kind = 4) = False := fun h => eqn (by omega)
  replace k1 := eqn k1
  replace k2 := eqn k2
  replace k3 := eqn k3
  clear hkind
  rcases k45 with k4 | k4
  ·replace k4 := eqp k4
   clear k5'
   simp [*, F99, zb, zd, za, parsV]
  ·replace k5' := k5' k4
   replace k4 := eqp k4
   simp [*, F99, zb, zd, za, parsV]
 rw [if_neg k45]
 have k4 : (x.kind = 4) = False := eqn fun h => k45 (Or.inl h)
 have k5 : (x.kind = 5) = False := eqn fun h => k45 (Or.inr h)
 replace k1 := eqn k1
 replace k2 := eqn k2
 replace k3 := eqn k3
 clear k45
 by_cases k8 : x.kind = 8
 ·obtain ⟨y, hy⟩ := hone (by simp [k8])
  obtain ⟨hget, ha0⟩ := one y hy
  have hw1 := hwant y (by rw [hy]; simp) g.type
  rw [if_pos k8, ha0]
  rw [za] at hw1
  simp [zd, parsV] at hw1
  clear hy r1 ha0 hwant hexp hone one hkind
  replace k8 := eqp k8
  simp [*, F99, zb, zd, za, parsV]
 by_cases k9 : x.kind = 9
 ·obtain ⟨y, hy⟩ := hone (by simp [k9])
  obtain ⟨hget, ha0⟩ := one y hy
  have hw1 := hwant y (by rw [hy]; simp) 1
  rw [if_neg k8, if_pos k9, ha0]
  rw [za] at hw1
  simp [zd, parsV] at hw1
  clear hy r1 ha0 hwant hexp hone one hkind
  replace k8 := eqn k8
  replace k9 := eqp k9
  simp [*, F99, zb, zd, za, parsV]
 by_cases k10 : x.kind = 10
 ·obtain ⟨y, hy⟩ := hone (by simp [k10])
  obtain ⟨hget, ha0⟩ := one y hy
  have hw1 := hexp y (by rw [hy]; simp)
  rw [if_neg k8, if_neg k9, if_pos k10, ha0]
  rw [za] at hw1
  simp [zd, parsV, zf, zbb] at hw1
  clear hy r1 ha0 hwant hexp hone one hkind
  replace k8 := eqn k8
  replace k9 := eqn k9
  replace k10 := eqp k10
  simp [*, F99, zb, zd, za, parsV]
 rw [if_neg k8, if_neg k9, if_neg k10, if_pos (by
  have := of_eq_false k1; have := of_eq_false k2; have := of_eq_false k3; have := of_eq_false k4; have := of_eq_false k5
  omega)]
 replace k8 := eqn k8
 replace k9 := eqn k9
 replace k10 := eqn k10
 clear r1 hwant hexp hone one hkind
 cases loop <;> simp [*, F99, zb, zd, za, parsV]
end PE.U

namespace PE.U
open Go PE
theorem blockGo_len (p : Prog) (res d : Int) (loop : Bool) : ∀ (l : List Stmt) (vs : List Vr) (n : Int), (zua p res d loop l vs n).1.length <= vs.length + l.length
 | [], vs, n => by simp [zua]
 | x :: r, vs, n => by
  have h2 := blockGo_len p res d loop r (zla d x vs) (zWb p res x vs d loop n).2
  have h1 : (zla d x vs).length <= vs.length + 1 := by unfold zla; split <;> simp
  simp only [zua, List.length_cons]; omega
theorem lay_behind {s : List Vr} {d : Int} {q : Nat} (L : Lay s d q) (x : Stmt) : Nonempty (Lay (zla d x s) d q) := by
 obtain ⟨inner, outer, rfl, len, ins, outs⟩ := L
 unfold zla
 split
 ·refine ⟨⟨⟨x.name, x.type, d⟩ :: inner, outer, rfl, len, ?_, outs⟩⟩
  intro v hv
  rcases List.mem_cons.1 hv with rfl | hv
  ·rfl
  ·exact ins v hv
 ·exact ⟨⟨inner, outer, rfl, len, ins, outs⟩⟩
theorem lay_under {s : List Vr} {d : Int} {q : Nat} (L : Lay s d q) : ∀ v ∈ s, v.depth < d + 1 := by
 obtain ⟨inner, outer, rfl, len, ins, outs⟩ := L
 intro v hv
 rcases List.mem_append.1 hv with h | h
 ·have := ins v h; omega
 ·have := outs v h; omega
set_option maxRecDepth 20000 in
set_option maxHeartbeats 16000000 in
theorem rblock_spec' : ∀ w (p : Prog) (g : Func) (l : List Stmt) (vs : List Vr) (d m n : Int) (loop : Bool) (σ : ze) (k : Nat), wtSs l <= w -> w < 1099508000000 -> Fit p -> zL l m = true -> 0 <= n -> n + wtSs l < 4000000000000 -> vs.length + wtSs l < 1099508500000 -> (∀ v ∈ vs, v.depth < d) -> σ[k]? = some (cob p g n) →
  zi E 72 [.ptr k 0 0, zh l, parsV (zoa vs), .bool loop] σ = some (.ret (.int .i64 (zba p g.type l vs d loop n).1), σ.set k (cob p g (zba p g.type l vs d loop n).2)) := by
 intro w
 induction w with
 | zero =>
  intro p g l vs d m n loop σ k h hw hz hR hn0 hnw hvl hvd hk
  have hl : l = [] := by
   have := zva l
   exact List.eq_nil_of_length_eq_zero (by omega)
  subst hl
  have hset : σ.set k (cob p g n) = σ := by
   have hlt := (List.getElem?_eq_some_iff.1 hk)
   obtain ⟨h1, h2⟩ := hlt
   rw [<- h2, List.set_getElem_self]
  have hvl2 := zqb vs
  have hroom : vs.length * 24 <= zu := by simp only [zu]; omega
  refine zc rfl rfl rfl (by simp [zh, parsV]) ?_
  simp only [zba, hset]
  simp [F72, zh, parsV, hvl2, hroom]
  refine zG ([] : List Stmt) K72_0 B72_0 (fun d' => [(9, acc 2 ((zoa vs).map encPar)), (10, .int .i64 d'.length)]) (fun _ => σ) (fun _ => True) (by simp) (by simp) ?_ ?_
  ·intros d' x r s1 hl' hlt
   simp at hlt
  ·intros s1 hp h1 h2 h3 h4
   simp at h1 h2 h3
   simp [*]
 | succ w ih =>
  intro p g l vs d m n loop σ k h hw hz hR hn0 hnw hvl hvd hk
  have hlen := zva l
  have hset : σ.set k (cob p g n) = σ := by
   have hlt := (List.getElem?_eq_some_iff.1 hk)
   obtain ⟨h1, h2⟩ := hlt
   rw [<- h2, List.set_getElem_self]
  have hklt : k < σ.length := (List.getElem?_eq_some_iff.1 hk).1
  have hvl2 := zqb vs
  have hroom : vs.length * 24 <= zu := by simp only [zu]; omega
  refine zc rfl rfl rfl (by simp [zh, parsV]) ?_
  simp [F72, zh, parsV, hvl2, hroom]
  refine zG l K72_0 B72_0 (fun q => [(9, acc 2 ((zoa (zua p g.type d loop q vs n).1).map encPar)), (10, .int .i64 q.length)]) (fun q => σ.set k (cob p g (zua p g.type d loop q vs n).2)) (fun q => zVb p g.type d loop q vs n /\ Nonempty (Lay (zua p g.type d loop q vs n).1 d vs.length)) (by omega) ?_ ?_ ?_
  ·simp [zua, zVb, hset]
   exact ⟨⟨[], vs, rfl, rfl, by simp, hvd⟩⟩
  ·intros q x r s1 hl' hlt hget hget' hw1 hp h1 h2 h3 h4
   obtain ⟨hp, ⟨L⟩⟩ := hp
   have hT := blockT_go p g.type d loop (x :: r) q vs n hp
   rw [<- hl'.eq, zbc, zoe] at hT
   have hG := blockGo_snoc p g.type d loop x q vs n
   have hF := zYd p g.type d loop x q vs n hp
   rw [zoe] at hG hF
   have hxR : zBb x m = true := by rw [stmtsR_all, List.all_eq_true] at hR; exact hR x hl'.mem
   have hwx := zSd hl'.mem
   rw [zJa] at hwx
   obtain ⟨r1, r2, r3, r4⟩ := zpc hxR
   have hgc := zIe p g.type d loop q vs n
   have hgl := blockGo_len p g.type d loop q vs n
   have hws : wtSs l = wtSs q + (1 + wtS x + wtSs r) := by rw [hl'.eq, zpe]; rfl
   rw [zJa] at hws
   have hlq := zva q
   generalize zua p g.type d loop q vs n = gg at *
   obtain ⟨v1, n1⟩ := gg
   simp only at hT hG hF h3 h4 hgc hgl L
   have hwn : zB .i64 (n1 + 1) = n1 + 1 := zj (by omega) (by omega)
   have hk1 : (σ.set k (cob p g n1))[k]? = some (cob p g n1) := by rw [List.getElem?_set_self hklt]
   have hst := rown_spec (x := x) (loop := loop) hk1 L hz (by omega) (by rw [zJa]; omega) hxR
   obtain ⟨L2⟩ := lay_behind L x
   have hun := lay_under L2
   have hbl : (zla d x v1).length <= v1.length + 1 := by unfold zla; split <;> simp
   have hvv := zqb v1
   have hi1 := ih p g x.thn (zla d x v1) (d + 1) (m - 1) (n1 + 1) (loop || decide (x.kind = 5)) (σ.set k (cob p g (n1 + 1))) k (by omega) (by omega) hz r3 (by omega) (by omega) (by omega) hun (by rw [List.getElem?_set_self hklt])
   rw [List.set_set] at hi1
   have hc1 := zVc p g.type x.thn (zla d x v1) (d + 1) (loop || decide (x.kind = 5)) (n1 + 1)
   generalize hT1 : zba p g.type x.thn (zla d x v1) (d + 1) (loop || decide (x.kind = 5)) (n1 + 1) = t1 at *
   obtain ⟨f1, n2⟩ := t1
   simp only at hc1
   have hi2 := ih p g x.els (zla d x v1) (d + 1) (m - 1) n2 loop (σ.set k (cob p g n2)) k (by omega) (by omega) hz r4 (by omega) (by omega) (by omega) hun (by rw [List.getElem?_set_self hklt])
   rw [List.set_set] at hi2
   simp only at hT hG hF hi1
   generalize hT2 : zba p g.type x.els (zla d x v1) (d + 1) loop n2 = t2 at *
   obtain ⟨f2, n3⟩ := t2
   simp only at hT hG hF hi2
   generalize stmtT p g.type v1 x.kind x.type x.name x.args d loop = f0 at *
   have hb : zla d x v1 = if x.kind = 1 then ⟨x.name, x.type, d⟩ :: v1 else v1 := rfl
   have hroom1 : (v1.length + 1) * 24 <= zu := by simp only [zu]; omega
   have hL3 : Nonempty (Lay (zla d x v1) d vs.length) := ⟨L2⟩
   clear ih hT1 hT2 r1 r2 r3 r4 hws hgc hc1 hnw hn0 hwx hxR hl' hR h hlen hset L L2 hun hlq hbl hgl hroom hvd hvl
   rw [zb] at hst
   simp [zd, zh, parsV] at hst hi1 hi2
   simp [zd, zh] at h1 h2 h3 h4
   unfold cob at *
   simp only [zh, parsV] at hst hi1 hi2 h4 hk ⊢
   by_cases hf0 : f0 = 0
   case neg =>
    simp [hf0] at hT
    rw [hT]
    clear hT hG hF hi1 hi2 hb hp hL3
    replace hf0 := eqn hf0
    simp [*, zb, zd, zh, parsV]
   subst hf0
   by_cases hk1 : x.kind = 1
   ·have hk5 : ¬ x.kind = 5 := by omega
    rw [if_pos hk1] at hb
    replace hk1 := eqp hk1
    replace hk5 := eqn hk5
    rw [hb] at hi1 hi2 hG hL3
    clear hb
    rw [zld] at hi1 hi2
    simp only [parOf, hk5, decide_false, Bool.or_false, List.map_append, List.map_cons, List.map_nil, encPar] at hi1 hi2
    by_cases hf1 : f1 = 0
    case neg =>
     simp [hf1] at hT
     rw [hT]
     clear hT hG hF hi2 hp hL3
     replace hf1 := eqn hf1
     cases loop <;> simp [*, zb, zd, zh, parsV]
    subst hf1
    by_cases hf2 : f2 = 0
    case neg =>
     simp [hf2] at hT
     rw [hT]
     clear hT hG hF hp hL3
     replace hf2 := eqn hf2
     cases loop <;> simp [*, zb, zd, zh, parsV]
    subst hf2
    simp at hG hF
    clear hT hp
    have hv2 : (zoa (⟨x.name, x.type, d⟩ :: v1)).map encPar = (zoa v1).map encPar ++ [.agg [.str x.name, .int .i64 x.type]] := by rw [zld]; simp [parOf, encPar]
    cases loop <;> simp [*, zb, zd, zh, parsV]
   ·rw [if_neg hk1] at hb
    replace hk1 := eqn hk1
    rw [hb] at hi1 hi2 hG hL3
    clear hb
    by_cases hf1 : f1 = 0
    case neg =>
     simp [hf1] at hT
     rw [hT]
     clear hT hG hF hi2 hp hL3
     replace hf1 := eqn hf1
     cases loop <;> simp at hi1 <;> simp [*, zb, zd, zh, parsV]
    subst hf1
    by_cases hf2 : f2 = 0
    case neg =>
     simp [hf2] at hT
     rw [hT]
     clear hT hG hF hp hL3
     replace hf2 := eqn hf2
     cases loop <;> simp at hi1 <;> simp [*, zb, zd, zh, parsV]
    subst hf2
    simp at hG hF
    clear hT hp
    cases loop <;> simp at hi1 <;> simp [*, zb, zd, zh, parsV]
  ·intros s1 hp h1 h2 h3 h4
   obtain ⟨hp, _⟩ := hp
   have hT := blockT_go p g.type d loop [] l vs n hp
   rw [List.append_nil, zba] at hT
   rw [hT]
   simp at h1 h2 h3 h4
   clear hT hp hR ih
   simp [*]
end PE.U

namespace PE.U
open Go PE
abbrev Cnt := List (List UInt8 × Int)
def zzd (l : Cnt) : List (PV × PV) := l.map fun x => (.str x.1, .int .i64 x.2)
def getC (nm : List UInt8) : Cnt -> Int
 | [] => 0
 | x :: r => if nm = x.1 then x.2 else getC nm r
def hasC (nm : List UInt8) (l : Cnt) : Bool := l.any fun x => decide (nm = x.1)
def setC (nm : List UInt8) (v : Int) : Cnt -> Cnt
 | [] => [(nm, v)]
 | x :: r => if nm = x.1 then (nm, v) :: r else x :: setC nm v r
theorem find_cnt (nm : List UInt8) (l : Cnt) : zV true (.str nm) (zzd l) = some (if hasC nm l then some (.int .i64 (getC nm l)) else none) := by
 induction l with
 | nil => simp [zzd, hasC]
 | cons x r ih =>
  have ih' : zV true (.str nm) (r.map fun x => (PV.str x.1, PV.int .i64 x.2)) = _ := ih
  simp only [zzd, List.map_cons, zV, zRc, if_true]
  by_cases h : nm = x.1
  ·simp [h, hasC, getC]
  ·have hd : decide (nm = x.1) = false := decide_eq_false h
   simp only [decide_eq_false h, ih', getC, if_neg h, hasC, List.any_cons, Bool.false_or]
   rfl
theorem set_cnt (nm : List UInt8) (v : Int) (l : Cnt) : zLb true (.str nm) (.int .i64 v) (zzd l) = some (zzd (setC nm v l)) := by
 induction l with
 | nil => simp [zzd, setC]
 | cons x r ih =>
  have ih' : zLb true (.str nm) (.int .i64 v) (r.map fun x => (PV.str x.1, PV.int .i64 x.2)) = _ := ih
  simp only [zzd, List.map_cons, zLb, zRc, if_true]
  by_cases h : nm = x.1
  ·simp [h, setC]
  ·simp [h, ih', setC, zzd]
noncomputable def bump (l : Cnt) (nm : List UInt8) : Cnt := setC nm (zB .i64 (getC nm l + 1)) l
noncomputable def zY (l : Cnt) (d : List (List UInt8)) : Cnt := d.foldl bump l
theorem zGe (l : Cnt) (d : List (List UInt8)) (x : List UInt8) : zY l (d ++ [x]) = bump (zY l d) x := by simp [zY]
theorem getC_none {nm : List UInt8} {l : Cnt} (h : hasC nm l = false) : getC nm l = 0 := by
 induction l with
 | nil => rfl
 | cons x r ih =>
  simp [hasC] at h ih
  rw [getC, if_neg h.1]
  exact ih (by simpa [hasC] using h.2)
theorem setC_keys (nm : List UInt8) (v : Int) (l : Cnt) : (setC nm v l).length = (if hasC nm l then l.length else l.length + 1) /\ ∀ y, hasC y (setC nm v l) = (decide (y = nm) || hasC y l) := by
 induction l with
 | nil => simp [setC, hasC]
 | cons x r ih =>
  obtain ⟨i1, i2⟩ := ih
  unfold setC
  by_cases h : nm = x.1
  ·rw [if_pos h]
   subst h
   refine ⟨by simp [hasC], fun y => ?_⟩
   simp [hasC]
  ·rw [if_neg h]
   refine ⟨?_, fun y => ?_⟩
   ·have : hasC nm (x :: r) = hasC nm r := by simp [hasC, h]
    rw [List.length_cons, i1, this]
    split <;> simp
   ·have e1 : hasC y (x :: setC nm v r) = (decide (y = x.1) || hasC y (setC nm v r)) := by simp [hasC]
    have e2 : hasC y (x :: r) = (decide (y = x.1) || hasC y r) := by simp [hasC]
    rw [e1, e2, i2]
    cases decide (y = x.1) <;> simp
theorem counts_len (d : List (List UInt8)) : (zY [] d).length <= d.length /\ ((zY [] d).length = d.length <-> d.Nodup) /\ ∀ y, hasC y (zY [] d) = decide (y ∈ d) := by
 suffices h : ∀ d : List (List UInt8), (zY [] d.reverse).length <= d.length /\ ((zY [] d.reverse).length = d.length <-> d.Nodup) /\ ∀ y, hasC y (zY [] d.reverse) = decide (y ∈ d) by
  have := h d.reverse
  rw [(List.reverse_perm d).nodup_iff] at this
  simpa using this
 intro d
 induction d with
 | nil => simp [zY, hasC]
 | cons x r ih =>
  obtain ⟨i1, i2, i3⟩ := ih
  rw [List.reverse_cons, zGe]
  unfold bump
  obtain ⟨k1, k2⟩ := setC_keys x (zB .i64 (getC x (zY [] r.reverse) + 1)) (zY [] r.reverse)
  rw [i3] at k1
  refine ⟨?_, ?_, ?_⟩
  ·rw [k1]; split <;> simp <;> omega
  ·rw [k1, List.nodup_cons]
   by_cases hx : x ∈ r
   ·simp [hx]; omega
   ·simp [hx]; exact i2
  ·intro y
   rw [k2, i3]
   simp
theorem mapLen (l : Cnt) : (zzd l).length = l.length := by simp [zzd]
def twiceM (l : List Par) : Bool := !decide ((l.map (·.name)).Nodup)
set_option maxHeartbeats 1000000 in
theorem twice_spec (l : List Par) (hl : l.length < 1099511000000) : zi E 63 [parsV l] [] = some (.ret (.bool (twiceM l)), []) := by
 refine zc rfl rfl rfl (by simp [parsV]) ?_
 simp [F63, parsV]
 refine zG l K63_0 B63_0 (fun d => [(9, .int .i64 d.length)]) (fun d => [.mp (zzd (zY [] (d.map (·.name))))]) (fun _ => True) (by omega) (by simp [zY, zzd]) ?_ ?_
 ·intros d x r s1 hl' hlt hget hget' hw1 hp h1 h2 h3 h4
  simp at h1 h2 h3 h4
  have f1 := find_cnt x.name (zY [] (d.map (·.name)))
  have s1' := set_cnt x.name (zB .i64 (getC x.name (zY [] (d.map (·.name))) + 1)) (zY [] (d.map (·.name)))
  have e1 : zY [] ((d ++ [x]).map (·.name)) = setC x.name (zB .i64 (getC x.name (zY [] (d.map (·.name))) + 1)) (zY [] (d.map (·.name))) := by rw [List.map_append, List.map_cons, List.map_nil, zGe]; rfl
  have e2 := getC_none (nm := x.name) (l := zY [] (d.map (·.name)))
  generalize zY [] (d.map (·.name)) = c at *
  clear hl'
  cases hh : hasC x.name c
  ·rw [hh] at f1
   have e2 := e2 hh
   rw [e2] at s1' e1
   simp at f1 s1' e1
   simp [*, encPar]
  ·rw [hh] at f1
   clear e2
   simp at f1 s1' e1
   simp [*, encPar]
 ·intros s1 hp h1 h2 h3 h4
  simp at h1 h2 h3 h4
  obtain ⟨c1, c2, c3⟩ := counts_len (l.map (·.name))
  have hlen := mapLen (zY [] (l.map (·.name)))
  simp only [List.length_map] at c1 c2
  generalize zY [] (l.map (·.name)) = c at *
  have hR : twiceM l = decide ((c.length : Int) < l.length) := by
   unfold twiceM
   rw [<- decide_not, decide_eq_decide, <- c2]; omega
  clear c1 c2 c3 hp
  simp [*]
def zzc : List UInt8 := [109, 97, 105, 110]
def zec (p : Prog) : Bool := decide ((p.arrays.map (·.name) ++ p.funcs.map (·.name)).Nodup) && (match zAa p zzc with
 | some f => decide (f.type = 1) && decide (f.params = [])
 | none => false)
set_option maxHeartbeats 4000000 in
theorem tnamed_spec (p : Prog) (hz : Fit p) : zi E 62 [zf p] [] = some (.ret (.bool (zec p)), []) := by
 have ha := hz.a
 have hf := hz.f
 have hpl := zde p zzc [] (by omega)
 have hsum : zB .i64 ((p.arrays.length : Int) + p.funcs.length) = (p.arrays.length : Int) + p.funcs.length := zj (by omega) (by omega)
 refine zc rfl rfl rfl (by simp [zf]) ?_
 simp [F62, zf, zka, funcs]
 refine zG p.arrays K62_0 B62_0 (fun d => [(13, .int .i64 d.length)]) (fun d => [.mp (zzd (zY [] (d.map (·.name))))]) (fun _ => True) (by omega) (by simp [zY, zzd]) ?_ ?_
 ·intros d x r s1 hl' hlt hget hget' hw1 hp h1 h2 h3 h4
  simp at h1 h2 h3 h4
  have f1 := find_cnt x.name (zY [] (d.map (·.name)))
  have s1' := set_cnt x.name (zB .i64 (getC x.name (zY [] (d.map (·.name))) + 1)) (zY [] (d.map (·.name)))
  have e1 : zY [] ((d ++ [x]).map (·.name)) = setC x.name (zB .i64 (getC x.name (zY [] (d.map (·.name))) + 1)) (zY [] (d.map (·.name))) := by rw [List.map_append, List.map_cons, List.map_nil, zGe]; rfl
  have e2 := getC_none (nm := x.name) (l := zY [] (d.map (·.name)))
  generalize zY [] (d.map (·.name)) = c at *
  clear hl' hpl hsum ha hf
  cases hh : hasC x.name c
  ·rw [hh] at f1
   have e2 := e2 hh
   rw [e2] at s1' e1
   simp at f1 s1' e1
   simp [*, zR]
  ·rw [hh] at f1
   clear e2
   simp at f1 s1' e1
   simp [*, zR]
 intros s1 hp h1 h2 h3 h4
 simp at h1 h2 h3 h4
 clear hp
 simp [*]
 refine zG p.funcs K62_1 B62_1 (fun d => [(26, .int .i64 d.length)]) (fun d => [.mp (zzd (zY [] (p.arrays.map (·.name) ++ d.map (·.name))))]) (fun _ => True) (by omega) ?_ ?_ ?_
 ·simp [*]
 ·intros d x r s2 hl' hlt hget hget' hw1 hp g1 g2 g3 g4
  simp at g1 g2 g3 g4
  have f1 := find_cnt x.name (zY [] (p.arrays.map (·.name) ++ d.map (·.name)))
  have s1' := set_cnt x.name (zB .i64 (getC x.name (zY [] (p.arrays.map (·.name) ++ d.map (·.name))) + 1)) (zY [] (p.arrays.map (·.name) ++ d.map (·.name)))
  have e1 : zY [] (p.arrays.map (·.name) ++ (d ++ [x]).map (·.name)) = setC x.name (zB .i64 (getC x.name (zY [] (p.arrays.map (·.name) ++ d.map (·.name))) + 1)) (zY [] (p.arrays.map (·.name) ++ d.map (·.name))) := by rw [List.map_append, List.map_cons, List.map_nil, <- List.append_assoc, zGe]; rfl
  have e2 := getC_none (nm := x.name) (l := zY [] (p.arrays.map (·.name) ++ d.map (·.name)))
  generalize zY [] (p.arrays.map (·.name) ++ d.map (·.name)) = c at *
  clear hl' hpl hsum ha hf h1 h2 h4
  cases hh : hasC x.name c
  ·rw [hh] at f1
   have e2 := e2 hh
   rw [e2] at s1' e1
   simp at f1 s1' e1
   simp [*, zm]
  ·rw [hh] at f1
   clear e2
   simp at f1 s1' e1
   simp [*, zm]
 ·intros s2 hp g1 g2 g3 g4
  simp at g1 g2 g3 g4
  obtain ⟨c1, c2, c3⟩ := counts_len (p.arrays.map (·.name) ++ p.funcs.map (·.name))
  have hlen := mapLen (zY [] (p.arrays.map (·.name) ++ p.funcs.map (·.name)))
  simp only [List.length_map, List.length_append] at c1 c2
  unfold zec
  have hR : decide ((p.arrays.map (·.name) ++ p.funcs.map (·.name)).Nodup) = decide (((zY [] (p.arrays.map (·.name) ++ p.funcs.map (·.name))).length : Int) = (p.arrays.length : Int) + p.funcs.length) := by
   rw [decide_eq_decide, <- c2]; omega
  rw [hR]
  generalize zY [] (p.arrays.map (·.name) ++ p.funcs.map (·.name)) = c at *
  clear c1 c2 c3 hp h1 h2 h4 hR
  simp [zf, zzc, zka, funcs] at hpl
  rcases zTb (fun f : Func => decide (f.name = zzc)) p.funcs with ⟨a1, a2⟩ | ⟨n, f, a1, a2, a3, a4, a5⟩
  ·have a1 : zsa p zzc = -1 := a1
   have a2 : zAa p zzc = none := a2
   simp [zzc] at a1
   rw [a1] at hpl
   rw [a2]
   clear ha hf a2 a1
   by_cases hq : (c.length : Int) = (p.arrays.length : Int) + p.funcs.length
   ·replace hq := eqp hq
    simp [*]
   ·replace hq := eqn hq
    simp [*]
  ·have a1 : zsa p zzc = n := a1
   have a3 : zAa p zzc = some f := a3
   simp [zzc] at a1
   rw [a1] at hpl
   rw [a3]
   clear ha hf a3 a4 a5 a1
   by_cases hq : (c.length : Int) = (p.arrays.length : Int) + p.funcs.length
   ·replace hq := eqp hq
    by_cases ht : f.type = 1
    ·replace ht := eqp ht
     simp [*, zm, parsV]
    ·replace ht := eqn ht
     simp [*, zm, parsV]
   ·replace hq := eqn hq
    simp [*]
end PE.U

namespace PE.U
open Go PE
def zjb (p : Prog) (f : Func) : Int × Int :=
 if twiceM f.params then (50, 0)
 else
  let q := zba p f.type f.body (zU f.params) 1 false 0
  (if q.1 = 0 /\ ztb f.body = false then 52 else q.1, q.2)
def zJc (p : Prog) : List Func -> Int -> Int × Int × Int
 | [], _ => (0, 0, 0)
 | f :: r, i => if (zjb p f).1 ≠ 0 then ((zjb p f).1, i, (zjb p f).2) else zJc p r (i + 1)
def zjc (p : Prog) : Int × Int × Int := if zKb p then if zec p then zJc p p.funcs 0 else (50, 0, 0) else (1, 0, 0)
def zwa (r : Int × Int × Int) : PV := .tup [.int .i64 r.1, .agg [.int .i64 r.2.1, .int .i64 r.2.2]]
theorem zAd (p : Prog) (r : List Func) : ∀ (d : List Func) (i : Int), (∀ f ∈ d, (zjb p f).1 = 0) -> zJc p (d ++ r) i = zJc p r (i + d.length)
 | [], i, _ => by simp
 | f :: d, i, h => by
  have h1 := h f (by simp)
  rw [List.cons_append, zJc, if_neg (by rw [h1]; simp), zAd p r d (i + 1) (fun g hg => h g (by simp [hg]))]
  rw [List.length_cons]
  congr 1; omega
theorem PSz.fit {p : Prog} (h : PSz p) : Fit p := ⟨h.1, h.2.1, fun f hf => (h.2.2 f hf).2⟩
set_option maxRecDepth 20000 in
set_option maxHeartbeats 8000000 in
theorem check_spec (p : Prog) (hz : PSz p) : zi E 31 [zf p] [] = some (.ret (zwa (zjc p)), []) := by
 have hfit := hz.fit
 obtain ⟨z1, z2, z3⟩ := hz
 have hr := tright_spec p ⟨z1, z2, z3⟩
 have hn := tnamed_spec p hfit
 refine zc rfl rfl rfl (by simp [zf]) ?_
 unfold zjc
 cases hR : zKb p
 ·rw [hR] at hr
  clear hn hfit z3
  simp [zf] at hr
  simp [*, F31, zf, zwa]
 cases hN : zec p
 ·rw [hR] at hr
  rw [hN] at hn
  clear hfit z3
  simp [zf] at hr hn
  simp [*, F31, zf, zwa]
 rw [hR] at hr
 rw [hN] at hn
 simp [zf, funcs] at hr hn
 simp [hr, hn, F31, zf, funcs]
 refine zbd p.funcs K31_0 B31_0 (fun d => [(21, .int .i64 d.length)]) (fun d => [(3, .cells [.int .i64 0, .int .i64 0])]) (fun d => d.map fun f => fob p f.type (zjb p f).2) (fun d => ∀ f ∈ d, (zjb p f).1 = 0) (by omega) (by simp) ?_ ?_
 ·intros d x r s1 hl' hlt hget hget' hw1 hp h1 h2 h3 h5 h4
  have hC := zAd p (x :: r) d 0 hp
  rw [<- hl'.eq, zJc, Int.zero_add] at hC
  obtain ⟨y1, y2⟩ := z3 x hl'.mem
  have hbR : zL x.body 100 = true := by
   unfold zKb at hR
   rw [Bool.and_eq_true, List.all_eq_true, List.all_eq_true] at hR
   have := hR.2 x hl'.mem
   unfold zwd at this
   simp only [Bool.and_eq_true] at this
   exact this.2.2.2.1
  have e1 := twice_spec x.params (by omega)
  have e2 := scoped_spec x.params [] (by omega)
  have e3 := ends_spec x.body 100 y1 hbR
  have hlen : (d.map fun f => fob p f.type (zjb p f).2).length = d.length := by simp
  have e4 := block_spec' (wtSs x.body) p x.type x.body (zU x.params) 1 100 0 false ((d.map fun f => fob p f.type (zjb p f).2) ++ [fob p x.type 0]) d.length (Nat.le_refl _) y1 hfit hbR (by omega) (by omega) (by omega) (by omega) (by omega) (by rw [List.getElem?_append_right (by omega), hlen]; simp)
  have hnx : (zjb p x).1 = 0 -> ∀ f ∈ d ++ [x], (zjb p f).1 = 0 := by
   intro h f hf
   rcases List.mem_append.1 hf with hf | hf
   ·exact hp f hf
   ·rw [List.mem_singleton.1 hf]; exact h
  have hset : ∀ v, ((d.map fun f => fob p f.type (zjb p f).2) ++ [fob p x.type 0]).set d.length v = (d.map fun f => fob p f.type (zjb p f).2) ++ [v] := by
   intro v
   rw [List.set_append_right _ _ (by omega), hlen]; simp
  have hmap : (d ++ [x]).map (fun f => fob p f.type (zjb p f).2) = (d.map fun f => fob p f.type (zjb p f).2) ++ [fob p x.type (zjb p x).2] := by simp
  rw [hset] at e4
  have h1x : zjb p x = if twiceM x.params then (50, 0) else (if (zba p x.type x.body (zU x.params) 1 false 0).1 = 0 /\ ztb x.body = false then 52 else (zba p x.type x.body (zU x.params) 1 false 0).1, (zba p x.type x.body (zU x.params) 1 false 0).2) := rfl
  generalize hfx : zjb p x = fx at *
  generalize zba p x.type x.body (zU x.params) 1 false 0 = q at *
  generalize twiceM x.params = tw at *
  generalize ztb x.body = en at *
  obtain ⟨f, n⟩ := q
  obtain ⟨fe, fn⟩ := fx
  simp only at e4 hC hnx hmap h1x
  generalize hσ : (d.map fun f => fob p f.type (zjb p f).2) = σ at *
  have hget0 : (σ ++ [fob p x.type n])[d.length]? = some (fob p x.type n) := by rw [List.getElem?_append_right (by omega), hlen]; simp
  simp at h1 h2 h3 h4 h5
  simp [parsV] at e1 e2
  simp [zh] at e3 e4
  clear hl' hR hN hset hbR y1 y2 z1 z2 z3 hfit hp
  unfold fob at *
  simp only [funcs] at e4 hget0 hmap
  cases tw
  case true =>
   simp at h1x
   obtain ⟨rfl, rfl⟩ := h1x
   simp at hC
   clear e2 e3 e4 hnx hmap hget0 hlen hfx
   simp [*, zm, parsV, zh, zwa]
  simp at h1x
  obtain ⟨ha, rfl⟩ := h1x
  by_cases hf : f = 0
  ·subst hf
   cases en
   ·simp at ha
    subst ha
    simp at hC
    clear hnx hmap hfx
    simp [*, zm, parsV, zh, zwa]
   ·simp at ha
    subst ha
    replace hnx := hnx rfl
    have keep : fn = (zjb p x).2 /\ ∀ g, g ∈ d \/ g = x -> (zjb p g).1 = 0 := ⟨by rw [hfx], fun g hg => hnx g (by simpa using hg)⟩
    clear hC hnx hfx hmap
    simp [*, -keep, zm, parsV, zh, zwa]
    exact ⟨⟨rfl, keep.1⟩, keep.2⟩
  ·simp [hf] at ha
   subst ha
   simp [hf] at hC
   replace hf := eqn hf
   clear hnx hmap hfx
   simp [*, zm, parsV, zh, zwa]
 ·intros s1 hp h1 h2 h3 h5 h4
  have hC := zAd p [] p.funcs 0 hp
  rw [List.append_nil, zJc] at hC
  rw [hC]
  simp at h1 h2 h3 h4 h5
  clear hp hC z3
  simp [*, zwa]
end PE.U

namespace PE.U
open Go PE
theorem nodup_idx {α : Type} (f : α -> List UInt8) (l : List α) : (l.map f).Nodup <-> ∀ d x r, l = d ++ x :: r -> idx (fun y => decide (f y = f x)) l = d.length := by
 constructor
 ·intro h d x r e
  subst e
  refine idx_hit (x := x) (r := r) rfl ?_ (by simp)
  intro y hy
  rw [List.map_append, List.nodup_append] at h
  exact decide_eq_false (h.2.2 _ (List.mem_map_of_mem hy) _ (by simp))
 ·intro h
  have : ∀ d r, l = d ++ r -> (d.map f).Nodup := by
   intro d
   suffices hs : ∀ d : List α, ∀ r, l = d.reverse ++ r -> (d.reverse.map f).Nodup by
    intro r e
    have := hs d.reverse r (by simpa using e)
    simpa using this
   intro d
   induction d with
   | nil => intro r _; simp
   | cons x d ih =>
    intro r e
    rw [List.reverse_cons, List.append_assoc] at e
    have h1 := ih _ e
    have h2 := h d.reverse x r (by simpa using e)
    rw [List.reverse_cons, List.map_append, List.nodup_append]
    refine ⟨h1, by simp, ?_⟩
    intro a ha b hb hab
    simp only [List.map_cons, List.map_nil, List.mem_singleton] at hb
    subst hb
    rw [List.mem_map] at ha
    obtain ⟨y, hy, rfl⟩ := ha
    -- y stands ahead of x, with its name
    obtain ⟨s, t, hst⟩ := List.append_of_mem hy
    have h3 : idx (fun y => decide (f y = f x)) l <= s.length := by
     rw [e, hst]
     clear h2 h1 ih e h
     have : ∀ s : List α, idx (fun y => decide (f y = f x)) ((s ++ y :: t) ++ ([x] ++ r)) <= s.length := by
      intro s
      unfold idx
      have hf : (((s ++ y :: t) ++ ([x] ++ r)).findIdx? fun y => decide (f y = f x)).isSome = true := by
       rw [List.findIdx?_isSome, List.any_eq_true]
       exact ⟨y, by simp, by simp [hab]⟩
      cases hfi : ((s ++ y :: t) ++ ([x] ++ r)).findIdx? fun y => decide (f y = f x) with
      | none => simp
      | some i =>
       simp only
       have hle : i <= s.length := by
        rcases Nat.lt_or_ge s.length i with hlt | hge
        ·rw [List.findIdx?_eq_some_iff_getElem] at hfi
         obtain ⟨_, _, h3⟩ := hfi
         have := h3 s.length hlt
         simp [hab] at this
        ·exact hge
       omega
     exact this s
    rw [h2, hst] at h3
    simp at h3
    omega
  have := this l [] (by simp)
  exact this
theorem idx_neg {α : Type} (p : α -> Bool) (l : List α) : idx p l < 0 <-> ∀ y ∈ l, p y = false := by
 rcases zTb p l with ⟨a1, a2⟩ | ⟨n, f, a1, a2, a3, a4, a5⟩
 ·rw [a1]
  simp only [List.find?_eq_none] at a2
  constructor
  ·intro _ y hy; simpa using a2 y hy
  ·intro _; omega
 ·rw [a1]
  constructor
  ·intro h; omega
  ·intro h
   have := h f (List.mem_of_getElem? a2)
   rw [a5] at this; exact absurd this (by decide)
set_option maxHeartbeats 4000000 in
theorem globals_spec (p : Prog) (hz : Fit p) : zi E 70 [zf p] [] = some (.ret (.bool (zec p)), []) := by
 have ha := hz.a
 have hf := hz.f
 have hpl := zve p zzc (by omega)
 have hcond : decide ((p.arrays.map (·.name) ++ p.funcs.map (·.name)).Nodup) = true <-> (∀ d x r, p.arrays = d ++ x :: r -> zVa p x.name = d.length /\ zsa p x.name < 0) /\ (∀ d x r, p.funcs = d ++ x :: r -> zsa p x.name = d.length) := by
  rw [decide_eq_true_eq, List.nodup_append, nodup_idx (fun a : PArr => a.name), nodup_idx (fun a : Func => a.name)]
  constructor
  ·rintro ⟨h1, h2, h3⟩
   refine ⟨fun d x r e => ⟨h1 d x r e, ?_⟩, h2⟩
   rw [zsa, idx_neg]
   intro y hy
   have := h3 x.name (List.mem_map_of_mem (by rw [e]; simp)) y.name (List.mem_map_of_mem hy)
   exact decide_eq_false fun h => this h.symm
  ·rintro ⟨h1, h2⟩
   refine ⟨fun d x r e => (h1 d x r e).1, h2, ?_⟩
   intro a ha b hb hab
   rw [List.mem_map] at ha hb
   obtain ⟨x, hx, rfl⟩ := ha
   obtain ⟨y, hy, rfl⟩ := hb
   obtain ⟨s, t, hst⟩ := List.append_of_mem hx
   have := (h1 s x t hst).2
   rw [zsa, idx_neg] at this
   have := this y hy
   simp only [decide_eq_false_iff_not] at this
   exact this hab.symm
 refine zc rfl rfl rfl (by simp [zf]) ?_
 have hno : ¬ ((∀ d x r, p.arrays = d ++ x :: r -> zVa p x.name = d.length /\ zsa p x.name < 0) /\ (∀ d x r, p.funcs = d ++ x :: r -> zsa p x.name = d.length)) -> zec p = false := by
  intro h
  rw [<- hcond] at h
  rw [Bool.not_eq_true] at h
  unfold zec
  rw [h]; rfl
 simp [F70, zf, zka, funcs]
 refine zG p.arrays K70_0 B70_0 (fun d => [(3, .int .i64 d.length)]) (fun _ => []) (fun d => ∀ e x r, d = e ++ x :: r -> zVa p x.name = e.length /\ zsa p x.name < 0) (by omega) (by simp) ?_ ?_
 ·intros d x r s1 hl' hlt hget hget' hw1 hp h1 h2 h3 h4
  simp at h1 h2 h3 h4
  have e1 := rarray_spec p x.name (by omega)
  have e2 := zve p x.name (by omega)
  simp [zf, zka, funcs] at e1 e2
  have hbad : ¬ (zVa p x.name = d.length /\ zsa p x.name < 0) -> zec p = false := fun h => hno fun hh => h (hh.1 d x r hl'.eq)
  have hgood : zVa p x.name = d.length -> zsa p x.name < 0 -> ∀ e y q, d ++ [x] = e ++ y :: q -> zVa p y.name = e.length /\ zsa p y.name < 0 := by
   intro g1 g2 e y q hh
   rcases List.append_eq_append_iff.1 hh with ⟨a, ha1, ha2⟩ | ⟨a, ha1, ha2⟩
   ·cases a with
    | nil => simp at ha1 ha2; obtain ⟨rfl, rfl⟩ := ha2; subst ha1; exact ⟨g1, g2⟩
    | cons z a => simp at ha2
   ·cases a with
    | nil => simp at ha1 ha2; obtain ⟨rfl, rfl⟩ := ha2; subst ha1; exact ⟨g1, g2⟩
    | cons z a =>
     simp at ha2
     obtain ⟨rfl, _⟩ := ha2
     exact hp e y a ha1
  generalize zec p = R at *
  clear hno hcond hl' hp hpl
  by_cases c1 : zVa p x.name = d.length
  ·by_cases c2 : zsa p x.name < 0
   ·replace hgood := hgood c1 c2
    have c2' : (0 <= zsa p x.name) = False := eqn (by omega)
    replace c1 := eqp c1
    clear hbad c2
    simp [*, -hgood, zR]
    exact hgood
   ·have hR := hbad (fun h => c2 h.2)
    have c2' : (0 <= zsa p x.name) = True := eqp (by omega)
    subst hR
    replace c1 := eqp c1
    clear hbad c2 hgood
    simp [*, zR]
  ·have hR := hbad (fun h => c1 h.1)
   subst hR
   replace c1 := eqn c1
   clear hbad hgood
   simp [*, zR]
 intros s1 hp h1 h2 h3 h4
 simp at h1 h2 h3 h4
 simp [h1, h2, h3, h4]
 refine zG p.funcs K70_1 B70_1 (fun d => [(4, .int .i64 d.length)]) (fun _ => []) (fun d => ∀ e x r, d = e ++ x :: r -> zsa p x.name = e.length) (by omega) ?_ ?_ ?_
 ·simp
 ·intros d x r s2 hl' hlt hget hget' hw1 hp2 g1 g2 g3 g4
  simp at g1 g2 g3 g4
  have e2 := zve p x.name (by omega)
  simp [zf, zka, funcs] at e2
  have hbad : ¬ (zsa p x.name = d.length) -> zec p = false := fun h => hno fun hh => h (hh.2 d x r hl'.eq)
  have hgood : zsa p x.name = d.length -> ∀ e y q, d ++ [x] = e ++ y :: q -> zsa p y.name = e.length := by
   intro g1 e y q hh
   rcases List.append_eq_append_iff.1 hh with ⟨a, ha1, ha2⟩ | ⟨a, ha1, ha2⟩
   ·cases a with
    | nil => simp at ha1 ha2; obtain ⟨rfl, rfl⟩ := ha2; subst ha1; exact g1
    | cons z a => simp at ha2
   ·cases a with
    | nil => simp at ha1 ha2; obtain ⟨rfl, rfl⟩ := ha2; subst ha1; exact g1
    | cons z a =>
     simp at ha2
     obtain ⟨rfl, _⟩ := ha2
     exact hp2 e y a ha1
  generalize zec p = R at *
  clear hno hcond hl' hp hp2 hpl h1 h3
  by_cases c1 : zsa p x.name = d.length
  ·replace hgood := hgood c1
   replace c1 := eqp c1
   clear hbad
   simp [*, -hgood, zm]
   exact hgood
  ·have hR := hbad c1
   subst hR
   replace c1 := eqn c1
   clear hbad hgood
   simp [*, zm]
 ·intros s2 hp2 g1 g2 g3 g4
  simp at g1 g2 g3 g4
  have hyes : decide ((p.arrays.map (·.name) ++ p.funcs.map (·.name)).Nodup) = true := hcond.2 ⟨fun d x r e => hp d x r e, fun d x r e => hp2 d x r e⟩
  simp [zf, zzc, zka, funcs] at hpl
  clear hcond hno hp hp2 h1 h3
  rcases zTb (fun f : Func => decide (f.name = zzc)) p.funcs with ⟨a1, a2⟩ | ⟨n, f, a1, a2, a3, a4, a5⟩
  ·have a1 : zsa p zzc = -1 := a1
   have a2 : zAa p zzc = none := a2
   simp [zzc] at a1
   rw [a1] at hpl
   have hN : zec p = false := by unfold zec; rw [a2]; simp
   rw [hN]
   clear ha hf a2 a1 hyes
   simp [*]
  ·have a1 : zsa p zzc = n := a1
   have a3 : zAa p zzc = some f := a3
   simp [zzc] at a1
   rw [a1] at hpl
   have hN : zec p = (decide (f.type = 1) && decide (f.params = [])) := by unfold zec; rw [hyes, a3]; rfl
   rw [hN]
   clear ha hf a3 a4 a5 a1 hyes hN
   by_cases ht : f.type = 1
   ·replace ht := eqp ht
    simp [*, zm, parsV]
   ·replace ht := eqn ht
    simp [*, zm, parsV]
theorem zHd (l : List Par) : zoa (zU l) = l := by
 suffices h : ∀ l : List Par, zoa (zU l.reverse) = l.reverse by
  have := h l.reverse
  simpa using this
 intro l
 induction l with
 | nil => rfl
 | cons x r ih =>
  rw [List.reverse_cons, zId, zld, ih]; rfl
theorem scopedV_len (l : List Par) : (zU l).length = l.length := by
 have := congrArg List.length (zHd l)
 rw [zqb] at this; exact this
theorem scopedV_depth (l : List Par) : ∀ v ∈ zU l, v.depth = 0 := by
 suffices h : ∀ l : List Par, ∀ v ∈ zU l.reverse, v.depth = 0 by
  have := h l.reverse
  simpa using this
 intro l
 induction l with
 | nil => intro v hv; simp [zU] at hv
 | cons x r ih =>
  rw [List.reverse_cons, zId]
  intro v hv
  rcases List.mem_cons.1 hv with rfl | hv
  ·rfl
  ·exact ih v hv
theorem scopedV_find (l : List Par) (nm : List UInt8) : zya (zU l) nm = [] <-> nm ∉ l.map (·.name) := by
 suffices h : ∀ s : List Vr, zya s nm = [] <-> nm ∉ (zoa s).map (·.name) by
  rw [h, zHd]
 intro s
 induction s with
 | nil => simp [zya, zoa]
 | cons v r ih =>
  rw [zrb, zld, List.map_append, List.mem_append]
  by_cases h : v.name = nm
  ·simp [h, parOf]
  ·rw [if_neg h, ih]
   simp [parOf]
   intro _ hh; exact h hh.symm
end PE.U

namespace PE.U
open Go PE
set_option maxRecDepth 20000 in
set_option maxHeartbeats 16000000 in
theorem rcheckP_spec (p : Prog) (hz : PSz p) : zi E 33 [zf p] [] = some (.ret (zwa (zjc p)), []) := by
 have hfit := hz.fit
 obtain ⟨z1, z2, z3⟩ := hz
 have hr := right_spec p ⟨z1, z2, z3⟩
 have hn := globals_spec p hfit
 refine zc rfl rfl rfl (by simp [zf]) ?_
 unfold zjc
 cases hR : zKb p
 ·rw [hR] at hr
  clear hn hfit z3
  simp [zf] at hr
  simp [*, F33, zf, zwa]
 cases hN : zec p
 ·rw [hR] at hr
  rw [hN] at hn
  clear hfit z3
  simp [zf] at hr hn
  simp [*, F33, zf, zwa]
 rw [hR] at hr
 rw [hN] at hn
 simp [zf, funcs] at hr hn
 simp [hr, hn, F33, zf, funcs]
 refine zbd p.funcs K33_1 B33_1 (fun d => [(4, .int .i64 d.length)]) (fun d => [(3, .cells [.int .i64 0, .int .i64 0])]) (fun d => d.map fun f => cob p f (zjb p f).2) (fun d => ∀ f ∈ d, (zjb p f).1 = 0) (by omega) (by simp) ?_ ?_
 ·intros d x r s1 hl' hlt hget hget' hw1 hp h1 h2 h3 h5 h4
  have hC := zAd p (x :: r) d 0 hp
  rw [<- hl'.eq, zJc, Int.zero_add] at hC
  obtain ⟨y1, y2⟩ := z3 x hl'.mem
  have hfR : zwd x = true := by
   unfold zKb at hR
   rw [Bool.and_eq_true, List.all_eq_true, List.all_eq_true] at hR
   exact hR.2 x hl'.mem
  have hbR : zL x.body 100 = true := by
   unfold zwd at hfR
   simp only [Bool.and_eq_true] at hfR
   exact hfR.2.2.2.1
  have hp8 : x.params.length <= 8 := by
   unfold zwd at hfR
   simp only [Bool.and_eq_true, decide_eq_true_eq] at hfR
   exact hfR.2.2.1
  have e3 := rends_spec x.body 100 y1 hbR
  have hlen : (d.map fun f => cob p f (zjb p f).2).length = d.length := by simp
  have e4 := rblock_spec' (wtSs x.body) p x x.body (zU x.params) 1 100 0 false ((d.map fun f => cob p f (zjb p f).2) ++ [cob p x 0]) d.length (Nat.le_refl _) y1 hfit hbR (by omega) (by omega) (by rw [scopedV_len]; omega) (by intro v hv; rw [scopedV_depth _ v hv]; omega) (by rw [List.getElem?_append_right (by omega), hlen]; simp)
  rw [zHd] at e4
  have hnx : (zjb p x).1 = 0 -> ∀ f ∈ d ++ [x], (zjb p f).1 = 0 := by
   intro h f hf
   rcases List.mem_append.1 hf with hf | hf
   ·exact hp f hf
   ·rw [List.mem_singleton.1 hf]; exact h
  have hset : ∀ v, ((d.map fun f => cob p f (zjb p f).2) ++ [cob p x 0]).set d.length v = (d.map fun f => cob p f (zjb p f).2) ++ [v] := by
   intro v
   rw [List.set_append_right _ _ (by omega), hlen]; simp
  rw [hset] at e4
  have h1x : zjb p x = if twiceM x.params then (50, 0) else (if (zba p x.type x.body (zU x.params) 1 false 0).1 = 0 /\ ztb x.body = false then 52 else (zba p x.type x.body (zU x.params) 1 false 0).1, (zba p x.type x.body (zU x.params) 1 false 0).2) := rfl
  generalize hfx : zjb p x = fx at *
  generalize zba p x.type x.body (zU x.params) 1 false 0 = q at *
  have htw : twiceM x.params = !decide ((x.params.map (·.name)).Nodup) := rfl
  generalize twiceM x.params = tw at *
  generalize ztb x.body = en at *
  obtain ⟨f, n⟩ := q
  obtain ⟨fe, fn⟩ := fx
  simp only at e4 hC hnx h1x
  generalize hσ : (d.map fun f => cob p f (zjb p f).2) = σ at *
  have hget0 : (σ ++ [cob p x n])[d.length]? = some (cob p x n) := by rw [List.getElem?_append_right (by omega), hlen]; simp
  simp at h1 h2 h3 h4 h5
  simp [zh, parsV] at e3 e4
  clear hl' hR hN hset hbR hfR y1 y2 z1 z2 z3 hfit hp
  have hcx : cob p x 0 = .arr 7 [.agg [zka p.arrays, .slice .plain 4 (p.funcs.map zm), .str x.name, .int .i64 x.type, .slice .plain 2 (x.params.map encPar), .slice .plain 6 (x.body.map zda), .int .i64 0]] := rfl
  have hcn : cob p x n = .arr 7 [.agg [zka p.arrays, .slice .plain 4 (p.funcs.map zm), .str x.name, .int .i64 x.type, .slice .plain 2 (x.params.map encPar), .slice .plain 6 (x.body.map zda), .int .i64 n]] := rfl
  rw [hcx, hcn] at e4
  rw [hcn] at hget0
  have keep : tw = false -> fe = 0 -> (.arr 7 [.agg [zka p.arrays, .slice .plain 4 (p.funcs.map zm), .str x.name, .int .i64 x.type, .slice .plain 2 (x.params.map encPar), .slice .plain 6 (x.body.map zda), .int .i64 n]] = cob p x (zjb p x).2) /\ ∀ g, g ∈ d \/ g = x -> (zjb p g).1 = 0 := by
   intro h1 h2
   rw [h1] at h1x
   simp at h1x
   rw [hfx]
   simp only
   rw [h1x.2, <- hcn]
   exact ⟨rfl, fun g hg => hnx h2 g (by simpa using hg)⟩
  clear hcx hcn hnx hfx
  simp [*, -keep, zm, parsV, zh]
  refine zbd x.params K33_0 B33_0 (fun d => [(6, .int .i64 d.length)]) (fun _ => [(3, .cells [.int .i64 0, .int .i64 0])]) (fun _ => σ) (fun d => (d.map (·.name)).Nodup) (by omega) ?_ ?_ ?_
  ·simp [*, -keep]
  ·intros d2 y r2 s2 hl2 hlt2 hget2 hget2' hw2 hp2 k1 k2 k3 k5 k4
   simp at k1 k2 k3 k4 k5
   have hf2 := rfind_spec (zU d2) y.name (by rw [scopedV_len]; omega)
   rw [zHd] at hf2
   have htk : x.params.take d2.length = d2 := by rw [hl2.eq]; simp
   have hdup : zya (zU d2) y.name ≠ [] -> tw = true := by
    intro h
    rw [htw, hl2.eq]
    simp only [Bool.not_eq_true', decide_eq_false_iff_not]
    intro hh
    rw [List.map_append, List.nodup_append] at hh
    rw [ne_eq, scopedV_find, Classical.not_not] at h
    exact hh.2.2 _ h _ (by simp) rfl
   have hok : zya (zU d2) y.name = [] -> ((d2 ++ [y]).map (·.name)).Nodup := by
    intro h
    rw [scopedV_find] at h
    rw [List.map_append, List.nodup_append]
    refine ⟨hp2, by simp, ?_⟩
    intro a ha b hb hab
    simp at hb
    rw [hb] at hab
    rw [hab] at ha
    exact h ha
   have htk2 : (x.params.map encPar).take d2.length = d2.map encPar := by rw [<- List.map_take, htk]
   generalize hfv : zya (zU d2) y.name = fv at *
   simp [zbb, parsV] at hf2
   have hlt2i : (d2.length : Int) < x.params.length := by omega
   have hle2 : d2.length <= x.params.length := by omega
   clear htw hl2 hp2 e3 e4 htk hfv hget0 keep
   cases fv with
   | nil =>
    replace hok := hok rfl
    clear hdup hC
    simp at hf2
    simp [*, -hok, encPar]
    all_goals (try grind)
   | cons z zr =>
    replace hdup := hdup (by simp)
    subst hdup
    simp at h1x
    obtain ⟨rfl, rfl⟩ := h1x
    simp at hC
    clear hok
    simp at hf2
    simp [*, encPar, zwa]
  ·intros s2 hp2 k1 k2 k3 k5 k4
   simp at k1 k2 k3 k4 k5
   have htwf : tw = false := by rw [htw]; simp; exact hp2
   replace keep := keep htwf
   subst htwf
   simp at h1x
   obtain ⟨ha, rfl⟩ := h1x
   clear hp2 htw
   simp [*, -keep, zm, parsV, zh]
   by_cases hf : f = 0
   ·subst hf
    cases en
    ·simp at ha
     subst ha
     simp at hC
     clear keep
     simp [*, zm, parsV, zh, zwa]
    ·simp at ha
     subst ha
     replace keep := keep rfl
     clear hC
     simp [*, -keep, zm, parsV, zh, zwa]
     exact keep
   ·simp [hf] at ha
    subst ha
    simp [hf] at hC
    replace hf := eqn hf
    clear keep
    simp [*, zm, parsV, zh, zwa]
 ·intros s1 hp h1 h2 h3 h5 h4
  have hC := zAd p [] p.funcs 0 hp
  rw [List.append_nil, zJc] at hC
  rw [hC]
  simp at h1 h2 h3 h4 h5
  clear hp hC z3
  simp [*, zwa]
end PE.U

namespace PE.U
open Go PE
def digF : Nat -> Nat -> List UInt8
 | 0, _ => []
 | k + 1, n => if n < 10 then [UInt8.ofNat (48 + n)] else digF k (n / 10) ++ [UInt8.ofNat (48 + n % 10)]
def digitsM (n : Nat) : List UInt8 := digF 20 n
theorem digF_len : ∀ k n, (digF k n).length <= k
 | 0, _ => Nat.le_refl _
 | k + 1, n => by
  unfold digF
  split
  ·simp
  ·have := digF_len k (n / 10); simp; omega
theorem digits_spec' : ∀ (k n : Nat), n < 10 ^ (k + 1) -> n <= 9223372036854775807 -> k <= 100 -> zi E 77 [.int .i64 n] [] = some (.ret (.str (digF (k + 1) n)), [])
 | k, n, h, hn, hk => by
  refine zc rfl rfl rfl (by simp) ?_
  have hm : n % 10 < 10 := Nat.mod_lt _ (by omega)
  obtain ⟨z, hz, z0, z9⟩ : ∃ z : Int, z = ((n % 10 : Nat) : Int) /\ 0 <= z /\ z < 10 := ⟨_, rfl, by omega, by omega⟩
  have hr : remK (n : Int) 10 = z := by rw [hz, remK_eq]; rfl
  have hw : zB .i64 (48 + z) = 48 + z := by rw [zj] <;> omega
  have hw8 : zB .u8 (48 + z) = 48 + z := by rw [zma, IntKind.wrap_u8]; omega
  have hu : UInt8.ofNat (48 + z).toNat = UInt8.ofNat (48 + n % 10) := by congr 1; omega
  by_cases h10 : n < 10
  ·have c1 : ((n : Int) < 10) = True := eqp (by omega)
   have hd : digF (k + 1) n = [UInt8.ofNat (48 + n % 10)] := by rw [digF, if_pos h10, Nat.mod_eq_of_lt h10]
   rw [hd]
   generalize UInt8.ofNat (48 + n % 10) = y at *
   clear hz hd h h10 hm
   simp [*, F77]
  ·cases k with
   | zero => simp at h; omega
   | succ k =>
    have c1 : ((n : Int) < 10) = False := eqn (by omega)
    have hd : digF (k + 1 + 1) n = digF (k + 1) (n / 10) ++ [UInt8.ofNat (48 + n % 10)] := by rw [digF, if_neg h10]
    rw [hd]
    have ih := digits_spec' k (n / 10) (by rw [Nat.pow_succ] at h; omega) (by omega) (by omega)
    have hl := digF_len (k + 1) (n / 10)
    have hl2 : (digF (k + 1) (n / 10)).length + 1 <= 9223372036854775807 := by omega
    have hl3 : (digF (k + 1) (n / 10)).length <= 9223372036854775806 := by omega
    have hq : (n : Int).tdiv 10 = ((n / 10 : Nat) : Int) := rfl
    have hwq : zB .i64 ((n / 10 : Nat) : Int) = ((n / 10 : Nat) : Int) := by rw [zj] <;> omega
    obtain ⟨q, hq2⟩ : ∃ q : Int, q = ((n / 10 : Nat) : Int) := ⟨_, rfl⟩
    rw [<- hq2] at ih hq hwq
    generalize UInt8.ofNat (48 + n % 10) = y at *
    generalize digF (k + 1) (n / 10) = dg at *
    clear hz hd h h10 hm hl hq2
    simp [*, F77]
theorem digits_spec (n : Nat) (hn : n <= 9223372036854775807) : zi E 77 [.int .i64 n] [] = some (.ret (.str (digitsM n)), []) :=
 digits_spec' 19 n (Nat.lt_of_le_of_lt hn (by decide)) hn (by omega)
end PE.U

namespace PE.U
open Go PE
abbrev Nm := List (List UInt8 × List UInt8)
def zMa (nm : List UInt8) : Nm -> List UInt8
 | [] => nm
 | x :: r => if x.1 = nm then x.2 else zMa nm r
def encPr (x : List UInt8 × List UInt8) : PV := .agg [.str x.1, .str x.2]
@[simp] theorem below_prs (k : Nat) (N : Nm) : zT k (N.map encPr).reverse = true := by
 rw [belowL_iff]
 intro x hx
 simp only [List.mem_reverse, List.mem_map] at hx
 obtain ⟨y, _, rfl⟩ := hx
 rfl
def prs (N : Nm) : PV := .slice .plain 2 (N.reverse.map encPr)
set_option maxHeartbeats 1000000 in
theorem findN_spec (N : Nm) (nm : List UInt8) (hN : N.length < 9000000000000) : zi E 79 [prs N, .str nm] [] = some (.ret (.str (zMa nm N)), []) := by
 refine zc rfl rfl rfl (by simp [prs]) ?_
 have hw : zB .i64 ((N.length : Int) - 1) = (N.length : Int) - 1 := by rw [zj] <;> omega
 simp [*, F79, prs]
 refine zvb K79_0 B79_0 (fun c : Nm => c.length) (fun c => [(5, .int .i64 ((c.length : Int) - 1))]) (fun c => []) (fun c => []) (fun c => ∃ a, N = a ++ c /\ zMa nm N = zMa nm c) N ⟨by simp, by simp, by simp, [], rfl, rfl⟩ ?_
 rintro c s1 ⟨a, rfl, hf⟩ q1 q2 q3 q4 q5
 simp at q1 q3 q5
 cases c with
 | nil =>
  have e0 : ((0 : Int) <= ((0 : Nat) : Int) - 1) = False := eqn (by omega)
  simp at q3
  rw [hf]
  clear hf q2 hw
  simp [*, zMa]
 | cons x r =>
  have hr : ((a ++ x :: r).reverse.map encPr)[r.length]? = some (encPr x) := by
   rw [List.getElem?_map, List.reverse_append, List.reverse_cons]
   simp
  have hlt : r.length < (a ++ x :: r).length := by simp; omega
  have hd : decide (r.length < (a ++ x :: r).length) = true := decide_eq_true hlt
  have e0 : ((0 : Int) <= (r.length : Int)) = True := eqp (by omega)
  have hw2 : zB .i64 ((r.length : Int) - 1) = (r.length : Int) - 1 := by rw [zj] <;> omega
  obtain ⟨o, nw⟩ := x
  by_cases hx : o = nm
  ·subst hx
   have hv : zMa o (a ++ (o, nw) :: r) = nw := by rw [hf]; simp [zMa]
   rw [hv]
   clear hf hw q2 hN
   generalize hL : a ++ (o, nw) :: r = L at *
   simp [encPr] at hr q1 q3 hd
   simp [*]
  ·have hv : zMa nm ((o, nw) :: r) = zMa nm r := by simp [zMa, hx]
   rw [hv] at hf
   replace hx := eqn hx
   have hsplit : a ++ (o, nw) :: r = (a ++ [(o, nw)]) ++ r := by simp
   clear hw q2 hN hv
   generalize hL : a ++ (o, nw) :: r = L at *
   simp [encPr] at hr q1 q3 hd
   replace hL : Nonempty (PLift (a ++ (o, nw) :: r = L)) := ⟨⟨hL⟩⟩
   simp [*]
   obtain ⟨⟨hL⟩⟩ := hL
   exact ⟨r, by simp, rfl, rfl, ⟨a ++ [(o, nw)], by simp⟩, by rw [hL]; exact hf⟩
mutual
def renE (N : Nm) : Expr -> Expr
 | ⟨k, op, n, nm, ar⟩ => ⟨k, op, n, if k = 3 then zMa nm N else nm, zDa N ar⟩
def zDa (N : Nm) : List Expr -> List Expr
 | [] => []
 | x :: r => renE N x :: zDa N r
end
theorem renEs_append (N : Nm) (a b : List Expr) : zDa N (a ++ b) = zDa N a ++ zDa N b := by
 induction a with
 | nil => simp [zDa]
 | cons x r ih => simp [zDa, ih]
theorem renEs_len (N : Nm) (a : List Expr) : (zDa N a).length = a.length := by
 induction a with
 | nil => simp [zDa]
 | cons x r ih => simp [zDa, ih]
theorem renE_eq (N : Nm) (e : Expr) : renE N e = ⟨e.kind, e.op, e.n, if e.kind = 3 then zMa e.name N else e.name, zDa N e.args⟩ := by
 obtain ⟨k, op, n, nm, ar⟩ := e
 simp [renE]
set_option maxHeartbeats 2000000 in
theorem rexprs_spec' : ∀ (w : Nat) (l : List Expr) (N : Nm), wtEs l <= w -> w < 1099511000000 -> N.length < 9000000000000 -> zi E 78 [zd l, prs N] [] = some (.ret (zd (zDa N l)), [])
 | w, l, N, h, hw, hN => by
  refine zc rfl rfl rfl (by simp [zd, prs]) ?_
  have hlen := zvc l
  simp [F78, zd, prs]
  refine zG l K78_0 B78_0 (fun d => [(5, acc 5 ((zDa N d).map zw)), (6, .int .i64 d.length)]) (fun _ => []) (fun d => True) (by omega) (by simp [zDa]) ?_ ?_
  ·intros d x r s1 hl' hlt hget hget' hw1 hp h1 h2 h3 h4
   simp at h1 h2 h3
   have hwx := zAb hl'.mem
   have hroom : ((zDa N d).length + 1) * 64 <= zu := by rw [renEs_len]; simp only [zu]; omega
   have hfi := findN_spec N x.name hN
   have ih : zi E 78 [zd x.args, prs N] [] = some (.ret (zd (zDa N x.args)), []) := by
    have hx : wtEs x.args < wtEs l := by have := zEd x; omega
    exact rexprs_spec' (wtEs x.args) x.args N (Nat.le_refl _) (by omega) hN
   have hap : zDa N (d ++ [x]) = zDa N d ++ [renE N x] := by rw [renEs_append]; simp [zDa]
   have hdec : decide (d.length < l.length) = true := decide_eq_true hlt
   rw [hap]
   obtain ⟨k, op, n, nm, ar⟩ := x
   simp only at ih hfi hwx
   by_cases hk : k = 3
   ·subst hk
    clear hl' hwx hap h2
    simp [prs] at ih hfi
    simp [*, za, renE]
   ·replace hk := eqn hk
    clear hl' hwx hap h2 hfi
    simp [prs] at ih
    simp [*, za, renE]
  ·intros s1 hp h1 h2 h3 h4
   simp at h1 h2 h3
   simp [*, zd]
 termination_by w l N => wtEs l
end PE.U

namespace PE.U
open Go PE
def newN (c : Nat) : List UInt8 := 118 :: digitsM c
def cobj (c : Nat) : Obj := .arr 1 [.agg [.int .i64 c]]
def cst (σ : ze) (j c : Nat) : ze := σ.set j (cobj c)
theorem cst_get {σ : ze} {j : Nat} (h : j < σ.length) (c : Nat) : (cst σ j c)[j]? = some (.arr 1 [.agg [.int .i64 c]]) := by
 unfold cst; rw [List.getElem?_set_self (by simpa using h)]; rfl
theorem cst_set (σ : ze) (j c d : Nat) : (cst σ j c).set j (.arr 1 [.agg [.int .i64 d]]) = cst σ j d := by
 unfold cst; rw [List.set_set]; rfl
theorem next_spec {σ : ze} {j : Nat} (h : j < σ.length) (c : Nat) (hc : c <= 9000000000000) : zi E 43 [.ptr j 0 0] (cst σ j c) = some (.ret (.str (newN c)), cst σ j (c + 1)) := by
 refine zc rfl rfl rfl (by simp) ?_
 have g := cst_get h c
 have g1 := cst_get h (c + 1)
 have s1 := cst_set σ j c (c + 1)
 have hw : zB .i64 ((c : Int) + 1) = (c : Int) + 1 := by rw [zj] <;> omega
 have hw0 : zB .i64 (c : Int) = (c : Int) := by rw [zj] <;> omega
 have hd := digits_spec c (by omega)
 have hl := digF_len 20 c
 have hl1 : 1 + (digitsM c).length <= 9223372036854775807 := by unfold digitsM; omega
 have e1 : (((c + 1 : Nat) : Int)) = (c : Int) + 1 := by omega
 rw [e1] at g1 s1
 generalize cst σ j (c + 1) = σ1 at *
 generalize cst σ j c = σ0 at *
 clear hl h e1
 simp [*, F43, newN]
mutual
def renS : Stmt -> Nm -> Nat -> Stmt × Nm × Nat
 | ⟨k, ty, nm, ar, th, el⟩, N, c =>
  let N1 := if k = 1 then (nm, newN c) :: N else N
  let c1 := if k = 1 then c + 1 else c
  let t := renB th N1 c1
  let e := renB el N1 t.2.2
  (⟨k, ty, if k = 1 \/ k = 2 then zMa nm N1 else nm, zDa N ar, t.1, e.1⟩, N1, e.2.2)
def renB : List Stmt -> Nm -> Nat -> List Stmt × Nm × Nat
 | [], N, c => ([], N, c)
 | x :: r, N, c =>
  let y := renS x N c
  let z := renB r y.2.1 y.2.2
  (y.1 :: z.1, z.2)
end
theorem renB_append : ∀ (a b : List Stmt) (N : Nm) (c : Nat), renB (a ++ b) N c = ((renB a N c).1 ++ (renB b (renB a N c).2.1 (renB a N c).2.2).1, (renB b (renB a N c).2.1 (renB a N c).2.2).2)
 | [], b, N, c => by simp [renB]
 | x :: r, b, N, c => by simp [renB, renB_append r b]
theorem renB_len : ∀ (a : List Stmt) (N : Nm) (c : Nat), (renB a N c).1.length = a.length
 | [], N, c => by simp [renB]
 | x :: r, N, c => by simp [renB, renB_len r]
mutual
theorem renS_bd : ∀ (s : Stmt) (N : Nm) (c : Nat), (renS s N c).2.1.length <= N.length + 1 /\ c <= (renS s N c).2.2 /\ (renS s N c).2.2 <= c + wtS s
 | ⟨k, ty, nm, ar, th, el⟩, N, c => by
  have h1 := zYc th (if k = 1 then (nm, newN c) :: N else N) (if k = 1 then c + 1 else c)
  have h2 := zYc el (if k = 1 then (nm, newN c) :: N else N) (renB th (if k = 1 then (nm, newN c) :: N else N) (if k = 1 then c + 1 else c)).2.2
  have hw := zJa ⟨k, ty, nm, ar, th, el⟩
  simp only [renS]
  simp only at hw
  refine ⟨by split <;> simp, ?_, ?_⟩
  ·split at h1 <;> split at h2 <;> simp_all <;> omega
  ·split at h1 <;> split at h2 <;> simp_all <;> omega
theorem zYc : ∀ (l : List Stmt) (N : Nm) (c : Nat), (renB l N c).2.1.length <= N.length + l.length /\ c <= (renB l N c).2.2 /\ (renB l N c).2.2 <= c + wtSs l
 | [], N, c => by simp [renB, wtSs]
 | x :: r, N, c => by
  have h1 := renS_bd x N c
  have h2 := zYc r (renS x N c).2.1 (renS x N c).2.2
  have hw : wtSs (x :: r) = wtS x + 1 + wtSs r := by simp [wtSs]; omega
  simp only [renB, List.length_cons]
  omega
end
set_option maxHeartbeats 4000000 in
theorem rblock_spec : ∀ (w : Nat) (l : List Stmt) (N : Nm) (c : Nat) (σ : ze) (j : Nat), wtSs l <= w -> w <= 1099510000000 -> N.length + wtSs l <= 4000000000000 -> c + wtSs l <= 4000000000000 -> j < σ.length →
  zi E 44 [.ptr j 0 0, zh l, prs N] (cst σ j c) = some (.ret (zh (renB l N c).1), cst σ j (renB l N c).2.2) := by
  intro w
  induction w using Nat.strongRecOn with
  | _ w IH =>
  intro l N c σ j hw hw0 hN hc hj
  refine zc rfl rfl rfl (by simp [zh, prs]) ?_
  have hlen := zva l
  have hrN : N.length * 32 <= zu := by simp only [zu]; omega
  simp [*, F44, zh, prs]
  refine zG l K44_0 B44_0 (fun d => [(7, acc 6 ((renB d N c).1.map zda)), (8, acc 2 ((renB d N c).2.1.map encPr).reverse), (9, .int .i64 d.length)]) (fun d => cst σ j (renB d N c).2.2) (fun d => True) (by omega) (by simp [renB]) ?_ ?_
  ·intros d x r s1 hl' hlt hget hget' hw1 hp h1 h2 h3 h4
   simp at h1 h2 h3
   have hwx := zSd hl'.mem
   have hwe := zJa x
   have hbd := zYc d N c
   have hsum : wtSs l = wtSs d + (1 + wtS x) + wtSs r := by rw [hl'.eq, zpe]; simp [wtSs]; omega
   have hdl := zva d
   have hap := renB_append d [x] N c
   have hol := renB_len d N c
   generalize renB d N c = q at *
   obtain ⟨out, N0, c0⟩ := q
   simp only at hbd hap hol
   have hroom : (out.length + 1) * 104 <= zu := by rw [hol]; simp only [zu]; omega
   have hroom2 : (N0.length + 1) * 32 <= zu := by simp only [zu]; omega
   have hex := rexprs_spec' (wtEs x.args) x.args N0 (Nat.le_refl _) (by omega) (by omega)
   have hnx := next_spec hj c0 (by omega)
   have hbd1 := renS_bd x N0 c0
   have hdec : decide (d.length < l.length) = true := decide_eq_true hlt
   rw [hap]
   obtain ⟨k, ty, nm, ar, th, el⟩ := x
   simp only at hwe hex
   simp only [renB, renS] at hbd1 ⊢
   by_cases hk : k = 1
   ·subst hk
    simp only [if_true, true_or] at hbd1 ⊢
    have hfi := findN_spec ((nm, newN c0) :: N0) nm (by simp; omega)
    have hb1 := zYc th ((nm, newN c0) :: N0) (c0 + 1)
    have ih1 := IH (wtSs th) (by omega) th ((nm, newN c0) :: N0) (c0 + 1) σ j (Nat.le_refl _) (by omega) (by simp; omega) (by omega) hj
    have ih2 := IH (wtSs el) (by omega) el ((nm, newN c0) :: N0) (renB th ((nm, newN c0) :: N0) (c0 + 1)).2.2 σ j (Nat.le_refl _) (by omega) (by simp; omega) (by omega) hj
    generalize renB th ((nm, newN c0) :: N0) (c0 + 1) = q1 at *
    obtain ⟨o1, N1, c1⟩ := q1
    simp only at ih1 ih2 hb1 ⊢
    generalize renB el ((nm, newN c0) :: N0) c1 = q2 at *
    obtain ⟨o2, N2, c2⟩ := q2
    simp only at ih2 ⊢
    generalize zMa nm ((nm, newN c0) :: N0) = fn at *
    generalize newN c0 = nw at *
    clear IH hl' hwx hap h2 hw hw0 hc hN hbd hbd1 hwe hb1 hsum hol
    simp [prs, encPr] at hex hfi ih1 ih2
    simp [*, zb, encPr]
   ·simp only [hk, if_false, false_or] at hbd1 ⊢
    have hfi := findN_spec N0 nm (by omega)
    have hb1 := zYc th N0 c0
    have ih1 := IH (wtSs th) (by omega) th N0 c0 σ j (Nat.le_refl _) (by omega) (by omega) (by omega) hj
    have ih2 := IH (wtSs el) (by omega) el N0 (renB th N0 c0).2.2 σ j (Nat.le_refl _) (by omega) (by omega) (by omega) hj
    generalize renB th N0 c0 = q1 at *
    obtain ⟨o1, N1, c1⟩ := q1
    simp only at ih1 ih2 hb1 ⊢
    generalize renB el N0 c1 = q2 at *
    obtain ⟨o2, N2, c2⟩ := q2
    simp only at ih2 ⊢
    generalize zMa nm N0 = fn at *
    replace hk := eqn hk
    by_cases hk2 : k = 2
    ·subst hk2
     clear IH hl' hwx hap h2 hw hw0 hc hN hbd hbd1 hwe hb1 hsum hol hnx hk
     simp [prs] at hex hfi ih1 ih2
     simp [*, zb]
    ·replace hk2 := eqn hk2
     simp only [hk2, if_false]
     clear IH hl' hwx hap h2 hw hw0 hc hN hbd hbd1 hwe hb1 hsum hol hnx hfi
     simp [prs] at hex ih1 ih2
     simp [*, zb]
  ·intros s1 hp h1 h2 h3 h4
   simp at h1 h2 h3
   simp [*, zh]
end PE.U

namespace PE.U
open Go PE
def zX : List Par -> Nm -> Nat -> List Par × Nm × Nat
 | [], N, c => ([], N, c)
 | x :: r, N, c =>
  let z := zX r ((x.name, newN c) :: N) (c + 1)
  (⟨newN c, x.type⟩ :: z.1, z.2)
theorem renPs_append : ∀ (a b : List Par) (N : Nm) (c : Nat), zX (a ++ b) N c = ((zX a N c).1 ++ (zX b (zX a N c).2.1 (zX a N c).2.2).1, (zX b (zX a N c).2.1 (zX a N c).2.2).2)
 | [], b, N, c => by simp [zX]
 | x :: r, b, N, c => by simp [zX, renPs_append r b]
theorem zqc : ∀ (a : List Par) (N : Nm) (c : Nat), (zX a N c).1.length = a.length /\ (zX a N c).2.1.length = N.length + a.length /\ (zX a N c).2.2 = c + a.length
 | [], N, c => by simp [zX]
 | x :: r, N, c => by
  have := zqc r ((x.name, newN c) :: N) (c + 1)
  simp only [zX, List.length_cons] at this ⊢
  omega
def renF (f : Func) : Func := ⟨f.name, f.type, (zX f.params [] 0).1, (renB f.body (zX f.params [] 0).2.1 (zX f.params [] 0).2.2).1⟩
def renC (f : Func) : Nat := (renB f.body (zX f.params [] 0).2.1 (zX f.params [] 0).2.2).2.2
def renP (p : Prog) : Prog := ⟨p.arrays, p.funcs.map renF⟩
def renM (p : Prog) : Prog × Int := if (zjc p).1 = 0 then (renP p, 0) else (⟨[], []⟩, 1)
def encRen (q : Prog × Int) : PV := .tup [zf q.1, .int .i64 q.2]
theorem cst_new (σ : ze) : cst (σ ++ [.arr 1 [.agg [.int .i64 0]]]) σ.length 0 = σ ++ [.arr 1 [.agg [.int .i64 0]]] := by
 unfold cst cobj; simp
theorem cst_last (σ : ze) (x : Obj) (c : Nat) : cst (σ ++ [x]) σ.length c = σ ++ [cobj c] := by
 unfold cst; simp
theorem aS {cf : zC} {s0 s : St} {r : List GOp} {Q : Ex -> St -> Prop} {a : _} {b : _} {o : _} {sz : Nat} {l : List PV} (f : PV -> Option (PV × Bx × ze)) (h : after cf s0 r Q (doOp a b o s (f (acc sz l)))) :
  after cf s0 r Q (doOp a b o s (match isOwn (acc sz l) with | none => f (strip (acc sz l)) | some (z, k) => f (.slice .own z k))) := by
 cases l <;> exact h
set_option maxHeartbeats 4000000 in
theorem rename_spec (p : Prog) (hz : PSz p) : zi E 24 [zf p] [] = some (.ret (encRen (renM p)), []) := by
 refine zc rfl rfl rfl (by simp [zf]) ?_
 have hc := rcheckP_spec p hz
 unfold renM
 by_cases h0 : (zjc p).1 = 0
 ·rw [if_pos h0]
  generalize zjc p = q at *
  obtain ⟨e, n⟩ := q
  simp only at h0
  subst h0
  obtain ⟨ars, fs⟩ := p
  obtain ⟨z1, z2, z3⟩ := hz
  simp only at z1 z2 z3
  have hra : ars.length * 24 <= zu := by simp only [zu]; omega
  simp [zwa, zf, zka, funcs] at hc
  simp [*, F24, zf, encRen, zka, funcs]
  clear hc
  refine aS (fun v => some (.undef, .cells [v, .slice .fit 4 []], [])) ?_
  simp
  refine zbd fs K24_1 B24_1 (fun d => [(7, .int .i64 d.length)]) (fun d => [(6, .cells [acc 2 (ars.map zR), acc 4 ((d.map renF).map zm)])]) (fun d => d.map fun f => cobj (renC f)) (fun d => True) (by omega) ?_ ?_ ?_
  ·simp
  ·intro d x r s1 hl' hlt hget hget' hw1 hp h1 h2 h3 h4 h5
   simp at h1 h2 h3 h4 h5
   have hzx := z3 x hl'.mem
   obtain ⟨fnm, fty, ps, body⟩ := x
   simp only at hzx
   have hdec : decide (d.length < fs.length) = true := decide_eq_true hlt
   have hT := cst_new (d.map fun f => cobj (renC f))
   have hTl := cst_last (d.map fun f => cobj (renC f)) (.arr 1 [.agg [.int .i64 0]])
   have hlT : (d.map fun f => cobj (renC f)).length < ((d.map fun f => cobj (renC f)) ++ [Obj.arr 1 [.agg [.int .i64 0]]]).length := by simp
   have hroom : (d.length + 1) * 72 <= zu := by simp only [zu]; omega
   rw [List.length_map] at hT hTl hlT
   have hbk := rblock_spec (wtSs body) body (zX ps [] 0).2.1 (zX ps [] 0).2.2 _ d.length (Nat.le_refl _) (by omega) (by have := zqc ps [] 0; simp only [List.length_nil] at this; omega) (by have := zqc ps [] 0; omega) hlT
   have hren : renF ⟨fnm, fty, ps, body⟩ = ⟨fnm, fty, (zX ps [] 0).1, (renB body (zX ps [] 0).2.1 (zX ps [] 0).2.2).1⟩ := rfl
   have hcn : renC ⟨fnm, fty, ps, body⟩ = (renB body (zX ps [] 0).2.1 (zX ps [] 0).2.2).2.2 := rfl
   rw [hTl] at hbk
   simp only [prs] at hbk
   clear hl' z3
   simp [*, zm, funcs, parsV]
   have hnx : ∀ c, c <= 9000000000000 -> zi E 43 [.ptr d.length 0 0] (d.map (fun f => cobj (renC f)) ++ [cobj c]) = some (.ret (.str (newN c)), d.map (fun f => cobj (renC f)) ++ [cobj (c + 1)]) := by
    intro c hc
    have := next_spec hlT c hc
    rw [hTl, hTl] at this
    exact this
   refine zbd ps K24_0 B24_0 (fun e => [(11, acc 2 ((zX e [] 0).2.1.map encPr).reverse), (12, .int .i64 e.length)]) (fun e => [(10, .cells [.str fnm, .int .i64 fty, acc 2 ((zX e [] 0).1.map encPar), .slice .fit 6 []])]) (fun e => d.map (fun f => cobj (renC f)) ++ [cobj (zX e [] 0).2.2]) (fun _ => True) (by omega) ?_ ?_ ?_
   ·simp [zX, cobj]
   ·intro e y r' s2 kl klt kget kget' kw1 kp k1 k2 k3 k4 k5
    simp at k1 k2 k3 k4 k5
    have hps := zqc e [] 0
    have hap := renPs_append e [y] [] 0
    rw [hap]
    generalize zX e [] 0 = q at *
    obtain ⟨po, N0, c0⟩ := q
    simp only [List.length_nil] at hps hap
    have kdec : decide (e.length < ps.length) = true := decide_eq_true klt
    have hr1 : (po.length + 1) * 24 <= zu := by simp only [zu]; omega
    have hr2 : (N0.length + 1) * 32 <= zu := by simp only [zu]; omega
    replace hnx := hnx c0 (by omega)
    obtain ⟨ynm, yty⟩ := y
    simp only [zX]
    generalize newN c0 = nw at *
    clear hbk hap hps hren hcn hT hTl hlT kl hzx hdec h1 h3 h4 h5 hget
    simp only at k3 k4 k5
    simp [*, encPar, encPr]
    exact (acc_ne (by simp)).symm
   ·intro s2 kp k1 k2 k3 k4 k5
    simp at k1 k2 k3 k4 k5
    clear hnx hT hlT hzx h3 h5
    generalize zX ps [] 0 = q at *
    obtain ⟨po, N0, c0⟩ := q
    simp only at hbk k3 k4 k5 hcn hren
    generalize renB body N0 c0 = q at *
    obtain ⟨bo, N1, c1⟩ := q
    simp only at hbk hcn hren
    rw [hTl] at hbk
    clear hTl
    simp at hbk
    simp [*, zm, parsV]
    exact (acc_ne (by simp)).symm
  ·intro s1 hp h1 h2 h3 h4 h5
   simp at h1 h2 h3 h4 h5
   simp [*, renP]
 ·rw [if_neg h0]
  generalize zjc p = q at *
  obtain ⟨e, n⟩ := q
  simp only at h0
  replace h0 := eqn h0
  obtain ⟨ars, fs⟩ := p
  simp [zwa, zf, zka, funcs] at hc
  simp [*, F24, zf, encRen, zka, funcs]
end PE.U

namespace PE.U
open Go PE
def left (T : List Tok) (p : PS) : Nat := T.length - p.at'
def Fw (p q : PS) : Prop := p.at' <= q.at' /\ (zQa p = true -> zQa q = true)
theorem Fw.refl (p : PS) : Fw p p := ⟨Nat.le_refl _, id⟩
theorem Fw.trans {p q r : PS} (a : Fw p q) (b : Fw q r) : Fw p r := ⟨Nat.le_trans a.1 b.1, fun h => b.2 (a.2 h)⟩
theorem zM (p : PS) : Fw p (adv p) := ⟨Nat.le_succ _, id⟩
theorem zn (T : List Tok) (s : List UInt8) (p : PS) : Fw p (zxa T s p) := by
 unfold zxa
 split
 ·exact ⟨Nat.le_succ _, id⟩
 ·split
  ·exact Fw.refl _
  ·exact ⟨Nat.le_refl _, fun _ => rfl⟩
theorem zHc (T : List Tok) (k : Int) (p : PS) : Fw p (zfa T k p).2 := by
 unfold zfa
 split
 ·exact Fw.refl _
 ·split
  ·exact ⟨Nat.le_succ _, id⟩
  ·exact ⟨Nat.le_refl _, fun _ => rfl⟩
theorem fw_typed (T : List Tok) (p : PS) : Fw p (zha T p).2 := by
 unfold zha
 split
 ·exact zM p
 ·exact zn T _ p
theorem fw_deepF (d : Int) (p : PS) : Fw p (deepF d p) := by
 unfold deepF
 split
 ·split
  ·exact Fw.refl _
  ·exact ⟨Nat.le_refl _, fun _ => by simp [zQa]⟩
 ·exact Fw.refl _
theorem fw_deepS (d : Int) (p : PS) : Fw p (deepS d p) := by
 unfold deepS
 split
 ·exact ⟨Nat.le_refl _, fun _ => by simp [zQa]⟩
 ·exact Fw.refl _
theorem zyb {T : List Tok} {p : PS} {s : List UInt8} (I : Inv1 T p) (h : isF T s p = true) : left T (adv p) + 1 = left T p := by
 have := I.lt
 unfold left adv; simp only; omega
theorem zEa {T : List Tok} {p q : PS} (h : Fw p q) : left T q <= left T p := by
 unfold left; have := h.1; omega
structure Enough (T : List Tok) (n : Nat) : Prop where
 primary : ∀ d p, Inv1 T p -> 64 * left T p + 1 <= n -> ∃ v p', zNc T n d p = some (v, p') /\ Inv1 T p' /\ Fw p p'
 unary : ∀ d p, Inv1 T p -> 64 * left T p + 2 <= n -> ∃ v p', unaryF T n d p = some (v, p') /\ Inv1 T p' /\ Fw p p'
 expr : ∀ (k : Nat) L d p, Inv1 T p -> L = 11 - (k : Int) -> k <= 10 -> 64 * left T p + 3 + 2 * k <= n -> ∃ v p', zwc T n L d p = some (v, p') /\ Inv1 T p' /\ Fw p p'
 loop : ∀ (k : Nat) L d a p, Inv1 T p -> L = 11 - (k : Int) -> 1 <= k -> k <= 10 -> 64 * left T p + 2 + 2 * k <= n -> ∃ v p', zab T n L d a p = some (v, p') /\ Inv1 T p' /\ Fw p p'
 args : ∀ d p, Inv1 T p -> 64 * left T p + 26 <= n -> ∃ v p', argsF T n d p = some (v, p') /\ Inv1 T p' /\ Fw p p'
 al : ∀ d l (f : Bool) p, Inv1 T p -> 64 * left T p + 24 + f.toNat <= n -> ∃ v p', zqa T n d l f p = some (v, p') /\ Inv1 T p' /\ Fw p p'
theorem enough_of {T : List Tok} {n : Nat} (E : Enough T n) : Enough T (n + 1) := by
 refine ⟨?_, ?_, ?_, ?_, ?_, ?_⟩
 ·intro d p I h
  simp only [zNc]
  split
  ·exact ⟨_, _, rfl, I, Fw.refl _⟩
  split
  ·rename_i hc
   have hl := zyb I hc
   obtain ⟨v, p', e, I', F⟩ := E.expr 10 1 (d + 1) (adv p) (I.adv _ hc) (by omega) (by omega) (by omega)
   rw [e]
   exact ⟨_, _, rfl, I'.must _, ((zM p).trans F).trans (zn _ _ _)⟩
  split
  ·rename_i hc; exact ⟨_, _, rfl, I.adv _ hc, zM p⟩
  split
  ·rename_i hc; exact ⟨_, _, rfl, I.adv _ hc, zM p⟩
  split
  ·rename_i hc; exact ⟨_, _, rfl, ((I.adv _ hc).must _).must _, ((zM p).trans (zn _ _ _)).trans (zn _ _ _)⟩
  split
  ·rename_i hc; exact ⟨_, _, rfl, I.next (by rw [hc]; decide) _ _, zM p⟩
  have I1 := I.text 1 (by decide)
  have F1 := zHc T 1 p
  have hl1 := zEa (T := T) F1
  split
  ·rename_i hc
   have hl := zyb I1 hc
   obtain ⟨v, p', e, I', F⟩ := E.args (d + 1) _ (I1.adv _ hc) (by omega)
   rw [e]
   exact ⟨_, _, rfl, I', (F1.trans (zM _)).trans F⟩
  split
  ·rename_i hc
   have hl := zyb I1 hc
   obtain ⟨v, p', e, I', F⟩ := E.expr 10 1 (d + 1) _ (I1.adv _ hc) (by omega) (by omega) (by omega)
   rw [e]
   exact ⟨_, _, rfl, I'.must _, ((F1.trans (zM _)).trans F).trans (zn _ _ _)⟩
  exact ⟨_, _, rfl, I1, F1⟩
 ·intro d p I h
  simp only [unaryF]
  have I1 := I.deepF d
  have F1 := fw_deepF d p
  have hl1 := zEa (T := T) F1
  cases hu : unF T (deepF d p) with
  | none =>
   simp only
   obtain ⟨v, p', e, I', F⟩ := E.primary d _ I1 (by omega)
   exact ⟨v, p', e, I', F1.trans F⟩
  | some i =>
   simp only
   have hi : isF T (signR ((i + 20 : Nat) : Int)) (deepF d p) = true := (unF_get hu).2.1
   have hl := zyb I1 hi
   split
   ·have F2 := zn T [40] (adv (deepF d p))
    have hl2 := zEa (T := T) F2
    obtain ⟨v, p', e, I', F⟩ := E.expr 10 1 (d + 1) _ ((I1.adv _ hi).must [40]) (by omega) (by omega) (by omega)
    rw [e]
    exact ⟨_, _, rfl, I'.must _, (((F1.trans (zM _)).trans F2).trans F).trans (zn _ _ _)⟩
   ·obtain ⟨v, p', e, I', F⟩ := E.unary (d + 1) _ (I1.adv _ hi) (by omega)
    rw [e]
    exact ⟨_, _, rfl, I', (F1.trans (zM _)).trans F⟩
 ·intro k L d p I hL hk h
  simp only [zwc]
  split
  ·exact E.unary d p I (by omega)
  ·rename_i h10
   obtain ⟨v, p', e, I', F⟩ := E.expr (k - 1) (L + 1) d p I (by omega) (by omega) (by omega)
   rw [e]
   have hl := zEa (T := T) F
   obtain ⟨v2, p2, e2, I2, F2⟩ := E.loop k L d v p' I' hL (by omega) hk (by omega)
   exact ⟨v2, p2, e2, I2, F.trans F2⟩
 ·intro k L d a p I hL hk1 hk h
  simp only [zab]
  split
  ·exact ⟨_, _, rfl, I, Fw.refl _⟩
  ·rename_i hne
   obtain ⟨s, hs⟩ := opF_pos hne
   have hl := zyb I hs
   obtain ⟨v, p', e, I', F⟩ := E.expr (k - 1) (L + 1) d (adv p) (I.adv _ hs) (by omega) (by omega) (by omega)
   rw [e]
   have hl2 := zEa (T := T) F
   obtain ⟨v2, p2, e2, I2, F2⟩ := E.loop k L d _ p' I' hL hk1 hk (by omega)
   exact ⟨v2, p2, e2, I2, ((zM p).trans F).trans F2⟩
 ·intro d p I h
  simp only [argsF]
  split
  ·rename_i hc; exact ⟨_, _, rfl, I.adv _ hc, zM p⟩
  ·obtain ⟨v, p', e, I', F⟩ := E.al d [] true p I (by simp; omega)
   rw [e]
   exact ⟨_, _, rfl, I'.must _, F.trans (zn _ _ _)⟩
 ·intro d l f p I h
  simp only [zqa]
  have fin : ∀ q : PS, Inv1 T q -> Fw p q -> 64 * left T q + 24 <= n -> ∃ v p', (if zQa q then some (l, q) else match zwc T n 1 d q with | none => none | some x => zqa T n d (l ++ [x.1]) false x.2) = some (v, p') /\ Inv1 T p' /\ Fw p p' := by
   intro q Iq Fq hq
   split
   ·exact ⟨_, _, rfl, Iq, Fq⟩
   ·obtain ⟨v, p', e, I', F⟩ := E.expr 10 1 d q Iq (by omega) (by omega) (by omega)
    rw [e]
    have hl := zEa (T := T) F
    obtain ⟨v2, p2, e2, I2, F2⟩ := E.al d (l ++ [v]) false p' I' (by simp; omega)
    exact ⟨v2, p2, e2, I2, (Fq.trans F).trans F2⟩
  cases f
  ·cases c2 : isF T [44] p
   ·exact ⟨l, p, rfl, I, Fw.refl _⟩
   ·have hl := zyb I c2
    replace h : 64 * left T p + 24 <= n + 1 := by simpa using h
    have hh := fin (adv p) (I.adv _ c2) (zM p) (by omega)
    exact hh
  ·simp at h
   have hh := fin p I (Fw.refl _) (by omega)
   exact hh
theorem enough (T : List Tok) : ∀ n, Enough T n
 | 0 => ⟨fun _ _ _ h => by omega, fun _ _ _ h => by omega, fun _ _ _ _ _ _ _ h => by omega, fun _ _ _ _ _ _ _ _ _ h => by omega, fun _ _ _ h => by omega, fun _ _ _ _ _ h => by omega⟩
 | n + 1 => enough_of (enough T n)
end PE.U

namespace PE.U
open Go PE
theorem zgc {T : List Tok} {n : Nat} {p : PS} (I : Inv1 T p) (h : 64 * left T p + 23 <= n) : ∃ v p', zwc T n 1 1 p = some (v, p') /\ Inv1 T p' /\ Fw p p' :=
 (enough T n).expr 10 1 1 p I (by omega) (by omega) (by omega)
theorem zze {T : List Tok} {n : Nat} {p : PS} (I : Inv1 T p) (h : 64 * left T p + 23 <= n) : ∃ v p', zAe T n p = some (v, p') /\ Inv1 T p' /\ Fw p p' := by
 unfold zAe
 have hl := zEa (T := T) (zn T [40] p)
 obtain ⟨v, p', e, I', F⟩ := zgc (n := n) (I.must [40]) (by omega)
 rw [e]
 exact ⟨_, _, rfl, I'.must _, ((zn _ _ _).trans F).trans (zn _ _ _)⟩
def Go1 (p q : PS) : Prop := p.at' < q.at' \/ zQa q = true
theorem text_go {T : List Tok} {k : Int} {p : PS} : Go1 p (zfa T k p).2 := by
 unfold zfa
 split
 ·rename_i h; exact Or.inr h
 ·split
  ·exact Or.inl (Nat.lt_succ_self _)
  ·exact Or.inr (by simp [zQa])
theorem must_go {T : List Tok} {s : List UInt8} {p : PS} : Go1 p (zxa T s p) := by
 unfold zxa
 split
 ·exact Or.inl (Nat.lt_succ_self _)
 ·split
  ·rename_i h; exact Or.inr (by simp [zQa, h])
  ·exact Or.inr (by simp [zQa])
theorem typed_go {T : List Tok} {p : PS} : Go1 p (zha T p).2 := by
 unfold zha
 split
 ·exact Or.inl (Nat.lt_succ_self _)
 ·exact must_go
theorem adv_go (p : PS) : Go1 p (adv p) := Or.inl (Nat.lt_succ_self _)
theorem Go1.fw {p q r : PS} (h : Go1 p q) (f : Fw q r) : Go1 p r := by
 rcases h with h | h
 ·exact Or.inl (Nat.lt_of_lt_of_le h f.1)
 ·exact Or.inr (f.2 h)
theorem Fw.go {p q r : PS} (f : Fw p q) (h : Go1 q r) : Go1 p r := by
 rcases h with h | h
 ·exact Or.inl (Nat.lt_of_le_of_lt f.1 h)
 ·exact Or.inr h
theorem named_enough {T : List Tok} {n : Nat} {p : PS} (I : Inv1 T p) (h : 64 * left T p + 26 <= n) : ∃ v p', namedF T n p = some (v, p') /\ Inv1 T p' /\ Fw p p' /\ Go1 p p' := by
 unfold namedF
 have I1 := I.text 1 (by decide)
 have F1 := zHc T 1 p
 have G1 := text_go (T := T) (k := 1) (p := p)
 have hl1 := zEa (T := T) F1
 split
 ·rename_i hc
  have hl := zyb I1 hc
  obtain ⟨v, p', e, I', F⟩ := (enough T n).args 2 _ (I1.adv _ hc) (by omega)
  rw [e]
  exact ⟨_, _, rfl, I', (F1.trans (zM _)).trans F, G1.fw ((zM _).trans F)⟩
 split
 ·rename_i hc
  have hl := zyb I1 hc
  obtain ⟨v, p', e, I', F⟩ := zgc (n := n) (I1.adv _ hc) (by omega)
  rw [e]
  simp only
  have F2 := (zn T [93] p').trans (zn T [61] _)
  have hl2 := zEa (T := T) F
  have hl3 := zEa (T := T) F2
  obtain ⟨v2, p2, e2, I2, F3⟩ := zgc (n := n) ((I'.must [93]).must [61]) (by omega)
  rw [e2]
  exact ⟨_, _, rfl, I2, (((F1.trans (zM _)).trans F).trans F2).trans F3, G1.fw ((((zM _).trans F).trans F2).trans F3)⟩
 ·have F2 := zn T [61] (zfa T 1 p).2
  have hl3 := zEa (T := T) F2
  obtain ⟨v2, p2, e2, I2, F3⟩ := zgc (n := n) (I1.must [61]) (by omega)
  rw [e2]
  exact ⟨_, _, rfl, I2, (F1.trans F2).trans F3, G1.fw (F2.trans F3)⟩
structure EnoughS (T : List Tok) (n : Nat) : Prop where
 stmt : ∀ d p, Inv1 T p -> 64 * left T p + 28 <= n -> ∃ v p', stmtF T n d p = some (v, p') /\ Inv1 T p' /\ Fw p p' /\ Go1 p p'
 block : ∀ d l p, Inv1 T p -> 64 * left T p + 30 <= n -> ∃ v p', zNb T n d l p = some (v, p') /\ Inv1 T p' /\ Fw p p'
 over : ∀ d l p, Inv1 T p -> 1 <= n -> zQa p = true -> ∃ v p', zNb T n d l p = some (v, p') /\ Inv1 T p' /\ Fw p p'
theorem enoughS_of {T : List Tok} {n : Nat} (E : EnoughS T n) : EnoughS T (n + 1) := by
 refine ⟨?_, ?_, ?_⟩
 ·intro d p I0 h
  simp only [stmtF]
  have I := I0.deepS d
  have F0 := fw_deepS d p
  have hl0 := zEa (T := T) F0
  generalize deepS d p = q at *
  have fin : ∀ r, Fw q r -> Go1 q r -> Fw p r /\ Go1 p r := fun r a b => ⟨F0.trans a, F0.go b⟩
  split
  ·have G1 := typed_go (T := T) (p := q)
   have F1 := ((fw_typed T q).trans (zHc T 1 _)).trans (zn T [61] _)
   have hl := zEa (T := T) F1
   obtain ⟨v, p', e, I', F⟩ := zgc (n := n) ((I.typed.text 1 (by decide)).must [61]) (by omega)
   rw [e]
   have := fin _ ((F1.trans F).trans (zn T [59] _)) (G1.fw ((((zHc T 1 _).trans (zn T [61] _)).trans F).trans (zn T [59] _)))
   exact ⟨_, _, rfl, I'.must _, this.1, this.2⟩
  split
  ·rename_i hc
   have hl := zyb I hc
   obtain ⟨v, p', e, I', F⟩ := zze (n := n) (I.adv _ hc) (by omega)
   rw [e]
   simp only
   have F2 := F.trans (zn T [123] p')
   have hl2 := zEa (T := T) F2
   obtain ⟨v2, p2, e2, I2, F3⟩ := E.block (d + 1) [] _ (I'.must [123]) (by omega)
   rw [e2]
   simp only
   have hl3 := zEa (T := T) F3
   split
   ·rename_i hc2
    have hl4 := zyb I2 hc2
    have F4 := (zM p2).trans (zn T [123] _)
    have hl5 := zEa (T := T) (zn T [123] (adv p2))
    obtain ⟨v3, p3, e3, I3, F5⟩ := E.block (d + 1) [] _ ((I2.adv _ hc2).must [123]) (by omega)
    rw [e3]
    have := fin _ (((((zM q).trans F2).trans F3).trans F4).trans F5) ((adv_go q).fw (((F2.trans F3).trans F4).trans F5))
    exact ⟨_, _, rfl, I3, this.1, this.2⟩
   ·have := fin _ (((zM q).trans F2).trans F3) ((adv_go q).fw (F2.trans F3))
    exact ⟨_, _, rfl, I2, this.1, this.2⟩
  split
  ·rename_i hc
   have hl := zyb I hc
   obtain ⟨v, p', e, I', F⟩ := zze (n := n) (I.adv _ hc) (by omega)
   rw [e]
   simp only
   have F2 := F.trans (zn T [123] p')
   have hl2 := zEa (T := T) F2
   obtain ⟨v2, p2, e2, I2, F3⟩ := E.block (d + 1) [] _ (I'.must [123]) (by omega)
   rw [e2]
   have := fin _ (((zM q).trans F2).trans F3) ((adv_go q).fw (F2.trans F3))
   exact ⟨_, _, rfl, I2, this.1, this.2⟩
  split
  ·rename_i hc
   have := fin _ ((zM q).trans (zn T [59] _)) ((adv_go q).fw (zn T [59] _))
   exact ⟨_, _, rfl, (I.adv _ hc).must _, this.1, this.2⟩
  split
  ·rename_i hc
   have := fin _ ((zM q).trans (zn T [59] _)) ((adv_go q).fw (zn T [59] _))
   exact ⟨_, _, rfl, (I.adv _ hc).must _, this.1, this.2⟩
  split
  ·rename_i hc
   have hl := zyb I hc
   obtain ⟨v, p', e, I', F⟩ := zgc (n := n) (I.adv _ hc) (by omega)
   rw [e]
   have := fin _ (((zM q).trans F).trans (zn T [59] _)) ((adv_go q).fw (F.trans (zn T [59] _)))
   exact ⟨_, _, rfl, I'.must _, this.1, this.2⟩
  split
  ·rename_i hc
   have hl := zyb I hc
   obtain ⟨v, p', e, I', F⟩ := zze (n := n) (I.adv _ hc) (by omega)
   rw [e]
   have := fin _ (((zM q).trans F).trans (zn T [59] _)) ((adv_go q).fw (F.trans (zn T [59] _)))
   exact ⟨_, _, rfl, I'.must _, this.1, this.2⟩
  ·obtain ⟨v, p', e, I', F, G⟩ := named_enough (n := n) I (by omega)
   rw [e]
   have := fin _ (F.trans (zn T [59] _)) (G.fw (zn T [59] _))
   exact ⟨_, _, rfl, I'.must _, this.1, this.2⟩
 ·intro d l p I h
  simp only [zNb]
  split
  ·exact ⟨_, _, rfl, I, Fw.refl _⟩
  split
  ·rename_i hc; exact ⟨_, _, rfl, I.adv _ hc, zM p⟩
  ·obtain ⟨v, p', e, I', F, G⟩ := E.stmt d p I (by omega)
   rw [e]
   simp only
   rcases G with hg | hg
   ·have hl : left T p' + 1 <= left T p := by
     have := I'.lt; have := I.lt; unfold left; omega
    obtain ⟨v2, p2, e2, I2, F2⟩ := E.block d (l ++ [v]) p' I' (by omega)
    exact ⟨v2, p2, e2, I2, F.trans F2⟩
   ·obtain ⟨v2, p2, e2, I2, F2⟩ := E.over d (l ++ [v]) p' I' (by omega) hg
    exact ⟨v2, p2, e2, I2, F.trans F2⟩
 ·intro d l p I h ho
  simp only [zNb]
  rw [if_pos ho]
  exact ⟨_, _, rfl, I, Fw.refl _⟩
theorem enoughS (T : List Tok) : ∀ n, EnoughS T n
 | 0 => ⟨fun _ _ _ h => by omega, fun _ _ _ _ h => by omega, fun _ _ _ _ h => by omega⟩
 | n + 1 => enoughS_of (enoughS T n)
end PE.U

namespace PE.U
open Go PE
theorem params_enough {T : List Tok} : ∀ n l (f : Bool) p, Inv1 T p -> left T p + 2 + f.toNat <= n -> ∃ v p', zhb T n l f p = some (v, p') /\ Inv1 T p' /\ Fw p p' := by
 intro n
 induction n with
 | zero => intro l f p _ h; omega
 | succ n ih =>
  intro l f p I h
  simp only [zhb]
  have ov : ∀ l q, Inv1 T q -> zQa q = true -> 1 <= n -> ∃ v p', zhb T n l false q = some (v, p') /\ Inv1 T p' /\ Fw q p' := by
   intro l q Iq ho hn
   obtain ⟨n, rfl⟩ : ∃ m, n = m + 1 := ⟨n - 1, by omega⟩
   have hc : isF T [44] q = false := by unfold isF; rw [ho]; rfl
   refine ⟨l, q, ?_, Iq, Fw.refl _⟩
   simp [zhb, hc]
  have fin : ∀ q : PS, Inv1 T q -> Fw p q -> left T q + 2 <= n -> ∃ v p', (if zQa q then some (l, q) else zhb T n (l ++ [⟨(zfa T 1 (zha T q).2).1, (zha T q).1⟩]) false (zfa T 1 (zha T q).2).2) = some (v, p') /\ Inv1 T p' /\ Fw p p' := by
   intro q Iq Fq hq
   split
   ·exact ⟨_, _, rfl, Iq, Fq⟩
   ·have F := (fw_typed T q).trans (zHc T 1 _)
    have hl := zEa (T := T) F
    have I2 := Iq.typed.text 1 (by decide)
    obtain ⟨v2, p2, e2, I3, F2⟩ := ih (l ++ [⟨(zfa T 1 (zha T q).2).1, (zha T q).1⟩]) false _ I2 (by simp; omega)
    exact ⟨v2, p2, e2, I3, (Fq.trans F).trans F2⟩
  cases f
  ·cases c2 : isF T [44] p
   ·exact ⟨l, p, rfl, I, Fw.refl _⟩
   ·have hl := zyb I c2
    replace h : left T p + 2 <= n + 1 := by simpa using h
    have hh := fin (adv p) (I.adv _ c2) (zM p) (by omega)
    exact hh
  ·replace h : left T p + 2 + 1 <= n + 1 := by simpa using h
   have hh := fin p I (Fw.refl _) (by omega)
   exact hh
theorem function_enough {T : List Tok} {n : Nat} {t : Int} {s : List UInt8} {p : PS} (I : Inv1 T p) (h : 64 * left T p + 30 <= n) : ∃ v p', zvd T n t s p = some (v, p') /\ Inv1 T p' /\ Fw p p' := by
 unfold zvd
 have I1 := I.must [40]
 have F1 := zn T [40] p
 have hl1 := zEa (T := T) F1
 split
 ·rename_i hc
  have F2 := (zM (zxa T [40] p)).trans (zn T [123] _)
  have hl2 := zEa (T := T) F2
  obtain ⟨v, p', e, I', F⟩ := (enoughS T n).block 1 [] _ ((I1.adv _ hc).must [123]) (by omega)
  rw [e]
  exact ⟨_, _, rfl, I', (F1.trans F2).trans F⟩
 ·obtain ⟨v, p', e, I', F⟩ := params_enough n [] true _ I1 (by simp; omega)
  rw [e]
  simp only
  have F2 := (zn T [41] p').trans (zn T [123] _)
  have hl2 := zEa (T := T) F
  have hl3 := zEa (T := T) F2
  obtain ⟨v2, p2, e2, I2, F3⟩ := (enoughS T n).block 1 [] _ ((I'.must [41]).must [123]) (by omega)
  rw [e2]
  exact ⟨_, _, rfl, I2, ((F1.trans F).trans F2).trans F3⟩
theorem prog_enough {T : List Tok} : ∀ n ars fs p, Inv1 T p -> 64 * left T p + 31 <= n \/ (zQa p = true /\ 1 <= n) -> ∃ v p', progF T n ars fs p = some (v, p') /\ Inv1 T p' := by
 intro n
 induction n with
 | zero => intro ars fs p _ h; omega
 | succ n ih =>
  intro ars fs p I h
  simp only [progF]
  split
  ·exact ⟨_, _, rfl, I⟩
  rename_i hno
  replace h : 64 * left T p + 31 <= n + 1 := by
   rcases h with h | h
   ·exact h
   ·exact absurd h.1 hno
  split
  ·exact ⟨_, _, rfl, I⟩
  have G1 := typed_go (T := T) (p := p)
  have I2 := I.typed.text 1 (by decide)
  have F1 := (fw_typed T p).trans (zHc T 1 _)
  have G2 : Go1 p (zfa T 1 (zha T p).2).2 := G1.fw (zHc T 1 _)
  have hl := zEa (T := T) F1
  have nx : ∀ q, Inv1 T q -> Go1 p q -> 64 * left T q + 31 <= n \/ (zQa q = true /\ 1 <= n) := by
   intro q Iq G
   rcases G with g | g
   ·left
    have := Iq.lt; have := I.lt; unfold left at *; omega
   ·exact Or.inr ⟨g, by omega⟩
  split
  ·rename_i hc
   have I3 := (((I2.adv _ hc.2.2).text 0 (by decide)).must [93]).must [59]
   exact ih _ _ _ I3 (nx _ I3 (G2.fw ((((zM _).trans (zHc T 0 _)).trans (zn T [93] _)).trans (zn T [59] _))))
  ·obtain ⟨v, p', e, I', F⟩ := function_enough (n := n) (t := (zha T p).1) (s := (zfa T 1 (zha T p).2).1) I2 (by omega)
   rw [e]
   exact ih _ _ _ I' (nx _ I' (G2.fw F))
end PE.U

namespace PE.U
open Go PE
def TokOK (t : Tok) : Prop := t.kind = 0 -> digs t.text = true /\ t.text.length < 1000000
theorem tokGo_ok : ∀ n (q : List UInt8) line acc, q.length < n -> q.length <= 100000 -> (∀ t ∈ acc, TokOK t) -> (zmb n q line acc).2.1 = 0 →
  (∀ t ∈ (zmb n q line acc).1, TokOK t) /\ (zmb n q line acc).1.length <= acc.length + q.length + 1 /\ 0 < (zmb n q line acc).1.length /\ ∃ t, (zmb n q line acc).1[(zmb n q line acc).1.length - 1]? = some t /\ t.kind = 3 := by
 intro n
 induction n with
 | zero => intro q line acc h; omega
 | succ n ih =>
  intro q line acc hq hs ha h0
  cases q with
  | nil =>
   simp only [zmb]
   refine ⟨?_, by simp, by simp, ⟨3, [], line⟩, by simp, rfl⟩
   intro t ht
   rcases List.mem_append.1 ht with h | h
   ·exact ha t h
   ·rw [List.mem_singleton.1 h]; intro h; exact absurd h (by simp)
  | cons b r =>
   simp only [List.length_cons] at hq hs
   have mono : ∀ (q' : List UInt8) line' acc', q'.length <= r.length -> acc'.length + q'.length <= acc.length + r.length + 1 -> (∀ t ∈ acc', TokOK t) -> (zmb n q' line' acc').2.1 = 0 →
     (∀ t ∈ (zmb n q' line' acc').1, TokOK t) /\ (zmb n q' line' acc').1.length <= acc.length + (b :: r).length + 1 /\ 0 < (zmb n q' line' acc').1.length /\ ∃ t, (zmb n q' line' acc').1[(zmb n q' line' acc').1.length - 1]? = some t /\ t.kind = 3 := by
    intro q' line' acc' h1 h2 h3 h4
    obtain ⟨x1, x2, x3, x4⟩ := ih q' line' acc' (by omega) (by omega) h3 h4
    exact ⟨x1, by simp only [List.length_cons]; omega, x3, x4⟩
   simp only [zmb] at h0 ⊢
   split at h0
   ·rename_i c; rw [if_pos c]; exact mono r _ _ (Nat.le_refl _) (by omega) ha h0
   rename_i c; rw [if_neg c]
   split at h0
   ·rename_i c; rw [if_pos c]; exact mono r _ _ (Nat.le_refl _) (by omega) ha h0
   rename_i c; rw [if_neg c]
   split at h0
   ·rename_i c; rw [if_pos c]
    have hl : ((b :: r).dropWhile (· != 10)).length <= r.length := by
     rw [List.dropWhile_cons, c.1]
     simp only [show ((47 : UInt8) != 10) = true from rfl, if_true]
     rw [zIc, List.length_drop]; omega
    exact mono _ _ _ hl (by omega) ha h0
   rename_i c; rw [if_neg c]
   split at h0
   ·rename_i c; rw [if_pos c]
    split at h0
    ·exact absurd h0 (by simp)
    rename_i c2; rw [if_neg c2]
    have hw : 0 < ((b :: r).takeWhile zA).length := by rw [List.takeWhile_cons, c]; simp
    have hw2 := (List.takeWhile_prefix (l := b :: r) (p := zA)).length_le
    simp only [List.length_cons] at hw2
    refine mono _ _ _ (by rw [List.length_drop]; simp only [List.length_cons]; omega) (by rw [List.length_drop]; simp only [List.length_cons, List.length_append, List.length_nil]; omega) ?_ h0
    intro t ht
    rcases List.mem_append.1 ht with h | h
    ·exact ha t h
    ·rw [List.mem_singleton.1 h]
     intro hk
     simp only at hk
     refine ⟨?_, by simp only; omega⟩
     simp only [tokBad, hk, Bool.or_eq_true, Bool.and_eq_true, decide_eq_true_eq, Bool.not_eq_true', not_or, not_and, Bool.not_eq_false] at c2
     have := c2.2 trivial
     simp only [zWd, Bool.and_eq_true] at this
     exact this.1
   rename_i c; rw [if_neg c]
   split at h0
   ·exact absurd h0 (by simp)
   rename_i c2; rw [if_neg c2]
   have hp : 0 < (zbe (b :: r)).length := List.length_pos_iff.2 c2
   have hp2 := sign_len (b :: r)
   simp only [List.length_cons] at hp2
   refine mono _ _ _ (by rw [List.length_drop]; simp only [List.length_cons]; omega) (by rw [List.length_drop]; simp only [List.length_cons, List.length_append, List.length_nil]; omega) ?_ h0
   intro t ht
   rcases List.mem_append.1 ht with h | h
   ·exact ha t h
   ·rw [List.mem_singleton.1 h]; intro h; exact absurd h (by simp)
theorem tokens_inv (s : List UInt8) (h : (zD s).2.1 = 0) : Inv1 (zD s).1 ⟨0, false, false⟩ := by
 unfold zD at h ⊢
 split at h
 ·exact absurd h (by decide)
 rename_i hs
 rw [if_neg hs]
 obtain ⟨x1, x2, x3, x4⟩ := tokGo_ok (s.length + 1) s 1 [] (by omega) (by omega) (by simp) h
 exact ⟨x3, x4, by simp at x2; omega, x1⟩
def fuel (l : List Tok) : Nat := 64 * l.length + 100
def zUa (s : List UInt8) : Prog × Int × Int :=
 if (zD s).2.1 = 0 then
  match progF (zD s).1 (fuel (zD s).1) [] [] ⟨0, false, false⟩ with
  | none => (⟨[], []⟩, 0, 0)
  | some q =>
   if q.2.deep then (⟨[], []⟩, 2, (tk (zD s).1 q.2.at').line)
   else if q.2.bad then (⟨[], []⟩, 20, (tk (zD s).1 q.2.at').line)
   else if zKb q.1 then (q.1, 0, 0) else (⟨[], []⟩, 2, 0)
 else (⟨[], []⟩, (zD s).2.1, (zD s).2.2)
end PE.U

namespace PE.U
open Go PE
def Short (T : List Tok) (M : Nat) : Prop := 8 <= M /\ ∀ t ∈ T, t.text.length + 8 <= M
theorem short_text {T : List Tok} {M : Nat} {k : Int} {p : PS} (I : Inv1 T p) (h : Short T M) : (zfa T k p).1.length + 8 <= M := by
 unfold zfa
 split
 ·simpa using h.1
 ·split
  ·refine h.2 _ ?_
   rw [<- tk_get' I.lt]; exact List.getElem_mem I.lt
  ·simpa using h.1
def wa (M : Nat) (p : PS) : Nat := M * p.at'
theorem zoc (M : Nat) (p : PS) : wa M (adv p) = wa M p + M := Nat.mul_succ _ _
theorem zmc {M : Nat} {p q : PS} (h : Fw p q) : wa M p <= wa M q := Nat.mul_le_mul_left _ h.1
structure Light (T : List Tok) (M n : Nat) : Prop where
 primary : ∀ d p v p', Inv1 T p -> zNc T n d p = some (v, p') -> Inv1 T p' /\ Fw p p' /\ wtE v + 2 * wa M p <= 2 * wa M p' + M
 unary : ∀ d p v p', Inv1 T p -> unaryF T n d p = some (v, p') -> Inv1 T p' /\ Fw p p' /\ wtE v + 2 * wa M p <= 2 * wa M p' + M
 expr : ∀ L d p v p', Inv1 T p -> zwc T n L d p = some (v, p') -> Inv1 T p' /\ Fw p p' /\ wtE v + 2 * wa M p <= 2 * wa M p' + M
 loop : ∀ L d a p v p', Inv1 T p -> zab T n L d a p = some (v, p') -> ∀ k : Nat, wtE a + k <= 2 * wa M p + M -> Inv1 T p' /\ Fw p p' /\ wtE v + k <= 2 * wa M p' + M
 args : ∀ d p v p', Inv1 T p -> argsF T n d p = some (v, p') -> Inv1 T p' /\ Fw p p' /\ wtEs v + 2 * wa M p <= 2 * wa M p' + 2 * M
 al : ∀ d l (f : Bool) p v p', Inv1 T p -> zqa T n d l f p = some (v, p') -> ∀ k : Nat, wtEs l + k <= 2 * wa M p + (if f then 0 else 2 * M) -> Inv1 T p' /\ Fw p p' /\ wtEs v + k <= 2 * wa M p' + 2 * M
theorem light_of {T : List Tok} {M n : Nat} (hS : Short T M) (E : Light T M n) : Light T M (n + 1) := by
 have h8 := hS.1
 refine ⟨?_, ?_, ?_, ?_, ?_, ?_⟩
 ·intro d p v p' I h
  simp only [zNc] at h
  split at h
  ·cases h; exact ⟨I, Fw.refl _, by simp [wtE, wtEs]; omega⟩
  split at h
  ·rename_i hc
   split at h
   ·cases h
   ·rename_i q hq
    cases h
    obtain ⟨I', F, W⟩ := E.expr _ _ _ _ _ (I.adv _ hc) hq
    have := zoc M p
    have := zmc (M := M) (zn T [41] q.2)
    exact ⟨I'.must _, ((zM p).trans F).trans (zn _ _ _), by omega⟩
  split at h
  ·rename_i hc; cases h
   have := zoc M p
   exact ⟨I.adv _ hc, zM p, by simp [wtE, wtEs]; omega⟩
  split at h
  ·rename_i hc; cases h
   have := zoc M p
   exact ⟨I.adv _ hc, zM p, by simp [wtE, wtEs]; omega⟩
  split at h
  ·rename_i hc; cases h
   have F := ((zM p).trans (zn T [40] _)).trans (zn T [41] _)
   have := zmc (M := M) F
   exact ⟨((I.adv _ hc).must _).must _, F, by simp [wtE, wtEs]; omega⟩
  split at h
  ·rename_i hc; cases h
   have := zoc M p
   exact ⟨I.next (by rw [hc]; decide) _ _, zM p, by simp [wtE, wtEs]; omega⟩
  have I1 := I.text 1 (by decide)
  have F1 := zHc T 1 p
  have w1 := zmc (M := M) F1
  have hs := short_text (k := 1) I hS
  split at h
  ·rename_i hc
   split at h
   ·cases h
   ·rename_i q hq
    cases h
    obtain ⟨I', F, W⟩ := E.args _ _ _ _ (I1.adv _ hc) hq
    have := zoc M (zfa T 1 p).2
    exact ⟨I', (F1.trans (zM _)).trans F, by simp only [wtE]; omega⟩
  split at h
  ·rename_i hc
   split at h
   ·cases h
   ·rename_i q hq
    cases h
    obtain ⟨I', F, W⟩ := E.expr _ _ _ _ _ (I1.adv _ hc) hq
    have := zoc M (zfa T 1 p).2
    have := zmc (M := M) (zn T [93] q.2)
    exact ⟨I'.must _, ((F1.trans (zM _)).trans F).trans (zn _ _ _), by simp only [wtE, wtEs]; omega⟩
  ·cases h
   exact ⟨I1, F1, by simp only [wtE, wtEs]; omega⟩
 ·intro d p v p' I h
  simp only [unaryF] at h
  have I1 := I.deepF d
  have F1 := fw_deepF d p
  have w1 := zmc (M := M) F1
  cases hu : unF T (deepF d p) with
  | none =>
   rw [hu] at h
   obtain ⟨I', F, W⟩ := E.primary _ _ _ _ I1 h
   exact ⟨I', F1.trans F, by omega⟩
  | some i =>
   rw [hu] at h
   simp only at h
   have hi : isF T (signR ((i + 20 : Nat) : Int)) (deepF d p) = true := (unF_get hu).2.1
   have := zoc M (deepF d p)
   split at h
   ·split at h
    ·cases h
    ·rename_i q hq
     cases h
     have F2 := zn T [40] (adv (deepF d p))
     have := zmc (M := M) F2
     obtain ⟨I', F, W⟩ := E.expr _ _ _ _ _ ((I1.adv _ hi).must _) hq
     have := zmc (M := M) (zn T [41] q.2)
     exact ⟨I'.must _, (((F1.trans (zM _)).trans F2).trans F).trans (zn _ _ _), by simp only [wtE, wtEs, List.length_nil]; omega⟩
   ·split at h
    ·cases h
    ·rename_i q hq
     cases h
     obtain ⟨I', F, W⟩ := E.unary _ _ _ _ (I1.adv _ hi) hq
     exact ⟨I', (F1.trans (zM _)).trans F, by simp only [wtE, wtEs, List.length_nil]; omega⟩
 ·intro L d p v p' I h
  simp only [zwc] at h
  split at h
  ·exact E.unary _ _ _ _ I h
  ·split at h
   ·cases h
   ·rename_i q hq
    obtain ⟨I', F, W⟩ := E.expr _ _ _ _ _ I hq
    obtain ⟨I2, F2, W2⟩ := E.loop _ _ _ _ _ _ I' h (2 * wa M p) W
    exact ⟨I2, F.trans F2, W2⟩
 ·intro L d a p v p' I h k hk
  simp only [zab] at h
  split at h
  ·cases h; exact ⟨I, Fw.refl _, hk⟩
  ·rename_i hne
   obtain ⟨s, hs⟩ := opF_pos hne
   have := zoc M p
   split at h
   ·cases h
   ·rename_i q hq
    obtain ⟨I', F, W⟩ := E.expr _ _ _ _ _ (I.adv _ hs) hq
    obtain ⟨I2, F2, W2⟩ := E.loop _ _ _ _ _ _ I' h k (by simp only [wtE, wtEs, List.length_nil]; omega)
    exact ⟨I2, ((zM p).trans F).trans F2, W2⟩
 ·intro d p v p' I h
  simp only [argsF] at h
  split at h
  ·rename_i hc; cases h
   have := zoc M p
   exact ⟨I.adv _ hc, zM p, by simp only [wtEs]; omega⟩
  ·split at h
   ·cases h
   ·rename_i q hq
    cases h
    obtain ⟨I', F, W⟩ := E.al _ _ _ _ _ _ I hq (2 * wa M p) (by simp [wtEs])
    have := zmc (M := M) (zn T [41] q.2)
    exact ⟨I'.must _, F.trans (zn _ _ _), by omega⟩
 ·intro d l f p v p' I h k hk
  simp only [zqa] at h
  have fin : ∀ q : PS, Inv1 T q -> Fw p q -> wtEs l + k + (if f then 0 else M + 1) <= 2 * wa M q + (if f then 0 else M + 1) -> (f = false -> wtEs l + k <= 2 * wa M q) -> (if zQa q then some (l, q) else match zwc T n 1 d q with | none => none | some x => zqa T n d (l ++ [x.1]) false x.2) = some (v, p') -> Inv1 T p' /\ Fw p p' /\ wtEs v + k <= 2 * wa M p' + 2 * M := by
   intro q Iq Fq hq hq2 h
   have hq3 : wtEs l + k <= 2 * wa M q := by cases f <;> simp at hq <;> omega
   split at h
   ·cases h; exact ⟨Iq, Fq, by omega⟩
   ·split at h
    ·cases h
    ·rename_i x hx
     obtain ⟨I', F, W⟩ := E.expr _ _ _ _ _ Iq hx
     obtain ⟨I2, F2, W2⟩ := E.al _ _ _ _ _ _ I' h k (by rw [wtEs_append]; simp [wtEs]; omega)
     exact ⟨I2, (Fq.trans F).trans F2, W2⟩
  cases f
  ·cases c2 : isF T [44] p
   ·rw [c2] at h
    simp at h hk
    obtain ⟨rfl, rfl⟩ := h
    exact ⟨I, Fw.refl _, by omega⟩
   ·have := zoc M p
    rw [c2] at h
    simp at hk
    exact fin (adv p) (I.adv _ c2) (zM p) (by simp; omega) (fun _ => by omega) h
  ·simp at hk
   exact fin p I (Fw.refl _) (by simp; omega) (fun h => by cases h) h
theorem light {T : List Tok} {M : Nat} (hS : Short T M) : ∀ n, Light T M n
 | 0 => ⟨fun _ _ _ _ _ h => by simp [zNc] at h, fun _ _ _ _ _ h => by simp [unaryF] at h, fun _ _ _ _ _ _ h => by simp [zwc] at h, fun _ _ _ _ _ _ _ h => by simp [zab] at h, fun _ _ _ _ _ h => by simp [argsF] at h, fun _ _ _ _ _ _ _ h => by simp [zqa] at h⟩
 | n + 1 => light_of hS (light hS n)
end PE.U

namespace PE.U
open Go PE
section
variable {T : List Tok} {M : Nat}
theorem light1 (hS : Short T M) {n : Nat} {p p' : PS} {v : Expr} (I : Inv1 T p) (h : zwc T n 1 1 p = some (v, p')) : Inv1 T p' /\ Fw p p' /\ wtE v + 2 * wa M p <= 2 * wa M p' + M := (light hS n).expr _ _ _ _ _ I h
theorem lightI (hS : Short T M) {n : Nat} {p p' : PS} {v : Expr} (I : Inv1 T p) (h : zAe T n p = some (v, p')) : Inv1 T p' /\ Fw p p' /\ wtE v + 2 * wa M p <= 2 * wa M p' + M := by
 unfold zAe at h
 split at h
 ·cases h
 ·rename_i q hq
  cases h
  obtain ⟨I', F, W⟩ := light1 hS (I.must _) hq
  have := zmc (M := M) (zn T [40] p)
  have := zmc (M := M) (zn T [41] q.2)
  exact ⟨I'.must _, ((zn _ _ _).trans F).trans (zn _ _ _), by omega⟩
theorem lightN (hS : Short T M) {n : Nat} {p p' : PS} {v : Stmt} (I : Inv1 T p) (h : namedF T n p = some (v, p')) : Inv1 T p' /\ Fw p p' /\ wtS v + 2 * wa M p <= 2 * wa M p' + 3 * M := by
 unfold namedF at h
 have h8 := hS.1
 have I1 := I.text 1 (by decide)
 have F1 := zHc T 1 p
 have w1 := zmc (M := M) F1
 have hs := short_text (k := 1) I hS
 split at h
 ·rename_i hc
  split at h
  ·cases h
  ·rename_i q hq
   cases h
   obtain ⟨I', F, W⟩ := (light hS n).args _ _ _ _ (I1.adv _ hc) hq
   have := zoc M (zfa T 1 p).2
   exact ⟨I', (F1.trans (zM _)).trans F, by simp only [wtS, wtE, wtEs, wtSs, List.length_nil]; omega⟩
 split at h
 ·rename_i hc
  split at h
  ·cases h
  ·rename_i q hq
   obtain ⟨I', F, W⟩ := light1 hS (I1.adv _ hc) hq
   have := zoc M (zfa T 1 p).2
   have F2 := (zn T [93] q.2).trans (zn T [61] _)
   have := zmc (M := M) F2
   split at h
   ·cases h
   ·rename_i r hr
    cases h
    obtain ⟨I2, F3, W2⟩ := light1 hS ((I'.must [93]).must [61]) hr
    exact ⟨I2, (((F1.trans (zM _)).trans F).trans F2).trans F3, by simp only [wtS, wtE, wtEs, wtSs, List.length_nil]; omega⟩
 ·split at h
  ·cases h
  ·rename_i q hq
   cases h
   obtain ⟨I', F, W⟩ := light1 hS (I1.must _) hq
   have := zmc (M := M) (zn T [61] (zfa T 1 p).2)
   exact ⟨I', (F1.trans (zn _ _ _)).trans F, by simp only [wtS, wtE, wtEs, wtSs, List.length_nil]; omega⟩
end
end PE.U

namespace PE.U
open Go PE
def ovM (M : Nat) (p : PS) : Nat := if zQa p then 8 * M else 0
theorem ovM_le (M : Nat) (p : PS) : ovM M p <= 8 * M := by unfold ovM; split <;> omega
theorem ovM_fw {M : Nat} {p q : PS} (h : Fw p q) : ovM M p <= ovM M q := by
 unfold ovM
 cases ho : zQa p
 ·simp
 ·rw [h.2 ho]; exact Nat.le_refl _
theorem go_wa {M : Nat} {p q : PS} (h : Go1 p q) : wa M p + M <= wa M q \/ ovM M q = 8 * M := by
 rcases h with h | h
 ·left
  unfold wa
  have := Nat.mul_le_mul_left M h
  rw [Nat.mul_succ] at this
  exact this
 ·right
  unfold ovM; rw [if_pos h]
theorem named_go {T : List Tok} {M n : Nat} {p p' : PS} {v : Stmt} (hS : Short T M) (I : Inv1 T p) (h : namedF T n p = some (v, p')) : Go1 p p' := by
 unfold namedF at h
 have I1 := I.text 1 (by decide)
 have F1 := zHc T 1 p
 have G1 := text_go (T := T) (k := 1) (p := p)
 split at h
 ·rename_i hc
  split at h
  ·cases h
  ·rename_i q hq
   cases h
   obtain ⟨I', F, W⟩ := (light hS n).args _ _ _ _ (I1.adv _ hc) hq
   exact G1.fw ((zM _).trans F)
 split at h
 ·rename_i hc
  split at h
  ·cases h
  ·rename_i q hq
   obtain ⟨I', F, W⟩ := light1 hS (I1.adv _ hc) hq
   have F2 := (zn T [93] q.2).trans (zn T [61] _)
   split at h
   ·cases h
   ·rename_i r hr
    cases h
    obtain ⟨I2, F3, W2⟩ := light1 hS ((I'.must [93]).must [61]) hr
    exact G1.fw ((((zM _).trans F).trans F2).trans F3)
 ·split at h
  ·cases h
  ·rename_i q hq
   cases h
   obtain ⟨I', F, W⟩ := light1 hS (I1.must _) hq
   exact G1.fw ((zn _ _ _).trans F)
structure LightS (T : List Tok) (M n : Nat) : Prop where
 stmt : ∀ d p v p', Inv1 T p -> stmtF T n d p = some (v, p') -> Inv1 T p' /\ Fw p p' /\ wtS v + 1 + 8 * wa M p <= 8 * wa M p' + ovM M p'
 block : ∀ d l p v p', Inv1 T p -> zNb T n d l p = some (v, p') -> ∀ k : Nat, wtSs l + k <= 8 * wa M p + ovM M p -> Inv1 T p' /\ Fw p p' /\ wtSs v + k <= 8 * wa M p' + ovM M p'
theorem lightS_of {T : List Tok} {M n : Nat} (hS : Short T M) (E : LightS T M n) : LightS T M (n + 1) := by
 have h8 := hS.1
 refine ⟨?_, ?_⟩
 ·intro d p v p' I0 h
  simp only [stmtF] at h
  have I := I0.deepS d
  have F0 := fw_deepS d p
  have w0 : wa M (deepS d p) = wa M p := by unfold wa deepS; split <;> rfl
  generalize deepS d p = q at *
  -- something is taken, and what is made weighs little
  have fin : ∀ r : PS, Fw q r -> Go1 q r -> ∀ W : Nat, W + 2 * wa M q <= 2 * wa M r + 4 * M -> Fw p r /\ W + 1 + 8 * wa M p <= 8 * wa M r + ovM M r := by
   intro r F G W hW
   refine ⟨F0.trans F, ?_⟩
   have := zmc (M := M) F
   rcases go_wa (M := M) G with g | g <;> omega
  split at h
  ·have G1 := typed_go (T := T) (p := q)
   have Ft := (fw_typed T q).trans (zHc T 1 _)
   have F1 := Ft.trans (zn T [61] _)
   have hs := short_text (k := 1) I.typed hS
   split at h
   ·cases h
   ·rename_i x hx
    cases h
    obtain ⟨I', F, W⟩ := light1 hS ((I.typed.text 1 (by decide)).must [61]) hx
    have F2 := zn T [59] x.2
    have := zmc (M := M) F1
    have := zmc (M := M) F2
    have := fin _ ((F1.trans F).trans F2) (G1.fw ((((zHc T 1 _).trans (zn T [61] _)).trans F).trans F2)) (wtS ⟨1, (zha T q).1, (zfa T 1 (zha T q).2).1, [x.1], [], []⟩) (by simp only [wtS, wtEs, wtSs]; omega)
    exact ⟨I'.must _, this.1, this.2⟩
  split at h
  ·rename_i hc
   have wadv := zoc M q
   split at h
   ·cases h
   ·rename_i x hx
    obtain ⟨I', F, W⟩ := lightI hS (I.adv _ hc) hx
    have F2 := zn T [123] x.2
    have w2 := zmc (M := M) F2
    have w1 := zmc (M := M) F
    split at h
    ·cases h
    ·rename_i y hy
     obtain ⟨I2, F3, W3⟩ := E.block _ _ _ _ _ (I'.must [123]) hy (8 * wa M (zxa T [123] x.2) + ovM M (zxa T [123] x.2)) (by simp [wtSs])
     split at h
     ·rename_i hc2
      split at h
      ·cases h
      ·rename_i z hz
       cases h
       have F4 := (zM y.2).trans (zn T [123] _)
       have w4 := zmc (M := M) F4
       have o4 := ovM_fw (M := M) F4
       obtain ⟨I3, F5, W5⟩ := E.block _ _ _ _ _ ((I2.adv _ hc2).must [123]) hz (8 * wa M (zxa T [123] (adv y.2)) + ovM M (zxa T [123] (adv y.2))) (by simp [wtSs])
       have w5 := zmc (M := M) F5
       have w3 := zmc (M := M) F3
       exact ⟨I3, F0.trans ((((((zM q).trans F).trans F2).trans F3).trans F4).trans F5), by simp only [wtS, wtEs, List.length_nil]; omega⟩
     ·cases h
      have w3 := zmc (M := M) F3
      exact ⟨I2, F0.trans ((((zM q).trans F).trans F2).trans F3), by simp only [wtS, wtEs, wtSs, List.length_nil]; omega⟩
  split at h
  ·rename_i hc
   have wadv := zoc M q
   split at h
   ·cases h
   ·rename_i x hx
    obtain ⟨I', F, W⟩ := lightI hS (I.adv _ hc) hx
    have F2 := zn T [123] x.2
    have w2 := zmc (M := M) F2
    have w1 := zmc (M := M) F
    split at h
    ·cases h
    ·rename_i y hy
     obtain ⟨I2, F3, W3⟩ := E.block _ _ _ _ _ (I'.must [123]) hy (8 * wa M (zxa T [123] x.2) + ovM M (zxa T [123] x.2)) (by simp [wtSs])
     cases h
     have w3 := zmc (M := M) F3
     exact ⟨I2, F0.trans ((((zM q).trans F).trans F2).trans F3), by simp only [wtS, wtEs, wtSs, List.length_nil]; omega⟩
  split at h
  ·rename_i hc
   cases h
   have wadv := zoc M q
   have F2 := zn T [59] (adv q)
   have := zmc (M := M) F2
   have := fin _ ((zM q).trans F2) ((adv_go q).fw F2) (wtS ⟨6, 0, [], [], [], []⟩) (by simp only [wtS, wtEs, wtSs, List.length_nil]; omega)
   exact ⟨(I.adv _ hc).must _, this.1, this.2⟩
  split at h
  ·rename_i hc
   cases h
   have wadv := zoc M q
   have F2 := zn T [59] (adv q)
   have := zmc (M := M) F2
   have := fin _ ((zM q).trans F2) ((adv_go q).fw F2) (wtS ⟨7, 0, [], [], [], []⟩) (by simp only [wtS, wtEs, wtSs, List.length_nil]; omega)
   exact ⟨(I.adv _ hc).must _, this.1, this.2⟩
  split at h
  ·rename_i hc
   have wadv := zoc M q
   split at h
   ·cases h
   ·rename_i x hx
    cases h
    obtain ⟨I', F, W⟩ := light1 hS (I.adv _ hc) hx
    have F2 := zn T [59] x.2
    have := zmc (M := M) F2
    have := fin _ (((zM q).trans F).trans F2) ((adv_go q).fw (F.trans F2)) (wtS ⟨8, 0, [], [x.1], [], []⟩) (by simp only [wtS, wtEs, wtSs, List.length_nil]; omega)
    exact ⟨I'.must _, this.1, this.2⟩
  split at h
  ·rename_i hc
   have wadv := zoc M q
   split at h
   ·cases h
   ·rename_i x hx
    cases h
    obtain ⟨I', F, W⟩ := lightI hS (I.adv _ hc) hx
    have F2 := zn T [59] x.2
    have := zmc (M := M) F2
    have := fin _ (((zM q).trans F).trans F2) ((adv_go q).fw (F.trans F2)) (wtS ⟨9, 0, [], [x.1], [], []⟩) (by simp only [wtS, wtEs, wtSs, List.length_nil]; omega)
    exact ⟨I'.must _, this.1, this.2⟩
  ·split at h
   ·cases h
   ·rename_i x hx
    cases h
    obtain ⟨I', F, W⟩ := lightN hS I hx
    have G := named_go hS I hx
    have F2 := zn T [59] x.2
    have := zmc (M := M) F2
    have := fin _ (F.trans F2) (G.fw F2) (wtS x.1) (by omega)
    exact ⟨I'.must _, this.1, this.2⟩
 ·intro d l p v p' I h k hk
  simp only [zNb] at h
  split at h
  ·cases h; exact ⟨I, Fw.refl _, hk⟩
  rename_i hno
  have ho0 : ovM M p = 0 := by unfold ovM; rw [if_neg hno]
  split at h
  ·rename_i hc
   cases h
   have := zoc M p
   exact ⟨I.adv _ hc, zM p, by omega⟩
  ·split at h
   ·cases h
   ·rename_i x hx
    obtain ⟨I', F, W⟩ := E.stmt _ _ _ _ I hx
    obtain ⟨I2, F2, W2⟩ := E.block _ _ _ _ _ I' h k (by rw [zpe]; simp only [wtSs]; omega)
    exact ⟨I2, F.trans F2, W2⟩
theorem lightS {T : List Tok} {M : Nat} (hS : Short T M) : ∀ n, LightS T M n
 | 0 => ⟨fun _ _ _ _ _ h => by simp [stmtF] at h, fun _ _ _ _ _ _ h => by simp [zNb] at h⟩
 | n + 1 => lightS_of hS (lightS hS n)
end PE.U

namespace PE.U
open Go PE
theorem tokGo_short (N : Nat) : ∀ n (q : List UInt8) line acc, q.length <= N -> (∀ t ∈ acc, t.text.length <= N) -> ∀ t ∈ (zmb n q line acc).1, t.text.length <= N := by
 intro n
 induction n with
 | zero => intro q line acc hs ha; exact ha
 | succ n ih =>
  intro q line acc hs ha
  cases q with
  | nil =>
   simp only [zmb]
   intro t ht
   rcases List.mem_append.1 ht with h | h
   ·exact ha t h
   ·rw [List.mem_singleton.1 h]; simp
  | cons b r =>
   simp only [List.length_cons] at hs
   simp only [zmb]
   split
   ·exact ih _ _ _ (by omega) ha
   split
   ·exact ih _ _ _ (by omega) ha
   split
   ·refine ih _ _ _ ?_ ha
    rw [zIc, List.length_drop]; simp only [List.length_cons]; omega
   split
   ·split
    ·intro t ht; cases ht
    ·have hw2 := (List.takeWhile_prefix (l := b :: r) (p := zA)).length_le
     simp only [List.length_cons] at hw2
     refine ih _ _ _ (by rw [List.length_drop]; simp only [List.length_cons]; omega) ?_
     intro t ht
     rcases List.mem_append.1 ht with h | h
     ·exact ha t h
     ·rw [List.mem_singleton.1 h]; simp only; omega
   split
   ·intro t ht; cases ht
   ·have hp2 := sign_len (b :: r)
    simp only [List.length_cons] at hp2
    refine ih _ _ _ (by rw [List.length_drop]; simp only [List.length_cons]; omega) ?_
    intro t ht
    rcases List.mem_append.1 ht with h | h
    ·exact ha t h
    ·rw [List.mem_singleton.1 h]; simp only; omega
theorem tokens_short (s : List UInt8) : Short (zD s).1 100008 := by
 refine ⟨by decide, ?_⟩
 unfold zD
 split
 ·intro t ht; cases ht
 ·rename_i h
  intro t ht
  have := tokGo_short 100000 _ _ _ _ (by omega) (by simp) t ht
  omega
theorem tokens_count (s : List UInt8) (h : (zD s).2.1 = 0) : (zD s).1.length <= 100001 := by
 unfold zD at h ⊢
 split at h
 ·exact absurd h (by decide)
 rename_i hs
 rw [if_neg hs]
 obtain ⟨x1, x2, x3, x4⟩ := tokGo_ok (s.length + 1) s 1 [] (by omega) (by omega) (by simp) h
 simp at x2; omega
section
variable {T : List Tok} {M : Nat} (hS : Short T M)
theorem block_wt {n : Nat} {d : Int} {p p' : PS} {v : List Stmt} (hS : Short T M) (I : Inv1 T p) (h : zNb T n d [] p = some (v, p')) : wtSs v <= 8 * (M * T.length) + 8 * M := by
 obtain ⟨I', F, W⟩ := (lightS hS n).block _ _ _ _ _ I h (8 * wa M p + ovM M p) (by simp [wtSs])
 have := ovM_le M p'
 have h2 : wa M p' <= M * T.length := Nat.mul_le_mul_left _ (Nat.le_of_lt I'.lt)
 omega
theorem params_len : ∀ n l (f : Bool) p v p', zhb T n l f p = some (v, p') -> v.length <= l.length + n := by
 intro n
 induction n with
 | zero => intro l f p v p' h; simp [zhb] at h
 | succ n ih =>
  intro l f p v p' h
  simp only [zhb] at h
  by_cases hc : (f || isF T [44] p) = true
  ·rw [if_pos hc] at h
   generalize (if f = true then p else adv p) = q at h
   split at h
   ·cases h; omega
   ·have := ih _ _ _ _ _ h
    simp only [List.length_append, List.length_cons, List.length_nil] at this
    omega
  ·rw [if_neg hc] at h; cases h; omega
theorem function_wt {n : Nat} {t : Int} {s : List UInt8} {p p' : PS} {v : Func} (hS : Short T M) (I : Inv1 T p) (h : zvd T n t s p = some (v, p')) : wtSs v.body <= 8 * (M * T.length) + 8 * M /\ v.params.length <= n := by
 unfold zvd at h
 have I1 := I.must [40]
 split at h
 ·rename_i hc
  split at h
  ·cases h
  ·rename_i q hq
   cases h
   exact ⟨block_wt hS ((I1.adv _ hc).must _) hq, by simp⟩
 ·split at h
  ·cases h
  ·rename_i r hr
   have Ir := paramsF_inv _ _ _ _ _ _ hr I1
   have hl := params_len _ _ _ _ _ _ hr
   split at h
   ·cases h
   ·rename_i q hq
    cases h
    exact ⟨block_wt hS ((Ir.must _).must _) hq, by simpa using hl⟩
theorem prog_wt (hS : Short T M) : ∀ n ars fs p v p', n <= 999999980 -> Inv1 T p -> progF T n ars fs p = some (v, p') -> ∀ B : Nat, n <= B →
  (∀ f ∈ fs, wtSs f.body <= 8 * (M * T.length) + 8 * M /\ f.params.length <= B) →
  v.arrays.length <= ars.length + n /\ v.funcs.length <= fs.length + n /\ ∀ f ∈ v.funcs, wtSs f.body <= 8 * (M * T.length) + 8 * M /\ f.params.length <= B := by
 intro n
 induction n with
 | zero => intro ars fs p v p' _ I h; simp [progF] at h
 | succ n ih =>
  intro ars fs p v p' hn I h B hB hf
  simp only [progF] at h
  have I2 := I.typed.text 1 (by decide)
  split at h
  ·cases h; exact ⟨Nat.le_add_right _ _, Nat.le_add_right _ _, hf⟩
  split at h
  ·cases h; exact ⟨Nat.le_add_right _ _, Nat.le_add_right _ _, hf⟩
  split at h
  ·rename_i hc
   have I3 := (((I2.adv _ hc.2.2).text 0 (by decide)).must [93]).must [59]
   obtain ⟨a1, a2, a3⟩ := ih _ _ _ _ _ (by omega) I3 h B (by omega) hf
   simp only [List.length_append, List.length_cons, List.length_nil] at a1
   exact ⟨by omega, by omega, a3⟩
  ·split at h
   ·cases h
   ·rename_i q hq
    have I3 := (zBe hq I2 (by omega)).2
    have hw := function_wt hS I2 hq
    obtain ⟨a1, a2, a3⟩ := ih _ _ _ _ _ (by omega) I3 h B (by omega) (by
     intro f hff
     rcases List.mem_append.1 hff with h' | h'
     ·exact hf f h'
     ·rw [List.mem_singleton.1 h']; exact ⟨hw.1, by omega⟩)
    simp only [List.length_append, List.length_cons, List.length_nil] at a2
    exact ⟨by omega, by omega, a3⟩
end
theorem parse_sz (s : List UInt8) (h0 : (zD s).2.1 = 0) {v : Prog} {p' : PS} (h : progF (zD s).1 (fuel (zD s).1) [] [] ⟨0, false, false⟩ = some (v, p')) : PSz v := by
 have I := tokens_inv s h0
 have hc := tokens_count s h0
 have hS := tokens_short s
 have hf : fuel (zD s).1 <= 6400164 := by unfold fuel; omega
 obtain ⟨a1, a2, a3⟩ := prog_wt hS _ _ _ _ _ _ (by omega) I h (fuel (zD s).1) (Nat.le_refl _) (by simp)
 simp only [List.length_nil] at a1 a2
 have hm : 100008 * (zD s).1.length <= 100008 * 100001 := Nat.mul_le_mul_left _ hc
 refine ⟨by omega, by omega, fun f hff => ?_⟩
 obtain ⟨b1, b2⟩ := a3 f hff
 exact ⟨by omega, by omega⟩
theorem parse_run (s : List UInt8) (h0 : (zD s).2.1 = 0) : ∃ v p', progF (zD s).1 (fuel (zD s).1) [] [] ⟨0, false, false⟩ = some (v, p') /\ Inv1 (zD s).1 p' /\ PSz v := by
 have I := tokens_inv s h0
 obtain ⟨v, p', e, I'⟩ := prog_enough (fuel (zD s).1) [] [] _ I (Or.inl (by unfold fuel left; omega))
 exact ⟨v, p', e, I', parse_sz s h0 e⟩
end PE.U

namespace PE.U
open Go PE
def zEe (r : Prog × Int × Int) : PV := .tup [zf r.1, .int .i64 r.2.1, .int .i64 r.2.2]
set_option maxHeartbeats 4000000 in
theorem parse_spec (s : List UInt8) : zi E 13 [.str s] [] = some (.ret (zEe (zUa s)), []) := by
 refine zc rfl rfl rfl (by simp) ?_
 have ht := tokens_spec s
 by_cases h0 : (zD s).2.1 = 0
 ·obtain ⟨v, p', e, I', hz⟩ := parse_run s h0
  have I := tokens_inv s h0
  have hf : fuel (zD s).1 <= 6400164 := by have := tokens_count s h0; unfold fuel; omega
  have hp := (prog_spec e I (by omega)).1
  have hr := right_spec v hz
  have hm : zUa s = if p'.deep then (⟨[], []⟩, 2, (tk (zD s).1 p'.at').line) else if p'.bad then (⟨[], []⟩, 20, (tk (zD s).1 p'.at').line) else if zKb v then (v, 0, 0) else (⟨[], []⟩, 2, 0) := by
   unfold zUa; rw [if_pos h0, e]
  have hg := tk_get I'.lt
  rw [hm]
  clear hm e hz I hf
  generalize zD s = tt at *
  obtain ⟨T, e0, ln⟩ := tt
  simp only at h0 hp hg ht I'
  subst h0
  have hlt := I'.lt
  clear I'
  obtain ⟨pa, pb, pd⟩ := p'
  obtain ⟨ars, fs⟩ := v
  simp [encTokR, toks, pob, zf, zka, funcs] at ht hp hr hg hlt
  cases pd
  ·cases pb
   ·cases hR : zKb ⟨ars, fs⟩
    ·rw [hR] at hr
     simp [*, F13, zEe, zf, zka, funcs]
    ·rw [hR] at hr
     simp [*, F13, zEe, zf, zka, funcs]
   ·clear hr
    simp [*, F13, zEe, zf, zka, funcs, zq]
    exact congrArg Tok.line (tk_get' hlt)
  ·clear hr
   simp [*, F13, zEe, zf, zka, funcs, zq]
   exact congrArg Tok.line (tk_get' hlt)
 ·have hm : zUa s = (⟨[], []⟩, (zD s).2.1, (zD s).2.2) := by unfold zUa; rw [if_neg h0]
  rw [hm]
  clear hm
  generalize zD s = tt at *
  obtain ⟨T, e0, ln⟩ := tt
  simp only at h0 ht
  simp [encTokR, toks] at ht
  replace h0 := eqn h0
  simp [*, F13, zEe, zf, zka, funcs]
end PE.U

namespace PE.U
open Go PE
theorem parse_psz (s : List UInt8) : PSz (zUa s).1 := by
 have h0 : PSz ⟨[], []⟩ := ⟨by simp, by simp, by simp⟩
 unfold zUa
 split
 ·rename_i h
  obtain ⟨v, p', e, I', hz⟩ := parse_run s h
  rw [e]
  simp only
  split
  ·exact h0
  split
  ·exact h0
  split
  ·exact hz
  ·exact h0
 ·exact h0
end PE.U

namespace PE.U
open Go PE
theorem zzb (b : Bool) (σ : ze) : zi E 171 [.bool b] σ = some (.ret (.int .i64 (if b then 1 else 0)), σ) := by
 refine zc rfl rfl rfl rfl ?_
 cases b <;> simp [F171]
noncomputable def one (op a : Int) : Int :=
 if op = 20 then W (0 - a) else if op = 21 then xor64 (-1) a else if op = 22 then (if a = 0 then 1 else 0)
 else if op = 23 then W (zB .i8 a) else if op = 24 then W (zB .i16 a) else if op = 25 then W (zB .i32 a)
 else if op = 26 then W (zB .u8 a) else if op = 27 then W (zB .u16 a) else if op = 28 then W (zB .u32 a) else 0
theorem one_spec (op a : Int) (σ : ze) : zi E 166 [.int .i64 op, .int .i64 a] σ = some (.ret (.int .i64 (one op a)), σ) := by
 refine zc rfl rfl rfl rfl ?_
 by_cases h1 : op = 20
 ·subst h1; simp [F166, one]
 by_cases h2 : op = 21
 ·subst h2; simp [F166, one]
 by_cases h3 : op = 22
 ·subst h3; simp [F166, one, zzb]
 by_cases h4 : op = 23
 ·subst h4; simp [F166, one, zzb]
 by_cases h5 : op = 24
 ·subst h5; simp [F166, one, zzb]
 by_cases h6 : op = 25
 ·subst h6; simp [F166, one, zzb]
 by_cases h7 : op = 26
 ·subst h7; simp [F166, one, zzb]
 by_cases h8 : op = 27
 ·subst h8; simp [F166, one, zzb]
 by_cases h9 : op = 28
 ·subst h9; simp [F166, one, zzb]
 simp [F166, one, h1, h2, h3, h4, h5, h6, h7, h8, h9]
def cmp (op a b : Int) : Bool × Bool :=
 if op = 12 then (decide (a < b), true) else if op = 13 then (decide (a <= b), true) else if op = 14 then (decide (b < a), true)
 else if op = 15 then (decide (b <= a), true) else if op = 16 then (decide (a = b), true) else if op = 17 then (!decide (a = b), true) else (false, false)
theorem zKa (op a b : Int) (σ : ze) : zi E 172 [.int .i64 op, .int .i64 a, .int .i64 b] σ = some (.ret (.tup [.bool (cmp op a b).1, .bool (cmp op a b).2]), σ) := by
 refine zc rfl rfl rfl rfl ?_
 by_cases h1 : op = 12
 ·subst h1; simp [F172, cmp]
 by_cases h2 : op = 13
 ·subst h2; simp [F172, cmp]
 by_cases h3 : op = 14
 ·subst h3; simp [F172, cmp]
 by_cases h4 : op = 15
 ·subst h4; simp [F172, cmp]
 by_cases h5 : op = 16
 ·subst h5; simp [F172, cmp]
 by_cases h6 : op = 17
 ·subst h6; simp [F172, cmp]
 simp [F172, cmp, h1, h2, h3, h4, h5, h6]
noncomputable def two (op a b : Int) : Int × Bool :=
 if (cmp op a b).2 = true then (if (cmp op a b).1 = true then 1 else 0, true)
 else if op = 1 then (W (a + b), true) else if op = 2 then (W (a - b), true) else if op = 3 then (W (a * b), true)
 else if op = 6 then (and64 a b, true) else if op = 7 then (or64 a b, true) else if op = 8 then (xor64 a b, true)
 else if op = 9 then (W (a * 2 ^ (min (and64 b 63).toNat 64)), true) else if op = 10 then (shrK a (min (and64 b 63).toNat 64), true)
 else if op = 11 then (W (shrK (zB .u64 a) (min (and64 b 63).toNat 64)), true)
 else if b = 0 then (0, false) else if op = 4 then (W (a.tdiv b), true) else if op = 5 then (remK a b, true) else (0, false)
theorem wrap64 (n : Int) : W n = (BitVec.ofInt 64 n).toInt := by
 rw [BitVec.toInt_ofInt, W, zma, IntKind.wrap_i64]
 unfold Int.bmod
 simp only
 split <;> omega
theorem zre (z : BitVec 64) : W (z.toNat : Int) = z.toInt := by
 rw [wrap64]; simp
theorem and64_eq (a b : Int) : and64 a b = (BitVec.ofInt 64 a &&& BitVec.ofInt 64 b).toInt := (andK_eq .i64 a b).trans ((zma _ _).symm.trans (zre (BitVec.ofInt 64 a &&& BitVec.ofInt 64 b)))
theorem or64_eq (a b : Int) : or64 a b = (BitVec.ofInt 64 a ||| BitVec.ofInt 64 b).toInt := (orK_eq .i64 a b).trans ((zma _ _).symm.trans (zre (BitVec.ofInt 64 a ||| BitVec.ofInt 64 b)))
theorem xor64_eq (a b : Int) : xor64 a b = (BitVec.ofInt 64 a ^^^ BitVec.ofInt 64 b).toInt := (xorK_eq .i64 a b).trans ((zma _ _).symm.trans (zre (BitVec.ofInt 64 a ^^^ BitVec.ofInt 64 b)))
theorem and_mask (a : Int) (m : Nat) (hm : m < 63) : and64 a (2 ^ m - 1) = a % 2 ^ m := by
 rw [and64_eq]
 have e : (BitVec.ofInt 64 (2 ^ m - 1)).toNat = 2 ^ m - 1 := by
  have h1 : (2 : Nat) ^ m < 2 ^ 63 := Nat.pow_lt_pow_right (by decide) hm
  have h2 : 0 < (2 : Nat) ^ m := Nat.pow_pos (by decide)
  have h3 : ((2 : Int) ^ m - 1) = (((2 : Nat) ^ m - 1 : Nat) : Int) := by
   rw [Int.natCast_sub h2]; simp
  rw [h3, BitVec.ofInt_natCast, BitVec.toNat_ofNat]
  apply Nat.mod_eq_of_lt; omega
 have hN : (BitVec.ofInt 64 a &&& BitVec.ofInt 64 (2 ^ m - 1)).toNat = (BitVec.ofInt 64 a).toNat % 2 ^ m := by
  rw [BitVec.toNat_and, e, Nat.and_two_pow_sub_one_eq_mod]
 have hlt : (BitVec.ofInt 64 a).toNat % 2 ^ m < 2 ^ 63 := by
  have h1 : (2 : Nat) ^ m < 2 ^ 63 := Nat.pow_lt_pow_right (by decide) hm
  have := Nat.mod_lt (BitVec.ofInt 64 a).toNat (Nat.pow_pos (n := m) (show 0 < 2 by decide))
  omega
 rw [BitVec.toInt_eq_toNat_cond, if_pos (by rw [hN]; omega), hN, BitVec.toNat_ofInt, Int.natCast_emod, Int.toNat_of_nonneg (Int.emod_nonneg _ (by decide))]
 have : ((2 ^ m : Nat) : Int) = (2 : Int) ^ m := by simp
 rw [this]
 apply Int.emod_emod_of_dvd
 have hd : (2 : Nat) ^ m ∣ 2 ^ 64 := Nat.pow_dvd_pow 2 (by omega)
 have := Int.natCast_dvd_natCast.2 hd
 simpa using this
theorem and63 (b : Int) : 0 <= and64 b 63 /\ and64 b 63 < 64 := by
 have := and_mask b 6 (by decide)
 simp at this
 rw [this]; omega
theorem and63' (b : Int) : ¬ and64 b 63 < 0 := by have := (and63 b).1; omega
theorem two_spec (op a b : Int) (σ : ze) : zi E 168 [.int .i64 op, .int .i64 a, .int .i64 b] σ = some (.ret (.tup [.int .i64 (two op a b).1, .bool (two op a b).2]), σ) := by
 refine zc rfl rfl rfl rfl ?_
 by_cases hc : (cmp op a b).2 = true
 ·simp [F168, two, zKa, hc, zzb]
 have hc' : (cmp op a b).2 = false := by simpa using hc
 by_cases h1 : op = 1
 ·subst h1; simp [F168, two, zKa, hc']
 by_cases h2 : op = 2
 ·subst h2; simp [F168, two, zKa, hc']
 by_cases h3 : op = 3
 ·subst h3; simp [F168, two, zKa, hc']
 by_cases h4 : op = 6
 ·subst h4; simp [F168, two, zKa, hc']
 by_cases h5 : op = 7
 ·subst h5; simp [F168, two, zKa, hc']
 by_cases h6 : op = 8
 ·subst h6; simp [F168, two, zKa, hc']
 by_cases h7 : op = 9
 ·subst h7; simp [F168, two, zKa, hc', and63', IntKind.bits]
 by_cases h8 : op = 10
 ·subst h8; simp [F168, two, zKa, hc', and63', IntKind.bits]
 by_cases h9 : op = 11
 ·subst h9; simp [F168, two, zKa, hc', and63', IntKind.bits]
 by_cases h10 : b = 0
 ·subst h10; simp [F168, two, zKa, hc', h1, h2, h3, h4, h5, h6, h7, h8, h9]
 by_cases h11 : op = 4
 ·subst h11; simp [F168, two, zKa, hc', h10]
 by_cases h12 : op = 5
 ·subst h12; simp [F168, two, zKa, hc', h10]
 simp [F168, two, zKa, hc', h1, h2, h3, h4, h5, h6, h7, h8, h9, h10, h11, h12]
theorem W_id (n : Int) (h : -9223372036854775808 <= n) (h' : n <= 9223372036854775807) : W n = n := by
 rw [W, zma, IntKind.wrap_i64]; omega
theorem wrapK_i8 (n : Int) : zB .i8 n = (n + 128) % 256 - 128 := by
 rw [zma]; simp [IntKind.wrap, IntKind.bits, IntKind.signed]; split <;> omega
theorem wrapK_i16 (n : Int) : zB .i16 n = (n + 32768) % 65536 - 32768 := by
 rw [zma]; simp [IntKind.wrap, IntKind.bits, IntKind.signed]; split <;> omega
theorem wrapK_i32 (n : Int) : zB .i32 n = (n + 2147483648) % 4294967296 - 2147483648 := by
 rw [zma, IntKind.wrap_i32]
theorem wrapK_u8 (n : Int) : zB .u8 n = n % 256 := by rw [zma, IntKind.wrap_u8]
theorem wrapK_u16 (n : Int) : zB .u16 n = n % 65536 := by
 rw [zma]; simp [IntKind.wrap, IntKind.bits, IntKind.signed]
theorem wrapK_u32 (n : Int) : zB .u32 n = n % 4294967296 := by rw [zma, IntKind.wrap_u32]
theorem not64 (a : Int) : xor64 (-1) a = W (-1 - a) := by
 rw [xor64_eq, wrap64]
 congr 1
 have h1 : BitVec.ofInt 64 (-1) = BitVec.allOnes 64 := by decide
 rw [h1, BitVec.allOnes_xor]
 have h2 : (-1 - a) = -a - 1 := by omega
 apply BitVec.eq_of_toInt_eq
 rw [BitVec.toInt_not, BitVec.toInt_ofInt, BitVec.toNat_ofInt]
 have : 0 <= a % ((2 ^ 64 : Nat) : Int) := Int.emod_nonneg _ (by decide)
 simp only [Int.bmod]
 omega
end PE.U

namespace PE.U
open Go PE
structure RS where
 inp : List Int
 arrs : List (List Int)
 out : List Int
 cost : Int
 fuel : Nat
inductive How where
 | on | brk | cont
 | ret (n : Int)
inductive Rt (α : Type) where
 | ok (a : α)
 | stop (k : Int)
abbrev Vs := List (List UInt8 × Int)
structure Ev where
 expr : Expr -> Vs -> RS -> Rt Int × RS
 stmt : Stmt -> Vs -> RS -> Rt (How × Vs) × RS
def getV (nm : List UInt8) : Vs -> Int
 | [] => 0
 | x :: r => if x.1 = nm then x.2 else getV nm r
def setV (nm : List UInt8) (n : Int) : Vs -> Vs
 | [] => []
 | x :: r => if x.1 = nm then (nm, n) :: r else x :: setV nm n r
def oneC (op a : Int) : Int :=
 if op = 20 then IntKind.wrap .i64 (0 - a) else if op = 21 then IntKind.wrap .i64 (-1 - a) else if op = 22 then (if a = 0 then 1 else 0)
 else if op = 23 then (a + 128) % 256 - 128 else if op = 24 then (a + 32768) % 65536 - 32768 else if op = 25 then (a + 2147483648) % 4294967296 - 2147483648
 else if op = 26 then a % 256 else if op = 27 then a % 65536 else if op = 28 then a % 4294967296 else 0
def and64C (a b : Int) : Int := (BitVec.ofInt 64 a &&& BitVec.ofInt 64 b).toInt
def or64C (a b : Int) : Int := (BitVec.ofInt 64 a ||| BitVec.ofInt 64 b).toInt
def xor64C (a b : Int) : Int := (BitVec.ofInt 64 a ^^^ BitVec.ofInt 64 b).toInt
def twoC (op a b : Int) : Int × Bool :=
 if (cmp op a b).2 = true then (if (cmp op a b).1 = true then 1 else 0, true)
 else if op = 1 then (IntKind.wrap .i64 (a + b), true) else if op = 2 then (IntKind.wrap .i64 (a - b), true) else if op = 3 then (IntKind.wrap .i64 (a * b), true)
 else if op = 6 then (and64C a b, true) else if op = 7 then (or64C a b, true) else if op = 8 then (xor64C a b, true)
 else if op = 9 then (IntKind.wrap .i64 (a * 2 ^ (b % 64).toNat), true) else if op = 10 then (a.fdiv (2 ^ (b % 64).toNat), true)
 else if op = 11 then (IntKind.wrap .i64 ((a % 18446744073709551616).fdiv (2 ^ (b % 64).toNat)), true)
 else if b = 0 then (0, false) else if op = 4 then (IntKind.wrap .i64 (a.tdiv b), true) else if op = 5 then (a.tmod b, true) else (0, false)
theorem one_eqC (op a : Int) : one op a = oneC op a := by
 unfold one oneC
 by_cases h1 : op = 20
 ·subst h1; simp [W, zma]
 by_cases h2 : op = 21
 ·subst h2; simp [not64, W, zma]
 by_cases h3 : op = 22
 ·subst h3; simp
 by_cases h4 : op = 26
 ·subst h4; simp only [wrapK_u8]; simp; rw [W_id] <;> omega
 by_cases h5 : op = 27
 ·subst h5; simp only [wrapK_u16]; simp; rw [W_id] <;> omega
 by_cases h6 : op = 28
 ·subst h6; simp only [wrapK_u32]; simp; rw [W_id] <;> omega
 by_cases h7 : op = 23
 ·subst h7; simp only [wrapK_i8]; simp; rw [W_id] <;> omega
 by_cases h8 : op = 24
 ·subst h8; simp only [wrapK_i16]; simp; rw [W_id] <;> omega
 by_cases h9 : op = 25
 ·subst h9; simp only [wrapK_i32]; simp; rw [W_id] <;> omega
 simp [h1, h2, h3, h4, h5, h6, h7, h8, h9]
theorem two_eqC (op a b : Int) : two op a b = twoC op a b := by
 have h63 : and64 b 63 = b % 64 := by have := and_mask b 6 (by decide); simpa using this
 have hm : min (b % 64).toNat 64 = (b % 64).toNat := by omega
 unfold two twoC
 rw [h63, hm]
 simp only [W, zma, and64_eq, or64_eq, xor64_eq, remK_eq, shrK_eq, and64C, or64C, xor64C, IntKind.wrap_u64]
def zaa (S : RS) : RS := { S with cost := IntKind.wrap .i64 (S.cost + 1) }
def cellAt (p : Prog) (S : RS) (nm : List UInt8) (n : Int) : Option Int :=
 if n < 0 then none else (S.arrs[(zVa p nm).toNat]?).bind fun l => l[n.toNat]?
def putAt (p : Prog) (S : RS) (nm : List UInt8) (n m : Int) : Option RS :=
 if n < 0 then none else (S.arrs[(zVa p nm).toNat]?).bind fun l => if n.toNat < l.length then some { S with arrs := S.arrs.set (zVa p nm).toNat (l.set n.toNat m) } else none
section
variable (p : Prog) (ev : Ev)
def zDd (V : Vs) : List Expr -> List Int -> RS -> Rt (List Int) × RS
 | [], acc, S => (.ok acc, S)
 | x :: r, acc, S => match ev.expr x V S with
  | (.ok n, S1) => zDd V r (acc ++ [n]) S1
  | (.stop k, S1) => (.stop k, S1)
def zFa : List Stmt -> Vs -> RS -> Rt (How × Vs) × RS
 | [], V, S => (.ok (.on, V), S)
 | s :: r, V, S => match ev.stmt s V S with
  | (.ok (.on, V1), S1) => zFa r V1 S1
  | (.ok (h, V1), S1) => (.ok (h, V1), S1)
  | (.stop k, S1) => (.stop k, S1)
def zZ (l : List Stmt) (V : Vs) (S : RS) : Rt (How × Vs) × RS := match zFa ev l V S with
 | (.ok (h, V1), S1) => (.ok (h, V1.drop (V1.length - V.length)), S1)
 | (.stop k, S1) => (.stop k, S1)
def bindV (ps : List Par) (l : List Int) : Vs := ((ps.map (·.name)).zip l).reverse
def callW (f : Func) (l : List Int) (S : RS) : Rt Int × RS := match zZ ev f.body (bindV f.params l) S with
 | (.ok (.ret n, _), S1) => (.ok n, S1)
 | (.ok (_, _), S1) => (.ok 0, S1)
 | (.stop k, S1) => (.stop k, S1)
def madeW (e : Expr) (l : List Int) (S : RS) : Rt Int × RS :=
 if e.kind = 4 then (.ok (oneC e.op (at0 l)), S)
 else if e.kind = 6 then (match cellAt p S e.name (at0 l) with
  | some n => (.ok n, S)
  | none => (.stop 3, S))
 else if e.kind = 8 then (match S.inp with
  | [] => (.stop 4, S)
  | n :: r => (.ok n, { S with inp := r }))
 else if e.kind = 7 then (match zAa p e.name with
  | some f => callW ev f l S
  | none => (.ok 0, S))
 else if (twoC e.op (at0 l) (at1 l)).2 then (.ok (twoC e.op (at0 l) (at1 l)).1, S) else (.stop 2, S)
def shortW (e : Expr) (V : Vs) (S : RS) : Rt Int × RS := match ev.expr (arg0 e.args) V S with
 | (.stop j, S1) => (.stop j, S1)
 | (.ok a, S1) => if decide (a = 0) = decide (e.op = 18) then (.ok a, S1) else ev.expr (arg1 e.args) V S1
def exprW (e : Expr) (V : Vs) (S : RS) : Rt Int × RS :=
 if e.kind = 1 \/ e.kind = 2 then (.ok e.n, S)
 else if e.kind = 3 then (.ok (getV e.name V), S)
 else if e.kind = 5 /\ (e.op = 18 \/ e.op = 19) then shortW ev e V S
 else match zDd ev V e.args [] S with
  | (.stop j, S1) => (.stop j, S1)
  | (.ok l, S1) => madeW p ev e l (zaa S1)
def zQc (c : Expr) (b : List Stmt) : Nat -> Vs -> RS -> Rt (How × Vs) × RS
 | 0, V, S => (.stop 0, S)
 | k + 1, V, S => match ev.expr c V S with
  | (.stop j, S1) => (.stop j, S1)
  | (.ok n, S1) => if n = 0 then (.ok (.on, V), S1) else
   match zZ ev b V S1 with
   | (.ok (.brk, V1), S2) => (.ok (.on, V1), S2)
   | (.ok (.ret m, V1), S2) => (.ok (.ret m, V1), S2)
   | (.ok (_, V1), S2) => zQc c b k V1 S2
   | (.stop j, S2) => (.stop j, S2)
def zPc (s : Stmt) (V : Vs) (n : Int) (S1 : RS) : Rt (How × Vs) × RS :=
 if s.kind = 1 then (.ok (.on, (s.name, n) :: V), S1)
 else if s.kind = 2 then (.ok (.on, setV s.name n V), S1)
 else if s.kind = 3 then (match ev.expr (arg1 s.args) V S1 with
  | (.stop j, S2) => (.stop j, S2)
  | (.ok m, S2) => match putAt p (zaa S2) s.name n m with
   | some S3 => (.ok (.on, V), S3)
   | none => (.stop 3, zaa S2))
 else if s.kind = 4 then zZ ev (if n = 0 then s.els else s.thn) V S1
 else if s.kind = 8 then (.ok (.ret n, V), S1)
 else if s.kind = 9 then (.ok (.on, V), { zaa S1 with out := S1.out ++ [n] })
 else (.ok (.on, V), S1)
def stmtW (w : Nat) (s : Stmt) (V : Vs) (S : RS) : Rt (How × Vs) × RS :=
 if s.kind = 5 then zQc ev (arg0 s.args) s.thn (w + 1) V S
 else if s.kind = 6 then (.ok (.brk, V), S)
 else if s.kind = 7 then (.ok (.cont, V), S)
 else match ev.expr (arg0 s.args) V S with
  | (.stop j, S1) => (.stop j, S1)
  | (.ok n, S1) => zPc p ev s V n S1
end
def evF (p : Prog) : Nat -> Ev
 | 0 => ⟨fun _ _ S => (.stop 0, S), fun _ _ S => (.stop 0, S)⟩
 | w + 1 => ⟨fun e V S => match S.fuel with
   | 0 => (.stop 0, S)
   | k + 1 => exprW p (evF p w) e V { S with fuel := k },
  fun s V S => match S.fuel with
   | 0 => (.stop 0, S)
   | k + 1 => stmtW p (evF p w) w s V { S with fuel := k }⟩
structure Rn where
 status : Int
 code : Int
 out : List Int
 cost : Int
 fuel : Int
def run0 (p : Prog) (inp : List Int) (fuel : Int) : RS := ⟨inp, p.arrays.map (fun a => List.replicate a.size.toNat 0), [], 0, fuel.toNat⟩
def runEnd : Rt Int × RS -> Rn
 | (.ok n, S) => ⟨1, n, S.out, S.cost, S.fuel⟩
 | (.stop k, S) => ⟨k, 0, S.out, S.cost, S.fuel⟩
def mainW (p : Prog) (S : RS) : Rt Int × RS := match zAa p zzc with
 | some f => callW (evF p S.fuel) f [] S
 | none => (.ok 0, S)
def evalM (p : Prog) (inp : List Int) (fuel : Int) : Rn :=
 if (zjc p).1 = 0 then runEnd (mainW p (run0 p inp fuel)) else ⟨0, 0, [], 0, 0⟩
end PE.U

namespace PE.U
open Go PE
structure Mono (S S1 : RS) : Prop where
 fuel : S1.fuel <= S.fuel
 out : S1.out.length + S1.fuel <= S.out.length + S.fuel
 arrs : S1.arrs.map List.length = S.arrs.map List.length
theorem Mono.refl (S : RS) : Mono S S := ⟨Nat.le_refl _, Nat.le_refl _, rfl⟩
theorem Mono.trans {a b c : RS} (h : Mono a b) (k : Mono b c) : Mono a c := ⟨Nat.le_trans k.1 h.1, Nat.le_trans k.2 h.2, k.3.trans h.3⟩
theorem Mono.cost {a b : RS} (h : Mono a b) : Mono a (zaa b) := ⟨h.1, h.2, h.3⟩
def zJ (V : Vs) : List (List UInt8) := V.map (·.1)
theorem names_set (nm : List UInt8) (n : Int) (V : Vs) : zJ (setV nm n V) = zJ V := by
 induction V with
 | nil => rfl
 | cons x r ih =>
  unfold setV
  split
  ·rename_i h; simp [zJ, h]
  ·simp only [zJ, List.map_cons] at ih ⊢; rw [ih]
def zBc (s : Stmt) : List (List UInt8) := if s.kind = 1 then [s.name] else []
structure EvOk (ev : Ev) : Prop where
 expr : ∀ e V S, Mono S (ev.expr e V S).2 /\ ∀ n, (ev.expr e V S).1 = .ok n -> (ev.expr e V S).2.fuel < S.fuel
 stmt : ∀ s V S, Mono S (ev.stmt s V S).2 /\ ∀ h V1, (ev.stmt s V S).1 = .ok (h, V1) -> (ev.stmt s V S).2.fuel < S.fuel /\ zJ V1 = zBc s ++ zJ V
def RtV (S : RS) (N : List (List UInt8) -> Prop) (x : Rt (How × Vs) × RS) : Prop := Mono S x.2 /\ ∀ h V1, x.1 = .ok (h, V1) -> N (zJ V1)
theorem RtV.mono {S : RS} {N M : List (List UInt8) -> Prop} {x : Rt (How × Vs) × RS} (h : RtV S N x) (k : ∀ l, N l -> M l) : RtV S M x := ⟨h.1, fun a b c => k _ (h.2 a b c)⟩
theorem RtV.trans {S S1 : RS} {N : List (List UInt8) -> Prop} {x : Rt (How × Vs) × RS} (h : RtV S1 N x) (k : Mono S S1) : RtV S N x := ⟨k.trans h.1, h.2⟩
section
variable {p : Prog} {ev : Ev} (E : EvOk ev)
include E
theorem argsW_mono (V : Vs) : ∀ (l : List Expr) (acc : List Int) (S : RS), Mono S (zDd ev V l acc S).2 /\ ∀ m, (zDd ev V l acc S).1 = .ok m -> m.length = acc.length + l.length
 | [], acc, S => ⟨Mono.refl _, fun m h => by cases h; rfl⟩
 | x :: r, acc, S => by
  have h := (E.expr x V S).1
  unfold zDd
  generalize ev.expr x V S = q at *
  obtain ⟨a, S1⟩ := q
  cases a with
  | ok n =>
   have := argsW_mono V r (acc ++ [n]) S1
   refine ⟨h.trans this.1, fun m hm => ?_⟩
   rw [this.2 m hm]; simp; omega
  | stop k => exact ⟨h, fun m hm => by cases hm⟩
theorem stmtsW_mono : ∀ (l : List Stmt) (V : Vs) (S : RS), RtV S (fun N => ∃ a, N = a ++ zJ V) (zFa ev l V S)
 | [], V, S => ⟨Mono.refl _, fun h V1 e => by cases e; exact ⟨[], rfl⟩⟩
 | x :: r, V, S => by
  obtain ⟨h, h2⟩ := E.stmt x V S
  unfold zFa
  generalize ev.stmt x V S = q at *
  obtain ⟨a, S1⟩ := q
  cases a with
  | ok y =>
   obtain ⟨y, V1⟩ := y
   obtain ⟨_, n1⟩ := h2 y V1 rfl
   have i := stmtsW_mono r V1 S1
   cases y with
   | on =>
    refine (i.trans h).mono ?_
    rintro N ⟨a, rfl⟩
    exact ⟨a ++ zBc x, by rw [n1]; simp⟩
   | brk => exact ⟨h, fun a b e => by cases e; exact ⟨_, n1⟩⟩
   | cont => exact ⟨h, fun a b e => by cases e; exact ⟨_, n1⟩⟩
   | ret n => exact ⟨h, fun a b e => by cases e; exact ⟨_, n1⟩⟩
  | stop k => exact ⟨h, fun a b e => by cases e⟩
theorem drop_names {V V1 : Vs} (h : ∃ a, zJ V1 = a ++ zJ V) : zJ (V1.drop (V1.length - V.length)) = zJ V := by
 obtain ⟨a, h⟩ := h
 have hl : V1.length = a.length + V.length := by
  have := congrArg List.length h
  simpa [zJ] using this
 have : zJ (V1.drop (V1.length - V.length)) = (zJ V1).drop (V1.length - V.length) := by simp [zJ, List.map_drop]
 rw [this, h, hl]
 have : a.length + V.length - V.length = a.length := by omega
 rw [this, List.drop_left]
theorem zKc (l : List Stmt) (V : Vs) (S : RS) : RtV S (fun N => N = zJ V) (zZ ev l V S) := by
 have h := stmtsW_mono E l V S
 unfold zZ
 generalize zFa ev l V S = q at *
 obtain ⟨a, S1⟩ := q
 cases a with
 | ok y =>
  obtain ⟨y, V1⟩ := y
  exact ⟨h.1, fun a b e => by cases e; exact drop_names E (h.2 _ _ rfl)⟩
 | stop k => exact ⟨h.1, fun a b e => by cases e⟩
theorem callW_mono (f : Func) (l : List Int) (S : RS) : Mono S (callW ev f l S).2 := by
 have h := (zKc E f.body (bindV f.params l) S).1
 unfold callW
 generalize zZ ev f.body (bindV f.params l) S = q at *
 obtain ⟨a, S1⟩ := q
 cases a with
 | ok y => obtain ⟨y, V1⟩ := y; cases y <;> exact h
 | stop k => exact h
theorem madeW_mono (e : Expr) (l : List Int) (S : RS) : Mono S (madeW p ev e l S).2 := by
 unfold madeW
 split
 ·exact Mono.refl _
 split
 ·split <;> exact Mono.refl _
 split
 ·split
  ·exact Mono.refl _
  ·exact ⟨Nat.le_refl _, Nat.le_refl _, rfl⟩
 split
 ·split
  ·exact callW_mono E _ _ _
  ·exact Mono.refl _
 split <;> exact Mono.refl _
theorem shortW_mono (e : Expr) (V : Vs) (S : RS) : Mono S (shortW ev e V S).2 := by
 have h := (E.expr (arg0 e.args) V S).1
 unfold shortW
 generalize ev.expr (arg0 e.args) V S = q at *
 obtain ⟨a, S1⟩ := q
 cases a with
 | ok n =>
  simp only
  split
  ·exact h
  ·exact h.trans (E.expr _ V S1).1
 | stop k => exact h
theorem exprW_mono (e : Expr) (V : Vs) (S : RS) : Mono S (exprW p ev e V S).2 := by
 unfold exprW
 split
 ·exact Mono.refl _
 split
 ·exact Mono.refl _
 split
 ·exact shortW_mono E e V S
 have h := (argsW_mono E V e.args [] S).1
 generalize zDd ev V e.args [] S = q at *
 obtain ⟨a, S1⟩ := q
 cases a with
 | ok n => exact h.cost.trans (madeW_mono E e n _)
 | stop k => exact h
theorem loopW_mono (c : Expr) (b : List Stmt) : ∀ (k : Nat) (V : Vs) (S : RS), RtV S (fun N => N = zJ V) (zQc ev c b k V S)
 | 0, V, S => ⟨Mono.refl _, fun _ _ e => by cases e⟩
 | k + 1, V, S => by
  have h := (E.expr c V S).1
  unfold zQc
  generalize ev.expr c V S = q at *
  obtain ⟨a, S1⟩ := q
  cases a with
  | stop j => exact ⟨h, fun _ _ e => by cases e⟩
  | ok n =>
   simp only
   split
   ·exact ⟨h, fun _ _ e => by cases e; rfl⟩
   have hb := zKc E b V S1
   generalize zZ ev b V S1 = q at *
   obtain ⟨a, S2⟩ := q
   cases a with
   | stop j => exact ⟨h.trans hb.1, fun _ _ e => by cases e⟩
   | ok y =>
    obtain ⟨y, V1⟩ := y
    have hn := hb.2 _ _ rfl
    have i := loopW_mono c b k V1 S2
    cases y with
    | on => exact (i.mono fun l hl => hl.trans hn).trans (h.trans hb.1)
    | brk => exact ⟨h.trans hb.1, fun _ _ e => by cases e; exact hn⟩
    | cont => exact (i.mono fun l hl => hl.trans hn).trans (h.trans hb.1)
    | ret m => exact ⟨h.trans hb.1, fun _ _ e => by cases e; exact hn⟩
theorem putAt_mono {S S1 : RS} {nm : List UInt8} {n m : Int} (h : putAt p S nm n m = some S1) : Mono S S1 := by
 unfold putAt at h
 split at h
 ·cases h
 rw [Option.bind_eq_some_iff] at h
 obtain ⟨l, hl, h⟩ := h
 split at h
 ·cases h
  refine ⟨Nat.le_refl _, Nat.le_refl _, ?_⟩
  simp only [List.map_set, List.length_set]
  apply List.ext_getElem?
  intro i
  rw [List.getElem?_set]
  split
  ·rename_i hi
   subst hi
   rw [List.getElem?_map, hl]
   have := (List.getElem?_eq_some_iff.1 hl).1
   simp [this]
  ·rfl
 ·cases h
theorem plainW_mono {B : Nat} (s : Stmt) (V : Vs) (n : Int) (S : RS) (hf : S.out.length + S.fuel < B) : (zPc p ev s V n S).2.out.length + (zPc p ev s V n S).2.fuel <= B /\ (zPc p ev s V n S).2.fuel <= S.fuel /\ (zPc p ev s V n S).2.arrs.map List.length = S.arrs.map List.length /\ ∀ h V1, (zPc p ev s V n S).1 = .ok (h, V1) -> zJ V1 = zBc s ++ zJ V := by
 have lift : ∀ {x : Rt (How × Vs) × RS}, Mono S x.2 -> (∀ h V1, x.1 = .ok (h, V1) -> zJ V1 = zBc s ++ zJ V) -> x.2.out.length + x.2.fuel <= B /\ x.2.fuel <= S.fuel /\ x.2.arrs.map List.length = S.arrs.map List.length /\ ∀ h V1, x.1 = .ok (h, V1) -> zJ V1 = zBc s ++ zJ V :=
  fun m k => ⟨by have := m.out; omega, m.fuel, m.arrs, k⟩
 have h0 : s.kind ≠ 1 -> zBc s = [] := fun h => if_neg h
 unfold zPc
 split
 ·rename_i h1
  exact lift (Mono.refl _) fun _ _ e => by cases e; simp [zBc, h1, zJ]
 rename_i h1
 rw [h0 h1]
 rw [h0 h1] at lift
 split
 ·exact lift (Mono.refl _) fun _ _ e => by cases e; exact names_set _ _ _
 split
 ·have h := (E.expr (arg1 s.args) V S).1
  generalize ev.expr (arg1 s.args) V S = q at *
  obtain ⟨a, S2⟩ := q
  cases a with
  | stop j => exact lift h fun _ _ e => by cases e
  | ok m =>
   simp only
   split
   ·rename_i S3 h3
    exact lift (h.cost.trans (putAt_mono E h3)) fun _ _ e => by cases e; rfl
   ·exact lift h.cost fun _ _ e => by cases e
 split
 ·have h := zKc E (if n = 0 then s.els else s.thn) V S
  exact lift h.1 h.2
 split
 ·exact lift (Mono.refl _) fun _ _ e => by cases e; rfl
 split
 ·refine ⟨?_, Nat.le_refl _, rfl, fun _ _ e => by cases e; rfl⟩
  simp [zaa]; omega
 ·exact lift (Mono.refl _) fun _ _ e => by cases e; rfl
theorem stmtW_mono {B : Nat} (w : Nat) (s : Stmt) (V : Vs) (S : RS) (hf : S.out.length + S.fuel < B) : (stmtW p ev w s V S).2.out.length + (stmtW p ev w s V S).2.fuel <= B /\ (stmtW p ev w s V S).2.fuel <= S.fuel /\ (stmtW p ev w s V S).2.arrs.map List.length = S.arrs.map List.length /\ ∀ h V1, (stmtW p ev w s V S).1 = .ok (h, V1) -> zJ V1 = zBc s ++ zJ V := by
 have lift : ∀ {x : Rt (How × Vs) × RS}, Mono S x.2 -> (∀ h V1, x.1 = .ok (h, V1) -> zJ V1 = zBc s ++ zJ V) -> x.2.out.length + x.2.fuel <= B /\ x.2.fuel <= S.fuel /\ x.2.arrs.map List.length = S.arrs.map List.length /\ ∀ h V1, x.1 = .ok (h, V1) -> zJ V1 = zBc s ++ zJ V :=
  fun m k => ⟨by have := m.out; omega, m.fuel, m.arrs, k⟩
 have h0 : s.kind ≠ 1 -> zBc s = [] := fun h => if_neg h
 unfold stmtW
 split
 ·rename_i h5
  have h := loopW_mono E (arg0 s.args) s.thn (w + 1) V S
  rw [h0 (by omega)] at lift ⊢
  exact lift h.1 h.2
 split
 ·rw [h0 (by omega)] at lift ⊢
  exact lift (Mono.refl _) fun _ _ e => by cases e; rfl
 split
 ·rw [h0 (by omega)] at lift ⊢
  exact lift (Mono.refl _) fun _ _ e => by cases e; rfl
 have h := (E.expr (arg0 s.args) V S).1
 generalize ev.expr (arg0 s.args) V S = q at *
 obtain ⟨a, S2⟩ := q
 cases a with
 | stop j => exact lift h fun _ _ e => by cases e
 | ok n =>
  have k := plainW_mono (p := p) (B := B) E s V n S2 (by have := h.out; simp only at this; omega)
  exact ⟨k.1, Nat.le_trans k.2.1 h.fuel, k.2.2.1.trans h.arrs, k.2.2.2⟩
end
theorem zOd (p : Prog) : ∀ w, EvOk (evF p w)
 | 0 => ⟨fun e V S => ⟨Mono.refl _, fun _ e => by cases e⟩, fun s V S => ⟨Mono.refl _, fun _ _ e => by cases e⟩⟩
 | w + 1 => by
  have E := zOd p w
  refine ⟨fun e V S => ?_, fun s V S => ?_⟩
  ·simp only [evF]
   cases h : S.fuel with
   | zero => exact ⟨by simp only; exact Mono.refl _, fun _ e => by cases e⟩
   | succ k =>
    have m := exprW_mono (p := p) E e V { S with fuel := k }
    refine ⟨⟨by have := m.fuel; simp only at this ⊢; omega, by have := m.out; simp only at this ⊢; omega, m.arrs⟩, fun n e => ?_⟩
    have := m.fuel; simp only at this ⊢; omega
  ·simp only [evF]
   cases h : S.fuel with
   | zero => exact ⟨by simp only; exact Mono.refl _, fun _ _ e => by cases e⟩
   | succ k =>
    have m := stmtW_mono (p := p) (B := S.out.length + S.fuel) E w s V { S with fuel := k } (by simp only; omega)
    refine ⟨⟨by have := m.2.1; simp only at this ⊢; omega, m.1, m.2.2.1⟩, fun h V1 e => ⟨by have := m.2.1; simp only at this ⊢; omega, m.2.2.2 h V1 e⟩⟩
end PE.U

namespace PE.U
open Go PE
def andR {α β : Type} (q : Rt α × RS) (f : α -> RS -> Rt β × RS) : Rt β × RS := match q with
 | (.ok a, S) => f a S
 | (.stop k, S) => (.stop k, S)
section
variable {p : Prog} {ev : Ev}
theorem argsW_cons (V : Vs) (x : Expr) (r : List Expr) (acc : List Int) (S : RS) : zDd ev V (x :: r) acc S = andR (ev.expr x V S) fun n S1 => zDd ev V r (acc ++ [n]) S1 := by
 rw [zDd]; unfold andR
 generalize ev.expr x V S = q; obtain ⟨a, S1⟩ := q; cases a <;> rfl
def contW (ev : Ev) (r : List Stmt) : How × Vs -> RS -> Rt (How × Vs) × RS
 | (.on, V1), S1 => zFa ev r V1 S1
 | (h, V1), S1 => (.ok (h, V1), S1)
theorem stmtsW_cons (V : Vs) (x : Stmt) (r : List Stmt) (S : RS) : zFa ev (x :: r) V S = andR (ev.stmt x V S) (contW ev r) := by
 rw [zFa]; unfold andR
 generalize ev.stmt x V S = q; obtain ⟨a, S1⟩ := q
 cases a with
 | stop k => rfl
 | ok y => obtain ⟨h, V1⟩ := y; cases h <;> rfl
theorem blockW_eq (l : List Stmt) (V : Vs) (S : RS) : zZ ev l V S = andR (zFa ev l V S) fun y S1 => (.ok (y.1, y.2.drop (y.2.length - V.length)), S1) := by
 unfold zZ andR
 generalize zFa ev l V S = q; obtain ⟨a, S1⟩ := q
 cases a <;> rfl
def retN : How -> Int
 | .ret n => n
 | _ => 0
theorem callW_eq (f : Func) (l : List Int) (S : RS) : callW ev f l S = andR (zZ ev f.body (bindV f.params l) S) fun y S1 => (.ok (retN y.1), S1) := by
 unfold callW andR
 generalize zZ ev f.body (bindV f.params l) S = q; obtain ⟨a, S1⟩ := q
 cases a with
 | stop k => rfl
 | ok y => obtain ⟨h, V1⟩ := y; cases h <;> rfl
theorem shortW_eq (e : Expr) (V : Vs) (S : RS) : shortW ev e V S = andR (ev.expr (arg0 e.args) V S) fun a S1 => if decide (a = 0) = decide (e.op = 18) then (.ok a, S1) else ev.expr (arg1 e.args) V S1 := by
 unfold shortW andR
 generalize ev.expr (arg0 e.args) V S = q; obtain ⟨a, S1⟩ := q
 cases a <;> rfl
theorem exprW_eq (e : Expr) (V : Vs) (S : RS) : exprW p ev e V S = if e.kind = 1 \/ e.kind = 2 then (.ok e.n, S) else if e.kind = 3 then (.ok (getV e.name V), S) else if e.kind = 5 /\ (e.op = 18 \/ e.op = 19) then shortW ev e V S
  else andR (zDd ev V e.args [] S) fun l S1 => madeW p ev e l (zaa S1) := by
 unfold exprW andR
 generalize zDd ev V e.args [] S = q; obtain ⟨a, S1⟩ := q
 cases a <;> rfl
def loopN (ev : Ev) (c : Expr) (b : List Stmt) (k : Nat) : How × Vs -> RS -> Rt (How × Vs) × RS
 | (.brk, V1), S2 => (.ok (.on, V1), S2)
 | (.ret m, V1), S2 => (.ok (.ret m, V1), S2)
 | (_, V1), S2 => zQc ev c b k V1 S2
theorem loopW_succ (c : Expr) (b : List Stmt) (k : Nat) (V : Vs) (S : RS) : zQc ev c b (k + 1) V S = andR (ev.expr c V S) fun n S1 => if n = 0 then (.ok (.on, V), S1) else andR (zZ ev b V S1) (loopN ev c b k) := by
 rw [zQc]; unfold andR
 generalize ev.expr c V S = q; obtain ⟨a, S1⟩ := q
 cases a with
 | stop k => rfl
 | ok n =>
  simp only
  split
  ·rfl
  generalize zZ ev b V S1 = q; obtain ⟨a, S2⟩ := q
  cases a with
  | stop k => rfl
  | ok y => obtain ⟨h, V1⟩ := y; cases h <;> rfl
def putW (p : Prog) (s : Stmt) (V : Vs) (n m : Int) (S : RS) : Rt (How × Vs) × RS := match putAt p S s.name n m with
 | some S3 => (.ok (.on, V), S3)
 | none => (.stop 3, S)
theorem plainW_eq (s : Stmt) (V : Vs) (n : Int) (S1 : RS) : zPc p ev s V n S1 =
 if s.kind = 1 then (.ok (.on, (s.name, n) :: V), S1)
 else if s.kind = 2 then (.ok (.on, setV s.name n V), S1)
 else if s.kind = 3 then andR (ev.expr (arg1 s.args) V S1) fun m S2 => putW p s V n m (zaa S2)
 else if s.kind = 4 then zZ ev (if n = 0 then s.els else s.thn) V S1
 else if s.kind = 8 then (.ok (.ret n, V), S1)
 else if s.kind = 9 then (.ok (.on, V), { zaa S1 with out := S1.out ++ [n] })
 else (.ok (.on, V), S1) := by
 unfold zPc andR putW
 generalize ev.expr (arg1 s.args) V S1 = q; obtain ⟨a, S2⟩ := q
 cases a with
 | stop k => rfl
 | ok m =>
  simp only
  all_goals (cases putAt p (zaa S2) s.name n m <;> rfl)
theorem stmtW_eq (w : Nat) (s : Stmt) (V : Vs) (S : RS) : stmtW p ev w s V S =
 if s.kind = 5 then zQc ev (arg0 s.args) s.thn (w + 1) V S
 else if s.kind = 6 then (.ok (.brk, V), S)
 else if s.kind = 7 then (.ok (.cont, V), S)
 else andR (ev.expr (arg0 s.args) V S) fun n S1 => zPc p ev s V n S1 := by
 unfold stmtW andR
 generalize ev.expr (arg0 s.args) V S = q; obtain ⟨a, S2⟩ := q
 cases a <;> rfl
end
def Bd (c : Int) (S : RS) : Prop := 0 <= S.cost /\ S.cost + S.fuel + c <= 1000000000000
def Gr (c : Int) (S S1 : RS) : Prop := S.out <+: S1.out /\ S.cost <= S1.cost /\ S1.cost + S1.fuel <= S.cost + S.fuel + c
structure GrOk (ev : Ev) : Prop where
 expr : ∀ e V S, Bd 0 S -> Gr 0 S (ev.expr e V S).2
 stmt : ∀ s V S, Bd 0 S -> Gr 0 S (ev.stmt s V S).2
section
variable {p : Prog} {ev : Ev} (E : GrOk ev)
include E
end
end PE.U

namespace PE.U
open Go PE
mutual
def okE (p : Prog) (ns : List (List UInt8)) : Expr -> Prop
 | ⟨k, o, n, nm, a⟩ => zCd k o n nm a.length = true /\ (k = 3 -> nm ∈ ns) /\ (k = 6 -> zeb p nm = true) /\ (k = 7 -> ∃ f, zAa p nm = some f /\ f.params.length = a.length) /\ okEs p ns a
def okEs (p : Prog) (ns : List (List UInt8)) : List Expr -> Prop
 | [] => True
 | x :: r => okE p ns x /\ okEs p ns r
end
mutual
def okS (p : Prog) (ns : List (List UInt8)) (loop : Bool) : Stmt -> Prop
 | ⟨k, _, nm, a, th, el⟩ => (1 <= k /\ k <= 10) /\ (a.length : Int) = (zQ k).2.2.1 /\ okEs p ns a /\ (k = 2 -> nm ∈ ns) /\ (k = 3 -> zeb p nm = true) /\ (k = 6 \/ k = 7 -> loop = true) ∧
  okB p ((if k = 1 then [nm] else []) ++ ns) (loop || decide (k = 5)) th /\ okB p ((if k = 1 then [nm] else []) ++ ns) loop el
def okB (p : Prog) (ns : List (List UInt8)) (loop : Bool) : List Stmt -> Prop
 | [] => True
 | x :: r => okS p ns loop x /\ okB p (zBc x ++ ns) loop r
end
theorem okE_eq (p : Prog) (ns : List (List UInt8)) (e : Expr) : okE p ns e = (zCd e.kind e.op e.n e.name e.args.length = true /\ (e.kind = 3 -> e.name ∈ ns) /\ (e.kind = 6 -> zeb p e.name = true) /\ (e.kind = 7 -> ∃ f, zAa p e.name = some f /\ f.params.length = e.args.length) /\ okEs p ns e.args) := by
 cases e; rw [okE]
theorem okS_eq (p : Prog) (ns : List (List UInt8)) (loop : Bool) (s : Stmt) : okS p ns loop s = ((1 <= s.kind /\ s.kind <= 10) /\ (s.args.length : Int) = (zQ s.kind).2.2.1 /\ okEs p ns s.args /\ (s.kind = 2 -> s.name ∈ ns) /\ (s.kind = 3 -> zeb p s.name = true) /\ (s.kind = 6 \/ s.kind = 7 -> loop = true) ∧
  okB p (zBc s ++ ns) (loop || decide (s.kind = 5)) s.thn /\ okB p (zBc s ++ ns) loop s.els) := by
 cases s; rw [okS]; rfl
theorem okEs_mem {p : Prog} {ns : List (List UInt8)} {l : List Expr} (h : okEs p ns l) {x : Expr} (hx : x ∈ l) : okE p ns x := by
 induction l with
 | nil => cases hx
 | cons y r ih =>
  rw [okEs] at h
  rcases List.mem_cons.1 hx with rfl | hx
  ·exact h.1
  ·exact ih h.2 hx
def zxe (s : List Vr) : List (List UInt8) := s.map (·.name)
theorem vfindV_mem {s : List Vr} {nm : List UInt8} (h : ¬ zya s nm = []) : nm ∈ zxe s := by
 induction s with
 | nil => exact absurd rfl h
 | cons v r ih =>
  rw [zrb] at h
  split at h
  ·rename_i hn; simp [zxe, hn]
  ·have := ih h; simp only [zxe, List.map_cons, List.mem_cons] at this ⊢; exact .inr this
mutual
theorem okE_of (p : Prog) (s : List Vr) : ∀ (e : Expr) (m : Int), (zDb p s e).2 = 0 -> zTa e m = true -> okE p (zxe s) e
 | ⟨k, o, n, nm, a⟩, m, h, hR => by
  rw [zDb] at h
  rw [zTa, Bool.and_eq_true] at hR
  split at h
  ·rename_i h1; exact absurd h h1
  rename_i h1
  split at h
  ·rename_i h2; exact absurd h h2
  rename_i h2
  have h1 : zxb p s k nm a.length = 0 := by simpa using h1
  rw [okE]
  refine ⟨hR.2, ?_, ?_, ?_, okEs_of p s a m (by simpa using h2) hR.1⟩
  ·intro hk
   subst hk
   simp only [zxb, if_true] at h1
   split at h1
   ·cases h1
   ·rename_i hf; exact vfindV_mem hf
  ·intro hk
   subst hk
   simp only [zxb] at h1
   rw [if_neg (by decide), if_pos trivial] at h1
   split at h1
   ·assumption
   ·cases h1
  ·intro hk
   subst hk
   simp only [zxb] at h1
   rw [if_neg (by decide), if_neg (by decide), if_pos trivial] at h1
   split at h1
   ·cases h1
   ·rename_i f hf
    split at h1
    ·exact ⟨f, hf, by assumption⟩
    ·cases h1
theorem okEs_of (p : Prog) (s : List Vr) : ∀ (l : List Expr) (m : Int), (zGa p s l).2 = 0 -> zfb l m = true -> okEs p (zxe s) l
 | [], m, _, _ => by rw [okEs]; trivial
 | x :: r, m, h, hR => by
  rw [zGa] at h
  rw [zfb, Bool.and_eq_true, Bool.and_eq_true] at hR
  split at h
  ·rename_i h1; exact absurd h h1
  rename_i h1
  split at h
  ·rename_i h2; exact absurd h h2
  rename_i h2
  rw [okEs]
  exact ⟨okE_of p s x (m - 1) (by simpa using h1) hR.1.2, okEs_of p s r m (by simpa using h2) hR.2⟩
end
theorem want_ok {p : Prog} {s : List Vr} {e : Expr} {t m : Int} (h : znc p s e t = 0) (hR : zTa e m = true) : okE p (zxe s) e := by
 unfold znc at h
 split at h
 ·rename_i h1; exact absurd h h1
 ·rename_i h1; exact okE_of p s e m (by simpa using h1) hR
theorem arg_one {l : List Expr} {p : Prog} {ns : List (List UInt8)} (hl : (l.length : Int) = 1) (h : okE p ns (arg0 l)) : okEs p ns l := by
 match l, hl with
 | [x], _ => rw [okEs, okEs]; exact ⟨h, trivial⟩
theorem arg_two {l : List Expr} {p : Prog} {ns : List (List UInt8)} (hl : (l.length : Int) = 2) (h : okE p ns (arg0 l)) (h' : okE p ns (arg1 l)) : okEs p ns l := by
 match l, hl with
 | [x, y], _ => rw [okEs, okEs, okEs]; exact ⟨h, h', trivial⟩
theorem arg0_mem {l : List Expr} (hl : 1 <= (l.length : Int)) : arg0 l ∈ l := by
 match l, hl with
 | x :: r, _ => simp [arg0]
theorem arg1_mem {l : List Expr} (hl : 2 <= (l.length : Int)) : arg1 l ∈ l := by
 match l, hl with
 | x :: y :: r, _ => simp [arg1]
theorem nms_behind (d : Int) (x : Stmt) (vs : List Vr) : zxe (zla d x vs) = zBc x ++ zxe vs := by
 unfold zla zBc
 split <;> rfl
theorem stmt_ok {p : Prog} {s : List Vr} {x : Stmt} {res d m : Int} {loop : Bool} (h : stmtT p res s x.kind x.type x.name x.args d loop = 0) (hR : zBb x m = true) :
  (1 <= x.kind /\ x.kind <= 10) /\ (x.args.length : Int) = (zQ x.kind).2.2.1 /\ okEs p (zxe s) x.args /\ (x.kind = 2 -> x.name ∈ zxe s) /\ (x.kind = 3 -> zeb p x.name = true) /\ (x.kind = 6 \/ x.kind = 7 -> loop = true) := by
 obtain ⟨r1, r2, _, _⟩ := zpc hR
 have hb : 1 <= x.kind /\ x.kind <= 10 := by
  by_cases h : 1 <= x.kind /\ x.kind <= 10
  ·exact h
  ·exfalso
   have : (zQ x.kind).2.2.1 = -1 := by
    unfold zQ
    repeat' (first | rw [if_neg (by omega)] | rfl)
   omega
 refine ⟨hb, r1, ?_⟩
 have m0 : 1 <= (x.args.length : Int) -> zTa (arg0 x.args) 100 = true := fun h => r2 _ (arg0_mem h)
 have m1 : 2 <= (x.args.length : Int) -> zTa (arg1 x.args) 100 = true := fun h => r2 _ (arg1_mem h)
 unfold stmtT at h
 by_cases k4 : x.kind = 4 \/ x.kind = 5
 ·rw [if_pos k4] at h
  have hl : (x.args.length : Int) = 1 := by rcases k4 with k | k <;> rw [r1, k] <;> rfl
  exact ⟨arg_one hl (want_ok h (m0 (by omega))), fun k => by omega, fun k => by omega, fun k => by omega⟩
 rw [if_neg k4] at h
 by_cases k8 : x.kind = 8
 ·rw [if_pos k8] at h
  have hl : (x.args.length : Int) = 1 := by rw [r1, k8]; rfl
  exact ⟨arg_one hl (want_ok h (m0 (by omega))), fun k => by omega, fun k => by omega, fun k => by omega⟩
 rw [if_neg k8] at h
 by_cases k9 : x.kind = 9
 ·rw [if_pos k9] at h
  have hl : (x.args.length : Int) = 1 := by rw [r1, k9]; rfl
  exact ⟨arg_one hl (want_ok h (m0 (by omega))), fun k => by omega, fun k => by omega, fun k => by omega⟩
 rw [if_neg k9] at h
 by_cases k10 : x.kind = 10
 ·rw [if_pos k10] at h
  have hl : (x.args.length : Int) = 1 := by rw [r1, k10]; rfl
  exact ⟨arg_one hl (okE_of p s _ 100 h (m0 (by omega))), fun k => by omega, fun k => by omega, fun k => by omega⟩
 rw [if_neg k10] at h
 by_cases k6 : x.kind = 6 \/ x.kind = 7
 ·rw [if_pos k6] at h
  have hl : (x.args.length : Int) = 0 := by rcases k6 with k | k <;> rw [r1, k] <;> rfl
  have hn : x.args = [] := List.eq_nil_of_length_eq_zero (by omega)
  refine ⟨by rw [hn, okEs]; trivial, fun k => by omega, fun k => by omega, fun k => ?_⟩
  cases loop
  ·simp at h
  ·rfl
 rw [if_neg k6] at h
 unfold boundT at h
 by_cases k1 : x.kind = 1
 ·rw [if_pos k1] at h
  have hl : (x.args.length : Int) = 1 := by rw [r1, k1]; rfl
  refine ⟨arg_one hl (want_ok (t := x.type) ?_ (m0 (by omega))), fun k => by omega, fun k => by omega, fun k => by omega⟩
  by_cases hw : znc p s (arg0 x.args) x.type = 0
  ·exact hw
  ·rw [if_pos hw] at h; exact h
 rw [if_neg k1] at h
 by_cases k2 : x.kind = 2
 ·rw [if_pos k2] at h
  have hl : (x.args.length : Int) = 1 := by rw [r1, k2]; rfl
  split at h
  ·cases h
  ·rename_i v r hv
   exact ⟨arg_one hl (want_ok h (m0 (by omega))), fun k => vfindV_mem (by rw [hv]; simp), fun k => by omega, fun k => by omega⟩
 rw [if_neg k2] at h
 have k3 : x.kind = 3 := by omega
 have hl : (x.args.length : Int) = 2 := by rw [r1, k3]; rfl
 by_cases ha : x.kind = 3 /\ zeb p x.name = false
 ·rw [if_pos ha] at h; cases h
 rw [if_neg ha] at h
 have ha : zeb p x.name = true := by
  cases hq : zeb p x.name
  ·exact absurd ⟨k3, hq⟩ ha
  ·rfl
 by_cases hw : znc p s (arg0 x.args) 1 = 0
 ·rw [if_neg (by simp [hw])] at h
  exact ⟨arg_two hl (want_ok hw (m0 (by omega))) (want_ok h (m1 (by omega))), fun k => by omega, fun _ => ha, fun k => by omega⟩
 ·rw [if_pos hw] at h; exact absurd h hw
theorem okB_of (p : Prog) (res : Int) : ∀ (w : Nat) (l : List Stmt) (vs : List Vr) (d n m : Int) (loop : Bool), wtSs l <= w -> (zba p res l vs d loop n).1 = 0 -> zL l m = true -> okB p (zxe vs) loop l := by
 intro w
 induction w with
 | zero =>
  intro l vs d n m loop hw h hR
  have hl : l = [] := by
   have := zva l
   exact List.eq_nil_of_length_eq_zero (by omega)
  subst hl
  rw [okB]; trivial
 | succ w ih =>
  intro l vs d n m loop hw h hR
  cases l with
  | nil => rw [okB]; trivial
  | cons x r =>
   rw [zbc] at h
   rw [zL, Bool.and_eq_true] at hR
   simp only [wtSs] at hw
   have hwx := zJa x
   split at h
   ·rename_i h1; exact absurd h h1
   rename_i h1
   have h1 : (zWb p res x vs d loop n).1 = 0 := by simpa using h1
   rw [okB]
   have i := ih r _ _ _ _ _ (by omega) h hR.2
   rw [nms_behind] at i
   refine ⟨?_, i⟩
   rw [zoe] at h1
   split at h1
   ·rename_i h2; exact absurd h1 h2
   rename_i h2
   split at h1
   ·rename_i h3; exact absurd h1 h3
   rename_i h3
   obtain ⟨r1, r2, r3, r4⟩ := zpc hR.1
   obtain ⟨s1, s2, s3, s4, s5, s6⟩ := stmt_ok (by simpa using h2) hR.1
   rw [okS_eq]
   have i1 := ih x.thn _ _ _ _ _ (by omega) (by simpa using h3) r3
   have i2 := ih x.els _ _ _ _ _ (by omega) h1 r4
   rw [nms_behind] at i1 i2
   exact ⟨s1, s2, s3, s4, s5, s6, i1, i2⟩
theorem nms_scoped (l : List Par) : zxe (zU l) = (l.map (·.name)).reverse := by
 suffices h : ∀ d : List Par, zxe (zU d.reverse) = d.map (·.name) by
  have := h l.reverse
  rw [List.reverse_reverse] at this
  rw [this, List.map_reverse]
 intro d
 induction d with
 | nil => rfl
 | cons x r ih => rw [List.reverse_cons, zId]; simp only [zxe, List.map_cons] at ih ⊢; rw [ih]
structure OkP (p : Prog) : Prop where
 sz : PSz p
 fn : ∀ f ∈ p.funcs, okB p ((f.params.map (·.name)).reverse) false f.body /\ ztb f.body = true /\ (f.params.map (·.name)).Nodup
 main : ∃ f, zAa p zzc = some f /\ f.params = []
 names : (p.arrays.map (·.name)).Nodup
 size : ∀ a ∈ p.arrays, 1 <= a.size /\ a.size <= 1000
theorem checkGo_ok (p : Prog) : ∀ (l : List Func) (i : Int), (zJc p l i).1 = 0 -> ∀ f ∈ l, (zjb p f).1 = 0
 | [], _, _, _, h => by cases h
 | g :: r, i, h, f, hf => by
  rw [zJc] at h
  split at h
  ·rename_i h1; exact absurd h h1
  rename_i h1
  rcases List.mem_cons.1 hf with rfl | hf
  ·simpa using h1
  ·exact checkGo_ok p r _ h f hf
theorem checkT_ok {p : Prog} (hz : PSz p) (h : (zjc p).1 = 0) : OkP p := by
 unfold zjc at h
 split at h
 case isFalse => cases h
 rename_i hR
 split at h
 case isFalse => cases h
 rename_i hN
 unfold zKb at hR
 rw [Bool.and_eq_true, List.all_eq_true, List.all_eq_true] at hR
 unfold zec at hN
 rw [Bool.and_eq_true, decide_eq_true_eq] at hN
 obtain ⟨hN1, hN2⟩ := hN
 refine ⟨hz, ?_, ?_, (List.nodup_append.1 hN1).1, ?_⟩
 ·intro f hf
  have h1 := checkGo_ok p _ _ h f hf
  have hfR := hR.2 f hf
  unfold zwd at hfR
  simp only [Bool.and_eq_true] at hfR
  unfold zjb at h1
  split at h1
  ·cases h1
  rename_i ht
  simp only at h1
  have ht : (f.params.map (·.name)).Nodup := by
   unfold twiceM at ht
   simpa using ht
  split at h1
  ·cases h1
  rename_i he
  have hb := okB_of p f.type _ f.body _ _ _ _ _ (Nat.le_refl _) h1 hfR.2.2.2.1
  rw [nms_scoped] at hb
  refine ⟨hb, ?_, ht⟩
  cases hq : ztb f.body
  ·exact absurd ⟨h1, hq⟩ he
  ·rfl
 ·split at hN2
  ·rename_i f hf
   rw [Bool.and_eq_true, decide_eq_true_eq, decide_eq_true_eq] at hN2
   exact ⟨f, hf, hN2.2⟩
  ·cases hN2
 ·intro a ha
  have := hR.1 a ha
  unfold arrR at this
  simp only [Bool.and_eq_true, decide_eq_true_eq] at this
  exact this.2
end PE.U

namespace PE.U
open Go PE
theorem u8_dig {a b : Nat} (ha : a < 10) (hb : b < 10) (h : UInt8.ofNat (48 + a) = UInt8.ofNat (48 + b)) : a = b := by
 have := congrArg UInt8.toNat h
 simp at this
 omega
theorem digF_inj : ∀ (k a b : Nat), a < 10 ^ k -> b < 10 ^ k -> digF k a = digF k b -> a = b
 | 0, a, b, ha, hb, _ => by simp at ha hb; omega
 | k + 1, a, b, ha, hb, h => by
  have ne : ∀ n, digF (k + 1) n ≠ [] := by
   intro n; unfold digF; split <;> simp
  rw [Nat.pow_succ] at ha hb
  by_cases h1 : a < 10 <;> by_cases h2 : b < 10
  ·rw [digF, digF, if_pos h1, if_pos h2] at h
   exact u8_dig h1 h2 (by simpa using h)
  ·rw [digF, digF, if_pos h1, if_neg h2] at h
   have hl := congrArg List.length h
   simp at hl
   cases k with
   | zero => simp at hb; omega
   | succ k =>
    have : digF (k + 1) (b / 10) ≠ [] := by unfold digF; split <;> simp
    exact absurd hl this
  ·rw [digF, digF, if_neg h1, if_pos h2] at h
   have hl := congrArg List.length h
   simp at hl
   cases k with
   | zero => simp at ha; omega
   | succ k =>
    have : digF (k + 1) (a / 10) ≠ [] := by unfold digF; split <;> simp
    exact absurd hl this
  ·rw [digF, digF, if_neg h1, if_neg h2] at h
   obtain ⟨e1, e2⟩ := List.append_inj' h rfl
   have := digF_inj k (a / 10) (b / 10) (by omega) (by omega) e1
   have := u8_dig (Nat.mod_lt a (by omega)) (Nat.mod_lt b (by omega)) (by simpa using e2)
   omega
theorem newN_inj {a b : Nat} (ha : a < 10000000000000) (hb : b < 10000000000000) (h : newN a = newN b) : a = b := by
 unfold newN digitsM at h
 have h := List.cons.inj h
 exact digF_inj 20 a b (Nat.lt_trans ha (by decide)) (Nat.lt_trans hb (by decide)) h.2
def NI (N : Nm) (c : Nat) : Prop := (N.map (·.2)).Nodup /\ ∀ x ∈ N.map (·.2), ∃ i, i < c /\ x = newN i
theorem NI.next {N : Nm} {c : Nat} (h : NI N c) (hc : c < 9000000000000) (nm : List UInt8) : NI ((nm, newN c) :: N) (c + 1) := by
 refine ⟨?_, ?_⟩
 ·rw [List.map_cons, List.nodup_cons]
  refine ⟨fun hm => ?_, h.1⟩
  obtain ⟨i, hi, he⟩ := h.2 _ hm
  have := newN_inj (by omega) (by omega) he
  omega
 ·intro x hx
  rw [List.map_cons, List.mem_cons] at hx
  rcases hx with rfl | hx
  ·exact ⟨c, by omega, rfl⟩
  ·obtain ⟨i, hi, he⟩ := h.2 x hx
   exact ⟨i, by omega, he⟩
theorem NI.le {N : Nm} {c d : Nat} (h : NI N c) (hd : c <= d) : NI N d := ⟨h.1, fun x hx => by obtain ⟨i, hi, he⟩ := h.2 x hx; exact ⟨i, by omega, he⟩⟩
inductive RN : Nm -> Vs -> Vs -> Prop
 | nil : RN [] [] []
 | cons {N : Nm} {V V' : Vs} (o w : List UInt8) (a : Int) (h : RN N V V') : RN ((o, w) :: N) ((o, a) :: V) ((w, a) :: V')
theorem RN.len {N : Nm} {V V' : Vs} (h : RN N V V') : V'.length = V.length /\ N.length = V.length := by
 induction h with
 | nil => exact ⟨rfl, rfl⟩
 | cons o w a h ih => simp only [List.length_cons]; omega
theorem RN.names {N : Nm} {V V' : Vs} (h : RN N V V') : N.map (·.1) = zJ V := by
 induction h with
 | nil => rfl
 | cons o w a h ih => simp only [zJ, List.map_cons] at ih ⊢; rw [ih]
theorem findN_mem {N : Nm} {nm : List UInt8} (h : nm ∈ N.map (·.1)) : zMa nm N ∈ N.map (·.2) := by
 induction N with
 | nil => simp at h
 | cons x r ih =>
  unfold zMa
  split
  ·simp
  ·rename_i hx
   rw [List.map_cons, List.mem_cons] at h
   rcases h with h | h
   ·exact absurd h.symm hx
   ·rw [List.map_cons, List.mem_cons]; exact .inr (ih h)
theorem RN.get {N : Nm} {V V' : Vs} (h : RN N V V') (hN : (N.map (·.2)).Nodup) {nm : List UInt8} (hm : nm ∈ zJ V) : getV (zMa nm N) V' = getV nm V := by
 induction h with
 | nil => simp [zJ] at hm
 | cons o w a h ih =>
  rw [List.map_cons, List.nodup_cons] at hN
  unfold zMa
  by_cases ho : o = nm
  ·subst ho
   simp [getV]
  ·rw [if_neg ho]
   simp only [zJ, List.map_cons, List.mem_cons] at hm
   have hm2 := hm.resolve_left (fun e => ho e.symm)
   have hf := findN_mem (N := _) (by rw [h.names]; exact hm2)
   have hw : ¬ w = zMa nm _ := fun e => hN.1 (e ▸ hf)
   unfold getV
   simp only
   rw [if_neg ho, if_neg hw]
   exact ih hN.2 hm2
theorem RN.set {N : Nm} {V V' : Vs} (h : RN N V V') (hN : (N.map (·.2)).Nodup) {nm : List UInt8} (hm : nm ∈ zJ V) (n : Int) : RN N (setV nm n V) (setV (zMa nm N) n V') := by
 induction h with
 | nil => simp [zJ] at hm
 | cons o w a h ih =>
  rw [List.map_cons, List.nodup_cons] at hN
  unfold zMa
  by_cases ho : o = nm
  ·subst ho
   simp only [if_true, setV]
   exact .cons _ _ _ h
  ·rw [if_neg ho]
   simp only [zJ, List.map_cons, List.mem_cons] at hm
   have hm2 := hm.resolve_left (fun e => ho e.symm)
   have hf := findN_mem (N := _) (by rw [h.names]; exact hm2)
   have hw : ¬ w = zMa nm _ := fun e => hN.1 (e ▸ hf)
   unfold setV
   simp only
   rw [if_neg ho, if_neg hw]
   exact .cons _ _ _ (ih hN.2 hm2)
theorem RN.drop {A N : Nm} {V V' : Vs} (h : RN (A ++ N) V V') : RN N (V.drop A.length) (V'.drop A.length) := by
 induction A generalizing V V' with
 | nil => exact h
 | cons x r ih =>
  cases h with
  | cons o w a h => exact ih h
end PE.U

namespace PE.U
open Go PE
mutual
def inE (p : Prog) (ns : List (List UInt8)) : Expr -> Prop
 | ⟨k, o, n, nm, a⟩ => (k = 3 -> nm ∈ ns) /\ (k = 7 -> ∀ f, zAa p nm = some f -> f.params.length = a.length) /\ inEs p ns a
def inEs (p : Prog) (ns : List (List UInt8)) : List Expr -> Prop
 | [] => True
 | x :: r => inE p ns x /\ inEs p ns r
end
mutual
theorem inE_of {p : Prog} {ns : List (List UInt8)} : ∀ {e : Expr}, okE p ns e -> inE p ns e
 | ⟨k, o, n, nm, a⟩, h => by
  rw [okE] at h
  rw [inE]
  refine ⟨h.2.1, fun hk f hf => ?_, inEs_of h.2.2.2.2⟩
  obtain ⟨g, hg, hl⟩ := h.2.2.2.1 hk
  rw [hf] at hg
  cases hg
  exact hl
theorem inEs_of {p : Prog} {ns : List (List UInt8)} : ∀ {l : List Expr}, okEs p ns l -> inEs p ns l
 | [], h => by rw [inEs]; trivial
 | x :: r, h => by
  rw [okEs] at h
  rw [inEs]
  exact ⟨inE_of h.1, inEs_of h.2⟩
end
theorem inE_e0 (p : Prog) (ns : List (List UInt8)) : inE p ns e0 := by
 unfold e0; rw [inE, inEs]; exact ⟨fun h => absurd h (by decide), fun h => absurd h (by decide), trivial⟩
theorem inE_arg0 {p : Prog} {ns : List (List UInt8)} {l : List Expr} (h : inEs p ns l) : inE p ns (arg0 l) := by
 cases l with
 | nil => exact inE_e0 p ns
 | cons x r => rw [inEs] at h; exact h.1
theorem inE_arg1 {p : Prog} {ns : List (List UInt8)} {l : List Expr} (h : inEs p ns l) : inE p ns (arg1 l) := by
 match l, h with
 | [], _ => exact inE_e0 p ns
 | [x], _ => exact inE_e0 p ns
 | x :: y :: r, h => rw [inEs, inEs] at h; exact h.2.1
theorem ren_e0 (N : Nm) : renE N e0 = e0 := by unfold e0; simp [renE, zDa]
theorem ren_arg0 (N : Nm) (l : List Expr) : arg0 (zDa N l) = renE N (arg0 l) := by
 cases l with
 | nil => exact (ren_e0 N).symm
 | cons x r => simp [zDa, arg0]
theorem ren_arg1 (N : Nm) (l : List Expr) : arg1 (zDa N l) = renE N (arg1 l) := by
 match l with
 | [] => exact (ren_e0 N).symm
 | [x] => simp only [zDa]; exact (ren_e0 N).symm
 | x :: y :: r => simp [zDa, arg1]
theorem ren_func (p : Prog) (nm : List UInt8) : zAa (renP p) nm = (zAa p nm).map renF := by
 unfold zAa renP
 rw [List.find?_map]
 rfl
theorem rn_pars : ∀ (ps : List Par) (l : List Int) (N : Nm) (c : Nat) (V V' : Vs), RN N V V' -> l.length = ps.length →
  RN (zX ps N c).2.1 (((ps.map (·.name)).zip l).reverse ++ V) ((((zX ps N c).1.map (·.name)).zip l).reverse ++ V')
 | [], l, N, c, V, V', h, hl => by simpa [zX] using h
 | x :: r, [], N, c, V, V', h, hl => by simp at hl
 | x :: r, a :: l, N, c, V, V', h, hl => by
  have := rn_pars r l ((x.name, newN c) :: N) (c + 1) ((x.name, a) :: V) ((newN c, a) :: V') (.cons _ _ _ h) (by simpa using hl)
  simpa [zX] using this
theorem ni_pars : ∀ (ps : List Par) (N : Nm) (c : Nat), NI N c -> c + ps.length < 9000000000000 -> NI (zX ps N c).2.1 (zX ps N c).2.2
 | [], N, c, h, _ => by simpa [zX] using h
 | x :: r, N, c, h, hc => by
  have := ni_pars r ((x.name, newN c) :: N) (c + 1) (h.next (by simp at hc; omega) x.name) (by simp at hc; omega)
  simpa [zX] using this
def RelT (N : Nm) (r r' : Rt (How × Vs) × RS) : Prop := match r with
 | (.stop k, S) => r' = (.stop k, S)
 | (.ok (h, V), S) => ∃ V', r' = (.ok (h, V'), S) /\ RN N V V'
def RelB (N : Nm) (r r' : Rt (How × Vs) × RS) : Prop := match r with
 | (.stop k, S) => r' = (.stop k, S)
 | (.ok (h, V), S) => ∃ V' A, r' = (.ok (h, V'), S) /\ RN (A ++ N) V V'
structure RenOk (p : Prog) (ev ev' : Ev) : Prop where
 expr : ∀ e N V V' S c, inE p (zJ V) e -> RN N V V' -> NI N c -> ev'.expr (renE N e) V' S = ev.expr e V S
 stmt : ∀ s N c V V' S loop, okS p (zJ V) loop s -> RN N V V' -> NI N c -> c + wtS s <= 4000000000000 -> RelT (renS s N c).2.1 (ev.stmt s V S) (ev'.stmt (renS s N c).1 V' S)
theorem ni_ren : ∀ (s : Stmt) (N : Nm) (c : Nat), NI N c -> c + wtS s <= 4000000000000 -> NI (renS s N c).2.1 (renS s N c).2.2
 | ⟨k, ty, nm, ar, th, el⟩, N, c, h, hc => by
  have hb := renS_bd ⟨k, ty, nm, ar, th, el⟩ N c
  have hw := zJa ⟨k, ty, nm, ar, th, el⟩
  have h1 := zYc th (if k = 1 then (nm, newN c) :: N else N) (if k = 1 then c + 1 else c)
  have h2 := zYc el (if k = 1 then (nm, newN c) :: N else N) (renB th (if k = 1 then (nm, newN c) :: N else N) (if k = 1 then c + 1 else c)).2.2
  simp only [renS] at hb ⊢
  by_cases hk : k = 1
  ·simp only [hk, if_true] at h1 h2 ⊢
   exact (h.next (by omega) nm).le (by omega)
  ·simp only [hk, if_false] at h1 h2 ⊢
   exact h.le (by omega)
section
variable {p : Prog} {ev ev' : Ev} (E : RenOk p ev ev') (A : EvOk ev)
include E A
theorem args_ren {N : Nm} {V V' : Vs} {c : Nat} (h : RN N V V') (hN : NI N c) : ∀ (l : List Expr) (acc : List Int) (S : RS), inEs p (zJ V) l -> zDd ev' V' (zDa N l) acc S = zDd ev V l acc S
 | [], acc, S, _ => by rw [zDa]; rfl
 | x :: r, acc, S, hi => by
  rw [inEs] at hi
  rw [zDa, argsW_cons, argsW_cons, E.expr x N V V' S c hi.1 h hN]
  congr 1
  funext n S1
  exact args_ren h hN r _ S1 hi.2
theorem stmts_ren : ∀ (l : List Stmt) (N : Nm) (c : Nat) (V V' : Vs) (S : RS) (loop : Bool), okB p (zJ V) loop l -> RN N V V' -> NI N c -> c + wtSs l <= 4000000000000 -> RelB N (zFa ev l V S) (zFa ev' (renB l N c).1 V' S)
 | [], N, c, V, V', S, loop, _, h, _, _ => ⟨V', [], by rw [renB]; rfl, h⟩
 | x :: r, N, c, V, V', S, loop, ho, h, hN, hc => by
  rw [okB] at ho
  have hw : wtSs (x :: r) = 1 + wtS x + wtSs r := rfl
  have hb := renS_bd x N c
  have hs := E.stmt x N c V V' S loop ho.1 h hN (by omega)
  have hn := ni_ren x N c hN (by omega)
  have hm := (A.stmt x V S).2
  have hN1 : ∃ B, (renS x N c).2.1 = B ++ N := by
   obtain ⟨k, ty, nm, ar, th, el⟩ := x
   simp only [renS]
   split
   ·exact ⟨[(nm, newN c)], rfl⟩
   ·exact ⟨[], rfl⟩
  obtain ⟨B, hB⟩ := hN1
  simp only [renB]
  rw [stmtsW_cons, stmtsW_cons]
  generalize ev.stmt x V S = q at *
  obtain ⟨a, S1⟩ := q
  cases a with
  | stop k =>
   simp only [RelT] at hs
   rw [hs]
   exact rfl
  | ok y =>
   obtain ⟨hw', V1⟩ := y
   obtain ⟨V1', hs, hr⟩ := hs
   rw [hs]
   have hnm := (hm hw' V1 rfl).2
   cases hw' with
   | on =>
    have ih := stmts_ren r (renS x N c).2.1 (renS x N c).2.2 V1 V1' S1 loop (by rw [hnm]; exact ho.2) hr hn (by omega)
    show RelB N (zFa ev r V1 S1) (zFa ev' _ V1' S1)
    rw [hB] at ih ⊢
    generalize zFa ev r V1 S1 = q at *
    obtain ⟨a, S2⟩ := q
    cases a with
    | stop k => exact ih
    | ok y =>
     obtain ⟨h2, V2⟩ := y
     obtain ⟨V2', C, e, hr2⟩ := ih
     exact ⟨V2', C ++ B, e, by rw [List.append_assoc]; exact hr2⟩
   | brk => exact ⟨V1', B, rfl, by rw [<- hB]; exact hr⟩
   | cont => exact ⟨V1', B, rfl, by rw [<- hB]; exact hr⟩
   | ret n => exact ⟨V1', B, rfl, by rw [<- hB]; exact hr⟩
theorem block_ren (l : List Stmt) (N : Nm) (c : Nat) (V V' : Vs) (S : RS) (loop : Bool) (ho : okB p (zJ V) loop l) (h : RN N V V') (hN : NI N c) (hc : c + wtSs l <= 4000000000000) : RelT N (zZ ev l V S) (zZ ev' (renB l N c).1 V' S) := by
 have hs := stmts_ren E A l N c V V' S loop ho h hN hc
 rw [blockW_eq, blockW_eq]
 generalize zFa ev l V S = q at *
 obtain ⟨a, S1⟩ := q
 cases a with
 | stop k =>
  simp only [RelB] at hs
  rw [hs]
  exact rfl
 | ok y =>
  obtain ⟨h1, V1⟩ := y
  obtain ⟨V1', C, e, hr⟩ := hs
  rw [e]
  have l1 := hr.len
  have l2 := h.len
  rw [List.length_append] at l1
  have e1 : V1.length - V.length = C.length := by omega
  have e2 : V1'.length - V'.length = C.length := by omega
  refine ⟨V1'.drop C.length, by rw [<- e2]; rfl, ?_⟩
  show RN N (V1.drop (V1.length - V.length)) _
  rw [e1]
  exact hr.drop
end
end PE.U

namespace PE.U
open Go PE
section
variable {p : Prog} {ev ev' : Ev} (E : RenOk p ev ev') (A : EvOk ev) (O : OkP p)
include E A O
theorem call_ren (f : Func) (hf : f ∈ p.funcs) (l : List Int) (hl : l.length = f.params.length) (S : RS) : callW ev' (renF f) l S = callW ev f l S := by
 obtain ⟨z1, z2, z3⟩ := O.sz
 have hz := z3 f hf
 have hp := zqc f.params [] 0
 have hr := rn_pars f.params l [] 0 [] [] .nil hl
 have hn := ni_pars f.params [] 0 ⟨by simp, fun x h => by simp at h⟩ (by omega)
 simp only [List.append_nil] at hr
 have ho := (O.fn f hf).1
 have hnm : zJ (bindV f.params l) = (f.params.map (·.name)).reverse := by
  unfold bindV zJ
  rw [List.map_reverse, List.map_fst_zip (by simp; omega)]
 have hb := block_ren E A f.body (zX f.params [] 0).2.1 (zX f.params [] 0).2.2 (bindV f.params l) (bindV (renF f).params l) S false (by rw [hnm]; exact ho) hr hn (by omega)
 have hbody : (renF f).body = (renB f.body (zX f.params [] 0).2.1 (zX f.params [] 0).2.2).1 := rfl
 rw [callW_eq, callW_eq, hbody]
 generalize zZ ev f.body (bindV f.params l) S = q at *
 obtain ⟨a, S1⟩ := q
 cases a with
 | stop k =>
  simp only [RelT] at hb
  rw [hb]
  try rfl
 | ok y =>
  obtain ⟨h1, V1⟩ := y
  obtain ⟨V1', e, hr1⟩ := hb
  rw [e]
  rfl
theorem made_ren (e : Expr) (nm' : List UInt8) (ar' : List Expr) (hnm : e.kind ≠ 3 -> nm' = e.name) (l : List Int) (hl : e.kind = 7 -> ∀ f, zAa p e.name = some f -> l.length = f.params.length) (h3 : e.kind ≠ 3) (S : RS) :
  madeW (renP p) ev' ⟨e.kind, e.op, e.n, nm', ar'⟩ l S = madeW p ev e l S := by
 rw [hnm h3]
 unfold madeW
 simp only
 have hc : ∀ n, cellAt (renP p) S e.name n = cellAt p S e.name n := fun _ => rfl
 rw [hc, ren_func]
 by_cases k7 : e.kind = 7
 ·simp only [k7]
  rw [if_neg (by decide), if_neg (by decide), if_neg (by decide), if_pos trivial, if_neg (by decide), if_neg (by decide), if_neg (by decide), if_pos trivial]
  cases hf : zAa p e.name with
  | none => rfl
  | some f => exact call_ren E A O f (List.mem_of_find?_eq_some hf) l (hl k7 f hf) S
 ·rw [if_neg k7, if_neg k7]
theorem short_ren {N : Nm} {V V' : Vs} {c : Nat} (h : RN N V V') (hN : NI N c) (e : Expr) (nm' : List UInt8) (S : RS) (hi : inEs p (zJ V) e.args) : shortW ev' ⟨e.kind, e.op, e.n, nm', zDa N e.args⟩ V' S = shortW ev e V S := by
 rw [shortW_eq, shortW_eq]
 simp only
 rw [ren_arg0, ren_arg1, E.expr _ N V V' S c (inE_arg0 hi) h hN]
 congr 1
 funext a S1
 rw [E.expr _ N V V' S1 c (inE_arg1 hi) h hN]
theorem expr_ren {N : Nm} {V V' : Vs} {c : Nat} (h : RN N V V') (hN : NI N c) (e : Expr) (S : RS) (hi : inE p (zJ V) e) : exprW (renP p) ev' (renE N e) V' S = exprW p ev e V S := by
 obtain ⟨k, o, n, nm, ar⟩ := e
 rw [inE] at hi
 rw [renE, exprW_eq, exprW_eq]
 simp only
 by_cases k3 : k = 3
 ·subst k3
  have e1 : ((3 : Int) = 1 \/ (3 : Int) = 2) = False := by simp
  simp only [e1, if_false, if_true]
  rw [h.get hN.1 (hi.1 rfl)]
 ·rw [if_neg k3, if_neg k3, if_neg k3]
  rw [short_ren E A O h hN ⟨k, o, n, nm, ar⟩ nm S hi.2.2]
  rw [args_ren E A h hN ar [] S hi.2.2]
  have hm := (argsW_mono A V ar [] S).2
  generalize zDd ev V ar [] S = q at *
  obtain ⟨a, S1⟩ := q
  cases a with
  | stop j => rfl
  | ok l =>
   have hl : l.length = ar.length := by have := hm l rfl; simpa using this
   have := made_ren E A O ⟨k, o, n, nm, ar⟩ nm (zDa N ar) (fun _ => rfl) l (fun hk f hf => by rw [hl]; exact (hi.2.1 hk f hf).symm) k3 (zaa S1)
   show (if _ then _ else if _ then _ else madeW (renP p) ev' _ l (zaa S1)) = _
   rw [this]
   rfl
theorem loop_ren {N : Nm} {c : Nat} (hN : NI N c) (e : Expr) (b : List Stmt) (hc : c + wtSs b <= 4000000000000) : ∀ (k : Nat) (V V' : Vs) (S : RS), inE p (zJ V) e -> okB p (zJ V) true b -> RN N V V' →
  RelT N (zQc ev e b k V S) (zQc ev' (renE N e) (renB b N c).1 k V' S)
 | 0, V, V', S, _, _, _ => rfl
 | k + 1, V, V', S, hi, ho, h => by
  rw [loopW_succ, loopW_succ, E.expr e N V V' S c hi h hN]
  generalize ev.expr e V S = q
  obtain ⟨a, S1⟩ := q
  cases a with
  | stop j => rfl
  | ok n =>
   show RelT N (if n = 0 then _ else _) (if n = 0 then _ else _)
   by_cases hn : n = 0
   ·rw [if_pos hn, if_pos hn]; exact ⟨V', rfl, h⟩
   rw [if_neg hn, if_neg hn]
   have hb := block_ren E A b N c V V' S1 true ho h hN hc
   have hnm := (zKc A b V S1).2
   generalize zZ ev b V S1 = q at *
   obtain ⟨a, S2⟩ := q
   cases a with
   | stop j =>
    simp only [RelT] at hb
    rw [hb]
    try rfl
   | ok y =>
    obtain ⟨h1, V1⟩ := y
    obtain ⟨V1', e1, hr⟩ := hb
    rw [e1]
    have hv := hnm h1 V1 rfl
    cases h1 with
    | on => exact loop_ren hN e b hc k V1 V1' S2 (by rw [hv]; exact hi) (by rw [hv]; exact ho) hr
    | brk => exact ⟨V1', rfl, hr⟩
    | cont => exact loop_ren hN e b hc k V1 V1' S2 (by rw [hv]; exact hi) (by rw [hv]; exact ho) hr
    | ret m => exact ⟨V1', rfl, hr⟩
end
end PE.U

namespace PE.U
open Go PE
section
variable {p : Prog} {ev ev' : Ev} (E : RenOk p ev ev') (A : EvOk ev) (O : OkP p)
include E A O
theorem plain_ren {N : Nm} {V V' : Vs} {c : Nat} (h : RN N V V') (hN : NI N c) (s : Stmt) (loop : Bool) (ho : okS p (zJ V) loop s) (hc : c + wtS s <= 4000000000000) (k5 : s.kind ≠ 5) (n : Int) (S : RS) :
  RelT (renS s N c).2.1 (zPc p ev s V n S) (zPc (renP p) ev' (renS s N c).1 V' n S) := by
 obtain ⟨k, ty, nm, ar, th, el⟩ := s
 have hw := zJa ⟨k, ty, nm, ar, th, el⟩
 simp only at hw k5
 rw [okS] at ho
 obtain ⟨_, _, o3, o4, _, _, o7, o8⟩ := ho
 simp only [renS]
 rw [plainW_eq, plainW_eq]
 simp only
 by_cases k1 : k = 1
 ·subst k1
  simp only [if_true, true_or]
  have hf : zMa nm ((nm, newN c) :: N) = newN c := by simp [zMa]
  rw [hf]
  exact ⟨_, rfl, .cons _ _ _ h⟩
 simp only [k1, if_false, false_or, List.nil_append] at o7 o8 ⊢
 by_cases k2 : k = 2
 ·subst k2
  simp only [if_true]
  exact ⟨_, rfl, h.set hN.1 (o4 rfl) n⟩
 simp only [k2, if_false]
 by_cases k3 : k = 3
 ·subst k3
  simp only [if_true]
  rw [ren_arg1, E.expr _ N V V' S c (inE_arg1 (inEs_of o3)) h hN]
  generalize ev.expr (arg1 ar) V S = q
  obtain ⟨a, S1⟩ := q
  cases a with
  | stop j => exact rfl
  | ok m =>
   show RelT N (putW p _ V n m (zaa S1)) (putW (renP p) _ V' n m (zaa S1))
   have hp : putAt (renP p) (zaa S1) nm n m = putAt p (zaa S1) nm n m := rfl
   unfold putW
   simp only
   rw [hp]
   cases putAt p (zaa S1) nm n m with
   | none => exact rfl
   | some S3 => exact ⟨V', rfl, h⟩
 simp only [k3, if_false]
 by_cases k4 : k = 4
 ·subst k4
  simp only [if_true]
  have hb := zYc th N c
  by_cases hn : n = 0
  ·simp only [hn, if_true]
   exact block_ren E A el N (renB th N c).2.2 V V' S loop o8 h (hN.le hb.2.1) (by omega)
  ·simp only [hn, if_false]
   have e : (loop || decide ((4 : Int) = 5)) = loop := by simp
   rw [e] at o7
   exact block_ren E A th N c V V' S loop o7 h hN (by omega)
 simp only [k4, if_false]
 by_cases k8 : k = 8
 ·simp only [k8, if_true]; exact ⟨V', rfl, h⟩
 simp only [k8, if_false]
 by_cases k9 : k = 9
 ·simp only [k9, if_true]; exact ⟨V', rfl, h⟩
 simp only [k9, if_false]
 exact ⟨V', rfl, h⟩
theorem stmt_ren {N : Nm} {V V' : Vs} {c : Nat} (h : RN N V V') (hN : NI N c) (w : Nat) (s : Stmt) (loop : Bool) (ho : okS p (zJ V) loop s) (hc : c + wtS s <= 4000000000000) (S : RS) :
  RelT (renS s N c).2.1 (stmtW p ev w s V S) (stmtW (renP p) ev' w (renS s N c).1 V' S) := by
 have hpl := fun n S => plain_ren E A O h hN s loop ho hc (n := n) (S := S)
 obtain ⟨k, ty, nm, ar, th, el⟩ := s
 have hw := zJa ⟨k, ty, nm, ar, th, el⟩
 simp only at hw
 rw [okS] at ho
 obtain ⟨_, _, o3, o4, _, _, o7, o8⟩ := ho
 rw [stmtW_eq, stmtW_eq]
 simp only [renS] at hpl ⊢
 by_cases k5 : k = 5
 ·subst k5
  have e1 : ((5 : Int) = 1) = False := by simp
  simp only [e1, if_false, if_true, ren_arg0, List.nil_append] at o7 ⊢
  have e : (loop || decide True) = true := by simp
  rw [e] at o7
  exact loop_ren E A O hN (arg0 ar) th (by omega) (w + 1) V V' S (inE_arg0 (inEs_of o3)) o7 h
 simp only [k5, if_false]
 by_cases k6 : k = 6
 ·subst k6
  have e1 : ((6 : Int) = 1) = False := by simp
  simp only [e1, if_false, if_true]
  exact ⟨V', rfl, h⟩
 simp only [k6, if_false]
 by_cases k7 : k = 7
 ·subst k7
  have e1 : ((7 : Int) = 1) = False := by simp
  simp only [e1, if_false, if_true]
  exact ⟨V', rfl, h⟩
 simp only [k7, if_false]
 rw [ren_arg0, E.expr _ N V V' S c (inE_arg0 (inEs_of o3)) h hN]
 generalize ev.expr (arg0 ar) V S = q
 obtain ⟨a, S1⟩ := q
 cases a with
 | stop j => exact rfl
 | ok n => exact hpl n S1 k5
end
theorem evF_ren (p : Prog) (O : OkP p) : ∀ w, RenOk p (evF p w) (evF (renP p) w)
 | 0 => ⟨fun e N V V' S c _ _ _ => rfl, fun s N c V V' S loop _ _ _ _ => rfl⟩
 | w + 1 => by
  have E := evF_ren p O w
  have A := zOd p w
  refine ⟨fun e N V V' S c hi h hN => ?_, fun s N c V V' S loop ho h hN hc => ?_⟩
  ·simp only [evF]
   cases S.fuel with
   | zero => rfl
   | succ k => exact expr_ren E A O h hN e _ hi
  ·simp only [evF]
   cases S.fuel with
   | zero => exact rfl
   | succ k => exact stmt_ren E A O h hN w s loop ho hc _
theorem evalM_ren (p : Prog) (O : OkP p) (h0 : (zjc p).1 = 0) (h1 : (zjc (renP p)).1 = 0) (inp : List Int) (fu : Int) : evalM (renP p) inp fu = evalM p inp fu := by
 unfold evalM
 rw [if_pos h0, if_pos h1]
 have hr : run0 (renP p) inp fu = run0 p inp fu := rfl
 rw [hr]
 congr 1
 unfold mainW
 rw [ren_func]
 obtain ⟨f, hf, hp⟩ := O.main
 rw [hf]
 exact call_ren (evF_ren p O _) (zOd p _) O f (List.mem_of_find?_eq_some hf) [] (by rw [hp]; rfl) _
end PE.U

namespace PE.U
open Go PE
theorem digF_len2 : ∀ (k j n : Nat), 1 <= j -> n < 10 ^ j -> (digF k n).length <= j
 | 0, j, n, _, _ => by simp [digF]
 | k + 1, j, n, hj, h => by
  unfold digF
  split
  ·simpa using hj
  ·rename_i hn
   cases j with
   | zero => omega
   | succ j =>
    cases j with
    | zero => simp at h; omega
    | succ j =>
     have := digF_len2 k (j + 1) (n / 10) (by omega) (by rw [Nat.pow_succ] at h; omega)
     simp only [List.length_append, List.length_cons, List.length_nil]
     omega
theorem dig_byte {a : Nat} (h : a < 10) : zA (UInt8.ofNat (48 + a)) = true := by
 have : a = 0 \/ a = 1 \/ a = 2 \/ a = 3 \/ a = 4 \/ a = 5 \/ a = 6 \/ a = 7 \/ a = 8 \/ a = 9 := by omega
 rcases this with rfl | rfl | rfl | rfl | rfl | rfl | rfl | rfl | rfl | rfl <;> decide
theorem digF_bytes : ∀ (k n : Nat), (digF k n).all zA = true
 | 0, n => rfl
 | k + 1, n => by
  unfold digF
  split
  ·rename_i h; rw [List.all_cons, dig_byte h]; rfl
  ·rw [List.all_append, digF_bytes k]
   rw [List.all_cons, dig_byte (Nat.mod_lt n (by omega : 0 < 10))]; rfl
theorem newN_name {c : Nat} (h : c < 10000000000000) : znb (newN c) = true := by
 have hl := digF_len2 20 13 c (by omega) (by simpa using h)
 have hw : wordM (newN c) = false := by
  have hall : words.all (fun w => decide (w.head? ≠ some 118)) = true := by decide
  unfold wordM
  rw [List.contains_eq_any_beq]
  rw [List.any_eq_false]
  intro x hx he
  have := List.all_eq_true.1 hall x hx
  simp at he
  subst he
  simp [newN] at this
 unfold znb
 rw [hw]
 have hb : (newN c).all zA = true := by
  unfold newN digitsM
  rw [List.all_cons, digF_bytes]
  decide
 rw [hb]
 have hlen : (newN c).length <= 20 := by unfold newN digitsM; simp only [List.length_cons]; omega
 simp [newN] at hlen ⊢
 exact ⟨by decide, hlen⟩
def NV (N : Nm) : Prop := ∀ x ∈ N.map (·.2), znb x = true
theorem NI.valid {N : Nm} {c : Nat} (h : NI N c) (hc : c < 9000000000000) : NV N := by
 intro x hx
 obtain ⟨i, hi, rfl⟩ := h.2 x hx
 exact newN_name (by omega)
theorem findN_valid {N : Nm} (hv : NV N) {nm : List UInt8} (h : znb nm = true) : znb (zMa nm N) = true := by
 induction N with
 | nil => exact h
 | cons x r ih =>
  unfold zMa
  split
  ·exact hv _ (by simp)
  ·exact ih fun y hy => hv y (by rw [List.map_cons, List.mem_cons]; exact .inr hy)
mutual
theorem exprR_ren {N : Nm} (hv : NV N) : ∀ (e : Expr) (m : Int), zTa e m = true -> zTa (renE N e) m = true
 | ⟨k, o, n, nm, ar⟩, m, h => by
  rw [zTa, Bool.and_eq_true] at h
  rw [renE, zTa, Bool.and_eq_true, renEs_len]
  refine ⟨exprsR_ren hv ar m h.1, ?_⟩
  by_cases k3 : k = 3
  ·subst k3
   have hk := h.2
   simp [zCd] at hk ⊢
   exact ⟨hk.1, findN_valid hv hk.2.1, hk.2.2⟩
  ·rw [if_neg k3]; exact h.2
theorem exprsR_ren {N : Nm} (hv : NV N) : ∀ (l : List Expr) (m : Int), zfb l m = true -> zfb (zDa N l) m = true
 | [], m, _ => by rw [zDa, zfb]
 | x :: r, m, h => by
  rw [zfb, Bool.and_eq_true, Bool.and_eq_true] at h
  rw [zDa, zfb, Bool.and_eq_true, Bool.and_eq_true]
  exact ⟨⟨h.1.1, exprR_ren hv x (m - 1) h.1.2⟩, exprsR_ren hv r m h.2⟩
end
mutual
theorem leaves1_ren : ∀ (s : Stmt) (N : Nm) (c : Nat), zZc (renS s N c).1 = zZc s
 | ⟨k, ty, nm, ar, th, el⟩, N, c => by
  simp only [renS, zZc]
  rw [zye th, zye el]
theorem zye : ∀ (l : List Stmt) (N : Nm) (c : Nat), zia (renB l N c).1 = zia l
 | [], N, c => by simp [renB]
 | x :: r, N, c => by
  simp only [renB, zia]
  rw [leaves1_ren x, zye r]
end
theorem ren_kind (N : Nm) (e : Expr) : (renE N e).kind = e.kind /\ (renE N e).n = e.n := by rw [renE_eq]; exact ⟨rfl, rfl⟩
mutual
theorem ends1_ren : ∀ (s : Stmt) (N : Nm) (c : Nat), ends1 (renS s N c).1 = ends1 s
 | ⟨k, ty, nm, ar, th, el⟩, N, c => by
  simp only [renS, ends1]
  rw [endsT_ren th, endsT_ren el, zye th, ren_arg0, (ren_kind N (arg0 ar)).1, (ren_kind N (arg0 ar)).2]
theorem endsT_ren : ∀ (l : List Stmt) (N : Nm) (c : Nat), ztb (renB l N c).1 = ztb l
 | [], N, c => by simp [renB]
 | x :: r, N, c => by
  simp only [renB, ztb]
  rw [ends1_ren x, endsT_ren r]
end
end PE.U

namespace PE.U
open Go PE
theorem name_ne {nm : List UInt8} (h : znb nm = true) : nm ≠ [] := by
 rintro rfl
 exact absurd h (by decide)
theorem argsR_ren {N : Nm} (hv : NV N) : ∀ (l : List Expr), zZd l = true -> zZd (zDa N l) = true
 | [], _ => by rw [zDa]; rfl
 | x :: r, h => by
  unfold zZd at h ⊢
  rw [List.all_cons, Bool.and_eq_true] at h
  rw [zDa, List.all_cons, Bool.and_eq_true]
  exact ⟨exprR_ren hv x 100 h.1, argsR_ren hv r h.2⟩
theorem doR_ren (N : Nm) (k : Int) (l : List Expr) : doR k (zDa N l) = doR k l := by
 cases l with
 | nil => rw [zDa]
 | cons x r =>
  rw [zDa]
  unfold doR
  simp only
  rw [(ren_kind N x).1]
theorem headR_ren {k ty m : Int} {nm nm' : List UInt8} {ar ar' : List Expr} {th el th' el' : List Stmt} (hl : ar'.length = ar.length) (hn : nm' = nm \/ (znb nm = true /\ znb nm' = true)) (h : headR ⟨k, ty, nm, ar, th, el⟩ m = true) : headR ⟨k, ty, nm', ar', th', el'⟩ m = true := by
 unfold headR at h ⊢
 simp only [hl] at h ⊢
 rcases hn with rfl | ⟨h1, h2⟩
 ·exact h
 ·have e1 := name_ne h1
  have e2 := name_ne h2
  rw [h1] at h
  rw [h2]
  simpa [e1, e2] using h
theorem empty_ren (l : List Stmt) (N : Nm) (c : Nat) : (renB l N c).1.isEmpty = l.isEmpty := by
 cases l <;> simp [renB]
theorem headR_name {k ty m : Int} {nm : List UInt8} {ar : List Expr} {th el : List Stmt} (h : headR ⟨k, ty, nm, ar, th, el⟩ m = true) (hk : k = 1 \/ k = 2) : znb nm = true := by
 unfold headR at h
 rcases hk with rfl | rfl <;> simp [zQ] at h <;> simp_all
mutual
theorem stmtR_ren : ∀ (s : Stmt) (N : Nm) (c : Nat) (m : Int), NI N c -> c + wtS s <= 4000000000000 -> zBb s m = true -> zBb (renS s N c).1 m = true
 | ⟨k, ty, nm, ar, th, el⟩, N, c, m, hN, hc, h => by
  have hw := zJa ⟨k, ty, nm, ar, th, el⟩
  simp only at hw
  rw [zBb] at h
  simp only [Bool.and_eq_true] at h
  obtain ⟨h1, h2, h3, ⟨h4, h5⟩, h6, h7⟩ := h
  have hv := hN.valid (by omega)
  simp only [renS]
  rw [zBb]
  simp only [Bool.and_eq_true]
  rw [doR_ren, empty_ren, empty_ren]
  have hN1 : NI (if k = 1 then (nm, newN c) :: N else N) (if k = 1 then c + 1 else c) := by
   split
   ·exact hN.next (by omega) nm
   ·exact hN
  have hc1 : (if k = 1 then c + 1 else c) <= c + 1 := by split <;> omega
  have hb := zYc th (if k = 1 then (nm, newN c) :: N else N) (if k = 1 then c + 1 else c)
  refine ⟨headR_ren (renEs_len N ar) ?_ h1, argsR_ren hv ar h2, h3, ⟨h4, h5⟩, stmtsR_ren th _ _ (m - 1) hN1 (by omega) h6, stmtsR_ren el _ _ (m - 1) (hN1.le hb.2.1) (by omega) h7⟩
  by_cases hk : k = 1 \/ k = 2
  ·rw [if_pos hk]
   have hnm := headR_name h1 hk
   exact .inr ⟨hnm, findN_valid (hN1.valid (by omega)) hnm⟩
  ·rw [if_neg hk]; exact .inl rfl
theorem stmtsR_ren : ∀ (l : List Stmt) (N : Nm) (c : Nat) (m : Int), NI N c -> c + wtSs l <= 4000000000000 -> zL l m = true -> zL (renB l N c).1 m = true
 | [], N, c, m, _, _, _ => by simp [renB, zL]
 | x :: r, N, c, m, hN, hc, h => by
  have hw : wtSs (x :: r) = 1 + wtS x + wtSs r := rfl
  have hb := renS_bd x N c
  rw [zL, Bool.and_eq_true] at h
  simp only [renB, zL, Bool.and_eq_true]
  exact ⟨stmtR_ren x N c m hN (by omega) h.1, stmtsR_ren r _ _ m (ni_ren x N c hN (by omega)) (by omega) h.2⟩
end
theorem pars_ren : ∀ (ps : List Par) (N : Nm) (c : Nat), c + ps.length < 9000000000000 -> ps.all parR = true -> (zX ps N c).1.all parR = true
 | [], N, c, _, _ => by simp [zX]
 | x :: r, N, c, hc, h => by
  simp only [List.length_cons] at hc
  rw [List.all_cons, Bool.and_eq_true] at h
  simp only [zX, List.all_cons, Bool.and_eq_true]
  refine ⟨?_, pars_ren r _ _ (by omega) h.2⟩
  have h1 := h.1
  unfold parR at h1 ⊢
  simp only [Bool.and_eq_true] at h1 ⊢
  exact ⟨newN_name (by omega), h1.2⟩
theorem right_ren (p : Prog) (hz : PSz p) (h : zKb p = true) : zKb (renP p) = true := by
 obtain ⟨z1, z2, z3⟩ := hz
 unfold zKb at h ⊢
 rw [Bool.and_eq_true] at h ⊢
 refine ⟨h.1, ?_⟩
 have h2 := h.2
 show (p.funcs.map renF).all zwd = true
 rw [List.all_map, List.all_eq_true]
 intro f hf
 have hr := List.all_eq_true.1 h2 f hf
 have hzf := z3 f hf
 have hl := zqc f.params [] 0
 show zwd (renF f) = true
 unfold zwd at hr ⊢
 simp only [Bool.and_eq_true] at hr ⊢
 obtain ⟨r1, r2, r3, r4, r5⟩ := hr
 refine ⟨r1, r2, ?_, ?_, ?_⟩
 ·show decide ((zX f.params [] 0).1.length <= 8) = true
  rw [hl.1]; exact r3
 ·exact stmtsR_ren f.body _ _ 100 (ni_pars f.params [] 0 ⟨by simp, fun x h => by simp at h⟩ (by omega)) (by omega) r4
 ·exact pars_ren f.params [] 0 (by omega) r5
theorem named_ren (p : Prog) : zec (renP p) = zec p := by
 unfold zec
 rw [ren_func]
 have e : (renP p).funcs.map (·.name) = p.funcs.map (·.name) := by
  show (p.funcs.map renF).map (·.name) = _
  rw [List.map_map]; rfl
 have e2 : (renP p).arrays = p.arrays := rfl
 rw [e, e2]
 cases zAa p zzc with
 | none => rfl
 | some f =>
  have h : decide ((zX f.params [] 0).1 = []) = decide (f.params = []) := by cases f.params <;> simp [zX]
  show (_ && (decide (f.type = 1) && decide ((zX f.params [] 0).1 = []))) = _
  rw [h]
end PE.U

namespace PE.U
open Go PE
inductive RV : Nm -> List Vr -> List Vr -> Prop
 | nil : RV [] [] []
 | cons {N : Nm} {s s' : List Vr} (o w : List UInt8) (t d : Int) (h : RV N s s') : RV ((o, w) :: N) (⟨o, t, d⟩ :: s) (⟨w, t, d⟩ :: s')
theorem RV.olds {N : Nm} {s s' : List Vr} (h : RV N s s') : N.map (·.1) = zxe s := by
 induction h with
 | nil => rfl
 | cons o w t d h ih => simp only [zxe, List.map_cons] at ih ⊢; rw [ih]
theorem RV.news {N : Nm} {s s' : List Vr} (h : RV N s s') : N.map (·.2) = zxe s' := by
 induction h with
 | nil => rfl
 | cons o w t d h ih => simp only [zxe, List.map_cons] at ih ⊢; rw [ih]
theorem RV.find {N : Nm} {s s' : List Vr} (h : RV N s s') (hN : (N.map (·.2)).Nodup) {nm : List UInt8} (hf : zya s nm ≠ []) :
  ∃ v r v' r', zya s nm = v :: r /\ zya s' (zMa nm N) = v' :: r' /\ v'.type = v.type /\ v'.depth = v.depth := by
 induction h with
 | nil => exact absurd rfl hf
 | cons o w t d h ih =>
  rw [List.map_cons, List.nodup_cons] at hN
  rw [zrb] at hf ⊢
  unfold zMa
  by_cases ho : o = nm
  ·subst ho
   simp only [if_true]
   rw [zrb]
   simp
  ·simp only [ho, if_false] at hf ⊢
   have hm := findN_mem (N := _) (by rw [h.olds]; exact vfindV_mem hf)
   have hw : ¬ w = zMa nm _ := fun e => hN.1 (e ▸ hm)
   rw [zrb]
   simp only [hw, if_false]
   exact ih hN.2 hf
theorem findV_none {s : List Vr} {nm : List UInt8} (h : nm ∉ zxe s) : zya s nm = [] := by
 cases hf : zya s nm with
 | nil => rfl
 | cons v r => exact absurd (vfindV_mem (by rw [hf]; simp)) h
theorem pars_types : ∀ (ps : List Par) (N : Nm) (c : Nat), (zX ps N c).1.map (·.type) = ps.map (·.type)
 | [], N, c => by simp [zX]
 | x :: r, N, c => by simp [zX, pars_types r]
section
variable {p : Prog} {N : Nm} {s s' : List Vr} (h : RV N s s') (hN : (N.map (·.2)).Nodup)
include h hN
theorem named_typ {k : Int} {nm : List UInt8} {a : Nat} (hz : zxb p s k nm a = 0) : zxb (renP p) s' k (if k = 3 then zMa nm N else nm) a = 0 := by
 unfold zxb at hz ⊢
 by_cases k3 : k = 3
 ·simp only [k3, if_true] at hz ⊢
  split at hz
  ·cases hz
  ·rename_i hf
   obtain ⟨v, r, v', r', _, e, _⟩ := h.find hN hf
   rw [e]; simp
 simp only [k3, if_false] at hz ⊢
 by_cases k6 : k = 6
 ·simp only [k6, if_true] at hz ⊢; exact hz
 simp only [k6, if_false] at hz ⊢
 by_cases k7 : k = 7
 ·simp only [k7, if_true] at hz ⊢
  rw [ren_func]
  cases hf : zAa p nm with
  | none => rw [hf] at hz; cases hz
  | some f =>
   rw [hf] at hz
   simp only [Option.map_some] at hz ⊢
   have hl := (zqc f.params [] 0).1
   show (if (zX f.params [] 0).1.length = a then (0 : Int) else 51) = 0
   rw [hl]; exact hz
 ·simp only [k7, if_false]
theorem made_typ {k o : Int} {nm : List UInt8} {a : Nat} (hz : zxb p s k nm a = 0) (l : List Int) : ztd (renP p) s' k o (if k = 3 then zMa nm N else nm) l = ztd p s k o nm l := by
 unfold ztd
 by_cases k2 : k = 2
 ·simp only [k2, if_true]
 simp only [k2, if_false]
 by_cases k3 : k = 3
 ·simp only [k3, if_true]
  unfold zxb at hz
  simp only [k3, if_true] at hz
  split at hz
  ·cases hz
  ·rename_i hf
   obtain ⟨v, r, v', r', e1, e, e2, _⟩ := h.find hN hf
   rw [e, e1]; simp [e2]
 simp only [k3, if_false]
 rw [ren_func]
 by_cases k7 : k = 7
 ·subst k7
  cases zAa p nm with
  | none => rfl
  | some f =>
   have ht := pars_types f.params [] 0
   simp only [Option.map_some]
   have e : (renF f).params.map (·.type) = f.params.map (·.type) := ht
   rw [e]
   rfl
 ·simp only [k7, if_false]
mutual
theorem expr_typ : ∀ (e : Expr), (zDb p s e).2 = 0 -> zDb (renP p) s' (renE N e) = zDb p s e
 | ⟨k, o, n, nm, ar⟩, hz => by
  rw [zDb] at hz ⊢
  split at hz
  ·rename_i h1; exact absurd hz h1
  rename_i h1
  split at hz
  ·rename_i h2; exact absurd hz h2
  rename_i h2
  have h1' : zxb p s k nm ar.length = 0 := by simpa using h1
  have h2' : (zGa p s ar).2 = 0 := by simpa using h2
  have ha := args_typ ar h2'
  rw [renE, zDb, renEs_len, named_typ h hN h1', ha, made_typ h hN h1', if_neg (by simp), if_neg h2, if_neg h1]
theorem args_typ : ∀ (l : List Expr), (zGa p s l).2 = 0 -> zGa (renP p) s' (zDa N l) = zGa p s l
 | [], _ => by rw [zDa, zGa, zGa]
 | x :: r, hz => by
  rw [zGa] at hz ⊢
  split at hz
  ·rename_i h1; exact absurd hz h1
  rename_i h1
  split at hz
  ·rename_i h2; exact absurd hz h2
  rename_i h2
  have e1 := expr_typ x (by simpa using h1)
  have e2 := args_typ r (by simpa using h2)
  rw [zDa, zGa, e1, e2, if_neg h1, if_neg h2]
end
theorem zqe {e : Expr} {t : Int} (hz : znc p s e t = 0) : znc (renP p) s' (renE N e) t = 0 := by
 unfold znc at hz ⊢
 split at hz
 ·rename_i h1; exact absurd hz h1
 rename_i h1
 rw [expr_typ h hN e (by simpa using h1), if_neg h1]
 exact hz
end
theorem RV.fresh {N : Nm} {s s' : List Vr} (h : RV N s s') {c : Nat} (hN : NI N c) (hc : c < 9000000000000) : zya s' (newN c) = [] := by
 refine findV_none ?_
 rw [<- h.news]
 intro hm
 obtain ⟨i, hi, he⟩ := hN.2 _ hm
 have := newN_inj (by omega) (by omega) he
 omega
theorem stmt_typ {p : Prog} {N : Nm} {s s' : List Vr} {c : Nat} (h : RV N s s') (hN : NI N c) (hc : c < 9000000000000) {res k t d : Int} {nm : List UInt8} {ar : List Expr} {loop : Bool} (hz : stmtT p res s k t nm ar d loop = 0) :
  stmtT (renP p) res s' k t (if k = 1 \/ k = 2 then zMa nm (if k = 1 then (nm, newN c) :: N else N) else nm) (zDa N ar) d loop = 0 := by
 unfold stmtT at hz ⊢
 rw [ren_arg0]
 by_cases k1 : k = 4 \/ k = 5
 ·rw [if_pos k1] at hz ⊢; exact zqe h hN.1 hz
 rw [if_neg k1] at hz ⊢
 by_cases k2 : k = 8
 ·rw [if_pos k2] at hz ⊢; exact zqe h hN.1 hz
 rw [if_neg k2] at hz ⊢
 by_cases k3 : k = 9
 ·rw [if_pos k3] at hz ⊢; exact zqe h hN.1 hz
 rw [if_neg k3] at hz ⊢
 by_cases k4 : k = 10
 ·rw [if_pos k4] at hz ⊢; rw [expr_typ h hN.1 _ hz]; exact hz
 rw [if_neg k4] at hz ⊢
 by_cases k5 : k = 6 \/ k = 7
 ·rw [if_pos k5] at hz ⊢; exact hz
 rw [if_neg k5] at hz ⊢
 unfold boundT at hz ⊢
 rw [ren_arg0, ren_arg1]
 by_cases q1 : k = 1
 ·subst q1
  simp only [if_true, true_or] at hz ⊢
  split at hz
  ·rename_i h1; exact absurd hz h1
  rename_i h1
  have hf : zMa nm ((nm, newN c) :: N) = newN c := by simp [zMa]
  rw [if_neg (by rw [zqe h hN.1 (by simpa using h1)]; simp), hf, h.fresh hN hc]
 simp only [q1, if_false, false_or] at hz ⊢
 by_cases q2 : k = 2
 ·subst q2
  simp only [if_true] at hz ⊢
  have hf : zya s nm ≠ [] := by intro e; rw [e] at hz; cases hz
  obtain ⟨v, r, v', r', e1, e2, e3, _⟩ := h.find hN.1 hf
  rw [e1] at hz
  rw [e2]
  simp only at hz ⊢
  rw [e3]
  exact zqe h hN.1 hz
 simp only [q2, if_false] at hz ⊢
 have ha : zeb (renP p) nm = zeb p nm := rfl
 rw [ha]
 split at hz
 ·cases hz
 rename_i h3
 rw [if_neg h3]
 split at hz
 ·rename_i h4; exact absurd hz h4
 rename_i h4
 rw [if_neg (by rw [zqe h hN.1 (by simpa using h4)]; simp)]
 exact zqe h hN.1 hz
mutual
theorem block1_typ {p : Prog} {res : Int} : ∀ (x : Stmt) (N : Nm) (c : Nat) (s s' : List Vr) (d : Int) (loop : Bool) (n n' : Int), RV N s s' -> NI N c -> c + wtS x <= 4000000000000 -> (zWb p res x s d loop n).1 = 0 -> (zWb (renP p) res (renS x N c).1 s' d loop n').1 = 0
 | ⟨k, t, nm, ar, th, el⟩, N, c, s, s', d, loop, n, n', h, hN, hc, hz => by
  have hw := zJa ⟨k, t, nm, ar, th, el⟩
  simp only at hw
  rw [zWb] at hz
  simp only [renS]
  rw [zWb]
  split at hz
  ·rename_i h1; exact absurd hz h1
  rename_i h1
  rw [if_neg (by rw [stmt_typ h hN (by omega) (by simpa using h1)]; simp)]
  simp only at hz ⊢
  have hb := zYc th (if k = 1 then (nm, newN c) :: N else N) (if k = 1 then c + 1 else c)
  have hc1 : (if k = 1 then c + 1 else c) <= c + 1 := by split <;> omega
  have hN1 : NI (if k = 1 then (nm, newN c) :: N else N) (if k = 1 then c + 1 else c) := by
   split
   ·exact hN.next (by omega) nm
   ·exact hN
  have h1 : RV (if k = 1 then (nm, newN c) :: N else N) (if k = 1 then ⟨nm, t, d⟩ :: s else s) (if k = 1 then ⟨if k = 1 \/ k = 2 then zMa nm (if k = 1 then (nm, newN c) :: N else N) else nm, t, d⟩ :: s' else s') := by
   by_cases k1 : k = 1
   ·subst k1
    simp only [if_true, true_or]
    have hf : zMa nm ((nm, newN c) :: N) = newN c := by simp [zMa]
    rw [hf]
    exact .cons _ _ _ _ h
   ·simp only [k1, if_false]; exact h
  generalize (if k = 1 then Vr.mk nm t d :: s else s) = s1 at *
  generalize (if k = 1 then Vr.mk (if k = 1 \/ k = 2 then zMa nm (if k = 1 then (nm, newN c) :: N else N) else nm) t d :: s' else s') = s1' at *
  split at hz
  ·rename_i h2; exact absurd hz h2
  rename_i h2
  have e1 := blockT_typ (p := p) (res := res) th _ _ _ _ (d + 1) (loop || decide (k = 5)) (n + 1) (n' + 1) h1 hN1 (by omega) (by simpa using h2)
  rw [if_neg (by rw [e1]; simp)]
  exact blockT_typ el _ _ _ _ (d + 1) loop _ _ h1 (hN1.le hb.2.1) (by omega) hz
theorem blockT_typ {p : Prog} {res : Int} : ∀ (l : List Stmt) (N : Nm) (c : Nat) (s s' : List Vr) (d : Int) (loop : Bool) (n n' : Int), RV N s s' -> NI N c -> c + wtSs l <= 4000000000000 -> (zba p res l s d loop n).1 = 0 -> (zba (renP p) res (renB l N c).1 s' d loop n').1 = 0
 | [], N, c, s, s', d, loop, n, n', _, _, _, _ => by simp [renB, zba]
 | x :: r, N, c, s, s', d, loop, n, n', h, hN, hc, hz => by
  have hw : wtSs (x :: r) = 1 + wtS x + wtSs r := rfl
  have hb := renS_bd x N c
  rw [zbc] at hz
  split at hz
  ·rename_i h1; exact absurd hz h1
  rename_i h1
  have e1 := block1_typ (p := p) (res := res) x N c s s' d loop n n' h hN (by omega) (by simpa using h1)
  simp only [renB]
  rw [zbc, if_neg (by rw [e1]; simp)]
  have h2 : RV (renS x N c).2.1 (zla d x s) (zla d (renS x N c).1 s') := by
   obtain ⟨k, t, nm, ar, th, el⟩ := x
   simp only [renS, zla]
   by_cases k1 : k = 1
   ·subst k1
    simp only [if_true, true_or]
    have hf : zMa nm ((nm, newN c) :: N) = newN c := by simp [zMa]
    rw [hf]
    exact .cons _ _ _ _ h
   ·simp only [k1, if_false]; exact h
  exact blockT_typ r _ _ _ _ d loop _ _ h2 (ni_ren x N c hN (by omega)) (by omega) hz
end
end PE.U

namespace PE.U
open Go PE
theorem pars_news : ∀ (ps : List Par) (N : Nm) (c : Nat), (zX ps N c).2.1.map (·.2) = ((zX ps N c).1.map (·.name)).reverse ++ N.map (·.2)
 | [], N, c => by simp [zX]
 | x :: r, N, c => by
  have := pars_news r ((x.name, newN c) :: N) (c + 1)
  simp only [zX, this]
  simp
theorem pars_rv : ∀ (ps : List Par) (N : Nm) (c : Nat) (s s' : List Vr), RV N s s' -> RV (zX ps N c).2.1 (ps.foldl (fun s p => ⟨p.name, p.type, 0⟩ :: s) s) ((zX ps N c).1.foldl (fun s p => ⟨p.name, p.type, 0⟩ :: s) s')
 | [], N, c, s, s', h => by simpa [zX] using h
 | x :: r, N, c, s, s', h => by
  have := pars_rv r ((x.name, newN c) :: N) (c + 1) _ _ (.cons x.name (newN c) x.type 0 h)
  simpa [zX] using this
theorem func_ren (p : Prog) (hz : PSz p) (f : Func) (hf : f ∈ p.funcs) (h : (zjb p f).1 = 0) : (zjb (renP p) (renF f)).1 = 0 := by
 have hzf := hz.2.2 f hf
 have hl := zqc f.params [] 0
 have hn := ni_pars f.params [] 0 ⟨by simp, fun x h => by simp at h⟩ (by omega)
 unfold zjb at h ⊢
 have ht : twiceM (renF f).params = false := by
  unfold twiceM
  have := hn.1
  rw [pars_news] at this
  simp only [List.map_nil, List.append_nil] at this
  have this := (List.reverse_perm _).nodup_iff.1 this
  show (!decide (((zX f.params [] 0).1.map (·.name)).Nodup)) = false
  rw [decide_eq_true this]; rfl
 rw [ht]
 split at h
 ·cases h
 simp only at h ⊢
 have he : ztb (renF f).body = ztb f.body := endsT_ren f.body _ _
 have hrv := pars_rv f.params [] 0 [] [] .nil
 by_cases hb : (zba p f.type f.body (zU f.params) 1 false 0).1 = 0
 ·have hb' : (zba (renP p) f.type (renF f).body (zU (renF f).params) 1 false 0).1 = 0 := blockT_typ f.body _ _ _ _ 1 false 0 0 hrv hn (by omega) hb
  rw [hb] at h
  show (if (zba (renP p) f.type (renF f).body (zU (renF f).params) 1 false 0).1 = 0 /\ ztb (renF f).body = false then 52 else (zba (renP p) f.type (renF f).body (zU (renF f).params) 1 false 0).1) = 0
  rw [hb', he]
  exact h
 ·simp [hb] at h
theorem checkGo_zero (q : Prog) : ∀ (l : List Func) (i : Int), (∀ f ∈ l, (zjb q f).1 = 0) -> (zJc q l i).1 = 0
 | [], _, _ => rfl
 | f :: r, i, h => by
  rw [zJc, if_neg (by rw [h f (by simp)]; simp)]
  exact checkGo_zero q r (i + 1) fun g hg => h g (by simp [hg])
theorem check_ren (p : Prog) (hz : PSz p) (h : (zjc p).1 = 0) : (zjc (renP p)).1 = 0 := by
 unfold zjc at h ⊢
 split at h
 case isFalse => cases h
 rename_i h1
 split at h
 case isFalse => cases h
 rename_i h2
 rw [if_pos (right_ren p hz h1), named_ren, if_pos h2]
 refine checkGo_zero _ _ _ fun g hg => ?_
 obtain ⟨f, hf, rfl⟩ := List.mem_map.1 hg
 exact func_ren p hz f hf (checkGo_ok p p.funcs 0 h f hf)
end PE.U

namespace PE.U
open Go PE
def NL (N : Nm) : Prop := ∀ x ∈ N.map (·.2), x.length <= 12
theorem newN_len {c : Nat} (h : c < 100000000000) : (newN c).length <= 12 := by
 have hl := digF_len2 20 11 c (by omega) (by simpa using h)
 unfold newN digitsM
 simp only [List.length_cons]
 omega
theorem NI.short {N : Nm} {c : Nat} (h : NI N c) (hc : c < 100000000000) : NL N := by
 intro x hx
 obtain ⟨i, hi, rfl⟩ := h.2 x hx
 exact newN_len (by omega)
theorem findN_len {N : Nm} (hv : NL N) (nm : List UInt8) : 1 + (zMa nm N).length <= 13 * (1 + nm.length) := by
 induction N with
 | nil => simp only [zMa]; omega
 | cons x r ih =>
  unfold zMa
  split
  ·have := hv x.2 (by simp); omega
  ·exact ih fun y hy => hv y (by rw [List.map_cons, List.mem_cons]; exact .inr hy)
mutual
theorem wtE_ren {N : Nm} (hv : NL N) : ∀ (e : Expr), wtE (renE N e) <= 13 * wtE e
 | ⟨k, o, n, nm, ar⟩ => by
  have h1 := wtEs_ren hv ar
  have h2 := findN_len hv nm
  rw [renE, wtE, wtE]
  split <;> omega
theorem wtEs_ren {N : Nm} (hv : NL N) : ∀ (l : List Expr), wtEs (zDa N l) <= 13 * wtEs l
 | [] => by rw [zDa, wtEs]; omega
 | x :: r => by
  have h1 := wtE_ren hv x
  have h2 := wtEs_ren hv r
  rw [zDa, wtEs, wtEs]; omega
end
mutual
theorem wtS_ren : ∀ (s : Stmt) (N : Nm) (c : Nat), NI N c -> c + wtS s < 100000000000 -> wtS (renS s N c).1 <= 13 * wtS s
 | ⟨k, ty, nm, ar, th, el⟩, N, c, hN, hc => by
  have hw := zJa ⟨k, ty, nm, ar, th, el⟩
  simp only at hw
  have hN1 : NI (if k = 1 then (nm, newN c) :: N else N) (if k = 1 then c + 1 else c) := by
   split
   ·exact hN.next (by omega) nm
   ·exact hN
  have hc1 : (if k = 1 then c + 1 else c) <= c + 1 := by split <;> omega
  have hb := zYc th (if k = 1 then (nm, newN c) :: N else N) (if k = 1 then c + 1 else c)
  have h1 := wtEs_ren (hN.short (by omega)) ar
  have h2 := findN_len (hN1.short (by omega)) nm
  have h3 := wtSs_ren th _ _ hN1 (by omega)
  have h4 := wtSs_ren el _ _ (hN1.le hb.2.1) (by omega)
  simp only [renS]
  rw [wtS, hw]
  split <;> omega
theorem wtSs_ren : ∀ (l : List Stmt) (N : Nm) (c : Nat), NI N c -> c + wtSs l < 100000000000 -> wtSs (renB l N c).1 <= 13 * wtSs l
 | [], N, c, _, _ => by simp [renB, wtSs]
 | x :: r, N, c, hN, hc => by
  have hw : wtSs (x :: r) = 1 + wtS x + wtSs r := rfl
  have hb := renS_bd x N c
  have h1 := wtS_ren x N c hN (by omega)
  have h2 := wtSs_ren r _ _ (ni_ren x N c hN (by omega)) (by omega)
  simp only [renB]
  rw [wtSs, hw]
  omega
end
def PSm (p : Prog) : Prop := p.arrays.length < 1099509000000 /\ p.funcs.length < 1099509000000 /\ ∀ f ∈ p.funcs, wtSs f.body <= 80008000128 /\ f.params.length <= 6400164
theorem psz_ren (p : Prog) (h : PSm p) : PSz (renP p) := by
 obtain ⟨h1, h2, h3⟩ := h
 refine ⟨h1, by show (p.funcs.map renF).length < _; simpa using h2, ?_⟩
 intro g hg
 obtain ⟨f, hf, rfl⟩ := List.mem_map.1 hg
 have hl := zqc f.params [] 0
 have hb := h3 f hf
 have hw := wtSs_ren f.body _ _ (ni_pars f.params [] 0 ⟨by simp, fun x h => by simp at h⟩ (by omega)) (by omega)
 refine ⟨?_, ?_⟩
 ·show wtSs (renB f.body (zX f.params [] 0).2.1 (zX f.params [] 0).2.2).1 < _
  omega
 ·show (zX f.params [] 0).1.length < _
  omega
end PE.U

namespace PE.U
open Go PE
structure Fx (p : Prog) (ev : Ev) : Prop where
 brk : ∀ s V S V1, zZc s = false -> (ev.stmt s V S).1 ≠ .ok (.brk, V1)
 loop : ∀ s ns V S, okS p ns false s -> ∀ h V1, (ev.stmt s V S).1 = .ok (h, V1) -> h = .on \/ ∃ n, h = .ret n
 ends : ∀ s V S V1, ends1 s = true -> (ev.stmt s V S).1 ≠ .ok (.on, V1)
 tru : ∀ e V S, e.kind = 2 -> ∀ n, (ev.expr e V S).1 = .ok n -> n = e.n
section
variable {p : Prog} {ev : Ev} (E : Fx p ev)
include E
theorem stmtsW_brk : ∀ (l : List Stmt) (V : Vs) (S : RS) (V1 : Vs), zia l = false -> (zFa ev l V S).1 ≠ .ok (.brk, V1)
 | [], V, S, V1, _ => by simp [zFa]
 | x :: r, V, S, V1, h => by
  rw [zia, Bool.or_eq_false_iff] at h
  have hb := E.brk x V S
  unfold zFa
  generalize ev.stmt x V S = q at *
  obtain ⟨a, S1⟩ := q
  cases a with
  | stop k => simp
  | ok y =>
   obtain ⟨y, V2⟩ := y
   cases y with
   | on => exact stmtsW_brk r V2 S1 V1 h.2
   | brk => exact fun _ => hb V2 h.1 rfl
   | cont => simp
   | ret n => simp
theorem blockW_brk (l : List Stmt) (V : Vs) (S : RS) (V1 : Vs) (h : zia l = false) : (zZ ev l V S).1 ≠ .ok (.brk, V1) := by
 have hb := fun V1 => stmtsW_brk E l V S V1 h
 unfold zZ
 generalize zFa ev l V S = q at *
 obtain ⟨a, S1⟩ := q
 cases a with
 | stop k => simp
 | ok y =>
  obtain ⟨y, V2⟩ := y
  cases y with
  | brk => exact fun _ => hb V2 rfl
  | on => simp
  | cont => simp
  | ret n => simp
theorem stmtsW_loop : ∀ (l : List Stmt) (ns : List (List UInt8)) (V : Vs) (S : RS), okB p ns false l -> ∀ h V1, (zFa ev l V S).1 = .ok (h, V1) -> h = .on \/ ∃ n, h = .ret n
 | [], ns, V, S, _, h, V1, e => by cases e; exact .inl rfl
 | x :: r, ns, V, S, ho, h, V1, e => by
  rw [okB] at ho
  have hb := E.loop x ns V S ho.1
  unfold zFa at e
  generalize ev.stmt x V S = q at *
  obtain ⟨a, S1⟩ := q
  cases a with
  | stop k => cases e
  | ok y =>
   obtain ⟨y, V2⟩ := y
   cases y with
   | on => exact stmtsW_loop r _ V2 S1 ho.2 h V1 e
   | brk => rcases hb _ _ rfl with h | ⟨n, h⟩ <;> cases h
   | cont => rcases hb _ _ rfl with h | ⟨n, h⟩ <;> cases h
   | ret n => cases e; exact .inr ⟨n, rfl⟩
theorem blockW_loop (l : List Stmt) (ns : List (List UInt8)) (V : Vs) (S : RS) (ho : okB p ns false l) (h : How) (V1 : Vs) (e : (zZ ev l V S).1 = .ok (h, V1)) : h = .on \/ ∃ n, h = .ret n := by
 have hb := stmtsW_loop E l ns V S ho
 unfold zZ at e
 generalize zFa ev l V S = q at *
 obtain ⟨a, S1⟩ := q
 cases a with
 | stop k => cases e
 | ok y => obtain ⟨y, V2⟩ := y; cases e; exact hb _ _ rfl
theorem stmtsW_ends : ∀ (l : List Stmt) (V : Vs) (S : RS) (V1 : Vs), ztb l = true -> (zFa ev l V S).1 ≠ .ok (.on, V1)
 | [], V, S, V1, h => by cases h
 | x :: r, V, S, V1, h => by
  rw [ztb, Bool.or_eq_true] at h
  have hb := E.ends x V S
  unfold zFa
  generalize ev.stmt x V S = q at *
  obtain ⟨a, S1⟩ := q
  cases a with
  | stop k => simp
  | ok y =>
   obtain ⟨y, V2⟩ := y
   cases y with
   | on =>
    rcases h with h | h
    ·exact fun _ => hb V2 h rfl
    ·exact stmtsW_ends r V2 S1 V1 h
   | brk => simp
   | cont => simp
   | ret n => simp
theorem blockW_ends (l : List Stmt) (V : Vs) (S : RS) (V1 : Vs) (h : ztb l = true) : (zZ ev l V S).1 ≠ .ok (.on, V1) := by
 have hb := fun V1 => stmtsW_ends E l V S V1 h
 unfold zZ
 generalize zFa ev l V S = q at *
 obtain ⟨a, S1⟩ := q
 cases a with
 | stop k => simp
 | ok y =>
  obtain ⟨y, V2⟩ := y
  cases y with
  | on => exact fun _ => hb V2 rfl
  | brk => simp
  | cont => simp
  | ret n => simp
theorem blockW_ret (l : List Stmt) (ns : List (List UInt8)) (V : Vs) (S : RS) (ho : okB p ns false l) (he : ztb l = true) (h : How) (V1 : Vs) (e : (zZ ev l V S).1 = .ok (h, V1)) : ∃ n, h = .ret n := by
 rcases blockW_loop E l ns V S ho h V1 e with rfl | h
 ·exact absurd e (blockW_ends E l V S V1 he)
 ·exact h
theorem loopW_how (c : Expr) (b : List Stmt) : ∀ (k : Nat) (V : Vs) (S : RS) (h : How) (V1 : Vs), (zQc ev c b k V S).1 = .ok (h, V1) -> h = .on \/ ∃ n, h = .ret n
 | 0, V, S, h, V1, e => by cases e
 | k + 1, V, S, h, V1, e => by
  unfold zQc at e
  generalize ev.expr c V S = q at *
  obtain ⟨a, S1⟩ := q
  cases a with
  | stop k => cases e
  | ok n =>
   simp only at e
   split at e
   ·cases e; exact .inl rfl
   generalize zZ ev b V S1 = q at *
   obtain ⟨a, S2⟩ := q
   cases a with
   | stop k => cases e
   | ok y =>
    obtain ⟨y, V2⟩ := y
    cases y with
    | on => exact loopW_how c b k V2 S2 h V1 e
    | brk => cases e; exact .inl rfl
    | cont => exact loopW_how c b k V2 S2 h V1 e
    | ret n => cases e; exact .inr ⟨n, rfl⟩
theorem loopW_ends (c : Expr) (b : List Stmt) (hc : c.kind = 2 /\ c.n = 1) (hb : zia b = false) : ∀ (k : Nat) (V : Vs) (S : RS) (V1 : Vs), (zQc ev c b k V S).1 ≠ .ok (.on, V1)
 | 0, V, S, V1 => by simp [zQc]
 | k + 1, V, S, V1 => by
  have ht := E.tru c V S hc.1
  unfold zQc
  generalize ev.expr c V S = q at *
  obtain ⟨a, S1⟩ := q
  cases a with
  | stop k => simp
  | ok n =>
   have hn : n = 1 := by rw [ht n rfl, hc.2]
   subst hn
   simp only
   rw [if_neg (by decide)]
   have h2 := blockW_brk E b V S1
   generalize zZ ev b V S1 = q at *
   obtain ⟨a, S2⟩ := q
   cases a with
   | stop k => simp
   | ok y =>
    obtain ⟨y, V2⟩ := y
    cases y with
    | on => exact loopW_ends c b hc hb k V2 S2 V1
    | brk => exact fun _ => h2 V2 hb rfl
    | cont => exact loopW_ends c b hc hb k V2 S2 V1
    | ret n => simp
end
theorem evF_fx (p : Prog) : ∀ w, Fx p (evF p w)
 | 0 => ⟨fun _ _ _ _ _ e => (by cases e), fun _ _ _ _ _ _ _ e => (by cases e), fun _ _ _ _ _ e => (by cases e), fun _ _ _ _ _ e => (by cases e)⟩
 | w + 1 => by
  have E := evF_fx p w
  refine ⟨fun s V S V1 h => ?_, fun s ns V S h hh V1 e => ?_, fun s V S V1 h => ?_, fun e V S h n hn => ?_⟩
  ·rw [leaves1_eq, Bool.or_eq_false_iff, decide_eq_false_iff_not] at h
   obtain ⟨h6, h4⟩ := h
   simp only [evF]
   cases S.fuel with
   | zero => simp
   | succ k =>
    simp only
    unfold stmtW
    split
    ·intro e
     rcases loopW_how E _ _ _ _ _ _ _ e with h | ⟨n, h⟩ <;> cases h
    split
    ·simp
    generalize (evF p w).expr (arg0 s.args) V { S with fuel := k } = q
    obtain ⟨a, S1⟩ := q
    cases a with
    | stop k => simp
    | ok n =>
     simp only
     unfold zPc
     split
     ·simp
     split
     ·simp
     split
     ·generalize (evF p w).expr (arg1 s.args) V S1 = q
      obtain ⟨a, S2⟩ := q
      cases a with
      | stop k => simp
      | ok m => simp only; split <;> simp
     split
     ·rename_i k4
      simp only [k4, decide_true, Bool.true_and, Bool.or_eq_false_iff] at h4
      split
      ·exact blockW_brk E _ _ _ _ h4.2
      ·exact blockW_brk E _ _ _ _ h4.1
     split
     ·simp
     split
     ·simp
     ·simp
  ·rw [okS_eq] at h
   obtain ⟨h1, h2, h3, h4, h5, h6, h7, h8⟩ := h
   simp only [evF] at e
   cases hS : S.fuel with
   | zero => rw [hS] at e; cases e
   | succ k =>
    rw [hS] at e
    simp only at e
    unfold stmtW at e
    split at e
    ·exact loopW_how E _ _ _ _ _ _ _ e
    split at e
    ·rename_i k6; exact absurd (h6 (.inl k6)) (by simp)
    split at e
    ·rename_i k6; exact absurd (h6 (.inr k6)) (by simp)
    generalize (evF p w).expr (arg0 s.args) V { S with fuel := k } = q at e
    obtain ⟨a, S1⟩ := q
    cases a with
    | stop k => cases e
    | ok n =>
     simp only at e
     unfold zPc at e
     split at e
     ·cases e; exact .inl rfl
     split at e
     ·cases e; exact .inl rfl
     split at e
     ·generalize (evF p w).expr (arg1 s.args) V S1 = q at e
      obtain ⟨a, S2⟩ := q
      cases a with
      | stop k => cases e
      | ok m =>
       simp only at e
       split at e
       ·cases e; exact .inl rfl
       ·cases e
     split at e
     ·rename_i k5 _ _ _ _ _ _
      simp only [k5, decide_false, Bool.or_false] at h7
      split at e
      ·exact blockW_loop E _ _ _ _ h8 _ _ e
      ·exact blockW_loop E _ _ _ _ h7 _ _ e
     split at e
     ·cases e; exact .inr ⟨_, rfl⟩
     split at e
     ·cases e; exact .inl rfl
     ·cases e; exact .inl rfl
  ·rw [ends1_eq] at h
   simp only [evF]
   cases S.fuel with
   | zero => simp
   | succ k =>
    simp only
    unfold stmtW
    split
    ·rename_i k5
     rw [if_neg (by omega), if_neg (by omega), if_pos k5] at h
     simp only [Bool.and_eq_true, decide_eq_true_eq, Bool.not_eq_true'] at h
     exact loopW_ends E _ _ h.1 h.2 _ _ _ _
    rename_i k5
    split
    ·simp
    split
    ·simp
    generalize (evF p w).expr (arg0 s.args) V { S with fuel := k } = q
    obtain ⟨a, S1⟩ := q
    cases a with
    | stop k => simp
    | ok n =>
     simp only
     by_cases k8 : s.kind = 8
     ·unfold zPc
      rw [if_neg (by omega), if_neg (by omega), if_neg (by omega), if_neg (by omega), if_pos k8]
      simp
     rw [if_neg k8] at h
     by_cases k4 : s.kind = 4
     ·rw [if_pos k4, Bool.and_eq_true] at h
      unfold zPc
      rw [if_neg (by omega), if_neg (by omega), if_neg (by omega), if_pos k4]
      split
      ·exact blockW_ends E _ _ _ _ h.2
      ·exact blockW_ends E _ _ _ _ h.1
     rw [if_neg k4, if_neg k5] at h
     cases h
  ·simp only [evF] at hn
   cases hS : S.fuel with
   | zero => rw [hS] at hn; cases hn
   | succ k =>
    rw [hS] at hn
    simp only [exprW] at hn
    rw [if_pos (.inr h)] at hn
    cases hn; rfl
end PE.U

namespace PE.U
open Go PE
def zub (k : Nat) : List PArr -> List (PV × PV)
 | [] => []
 | a :: r => (.str a.name, .mslice k 0 a.size.toNat 1) :: zub (k + 1) r
def intO (l : List Int) : Obj := .arr 1 (l.map (PV.int .i64))
def boxO (n : Int) : Obj := .arr 1 [.int .i64 n]
def rowsO (l : List (List Int)) : ze := l.map intO
def runCells (p : Prog) (S : RS) (v : Int) : List PV := [zka p.arrays, funcs p.funcs, ints S.inp, .mp 0, .int .i64 0, .int .i64 0, acc 1 (S.out.map (PV.int .i64)), .int .i64 S.cost, .int .i64 S.fuel, .int .i64 v]
def runO (p : Prog) (S : RS) (v : Int) : Obj := .arr 10 [.agg (runCells p S v)]
def sto (p : Prog) (S : RS) (v : Int) (T : ze) : ze := .mp (zub 2 p.arrays) :: runO p S v :: (rowsO S.arrs ++ T)
def endV (k : Int) : PV := .iface 119 (.agg [.int .i64 k])
section
variable (p : Prog) (S : RS) (v : Int) (T : ze)
@[simp] theorem sto_0 : (sto p S v T)[0]? = some (.mp (zub 2 p.arrays)) := rfl
@[simp] theorem sto_1 : (sto p S v T)[1]? = some (.arr 10 [.agg [zka p.arrays, funcs p.funcs, ints S.inp, .mp 0, .int .i64 0, .int .i64 0, acc 1 (S.out.map (PV.int .i64)), .int .i64 S.cost, .int .i64 S.fuel, .int .i64 v]]) := rfl
@[simp] theorem set_fuel (k : Nat) : (sto p S v T).set 1 (.arr 10 [.agg [zka p.arrays, funcs p.funcs, ints S.inp, .mp 0, .int .i64 0, .int .i64 0, acc 1 (S.out.map (PV.int .i64)), .int .i64 S.cost, .int .i64 k, .int .i64 v]]) = sto p { S with fuel := k } v T := rfl
@[simp] theorem set_cost : (sto p S v T).set 1 (.arr 10 [.agg [zka p.arrays, funcs p.funcs, ints S.inp, .mp 0, .int .i64 0, .int .i64 0, acc 1 (S.out.map (PV.int .i64)), .int .i64 (zB .i64 (S.cost + 1)), .int .i64 S.fuel, .int .i64 v]]) = sto p (zaa S) v T := by
 rw [zma]; rfl
@[simp] theorem set_val (u : Int) : (sto p S v T).set 1 (.arr 10 [.agg [zka p.arrays, funcs p.funcs, ints S.inp, .mp 0, .int .i64 0, .int .i64 0, acc 1 (S.out.map (PV.int .i64)), .int .i64 S.cost, .int .i64 S.fuel, .int .i64 u]]) = sto p S u T := rfl
@[simp] theorem set_inp (l : List Int) : (sto p S v T).set 1 (.arr 10 [.agg [zka p.arrays, funcs p.funcs, .slice .plain 1 (l.map (PV.int .i64)), .mp 0, .int .i64 0, .int .i64 0, acc 1 (S.out.map (PV.int .i64)), .int .i64 S.cost, .int .i64 S.fuel, .int .i64 v]]) = sto p { S with inp := l } v T := rfl
end
@[simp] theorem rebuild_int (k : IntKind) (n : Int) (cs : List PV) : zPa (.int k n) cs = cs.headD .undef := Eq.trans rfl rfl
theorem stop_spec (k : Int) (σ : ze) : zi E 159 [.ptr 1 0 0, .int .i64 k] σ = some (.pan (endV k), σ) := by
 refine zc rfl rfl rfl (by simp) ?_
 simp [F159, endV]
theorem step_spec (p : Prog) (S : RS) (v : Int) (T : ze) (hf : S.fuel <= 9000000000000000000) : zi E 141 [.ptr 1 0 0] (sto p S v T) = some (match S.fuel with
  | 0 => (.pan (endV 0), sto p S v T)
  | k + 1 => (.ret (.tup []), sto p { S with fuel := k } v T)) := by
 refine zc rfl rfl rfl (by simp) ?_
 have h0 := stop_spec 0 (sto p S v T)
 cases h : S.fuel with
 | zero => simp [*, F141]
 | succ k =>
  have hw : zB .i64 (((k + 1 : Nat) : Int) - 1) = (k : Int) := by rw [zj] <;> omega
  have hne : (((k + 1 : Nat) : Int) = 0) = False := eqn (by omega)
  clear h0
  have hs : (sto p S v T).set 1 (.arr 10 [.agg [zka p.arrays, funcs p.funcs, ints S.inp, .mp 0, .int .i64 0, .int .i64 0, acc 1 (S.out.map (PV.int .i64)), .int .i64 S.cost, .int .i64 k, .int .i64 v]]) = sto p { S with fuel := k } v T := rfl
  generalize hc : ((k + 1 : Nat) : Int) = c at *
  simp [*, F141]
def FitS (p : Prog) (S : RS) : Prop := S.arrs.map List.length = p.arrays.map (fun a => a.size.toNat) /\ S.out.length + S.fuel <= 1000000000000
theorem FitS.mono {p : Prog} {S S1 : RS} (h : FitS p S) (m : Mono S S1) : FitS p S1 := ⟨m.arrs.trans h.1, Nat.le_trans m.out h.2⟩
theorem FitS.len {p : Prog} {S : RS} (h : FitS p S) : S.arrs.length = p.arrays.length := by
 have := congrArg List.length h.1
 simpa using this
theorem FitS.cost {p : Prog} {S : RS} (h : FitS p S) : FitS p (zaa S) := h
theorem arrFrom_find (nm : List UInt8) : ∀ (l : List PArr) (k : Nat), zV true (.str nm) (zub k l) = some (match l.findIdx? (fun a => decide (a.name = nm)) with
  | some i => match l[i]? with
   | some a => some (.mslice (k + i) 0 a.size.toNat 1)
   | none => none
  | none => none)
 | [], k => rfl
 | a :: r, k => by
  have ih := arrFrom_find nm r (k + 1)
  rw [zub, List.findIdx?_cons]
  by_cases h : a.name = nm
  ·simp [h]
  ·have h' : ¬ nm = a.name := fun e => h e.symm
   simp only [zV, zRc, if_true, h', decide_false, h]
   rw [ih]
   cases r.findIdx? (fun a => decide (a.name = nm)) with
   | none => simp
   | some i =>
    simp only [Option.map_some, List.getElem?_cons_succ, Bool.false_eq_true, if_false]
    cases r[i]? with
    | none => rfl
    | some b => simp only; congr 3; omega
theorem arr_at {p : Prog} {S : RS} {nm : List UInt8} (hS : FitS p S) (h : zeb p nm = true) : ∃ (i : Nat) (l : List Int), zVa p nm = i /\ i < S.arrs.length /\ S.arrs[i]? = some l /\ zV true (.str nm) (zub 2 p.arrays) = some (some (.mslice (i + 2) 0 l.length 1)) := by
 have h1 := idx_ge (fun f : PArr => decide (f.name = nm)) p.arrays
 rcases zTb (fun f : PArr => decide (f.name = nm)) p.arrays with ⟨a1, a2⟩ | ⟨i, a, a1, a2, a3, a4, a5⟩
 ·rw [a1] at h1
  exfalso
  have : zeb p nm = decide ((0 : Int) <= -1) := h1.symm
  rw [this] at h
  exact absurd h (by decide)
 ·have hlt : i < S.arrs.length := by rw [hS.len]; exact a4
  refine ⟨i, S.arrs[i], a1, hlt, List.getElem?_eq_getElem hlt, ?_⟩
  rw [arrFrom_find]
  have hx : p.arrays.findIdx? (fun a => decide (a.name = nm)) = some i := by
   have : idx (fun f : PArr => decide (f.name = nm)) p.arrays = i := a1
   unfold idx at this
   cases hq : p.arrays.findIdx? (fun a => decide (a.name = nm)) with
   | none => rw [hq] at this; simp at this <;> omega
   | some j => rw [hq] at this; simp at this; exact congrArg some (by omega)
  rw [hx]
  simp only [a2]
  have hl : (S.arrs[i]).length = a.size.toNat := by
   have e := congrArg (fun l : List Nat => l[i]?) hS.1
   simp only [List.getElem?_map, a2, List.getElem?_eq_getElem hlt, Option.map_some, Option.some.injEq] at e
   exact e
  rw [hl, Nat.add_comm 2 i]
theorem sto_row {p : Prog} {S : RS} {v : Int} {T : ze} {i : Nat} {l : List Int} (h : S.arrs[i]? = some l) : (sto p S v T)[i + 2]? = some (.arr 1 (l.map (PV.int .i64))) := by
 have hlt := (List.getElem?_eq_some_iff.1 h).1
 simp only [sto, List.getElem?_cons_succ]
 rw [List.getElem?_append_left (by simpa [rowsO] using hlt)]
 simp [rowsO, h, intO]
theorem sto_setrow {p : Prog} {S : RS} {v : Int} {T : ze} {i : Nat} {l : List Int} (h : S.arrs[i]? = some l) (l' : List Int) : (sto p S v T).set (i + 2) (.arr 1 (l'.map (PV.int .i64))) = sto p { S with arrs := S.arrs.set i l' } v T := by
 have hlt := (List.getElem?_eq_some_iff.1 h).1
 simp only [sto, List.set_cons_succ]
 rw [List.set_append_left _ _ (by simpa [rowsO] using hlt)]
 have : (rowsO S.arrs).set i (.arr 1 (l'.map (PV.int .i64))) = rowsO (S.arrs.set i l') := by simp [rowsO, List.map_set, intO]
 rw [this]
 rfl
theorem cell_spec {p : Prog} {S : RS} {v : Int} {T : ze} {nm : List UInt8} {i : Nat} {l : List Int} (n : Int) (hl : S.arrs[i]? = some l) (hm : zV true (.str nm) (zub 2 p.arrays) = some (some (.mslice (i + 2) 0 l.length 1))) :
  zi E 144 [.ptr 1 0 0, .str nm, .int .i64 n] (sto p S v T) = some (if 0 <= n /\ n < l.length then (.ret (.ptr (i + 2) n.toNat 0), sto p S v T) else (.pan (endV 3), sto p S v T)) := by
 refine zc rfl rfl rfl (by simp) ?_
 have h3 := stop_spec 3 (sto p S v T)
 by_cases h0 : n < 0
 ·have hn : ¬ (0 <= n /\ n < l.length) := by omega
  rw [if_neg hn]
  replace h0 := eqp h0
  simp [*, F144]
 ·by_cases h1 : (l.length : Int) <= n
  ·have hn : ¬ (0 <= n /\ n < l.length) := by omega
   rw [if_neg hn]
   replace h0 := eqn h0
   replace h1 := eqp h1
   simp [*, F144]
  ·rw [if_pos (by omega)]
   have h4 : 0 <= n := by omega
   have h5 : n.toNat < l.length := by omega
   replace h0 := eqn h0
   replace h1 := eqn h1
   clear h3
   simp [*, F144]
theorem read_spec (p : Prog) (S : RS) (v : Int) (T : ze) : zi E 167 [.ptr 1 0 0] (sto p S v T) = some (match S.inp with
  | [] => (.pan (endV 4), sto p S v T)
  | n :: r => (.ret (.int .i64 n), sto p { S with inp := r } v T)) := by
 refine zc rfl rfl rfl (by simp) ?_
 have h4 := stop_spec 4 (sto p S v T)
 cases h : S.inp with
 | nil => simp [*, F167, ints]
 | cons n r =>
  have hne : ¬ ((r.length : Int) + 1 = 0) := by omega
  have hs : (sto p S v T).set 1 (.arr 10 [.agg [zka p.arrays, funcs p.funcs, .slice .plain 1 (r.map (PV.int .i64)), .mp 0, .int .i64 0, .int .i64 0, acc 1 (S.out.map (PV.int .i64)), .int .i64 S.cost, .int .i64 S.fuel, .int .i64 v]]) = sto p { S with inp := r } v T := rfl
  have ht : List.take r.length (r.map (PV.int .i64)) = r.map (PV.int .i64) := by rw [List.take_of_length_le]; simp
  clear h4
  simp [*, F167, ints]
end PE.U

namespace PE.U
open Go PE
structure Bnd where
 name : List UInt8
 box : Nat
 val : Int
def zF (B : List Bnd) : Vs := B.map fun b => (b.name, b.val)
def zib (B : List Bnd) : List (List UInt8 × Nat) := B.map fun b => (b.name, b.box)
def zcd (nm : List UInt8) : List Bnd -> Option Bnd
 | [] => none
 | b :: r => if b.name = nm then some b else zcd nm r
def setB (nm : List UInt8) (n : Int) : List Bnd -> List Bnd
 | [] => []
 | b :: r => if b.name = nm then { b with val := n } :: r else b :: setB nm n r
theorem names_valsB (B : List Bnd) : zJ (zF B) = B.map (·.name) := by simp [zJ, zF]
theorem keysB_names {B C : List Bnd} (h : zib B = zib C) : B.map (·.name) = C.map (·.name) := by
 have := congrArg (List.map Prod.fst) h
 simpa [zib, List.map_map, Function.comp_def] using this
theorem keys_set (nm : List UInt8) (n : Int) (B : List Bnd) : zib (setB nm n B) = zib B := by
 induction B with
 | nil => rfl
 | cons b r ih =>
  unfold setB
  split
  ·rfl
  ·simp only [zib, List.map_cons] at ih ⊢; rw [ih]
theorem vals_set (nm : List UInt8) (n : Int) (B : List Bnd) : zF (setB nm n B) = setV nm n (zF B) := by
 induction B with
 | nil => rfl
 | cons b r ih =>
  simp only [setB, zF, List.map_cons, setV] at ih ⊢
  split
  ·rename_i h; simp [h]
  ·simp only [List.map_cons]; rw [ih]
theorem lookB_of {nm : List UInt8} {B : List Bnd} (h : nm ∈ B.map (·.name)) : ∃ b, zcd nm B = some b /\ b ∈ B /\ b.name = nm /\ getV nm (zF B) = b.val := by
 induction B with
 | nil => cases h
 | cons b r ih =>
  by_cases hb : b.name = nm
  ·exact ⟨b, by simp [zcd, hb], by simp, hb, by simp [zF, getV, hb]⟩
  ·have : nm ∈ r.map (·.name) := by
    rcases List.mem_cons.1 h with h | h
    ·exact absurd h.symm hb
    ·exact h
   obtain ⟨c, h1, h2, h3, h4⟩ := ih this
   exact ⟨c, by simp [zcd, hb, h1], by simp [h2], h3, by simp only [zF, List.map_cons, getV, hb, if_false] at h4 ⊢; exact h4⟩
theorem lookB_box {B C : List Bnd} (h : zib B = zib C) (nm : List UInt8) : (zcd nm B).map (·.box) = (zcd nm C).map (·.box) := by
 induction B generalizing C with
 | nil =>
  cases C with
  | nil => rfl
  | cons c q => cases h
 | cons b r ih =>
  cases C with
  | nil => cases h
  | cons c q =>
   simp only [zib, List.map_cons, List.cons.injEq, Prod.mk.injEq] at h
   simp only [zcd]
   rw [h.1.1]
   split
   ·simp [h.1.2]
   ·exact ih h.2
def nb (p : Prog) : Nat := p.arrays.length + 2
def strK (es : List (PV × PV)) : Prop := ∀ q ∈ es, ∃ s, q.1 = .str s
structure FR (p : Prog) (T : ze) (m r : Nat) (B : List Bnd) : Prop where
 map : ∃ es, T[r]? = some (.mp es) /\ strK es /\ ∀ x, zV true (.str x) es = some ((zcd x B).map fun b => .ptr (nb p + b.box) 0 0)
 val : ∀ b ∈ B, T[b.box]? = some (boxO b.val) /\ m <= b.box
 nd : (B.map (·.box)).Nodup
 lo : m <= r
def Keep (m : Nat) (ex : Option Nat) (T T' : ze) : Prop := T.length <= T'.length /\ ∀ j, j < T.length -> ex ≠ some j -> T'[j]? = T[j]? \/ (m <= j /\ ∃ a b, T[j]? = some (boxO a) /\ T'[j]? = some (boxO b))
theorem Keep.refl (m : Nat) (ex : Option Nat) (T : ze) : Keep m ex T T := ⟨Nat.le_refl _, fun _ _ _ => .inl rfl⟩
theorem Keep.trans {m : Nat} {ex : Option Nat} {A B C : ze} (h : Keep m ex A B) (k : Keep m ex B C) : Keep m ex A C := by
 refine ⟨Nat.le_trans h.1 k.1, fun j hj he => ?_⟩
 have h1 := h.2 j hj he
 have h2 := k.2 j (by have := h.1; omega) he
 rcases h1 with h1 | ⟨hm, a, b, h1, h1'⟩ <;> rcases h2 with h2 | ⟨hm', c, d, h2, h2'⟩
 ·exact .inl (h2.trans h1)
 ·exact .inr ⟨hm', c, d, by rw [<- h1]; exact h2, h2'⟩
 ·exact .inr ⟨hm, a, b, h1, by rw [h2]; exact h1'⟩
 ·exact .inr ⟨hm, a, d, h1, h2'⟩
theorem Keep.weaken {m : Nat} {ex : Option Nat} {A B : ze} (h : Keep m none A B) : Keep m ex A B := ⟨h.1, fun j hj _ => h.2 j hj (by simp)⟩
theorem zmd {p : Prog} {S : RS} {v : Int} {T : ze} (hS : FitS p S) : (sto p S v T).length = nb p + T.length := by
 simp [sto, rowsO, hS.len, nb]; omega
theorem zVd {p : Prog} {S : RS} {v : Int} {T : ze} (hS : FitS p S) (j : Nat) : (sto p S v T)[nb p + j]? = T[j]? := by
 have : nb p + j = p.arrays.length + j + 2 := by unfold nb; omega
 rw [this]
 simp only [sto, List.getElem?_cons_succ]
 rw [List.getElem?_append_right (by simp [rowsO, hS.len])]
 simp [rowsO, hS.len]
theorem sto_set {p : Prog} {S : RS} {v : Int} {T : ze} (hS : FitS p S) (j : Nat) (o : Obj) : (sto p S v T).set (nb p + j) o = sto p S v (T.set j o) := by
 have : nb p + j = p.arrays.length + j + 2 := by unfold nb; omega
 rw [this]
 simp only [sto, List.set_cons_succ]
 rw [List.set_append_right _ _ (by simp [rowsO, hS.len])]
 simp [rowsO, hS.len]
theorem zCc {p : Prog} {S : RS} {v : Int} {T L : ze} : sto p S v T ++ L = sto p S v (T ++ L) := by simp [sto]
theorem sto_take {p : Prog} {S : RS} {v : Int} {T : ze} (hS : FitS p S) (j : Nat) : (sto p S v T).take (nb p + j) = sto p S v (T.take j) := by
 have : nb p + j = p.arrays.length + j + 2 := by unfold nb; omega
 rw [this]
 simp only [sto, List.take_succ_cons]
 rw [List.take_append, List.take_of_length_le (by simp [rowsO, hS.len])]
 simp [rowsO, hS.len]
theorem arrFrom_below (n : Nat) : ∀ (l : List PArr) (k : Nat), k + l.length <= n -> zad n (zub k l) = true
 | [], _, _ => rfl
 | a :: r, k, h => by
  simp only [List.length_cons] at h
  simp only [zub, zad, below_str, below_mslice, Bool.true_and, Bool.and_eq_true, decide_eq_true_eq]
  exact ⟨by omega, arrFrom_below n r (k + 1) (by omega)⟩
theorem belowL_acc (n : Nat) (l : List Int) : zy n (acc 1 (l.map (PV.int .i64))) = true := by
 cases l with
 | nil => rfl
 | cons x r => simp
theorem sto_wf {p : Prog} {S : RS} {v : Int} {T : ze} (hS : FitS p S) {n : Nat} (hn : nb p <= n) (hT : ze.wf n T = true) : ze.wf n (sto p S v T) = true := by
 unfold ze.wf at hT ⊢
 simp only [sto, List.all_cons, List.all_append, Bool.and_eq_true]
 refine ⟨?_, ?_, ?_, hT⟩
 ·exact arrFrom_below n p.arrays 2 (by unfold nb at hn; omega)
 ·have h0 : 0 < n := by unfold nb at hn; omega
  simp [runO, runCells, Obj.below, belowL_acc, ints, h0]
 ·rw [List.all_eq_true]
  intro o ho
  simp only [rowsO, List.mem_map] at ho
  obtain ⟨l, _, rfl⟩ := ho
  simp [intO, Obj.below]
def outE (q : Rt Int) : CRes := match q with
 | .ok n => .ret (.int .i64 n)
 | .stop k => .pan (endV k)
@[simp] theorem outE_ok (n : Int) : outE (.ok n) = .ret (.int .i64 n) := rfl
@[simp] theorem outE_stop (n : Int) : outE (.stop n) = .pan (endV n) := rfl
def isE (p : Prog) (T : ze) (q : Rt Int × RS) : CRes -> ze -> Prop := fun res st => ∃ v, res = outE q.1 /\ st = sto p q.2 v T
@[simp] theorem isE_ok (p : Prog) (T : ze) (n : Int) (S : RS) (v : Int) : isE p T (.ok n, S) (.ret (.int .i64 n)) (sto p S v T) = True := eq_true ⟨v, rfl, rfl⟩
@[simp] theorem isE_stop (p : Prog) (T : ze) (n : Int) (S : RS) (v : Int) : isE p T (.stop n, S) (.pan (endV n)) (sto p S v T) = True := eq_true ⟨v, rfl, rfl⟩
theorem zXd {p : Prog} {T : ze} {q : Rt Int × RS} {x : Option (CRes × ze)} (h : PC x (isE p T q)) : ∃ v, x = some (outE q.1, sto p q.2 v T) := by
 obtain ⟨r, st, e, v, rfl, rfl⟩ := PC_iff.1 h
 exact ⟨v, e⟩
def howN : How -> Int
 | .on => 0
 | .brk => 1
 | .cont => 2
 | .ret _ => 3
def outH (q : Rt (How × Vs)) : CRes := match q with
 | .ok x => .ret (.int .i64 (howN x.1))
 | .stop k => .pan (endV k)
def WT (p : Prog) (T : ze) : Prop := ze.wf (nb p + T.length) T = true
theorem endV_below (n : Nat) (k : Int) : zy n (endV k) = true := by simp [endV]
structure BkR (p : Prog) (T T' : ze) (m r : Nat) (B : List Bnd) (V1 : Vs) (add : List (List UInt8 × Nat) -> Prop) : Prop where
 env : ∃ B1 a, zF B1 = V1 /\ FR p T' m r B1 /\ zib B1 = a ++ zib B /\ add a
 wt : WT p T'
def isS (p : Prog) (T : ze) (m r : Nat) (B : List Bnd) (q : Rt (How × Vs) × RS) : CRes -> ze -> Prop := fun res st => ∃ v T', res = outH q.1 /\ st = sto p q.2 v T' /\ Keep m (some r) T T' ∧
 ∀ h V1, q.1 = .ok (h, V1) -> (∀ n, h = .ret n -> v = n) /\ BkR p T T' m r B V1 (fun _ => True)
def isBk (p : Prog) (T : ze) (m r : Nat) (B : List Bnd) (q : Rt (How × Vs) × RS) : CRes -> ze -> Prop := fun res st => ∃ v T', res = outH q.1 /\ st = sto p q.2 v T' /\ Keep m none T T' /\ T'.length = T.length ∧
 ∀ h V1, q.1 = .ok (h, V1) -> (∀ n, h = .ret n -> v = n) /\ BkR p T T' m r B V1 (fun a => a = [])
def capE : Nat := 1099508000000
structure SpecE (p : Prog) (w : Nat) : Prop where
 expr : ∀ e S v T m r B, FitS p S -> S.fuel <= w -> okE p (B.map (·.name)) e -> wtE e < capE -> FR p T m r B -> WT p T →
  PC (zi E 143 [.ptr 1 0 0, zw e, .mp (nb p + r)] (sto p S v T)) (isE p T ((evF p w).expr e (zF B) S))
structure SpecS (p : Prog) (w : Nat) : Prop where
 stmt : ∀ s S v T m r B loop, FitS p S -> S.fuel <= w -> okS p (B.map (·.name)) loop s -> wtS s < capE -> FR p T m r B -> WT p T →
  PC (zi E 120 [.ptr 1 0 0, zda s, .mp (nb p + r)] (sto p S v T)) (isS p T m r B ((evF p w).stmt s (zF B) S))
theorem FR.look {p : Prog} {T : ze} {m r : Nat} {B : List Bnd} (h : FR p T m r B) {nm : List UInt8} (hn : nm ∈ B.map (·.name)) : ∃ es b, T[r]? = some (.mp es) /\ zV true (.str nm) es = some (some (.ptr (nb p + b.box) 0 0)) /\ T[b.box]? = some (boxO (getV nm (zF B))) /\ zcd nm B = some b := by
 obtain ⟨es, h1, _, h2⟩ := h.map
 obtain ⟨b, b1, b2, b3, b4⟩ := lookB_of hn
 refine ⟨es, b, h1, ?_, ?_, b1⟩
 ·rw [h2, b1]; rfl
 ·rw [b4]; exact (h.val b b2).1
theorem FR.lt {p : Prog} {T : ze} {m r : Nat} {B : List Bnd} (h : FR p T m r B) : r < T.length := by
 obtain ⟨es, h1, _⟩ := h.map
 exact (List.getElem?_eq_some_iff.1 h1).1
end PE.U
