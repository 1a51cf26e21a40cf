/-
  Texts joined by program: AZT6, AZT7, AZT8, AZT9, AZR1, AZR2, AZR3, AZR4, AZT10, AZT11, AZR5, AZR6, AZP21, AZP22, AZP23, AZP24, AZP25, AZP26, AZP27, AZP28, AZP29, AZT14, AZT15, AZT12, AZT13, AZT16, AZR7.
-/
import Derived.Test.YtgackhdkmnbbfaaGreatB04
set_option linter.unusedVariables false
set_option linter.unusedSectionVars false
set_option linter.unusedSimpArgs false
/-
  Types of expressions.
-/
namespace PE.U
open Go PE

def funcAt (p : Prog) (nm : List UInt8) : Option Func := p.funcs.find? fun f : Func => decide (f.name = nm)
def hasArr (p : Prog) (nm : List UInt8) : Bool := p.arrays.any fun a : PArr => decide (a.name = nm)

def namedT (p : Prog) (s : List Vr) (k : Int) (nm : List UInt8) (a : Nat) : Int :=
  if k = 3 then (if findV s nm = [] then 50 else 0)
  else if k = 6 then (if hasArr p nm then 0 else 50)
  else if k = 7 then (match funcAt p nm with
    | none => 50
    | some f => if f.params.length = a then 0 else 51)
  else 0

/-- How much there is in a program, as the types' rules need it. -/
structure Fit (p : Prog) : Prop where
  a : p.arrays.length < 1099509000000
  f : p.funcs.length < 1099509000000
  p : ∀ f ∈ p.funcs, f.params.length < 1099509000000

theorem namedT_spec (p : Prog) (s : List Vr) (e : Expr) (σ : Store) (hz : Fit p) (hw : wtE e < 1099510000000) : pcall E 83 [encProg p, encVs s, encExpr e] σ = some (.ret (.int .i64 (namedT p s e.kind e.name e.args.length)), σ) := by
  have hla := len_wtEs e.args
  rw [wtE_eq] at hw
  refine pcall_wp rfl rfl rfl (by simp [encProg, encExpr_eq]) ?_
  unfold namedT
  by_cases k3 : e.kind = 3
  · replace k3 := eqp k3
    have h1 := find_spec s e.name σ
    have h2 := fine_spec (!decide (findV s e.name = [])) 50 []
    by_cases hn : findV s e.name = []
    · replace hn := eqp hn
      simp [hn] at h2
      (simp [*, F83, encProg, encExpr_eq]) <;> (repeat' (first | ((first | refine sP _ ?_ ?_ | refine gP _ ?_ ?_ | refine sN _ ?_ ?_ | refine gN _ ?_ ?_) <;> intro hc <;> (first | replace hc := eqn hc | replace hc := eqp hc) <;> simp [*, F83, encProg, encExpr_eq]) | ((first | refine sM _ ?_ ?_ | refine gM _ ?_ ?_ | refine sB _ ?_ ?_ | refine gB _ ?_ ?_) <;> intro hc <;> simp [*, F83, encProg, encExpr_eq])))
    · replace hn := eqn hn
      simp [hn] at h2
      (simp [*, F83, encProg, encExpr_eq]) <;> (repeat' (first | ((first | refine sP _ ?_ ?_ | refine gP _ ?_ ?_ | refine sN _ ?_ ?_ | refine gN _ ?_ ?_) <;> intro hc <;> (first | replace hc := eqn hc | replace hc := eqp hc) <;> simp [*, F83, encProg, encExpr_eq]) | ((first | refine sM _ ?_ ?_ | refine gM _ ?_ ?_ | refine sB _ ?_ ?_ | refine gB _ ?_ ?_) <;> intro hc <;> simp [*, F83, encProg, encExpr_eq])))
  replace k3 := eqn k3
  by_cases k6 : e.kind = 6
  · replace k6 := eqp k6
    have h1 := array_spec p e.name [] (by have := hz.a; omega)
    have h3 := idx_ge (fun f : PArr => decide (f.name = e.name)) p.arrays
    have h2 := fine_spec (hasArr p e.name) 50 []
    have h4 : decide (0 ≤ arrayM p e.name) = hasArr p e.name := h3
    simp [encProg] at h1
    generalize hasArr p e.name = b at *
    clear h3
    cases b
    · simp at h2 h4
      replace h4 : (0 ≤ arrayM p e.name) = False := by simpa using h4
      (simp [*, F83, encProg, encExpr_eq]) <;> (repeat' (first | ((first | refine sP _ ?_ ?_ | refine gP _ ?_ ?_ | refine sN _ ?_ ?_ | refine gN _ ?_ ?_) <;> intro hc <;> (first | replace hc := eqn hc | replace hc := eqp hc) <;> simp [*, F83, encProg, encExpr_eq]) | ((first | refine sM _ ?_ ?_ | refine gM _ ?_ ?_ | refine sB _ ?_ ?_ | refine gB _ ?_ ?_) <;> intro hc <;> simp [*, F83, encProg, encExpr_eq])))
    · simp at h2 h4
      replace h4 : (0 ≤ arrayM p e.name) = True := by simpa using h4
      (simp [*, F83, encProg, encExpr_eq]) <;> (repeat' (first | ((first | refine sP _ ?_ ?_ | refine gP _ ?_ ?_ | refine sN _ ?_ ?_ | refine gN _ ?_ ?_) <;> intro hc <;> (first | replace hc := eqn hc | replace hc := eqp hc) <;> simp [*, F83, encProg, encExpr_eq]) | ((first | refine sM _ ?_ ?_ | refine gM _ ?_ ?_ | refine sB _ ?_ ?_ | refine gB _ ?_ ?_) <;> intro hc <;> simp [*, F83, encProg, encExpr_eq])))
  replace k6 := eqn k6
  by_cases k7 : e.kind = 7
  · replace k7 := eqp k7
    have h1 := place_spec p e.name [] (by have := hz.f; omega)
    simp [encProg, funcs] at h1
    rcases idx_cases (fun f : Func => decide (f.name = e.name)) p.funcs with ⟨a1, a2⟩ | ⟨n, f, a1, a2, a3, a4, a5⟩
    · have a1 : placeM p e.name = -1 := a1
      have a2 : funcAt p e.name = none := a2
      rw [a1] at h1
      (simp [*, F83, encProg, encExpr_eq, funcs]) <;> (repeat' (first | ((first | refine sP _ ?_ ?_ | refine gP _ ?_ ?_ | refine sN _ ?_ ?_ | refine gN _ ?_ ?_) <;> intro hc <;> (first | replace hc := eqn hc | replace hc := eqp hc) <;> simp [*, F83, encProg, encExpr_eq, funcs]) | ((first | refine sM _ ?_ ?_ | refine gM _ ?_ ?_ | refine sB _ ?_ ?_ | refine gB _ ?_ ?_) <;> intro hc <;> simp [*, F83, encProg, encExpr_eq, funcs])))
    · have a1 : placeM p e.name = n := a1
      have a3 : funcAt p e.name = some f := a3
      rw [a1] at h1
      have hp := hz.p f (List.mem_of_getElem? a2)
      have hf := hz.f
      have n0 : ¬ ((n : Int) < 0) := by omega
      have hlen : decide ((f.params.length : Int) = e.args.length) = decide (f.params.length = e.args.length) := by rw [decide_eq_decide]; omega
      have h2 := fine_spec (decide (f.params.length = e.args.length)) 51 []
      by_cases hq : f.params.length = e.args.length
      · replace hq := eqp hq
        simp [hq] at h2 hlen
        replace hlen := eqp hlen
        clear a5 a4 a1
        (simp [*, F83, encProg, encExpr_eq, funcs, exprs, encFunc, parsV]) <;> (repeat' (first | ((first | refine sP _ ?_ ?_ | refine gP _ ?_ ?_ | refine sN _ ?_ ?_ | refine gN _ ?_ ?_) <;> intro hc <;> (first | replace hc := eqn hc | replace hc := eqp hc) <;> simp [*, F83, encProg, encExpr_eq, funcs, exprs, encFunc, parsV]) | ((first | refine sM _ ?_ ?_ | refine gM _ ?_ ?_ | refine sB _ ?_ ?_ | refine gB _ ?_ ?_) <;> intro hc <;> simp [*, F83, encProg, encExpr_eq, funcs, exprs, encFunc, parsV])))
      · replace hq := eqn hq
        simp [hq] at h2 hlen
        replace hlen : ((f.params.length : Int) = e.args.length) = False := by simpa using hlen
        clear a5 a4 a1
        (simp [*, F83, encProg, encExpr_eq, funcs, exprs, encFunc, parsV]) <;> (repeat' (first | ((first | refine sP _ ?_ ?_ | refine gP _ ?_ ?_ | refine sN _ ?_ ?_ | refine gN _ ?_ ?_) <;> intro hc <;> (first | replace hc := eqn hc | replace hc := eqp hc) <;> simp [*, F83, encProg, encExpr_eq, funcs, exprs, encFunc, parsV]) | ((first | refine sM _ ?_ ?_ | refine gM _ ?_ ?_ | refine sB _ ?_ ?_ | refine gB _ ?_ ?_) <;> intro hc <;> simp [*, F83, encProg, encExpr_eq, funcs, exprs, encFunc, parsV])))
  replace k7 := eqn k7
  (simp [*, F83, encProg, encExpr_eq]) <;> (repeat' (first | ((first | refine sP _ ?_ ?_ | refine gP _ ?_ ?_ | refine sN _ ?_ ?_ | refine gN _ ?_ ?_) <;> intro hc <;> (first | replace hc := eqn hc | replace hc := eqp hc) <;> simp [*, F83, encProg, encExpr_eq]) | ((first | refine sM _ ?_ ?_ | refine gM _ ?_ ?_ | refine sB _ ?_ ?_ | refine gB _ ?_ ?_) <;> intro hc <;> simp [*, F83, encProg, encExpr_eq])))

theorem param_eq_spec (t : Int) (p : Par) (σ : Store) : pcall E 96 [.int .i64 t, encPar p] σ = some (.ret (.bool (decide (t = p.type))), σ) := by
  refine pcall_wp rfl rfl rfl (by simp [encPar]) ?_
  simp [F96, encPar]

theorem types_eq {l : List Int} {ps : List Par} (h : l.length = ps.length) : decide (l = ps.map (·.type)) = (l.zip ps).all fun x => decide (x.1 = x.2.type) := by
  induction l generalizing ps with
  | nil => cases ps <;> simp at h ⊢
  | cons x r ih =>
    cases ps with
    | nil => simp at h
    | cons y q =>
      simp at h
      simp only [List.zip_cons_cons, List.all_cons, ← ih h, List.map_cons, List.cons.injEq, Bool.decide_and]

theorem equal_spec (l : List Int) (ps : List Par) (σ : Store) (hl : ps.length < 1099511000000) : pcall E 95 [.slice .plain 1 (l.map (PV.int .i64)), parsV ps, .fn 96 [] []] σ = some (.ret (.bool (decide (l = ps.map (·.type)))), σ) := by
  refine pcall_wp rfl rfl rfl (by simp [parsV]) ?_
  by_cases hlen : l.length = ps.length
  · have he := types_eq hlen
    rw [he]
    have hleni : ((l.length : Int) = ps.length) = True := eqp (by omega)
    simp [F95, parsV, hleni]
    clear he hleni
    refine wp_each (l.zip ps) K95_0 B95_0 (fun d => [(17, .int .i64 d.length)]) (fun _ => σ) (fun d => (d.all fun x => decide (x.1 = x.2.type)) = true) (by simp; omega) (by simp) ?_ ?_
    · intros d x r s1 hl' hlt hget hget' hw hp h1 h2 h3 h4
      simp at h1 h2 h3
      have hz : (l.zip ps)[d.length]? = some x := hget
      rw [List.getElem?_zip_eq_some] at hz
      obtain ⟨z1, z2⟩ := hz
      obtain ⟨x1, x2⟩ := x
      simp only at z1 z2
      have hc := param_eq_spec x1 x2 σ
      simp [encPar] at hc
      have hz2 : (l.zip ps).length = l.length := by simp [hlen]
      have hlt' : (d.length : Int) < ps.length := by rw [hz2] at hlt; omega
      clear hget' hlt hz2
      by_cases hx : x1 = x2.type
      · replace hp : ((d ++ [(x1, x2)]).all fun x => decide (x.1 = x.2.type)) = true := by rw [List.all_append, hp]; simp [hx]
        replace hx := eqp hx
        clear hl' hget
        simp [*, encPar]
        all_goals (try grind)
      · have hf : ((l.zip ps).all fun x => decide (x.1 = x.2.type)) = false := by rw [hl'.eq]; simp [hx]
        replace hx := eqn hx
        clear hl' hget hp
        simp [*, encPar]
        all_goals (try grind)
    · intros s1 hp h1 h2 h3 h4
      simp at h1 h2 h3
      have hz2 : (l.zip ps).length = l.length := by simp [hlen]
      simp [*]
      all_goals (try grind)
  · have hq : ¬ (l = ps.map (·.type)) := by intro h; apply hlen; rw [h]; simp
    have hleni : ((l.length : Int) = ps.length) = False := eqn (by omega)
    replace hq := eqn hq
    simp [*, F95, parsV]

def at0 (l : List Int) : Int := l[0]?.getD 0
def at1 (l : List Int) : Int := l[1]?.getD 0
def madeT (p : Prog) (s : List Vr) (k o : Int) (nm : List UInt8) (l : List Int) : Int × Bool :=
  if k = 2 then (2, true)
  else if k = 3 then (((findV s nm).head?.map (·.type)).getD 0, true)
  else if k = 6 then (1, decide (at0 l = 1))
  else if k = 4 then takesT o (at0 l)
  else if k = 5 then ((takesT o (at0 l)).1, (takesT o (at0 l)).2 && decide (at0 l = at1 l))
  else if k = 7 then (match funcAt p nm with
    | none => (0, false)
    | some f => (f.type, decide (l = f.params.map (·.type))))
  else (1, true)

set_option maxHeartbeats 4000000 in
theorem madeT_spec (p : Prog) (s : List Vr) (e : Expr) (l : List Int) (σ : Store) (hz : Fit p) (h0 : namedT p s e.kind e.name e.args.length = 0) (hk : kindR e.kind e.op e.n e.name l.length = true) : pcall E 85 [encProg p, encVs s, encExpr e, .slice .plain 1 (l.map (PV.int .i64))] σ = some (.ret (.tup [.int .i64 (madeT p s e.kind e.op e.name l).1, .bool (madeT p s e.kind e.op e.name l).2]), σ) := by
  refine pcall_wp rfl rfl rfl (by simp [encProg, encExpr_eq]) ?_
  unfold madeT
  by_cases k2 : e.kind = 2
  · replace k2 := eqp k2
    clear h0 hk
    (simp [*, F85, encProg, encExpr_eq]) <;> (repeat' (first | ((first | refine sP _ ?_ ?_ | refine gP _ ?_ ?_ | refine sN _ ?_ ?_ | refine gN _ ?_ ?_) <;> intro hc <;> (first | replace hc := eqn hc | replace hc := eqp hc) <;> simp [*, F85, encProg, encExpr_eq]) | ((first | refine sM _ ?_ ?_ | refine gM _ ?_ ?_ | refine sB _ ?_ ?_ | refine gB _ ?_ ?_) <;> intro hc <;> simp [*, F85, encProg, encExpr_eq])))
  by_cases k3 : e.kind = 3
  · have h1 := find_spec s e.name σ
    have hn : ¬ findV s e.name = [] := by
      intro h; unfold namedT at h0; rw [if_pos k3, if_pos h] at h0; exact absurd h0 (by decide)
    obtain ⟨v, r, hv⟩ := List.exists_cons_of_ne_nil hn
    rw [hv, encVs_cons] at h1
    replace k2 := eqn k2
    replace k3 := eqp k3
    clear h0 hk hn
    (simp [*, F85, encProg, encExpr_eq]) <;> (repeat' (first | ((first | refine sP _ ?_ ?_ | refine gP _ ?_ ?_ | refine sN _ ?_ ?_ | refine gN _ ?_ ?_) <;> intro hc <;> (first | replace hc := eqn hc | replace hc := eqp hc) <;> simp [*, F85, encProg, encExpr_eq]) | ((first | refine sM _ ?_ ?_ | refine gM _ ?_ ?_ | refine sB _ ?_ ?_ | refine gB _ ?_ ?_) <;> intro hc <;> simp [*, F85, encProg, encExpr_eq])))
  by_cases k6 : e.kind = 6
  · have hl : l.length = 1 := by
      unfold kindR at hk; simp [k2, k3, k6] at hk; exact hk.2.2
    obtain ⟨x, rfl⟩ := List.length_eq_one_iff.1 hl
    replace k2 := eqn k2
    replace k3 := eqn k3
    replace k6 := eqp k6
    clear h0 hk hl
    (simp [*, F85, encProg, encExpr_eq, at0]) <;> (repeat' (first | ((first | refine sP _ ?_ ?_ | refine gP _ ?_ ?_ | refine sN _ ?_ ?_ | refine gN _ ?_ ?_) <;> intro hc <;> (first | replace hc := eqn hc | replace hc := eqp hc) <;> simp [*, F85, encProg, encExpr_eq, at0]) | ((first | refine sM _ ?_ ?_ | refine gM _ ?_ ?_ | refine sB _ ?_ ?_ | refine gB _ ?_ ?_) <;> intro hc <;> simp [*, F85, encProg, encExpr_eq, at0])))
  by_cases k4 : e.kind = 4
  · have hl : l.length = 1 := by
      unfold kindR at hk; simp [k2, k3, k6, k4] at hk; exact hk.2.2.2
    obtain ⟨x, rfl⟩ := List.length_eq_one_iff.1 hl
    have ht := takes_spec e.op x []
    replace k2 := eqn k2
    replace k3 := eqn k3
    replace k6 := eqn k6
    replace k4 := eqp k4
    clear h0 hk hl
    (simp [*, F85, encProg, encExpr_eq, at0]) <;> (repeat' (first | ((first | refine sP _ ?_ ?_ | refine gP _ ?_ ?_ | refine sN _ ?_ ?_ | refine gN _ ?_ ?_) <;> intro hc <;> (first | replace hc := eqn hc | replace hc := eqp hc) <;> simp [*, F85, encProg, encExpr_eq, at0]) | ((first | refine sM _ ?_ ?_ | refine gM _ ?_ ?_ | refine sB _ ?_ ?_ | refine gB _ ?_ ?_) <;> intro hc <;> simp [*, F85, encProg, encExpr_eq, at0])))
  by_cases k5 : e.kind = 5
  · have hl : l.length = 2 := by
      unfold kindR at hk; simp [k2, k3, k6, k4, k5] at hk; exact hk.2.2.2
    obtain ⟨x, y, rfl⟩ : ∃ x y, l = [x, y] := by
      match l, hl with
      | [x, y], _ => exact ⟨x, y, rfl⟩
    have ht := takes_spec e.op x []
    replace k2 := eqn k2
    replace k3 := eqn k3
    replace k6 := eqn k6
    replace k4 := eqn k4
    replace k5 := eqp k5
    clear h0 hk hl
    (simp [*, F85, encProg, encExpr_eq, at0, at1]) <;> (repeat' (first | ((first | refine sP _ ?_ ?_ | refine gP _ ?_ ?_ | refine sN _ ?_ ?_ | refine gN _ ?_ ?_) <;> intro hc <;> (first | replace hc := eqn hc | replace hc := eqp hc) <;> simp [*, F85, encProg, encExpr_eq, at0, at1]) | ((first | refine sM _ ?_ ?_ | refine gM _ ?_ ?_ | refine sB _ ?_ ?_ | refine gB _ ?_ ?_) <;> intro hc <;> simp [*, F85, encProg, encExpr_eq, at0, at1])))
  by_cases k7 : e.kind = 7
  · have h1 := place_spec p e.name [] (by have := hz.f; omega)
    simp [encProg, funcs] at h1
    rcases idx_cases (fun f : Func => decide (f.name = e.name)) p.funcs with ⟨a1, a2⟩ | ⟨n, f, a1, a2, a3, a4, a5⟩
    · have a2 : funcAt p e.name = none := a2
      unfold namedT at h0
      rw [if_neg k3, if_neg k6, if_pos k7, a2] at h0
      exact absurd h0 (by simp)
    · have a1 : placeM p e.name = n := a1
      have a3 : funcAt p e.name = some f := a3
      rw [a1] at h1
      have hq := equal_spec l f.params σ (by have := hz.p f (List.mem_of_getElem? a2); omega)
      simp [parsV] at hq
      have n0 : ¬ ((n : Int) < 0) := by omega
      replace k2 := eqn k2
      replace k3 := eqn k3
      replace k6 := eqn k6
      replace k4 := eqn k4
      replace k5 := eqn k5
      replace k7 := eqp k7
      clear h0 hk a5 a4 a1
      (simp [*, F85, encProg, encExpr_eq, funcs, encFunc, parsV, stmts]) <;> (repeat' (first | ((first | refine sP _ ?_ ?_ | refine gP _ ?_ ?_ | refine sN _ ?_ ?_ | refine gN _ ?_ ?_) <;> intro hc <;> (first | replace hc := eqn hc | replace hc := eqp hc) <;> simp [*, F85, encProg, encExpr_eq, funcs, encFunc, parsV, stmts]) | ((first | refine sM _ ?_ ?_ | refine gM _ ?_ ?_ | refine sB _ ?_ ?_ | refine gB _ ?_ ?_) <;> intro hc <;> simp [*, F85, encProg, encExpr_eq, funcs, encFunc, parsV, stmts])))
  replace k2 := eqn k2
  replace k3 := eqn k3
  replace k6 := eqn k6
  replace k4 := eqn k4
  replace k5 := eqn k5
  replace k7 := eqn k7
  clear h0 hk
  (simp [*, F85, encProg, encExpr_eq]) <;> (repeat' (first | ((first | refine sP _ ?_ ?_ | refine gP _ ?_ ?_ | refine sN _ ?_ ?_ | refine gN _ ?_ ?_) <;> intro hc <;> (first | replace hc := eqn hc | replace hc := eqp hc) <;> simp [*, F85, encProg, encExpr_eq]) | ((first | refine sM _ ?_ ?_ | refine gM _ ?_ ?_ | refine sB _ ?_ ?_ | refine gB _ ?_ ?_) <;> intro hc <;> simp [*, F85, encProg, encExpr_eq])))

mutual
def exprT (p : Prog) (s : List Vr) : Expr → Int × Int
  | ⟨k, o, n, nm, a⟩ =>
    if namedT p s k nm a.length ≠ 0 then (0, namedT p s k nm a.length)
    else if (argsT p s a).2 ≠ 0 then (0, (argsT p s a).2)
    else if (madeT p s k o nm (argsT p s a).1).2 then ((madeT p s k o nm (argsT p s a).1).1, 0) else (0, 51)
def argsT (p : Prog) (s : List Vr) : List Expr → List Int × Int
  | [] => ([], 0)
  | x :: r => if (exprT p s x).2 ≠ 0 then ([], (exprT p s x).2) else if (argsT p s r).2 ≠ 0 then ([], (argsT p s r).2) else ((exprT p s x).1 :: (argsT p s r).1, 0)
end
theorem exprT_eq (p : Prog) (s : List Vr) (e : Expr) : exprT p s e = if namedT p s e.kind e.name e.args.length ≠ 0 then (0, namedT p s e.kind e.name e.args.length)
    else if (argsT p s e.args).2 ≠ 0 then (0, (argsT p s e.args).2)
    else if (madeT p s e.kind e.op e.name (argsT p s e.args).1).2 then ((madeT p s e.kind e.op e.name (argsT p s e.args).1).1, 0) else (0, 51) := by
  cases e; rw [exprT]
theorem argsT_len (p : Prog) (s : List Vr) : ∀ l, (argsT p s l).2 = 0 → (argsT p s l).1.length = l.length
  | [], _ => by simp [argsT]
  | x :: r, h => by
    simp only [argsT] at h ⊢
    split at h
    · rename_i h1; exact absurd h h1
    rename_i h1
    rw [if_neg h1]
    split at h
    · rename_i h2; exact absurd h h2
    rename_i h2
    rw [if_neg h2]
    simp only [List.length_cons]
    rw [argsT_len p s r (by simpa using h2)]
theorem argsT_pre (p : Prog) (s : List Vr) (x : Expr) (r : List Expr) : ∀ d, (argsT p s d).2 = 0 →
    ((exprT p s x).2 ≠ 0 → argsT p s (d ++ x :: r) = ([], (exprT p s x).2)) ∧ ((exprT p s x).2 = 0 → argsT p s (d ++ [x]) = ((argsT p s d).1 ++ [(exprT p s x).1], 0))
  | [], h => by
    constructor
    · intro hx; simp [argsT, hx]
    · intro hx; simp [argsT, hx]
  | y :: d, h => by
    simp only [argsT] at h
    split at h
    · rename_i h1; exact absurd h h1
    rename_i h1
    split at h
    · rename_i h2; exact absurd h h2
    rename_i h2
    obtain ⟨i1, i2⟩ := argsT_pre p s x r d (by simpa using h2)
    constructor
    · intro hx
      have := i1 hx
      simp only [List.cons_append, argsT]
      rw [if_neg h1, this]
      simp [hx]
    · intro hx
      have := i2 hx
      simp only [List.cons_append, argsT]
      rw [if_neg h1, if_neg h2, this, if_neg h1]
      simp

def encTR (r : Int × Int) : PV := .tup [.int .i64 r.1, .int .i64 r.2]

set_option maxHeartbeats 4000000 in
theorem targs_of (p : Prog) (s : List Vr) (e : Expr) (m : Int) (σ : Store) (hz : Fit p) (hw : wtE e < 1099510000000) (hm : exprsR e.args m = true)
    (IH : ∀ x ∈ e.args, ∀ m, exprR x m = true → pcall E 66 [encProg p, encVs s, encExpr x] σ = some (.ret (encTR (exprT p s x)), σ)) :
    pcall E 84 [encProg p, encVs s, encExpr e] σ = some (.ret (.tup [.slice .plain 1 ((argsT p s e.args).1.map (PV.int .i64)), .int .i64 (argsT p s e.args).2]), σ) := by
  have hla := len_wtEs e.args
  rw [wtE_eq] at hw
  refine pcall_wp rfl rfl rfl (by simp [encProg, encExpr_eq]) ?_
  simp [F84, encProg, encExpr_eq, exprs]
  refine wp_each e.args K84_0 B84_0 (fun d => [(6, acc 1 ((argsT p s d).1.map (PV.int .i64))), (15, .int .i64 d.length)]) (fun _ => σ) (fun d => (argsT p s d).2 = 0) (by omega) (by simp [argsT]) ?_ ?_
  · intros d x r s1 hl' hlt hget hget' hw1 hp h1 h2 h3 h4
    have hx : exprR x (m - 1) = true := by
      rw [exprsR_all, List.all_eq_true] at hm
      have := hm x hl'.mem
      simp at this; exact this.2
    have ih := IH x hl'.mem _ hx
    have hlen := argsT_len p s d hp
    obtain ⟨f1, f2⟩ := argsT_pre p s x r d hp
    rw [← hl'.eq] at f1
    clear IH hm hx hl'
    simp [encTR, encProg] at ih
    rw [encExpr_eq] at ih
    simp [exprs] at ih
    simp at h1 h2 h3
    have hroom : (d.length + 1) * 8 ≤ roomMax := by simp only [roomMax]; omega
    generalize exprT p s x = q at *
    obtain ⟨t, f⟩ := q
    simp only at ih f1 f2
    by_cases hf : f = 0
    · subst hf
      have f2 := f2 rfl
      clear f1
      simp [*, encExpr_eq, exprs]
      all_goals (try grind)
    · have f1 := f1 hf
      clear f2
      replace hf := eqn hf
      simp [*, encExpr_eq, exprs]
  · intros s1 hp h1 h2 h3 h4
    simp at h1 h2 h3
    clear IH hm
    simp [*]

theorem type_spec' : ∀ w (p : Prog) (s : List Vr) (e : Expr) (m : Int) (σ : Store), Fit p → wtE e ≤ w → w < 1099510000000 → exprR e m = true → pcall E 66 [encProg p, encVs s, encExpr e] σ = some (.ret (encTR (exprT p s e)), σ)
  | 0, p, s, e, m, σ, _, h, _, _ => by rw [wtE_eq] at h; omega
  | w + 1, p, s, e, m, σ, hz, h, hw, hR => by
    rw [exprR_eq, Bool.and_eq_true] at hR
    obtain ⟨hm, hk⟩ := hR
    have ha := targs_of p s e m σ hz (by omega) hm (fun x hx m' hm' => type_spec' w p s x m' σ hz (by have := wtE_mem hx; rw [wtE_eq] at h; omega) (by omega) hm')
    have hn := namedT_spec p s e σ hz (by omega)
    have hmd := madeT_spec p s e (argsT p s e.args).1 σ hz
    have hlen := argsT_len p s e.args
    refine pcall_wp rfl rfl rfl (by simp [encProg, encExpr_eq]) ?_
    rw [exprT_eq]
    generalize namedT p s e.kind e.name e.args.length = f at *
    by_cases hf : f = 0
    · replace hmd := hmd hf
      subst hf
      generalize argsT p s e.args = q at *
      obtain ⟨l, g⟩ := q
      simp only at ha hmd hlen ⊢
      by_cases hg : g = 0
      · subst hg
        rw [← hlen rfl] at hk
        replace hmd := hmd hk
        generalize madeT p s e.kind e.op e.name l = r at *
        obtain ⟨t, ok⟩ := r
        simp only at hmd ⊢
        clear hlen hk hm h
        rw [encExpr_eq] at ha hn hmd
        simp [encProg, exprs] at ha hn hmd
        cases ok <;> simp [*, F66, encProg, encExpr_eq, exprs, encTR]
      · clear hmd hlen hk hm h
        replace hg := eqn hg
        rw [encExpr_eq] at ha hn
        simp [encProg, exprs] at ha hn
        simp [*, F66, encProg, encExpr_eq, exprs, encTR]
    · clear hmd hlen hk hm h ha
      replace hf := eqn hf
      rw [encExpr_eq] at hn
      simp [encProg, exprs] at hn
      simp [*, F66, encProg, encExpr_eq, exprs, encTR]
theorem type_spec (p : Prog) (s : List Vr) (e : Expr) (m : Int) (σ : Store) (hz : Fit p) (hw : wtE e < 1099510000000) (hR : exprR e m = true) : pcall E 66 [encProg p, encVs s, encExpr e] σ = some (.ret (encTR (exprT p s e)), σ) :=
  type_spec' (wtE e) p s e m σ hz (Nat.le_refl _) hw hR
end PE.U

/-
  Types: whether statements end.
-/
namespace PE.U
open Go PE

def e0 : Expr := ⟨0, 0, 0, [], []⟩
def arg0 (l : List Expr) : Expr := l[0]?.getD e0
def arg1 (l : List Expr) : Expr := l[1]?.getD e0

mutual
def leaves1 : Stmt → Bool
  | ⟨k, _, _, _, th, el⟩ => decide (k = 6) || (decide (k = 4) && (leavesT th || leavesT el))
def leavesT : List Stmt → Bool
  | [] => false
  | x :: r => leaves1 x || leavesT r
end
theorem leaves1_eq (s : Stmt) : leaves1 s = (decide (s.kind = 6) || (decide (s.kind = 4) && (leavesT s.thn || leavesT s.els))) := by cases s; rw [leaves1]
theorem leavesT_any (l : List Stmt) : leavesT l = l.any leaves1 := by
  induction l with
  | nil => rfl
  | cons x r ih => rw [leavesT, ih]; rfl

mutual
def ends1 : Stmt → Bool
  | ⟨k, _, _, a, th, el⟩ => if k = 8 then true else if k = 4 then endsT th && endsT el else if k = 5 then (decide ((arg0 a).kind = 2) && decide ((arg0 a).n = 1)) && !leavesT th else false
def endsT : List Stmt → Bool
  | [] => false
  | x :: r => ends1 x || endsT r
end
theorem ends1_eq (s : Stmt) : ends1 s = if s.kind = 8 then true else if s.kind = 4 then endsT s.thn && endsT s.els else if s.kind = 5 then (decide ((arg0 s.args).kind = 2) && decide ((arg0 s.args).n = 1)) && !leavesT s.thn else false := by cases s; rw [ends1]
theorem endsT_any (l : List Stmt) : endsT l = l.any ends1 := by
  induction l with
  | nil => rfl
  | cons x r ih => rw [endsT, ih]; rfl

theorem stmtsR_all (l : List Stmt) (m : Int) : stmtsR l m = l.all fun x => stmtR x m := by
  induction l with
  | nil => rfl
  | cons x r ih => simp [stmtsR, ih]

/-- What a statement that may be has. -/
theorem stmtR_has {s : Stmt} {m : Int} (h : stmtR s m = true) : (s.args.length : Int) = (shapeR s.kind).2.2.1 ∧ (∀ x ∈ s.args, exprR x 100 = true) ∧ stmtsR s.thn (m - 1) = true ∧ stmtsR s.els (m - 1) = true := by
  rw [stmtR_eq] at h
  simp only [Bool.and_eq_true] at h
  obtain ⟨h1, h2, h3, h4, h5, h6⟩ := h
  refine ⟨?_, ?_, h5, h6⟩
  · unfold headR at h1
    simp at h1
    exact h1.2.1
  · unfold argsR at h2
    rw [List.all_eq_true] at h2
    exact h2

theorem leaves_spec' : ∀ w (l : List Stmt), wtSs l ≤ w → w < 1099508500000 → pcall E 30 [stmts l] [] = some (.ret (.bool (leavesT l)), [])
  | 0, l, h, hw => by
    have hl : l = [] := by
      have := len_wtSs l
      exact List.eq_nil_of_length_eq_zero (by omega)
    subst hl
    refine pcall_wp rfl rfl rfl (by simp [stmts]) ?_
    have hc := containsFuncStmt [] (fun _ => true) 65 [] [] [] (by simp) (by simp) (by simp)
    simp at hc
    simp [*, F30, stmts, leavesT]
  | w + 1, l, h, hw => by
    have hlen := len_wtSs l
    refine pcall_wp rfl rfl rfl (by simp [stmts]) ?_
    have hcl : ∀ x ∈ l, pcall E 65 ([] ++ [encStmt x] ++ []) [] = some (.ret (.bool (leaves1 x)), []) := by
      intro x hx
      have hwx := wtS_mem hx
      rw [wtS_eq] at hwx
      have i1 := leaves_spec' w x.thn (by omega) (by omega)
      have i2 := leaves_spec' w x.els (by omega) (by omega)
      rw [leaves1_eq]
      clear hwx hx h hlen
      refine pcall_wp rfl rfl rfl (by simp [encStmt_eq]) ?_
      simp [stmts] at i1 i2
      generalize leavesT x.thn = b1 at *
      generalize leavesT x.els = b2 at *
      by_cases k6 : x.kind = 6
      · replace k6 := eqp k6
        simp [*, F65, encStmt_eq, exprs, stmts]
      · replace k6 := eqn k6
        by_cases k4 : x.kind = 4
        · replace k4 := eqp k4
          cases b1 <;> simp [*, F65, encStmt_eq, exprs, stmts]
        · replace k4 := eqn k4
          simp [*, F65, encStmt_eq, exprs, stmts]
    have hc := containsFuncStmt l leaves1 65 [] [] [] (by omega) (by simp) hcl
    rw [← leavesT_any] at hc
    clear hcl h hlen
    simp [*, F30, stmts]
theorem leaves_spec (l : List Stmt) (h : wtSs l < 1099508000000) : pcall E 30 [stmts l] [] = some (.ret (.bool (leavesT l)), []) := leaves_spec' (wtSs l) l (Nat.le_refl _) (by omega)

set_option maxHeartbeats 1000000 in
theorem ends_spec' : ∀ w (l : List Stmt) (m : Int), wtSs l ≤ w → w < 1099508000000 → stmtsR l m = true → pcall E 11 [stmts l] [] = some (.ret (.bool (endsT l)), [])
  | 0, l, m, h, hw, _ => by
    have hl : l = [] := by
      have := len_wtSs l
      exact List.eq_nil_of_length_eq_zero (by omega)
    subst hl
    refine pcall_wp rfl rfl rfl (by simp [stmts]) ?_
    have hc := containsFuncStmt [] (fun _ => true) 29 [] [] [] (by simp) (by simp) (by simp)
    simp at hc
    simp [*, F11, stmts, endsT]
  | w + 1, l, m, h, hw, hR => by
    have hlen := len_wtSs l
    refine pcall_wp rfl rfl rfl (by simp [stmts]) ?_
    have hcl : ∀ x ∈ l, pcall E 29 ([] ++ [encStmt x] ++ []) [] = some (.ret (.bool (ends1 x)), []) := by
      intro x hx
      have hwx := wtS_mem hx
      rw [wtS_eq] at hwx
      have hxR : stmtR x m = true := by rw [stmtsR_all, List.all_eq_true] at hR; exact hR x hx
      obtain ⟨r1, r2, r3, r4⟩ := stmtR_has hxR
      have i1 := ends_spec' w x.thn _ (by omega) (by omega) r3
      have i2 := ends_spec' w x.els _ (by omega) (by omega) r4
      have i3 := leaves_spec x.thn (by omega)
      rw [ends1_eq]
      clear hwx hx h hlen hxR hR r2 r3 r4
      refine pcall_wp rfl rfl rfl (by simp [encStmt_eq]) ?_
      simp [stmts] at i1 i2 i3
      generalize endsT x.thn = b1 at *
      generalize endsT x.els = b2 at *
      generalize leavesT x.thn = b3 at *
      by_cases k8 : x.kind = 8
      · replace k8 := eqp k8
        simp [*, F29, encStmt_eq, exprs, stmts]
      replace k8 := eqn k8
      by_cases k4 : x.kind = 4
      · replace k4 := eqp k4
        cases b1 <;> simp [*, F29, encStmt_eq, exprs, stmts]
      replace k4 := eqn k4
      by_cases k5 : x.kind = 5
      · have hl1 : x.args.length = 1 := by rw [k5] at r1; simp [shapeR] at r1; omega
        obtain ⟨y, hy⟩ := List.length_eq_one_iff.1 hl1
        have hget : x.args[0]? = some y := by rw [hy]; rfl
        have ha0 : arg0 x.args = y := by unfold arg0; rw [hget]; rfl
        rw [ha0]
        clear hy hl1 r1 ha0
        replace k5 := eqp k5
        by_cases y2 : y.kind = 2
        · replace y2 := eqp y2
          by_cases y1 : y.n = 1
          · replace y1 := eqp y1
            simp [*, F29, encStmt_eq, exprs, stmts, encExpr_eq]
          · replace y1 := eqn y1
            simp [*, F29, encStmt_eq, exprs, stmts, encExpr_eq]
        · replace y2 := eqn y2
          simp [*, F29, encStmt_eq, exprs, stmts, encExpr_eq]
      · replace k5 := eqn k5
        clear r1
        simp [*, F29, encStmt_eq, exprs, stmts]
    have hc := containsFuncStmt l ends1 29 [] [] [] (by omega) (by simp) hcl
    rw [← endsT_any] at hc
    clear hcl h hlen hR
    simp [*, F11, stmts]
theorem ends_spec (l : List Stmt) (m : Int) (h : wtSs l < 1099508000000) (hR : stmtsR l m = true) : pcall E 11 [stmts l] [] = some (.ret (.bool (endsT l)), []) := ends_spec' (wtSs l) l m (Nat.le_refl _) h hR
end PE.U

/-
  Types: what is wrong with a statement, but for those in it.
-/
namespace PE.U
open Go PE

/-- What goes through a function. -/
def fob (p : Prog) (res n : Int) : Obj := .arr 4 [.agg [parrs p.arrays, funcs p.funcs, .int .i64 res, .int .i64 n]]

def wantT (p : Prog) (s : List Vr) (e : Expr) (t : Int) : Int := if (exprT p s e).2 ≠ 0 then (exprT p s e).2 else if (exprT p s e).1 = t then 0 else 51

theorem want_spec {p : Prog} {s : List Vr} {e : Expr} {t m : Int} {σ : Store} {k : Nat} {res n : Int} (hk : σ[k]? = some (fob p res n)) (hz : Fit p) (hw : wtE e < 1099510000000) (hR : exprR e m = true) :
    pcall E 79 [.ptr k 0 0, encVs s, encExpr e, .int .i64 t] σ = some (.ret (.int .i64 (wantT p s e t)), σ) := by
  refine pcall_wp rfl rfl rfl (by simp [encExpr_eq]) ?_
  have h1 := type_spec p s e m σ hz hw hR
  unfold wantT
  generalize exprT p s e = q at *
  obtain ⟨ty, f⟩ := q
  simp only
  clear hR hw hz
  rw [encExpr_eq] at h1
  simp [encProg, exprs, encTR] at h1
  unfold fob at hk
  by_cases hf : f = 0
  · subst hf
    have h2 := fine_spec (decide (ty = t)) 51 []
    by_cases ht : ty = t
    · replace ht := eqp ht
      simp [ht] at h2
      simp [*, F79, encExpr_eq, exprs]
    · replace ht := eqn ht
      simp [ht] at h2
      simp [*, F79, encExpr_eq, exprs]
  · replace hf := eqn hf
    simp [*, F79, encExpr_eq, exprs]

def boundT (p : Prog) (s : List Vr) (k t : Int) (nm : List UInt8) (a : List Expr) (d : Int) : Int :=
  if k = 1 then
    if wantT p s (arg0 a) t ≠ 0 then wantT p s (arg0 a) t
    else match findV s nm with
      | [] => 0
      | v :: _ => if v.depth < d then 0 else 50
  else if k = 2 then match findV s nm with
    | [] => 50
    | v :: _ => wantT p s (arg0 a) v.type
  else if k = 3 ∧ hasArr p nm = false then 50
  else if wantT p s (arg0 a) 1 ≠ 0 then wantT p s (arg0 a) 1 else wantT p s (arg1 a) 1

set_option maxHeartbeats 4000000 in
theorem bound_spec {p : Prog} {s : List Vr} {x : Stmt} {d m : Int} {σ : Store} {k : Nat} {res n : Int} (hk : σ[k]? = some (fob p res n)) (hz : Fit p) (hw : wtS x < 1099509000000) (hR : stmtR x m = true) (hb : 1 ≤ x.kind ∧ x.kind ≤ 3) :
    pcall E 81 [.ptr k 0 0, encStmt x, encVs s, .int .i64 d] σ = some (.ret (.int .i64 (boundT p s x.kind x.type x.name x.args d)), σ) := by
  refine pcall_wp rfl rfl rfl (by simp [encStmt_eq]) ?_
  obtain ⟨r1, r2, _, _⟩ := stmtR_has hR
  rw [wtS_eq] at hw
  have hwant : ∀ y ∈ x.args, ∀ t, pcall E 79 [.ptr k 0 0, encVs s, encExpr y, .int .i64 t] σ = some (.ret (.int .i64 (wantT p s y t)), σ) := by
    intro y hy t
    have := wtE_mem hy
    exact want_spec hk hz (by omega) (r2 y hy)
  have hf := find_spec s x.name σ
  have hfi := fun b => fine_spec b 50 []
  have hh := array_spec p x.name [] (by have := hz.a; omega)
  have h3 : decide (0 ≤ arrayM p x.name) = hasArr p x.name := idx_ge (fun f : PArr => decide (f.name = x.name)) p.arrays
  have h3' : (arrayM p x.name < 0) = (hasArr p x.name = false) := by
    rw [← h3, decide_eq_false_iff_not]; apply propext; omega
  clear r2 hR hw hz h3
  unfold boundT
  unfold fob at hk
  simp [encProg] at hh
  by_cases k1 : x.kind = 1
  · have hl1 : x.args.length = 1 := by rw [k1] at r1; simp [shapeR] at r1; omega
    obtain ⟨y, hy⟩ := List.length_eq_one_iff.1 hl1
    have hget : x.args[0]? = some y := by rw [hy]; rfl
    have ha0 : arg0 x.args = y := by unfold arg0; rw [hget]; rfl
    rw [ha0]
    have hw1 := hwant y (by rw [hy]; simp) x.type
    clear hy hl1 r1 ha0 hwant hb h3' hh
    replace k1 := eqp k1
    rw [encExpr_eq] at hw1
    simp [exprs] at hw1
    generalize wantT p s y x.type = f at *
    by_cases hff : f = 0
    · subst hff
      generalize findV s x.name = vs at *
      cases vs with
      | nil =>
        have hfi := hfi true
        simp at hfi hf
        simp [*, F81, encStmt_eq, exprs, encExpr_eq]
      | cons v r =>
        rw [encVs_cons] at hf
        by_cases hd : v.depth < d
        · have hfi := hfi true
          replace hd := eqp hd
          simp at hfi
          simp [*, F81, encStmt_eq, exprs, encExpr_eq]
        · have hfi := hfi false
          replace hd := eqn hd
          simp at hfi
          simp [*, F81, encStmt_eq, exprs, encExpr_eq]
    · replace hff := eqn hff
      clear hfi
      simp [*, F81, encStmt_eq, exprs, encExpr_eq]
  by_cases k2 : x.kind = 2
  · have hl1 : x.args.length = 1 := by rw [k2] at r1; simp [shapeR] at r1; omega
    obtain ⟨y, hy⟩ := List.length_eq_one_iff.1 hl1
    have hget : x.args[0]? = some y := by rw [hy]; rfl
    have ha0 : arg0 x.args = y := by unfold arg0; rw [hget]; rfl
    rw [ha0]
    have hw1 := hwant y (by rw [hy]; simp)
    have k3 : (x.kind = 3) = False := eqn (by omega)
    clear hy hl1 r1 ha0 hwant hb h3' hh hfi
    replace k1 := eqn k1
    replace k2 := eqp k2
    generalize findV s x.name = vs at *
    cases vs with
    | nil =>
      clear hw1
      simp at hf
      simp [*, F81, encStmt_eq, exprs, encExpr_eq]
    | cons v r =>
      have hw1 := hw1 v.type
      rw [encExpr_eq] at hw1
      simp [exprs] at hw1
      rw [encVs_cons] at hf
      simp [*, F81, encStmt_eq, exprs, encExpr_eq]
  · have k3 : x.kind = 3 := by omega
    have hl2 : x.args.length = 2 := by rw [k3] at r1; simp [shapeR] at r1; omega
    obtain ⟨y, z, hy⟩ : ∃ y z, x.args = [y, z] := by
      match h : x.args, hl2 with
      | [y, z], _ => exact ⟨y, z, rfl⟩
    have hget : x.args[0]? = some y := by rw [hy]; rfl
    have hget1 : x.args[1]? = some z := by rw [hy]; rfl
    have ha0 : arg0 x.args = y := by unfold arg0; rw [hget]; rfl
    have ha1 : arg1 x.args = z := by unfold arg1; rw [hget1]; rfl
    rw [ha0, ha1]
    have hw1 := hwant y (by rw [hy]; simp) 1
    have hw2 := hwant z (by rw [hy]; simp) 1
    clear hy hl2 r1 ha0 ha1 hwant hb hfi
    replace k1 := eqn k1
    replace k2 := eqn k2
    replace k3 := eqp k3
    rw [encExpr_eq] at hw1 hw2
    simp [exprs] at hw1 hw2
    generalize hasArr p x.name = b at *
    cases b
    · clear hw1 hw2
      simp at h3'
      replace h3' := eqp h3'
      simp [*, F81, encStmt_eq, exprs, encExpr_eq]
    · simp at h3'
      replace h3' : (arrayM p x.name < 0) = False := eqn (by omega)
      generalize wantT p s y 1 = f at *
      by_cases hff : f = 0
      · subst hff
        simp [*, F81, encStmt_eq, exprs, encExpr_eq]
      · replace hff := eqn hff
        simp [*, F81, encStmt_eq, exprs, encExpr_eq]

def stmtT (p : Prog) (res : Int) (s : List Vr) (k t : Int) (nm : List UInt8) (a : List Expr) (d : Int) (loop : Bool) : Int :=
  if k = 4 ∨ k = 5 then wantT p s (arg0 a) 2
  else if k = 8 then wantT p s (arg0 a) res
  else if k = 9 then wantT p s (arg0 a) 1
  else if k = 10 then (exprT p s (arg0 a)).2
  else if k = 6 ∨ k = 7 then (if loop then 0 else 53)
  else boundT p s k t nm a d

set_option maxHeartbeats 4000000 in
theorem stmtT_spec {p : Prog} {s : List Vr} {x : Stmt} {d m : Int} {loop : Bool} {σ : Store} {k : Nat} {res n : Int} (hk : σ[k]? = some (fob p res n)) (hz : Fit p) (hw : wtS x < 1099509000000) (hR : stmtR x m = true) :
    pcall E 59 [.ptr k 0 0, encStmt x, encVs s, .int .i64 d, .bool loop] σ = some (.ret (.int .i64 (stmtT p res s x.kind x.type x.name x.args d loop)), σ) := by
  refine pcall_wp rfl rfl rfl (by simp [encStmt_eq]) ?_
  obtain ⟨r1, r2, _, _⟩ := stmtR_has hR
  have hbound : 1 ≤ x.kind ∧ x.kind ≤ 3 → pcall E 81 [.ptr k 0 0, encStmt x, encVs s, .int .i64 d] σ = some (.ret (.int .i64 (boundT p s x.kind x.type x.name x.args d)), σ) := fun h => bound_spec hk hz hw hR h
  rw [wtS_eq] at hw
  have hwant : ∀ y ∈ x.args, ∀ t, pcall E 79 [.ptr k 0 0, encVs s, encExpr y, .int .i64 t] σ = some (.ret (.int .i64 (wantT p s y t)), σ) := by
    intro y hy t
    have := wtE_mem hy
    exact want_spec hk hz (by omega) (r2 y hy)
  have hexp : ∀ y ∈ x.args, pcall E 66 [encProg p, encVs s, encExpr y] σ = some (.ret (encTR (exprT p s y)), σ) := by
    intro y hy
    have := wtE_mem hy
    exact type_spec p s y 100 σ hz (by omega) (r2 y hy)
  have hone : (x.kind = 4 ∨ x.kind = 5 ∨ x.kind = 8 ∨ x.kind = 9 ∨ x.kind = 10) → ∃ y, x.args = [y] := by
    intro h
    have : x.args.length = 1 := by rcases h with h | h | h | h | h <;> (rw [h] at r1; simp [shapeR] at r1; omega)
    exact List.length_eq_one_iff.1 this
  have hkind : 1 ≤ x.kind ∧ x.kind ≤ 10 := by
    by_cases h : 1 ≤ x.kind ∧ x.kind ≤ 10
    · exact h
    · exfalso
      have : (shapeR x.kind).2.2.1 = -1 := by
        unfold shapeR
        repeat' (first | rw [if_neg (by omega)] | rfl)
      omega
  clear r2 hR hw hz
  unfold stmtT
  unfold fob at hk
  by_cases k4 : x.kind = 4 ∨ x.kind = 5
  · obtain ⟨y, hy⟩ := hone (by rcases k4 with h | h <;> simp [h])
    have hget : x.args[0]? = some y := by rw [hy]; rfl
    have ha0 : arg0 x.args = y := by unfold arg0; rw [hget]; rfl
    rw [ha0]
    have hw1 := hwant y (by rw [hy]; simp) 2
    rw [encExpr_eq] at hw1
    simp [exprs] at hw1
    rw [if_pos k4]
    clear hy r1 ha0 hwant hexp hone hbound hkind
    rcases k4 with k4 | k4
    · replace k4 := eqp k4
      simp [*, F59, encStmt_eq, exprs, encExpr_eq]
    · by_cases k4' : x.kind = 4
      · omega
      · replace k4 := eqp k4
        replace k4' := eqn k4'
        simp [*, F59, encStmt_eq, exprs, encExpr_eq]
  have k5 : ¬ x.kind = 5 := fun h => k4 (Or.inr h)
  have k4' : ¬ x.kind = 4 := fun h => k4 (Or.inl h)
  rw [if_neg k4]
  clear k4
  by_cases k8 : x.kind = 8
  · obtain ⟨y, hy⟩ := hone (by simp [k8])
    have hget : x.args[0]? = some y := by rw [hy]; rfl
    have ha0 : arg0 x.args = y := by unfold arg0; rw [hget]; rfl
    rw [ha0]
    have hw1 := hwant y (by rw [hy]; simp) res
    rw [encExpr_eq] at hw1
    simp [exprs] at hw1
    clear hy r1 ha0 hwant hexp hone hbound hkind
    replace k4' := eqn k4'
    replace k5 := eqn k5
    replace k8 := eqp k8
    simp [*, F59, encStmt_eq, exprs, encExpr_eq]
  by_cases k9 : x.kind = 9
  · obtain ⟨y, hy⟩ := hone (by simp [k9])
    have hget : x.args[0]? = some y := by rw [hy]; rfl
    have ha0 : arg0 x.args = y := by unfold arg0; rw [hget]; rfl
    rw [ha0]
    have hw1 := hwant y (by rw [hy]; simp) 1
    rw [encExpr_eq] at hw1
    simp [exprs] at hw1
    clear hy r1 ha0 hwant hexp hone hbound hkind
    replace k4' := eqn k4'
    replace k5 := eqn k5
    replace k8 := eqn k8
    replace k9 := eqp k9
    simp [*, F59, encStmt_eq, exprs, encExpr_eq]
  by_cases k10 : x.kind = 10
  · obtain ⟨y, hy⟩ := hone (by simp [k10])
    have hget : x.args[0]? = some y := by rw [hy]; rfl
    have ha0 : arg0 x.args = y := by unfold arg0; rw [hget]; rfl
    rw [ha0]
    have hw1 := hexp y (by rw [hy]; simp)
    rw [encExpr_eq] at hw1
    simp [exprs, encProg, encTR] at hw1
    clear hy r1 ha0 hwant hexp hone hbound hkind
    replace k4' := eqn k4'
    replace k5 := eqn k5
    replace k8 := eqn k8
    replace k9 := eqn k9
    replace k10 := eqp k10
    simp [*, F59, encStmt_eq, exprs, encExpr_eq]
  by_cases k6 : x.kind = 6 ∨ x.kind = 7
  · rw [if_neg k8, if_neg k9, if_neg k10, if_pos k6]
    have hfi := fine_spec loop 53 []
    clear r1 hwant hexp hone hbound hkind
    replace k4' := eqn k4'
    replace k5 := eqn k5
    replace k8 := eqn k8
    replace k9 := eqn k9
    replace k10 := eqn k10
    rcases k6 with k6 | k6
    · replace k6 := eqp k6
      simp [*, F59, encStmt_eq, exprs, encExpr_eq]
    · by_cases k6' : x.kind = 6
      · omega
      · replace k6 := eqp k6
        replace k6' := eqn k6'
        simp [*, F59, encStmt_eq, exprs, encExpr_eq]
  · rw [if_neg k8, if_neg k9, if_neg k10, if_neg k6]
    have k7 : ¬ x.kind = 7 := fun h => k6 (Or.inr h)
    have k6' : ¬ x.kind = 6 := fun h => k6 (Or.inl h)
    have hb := hbound (by omega)
    clear r1 hwant hexp hone hbound hkind k6
    replace k4' := eqn k4'
    replace k5 := eqn k5
    replace k8 := eqn k8
    replace k9 := eqn k9
    replace k10 := eqn k10
    replace k7 := eqn k7
    replace k6' := eqn k6'
    rw [encStmt_eq] at hb
    simp [exprs, stmts] at hb
    simp [*, F59, encStmt_eq, exprs, encExpr_eq, stmts]
end PE.U

/-
  Types: what is wrong with statements.
-/
namespace PE.U
open Go PE

mutual
def block1 (p : Prog) (res : Int) : Stmt → List Vr → Int → Bool → Int → Int × Int
  | ⟨k, t, nm, a, th, el⟩, vs, d, loop, n =>
    if stmtT p res vs k t nm a d loop ≠ 0 then (stmtT p res vs k t nm a d loop, n)
    else
      let q := blockT p res th (if k = 1 then ⟨nm, t, d⟩ :: vs else vs) (d + 1) (loop || decide (k = 5)) (n + 1)
      if q.1 ≠ 0 then q else blockT p res el (if k = 1 then ⟨nm, t, d⟩ :: vs else vs) (d + 1) loop q.2
def blockT (p : Prog) (res : Int) : List Stmt → List Vr → Int → Bool → Int → Int × Int
  | [], _, _, _, n => (0, n)
  | x :: r, vs, d, loop, n =>
    let q := block1 p res x vs d loop n
    if q.1 ≠ 0 then q else blockT p res r (if x.kind = 1 then ⟨x.name, x.type, d⟩ :: vs else vs) d loop q.2
end
/-- The variables behind a statement. -/
def behind (d : Int) (x : Stmt) (vs : List Vr) : List Vr := if x.kind = 1 then ⟨x.name, x.type, d⟩ :: vs else vs
theorem block1_eq (p : Prog) (res : Int) (x : Stmt) (vs : List Vr) (d : Int) (loop : Bool) (n : Int) : block1 p res x vs d loop n =
    if stmtT p res vs x.kind x.type x.name x.args d loop ≠ 0 then (stmtT p res vs x.kind x.type x.name x.args d loop, n)
    else if (blockT p res x.thn (behind d x vs) (d + 1) (loop || decide (x.kind = 5)) (n + 1)).1 ≠ 0 then blockT p res x.thn (behind d x vs) (d + 1) (loop || decide (x.kind = 5)) (n + 1)
    else blockT p res x.els (behind d x vs) (d + 1) loop (blockT p res x.thn (behind d x vs) (d + 1) (loop || decide (x.kind = 5)) (n + 1)).2 := by
  cases x; rw [block1]; rfl
theorem blockT_cons (p : Prog) (res : Int) (x : Stmt) (r : List Stmt) (vs : List Vr) (d : Int) (loop : Bool) (n : Int) : blockT p res (x :: r) vs d loop n =
    if (block1 p res x vs d loop n).1 ≠ 0 then block1 p res x vs d loop n else blockT p res r (behind d x vs) d loop (block1 p res x vs d loop n).2 := by
  rw [blockT]; rfl

/-- How statements so far leave it: the variables, and the count. -/
def blockGo (p : Prog) (res d : Int) (loop : Bool) (l : List Stmt) (vs : List Vr) (n : Int) : List Vr × Int := match l with
  | [] => (vs, n)
  | x :: r => blockGo p res d loop r (behind d x vs) (block1 p res x vs d loop n).2
def blockFine (p : Prog) (res d : Int) (loop : Bool) (l : List Stmt) (vs : List Vr) (n : Int) : Prop := match l with
  | [] => True
  | x :: r => (block1 p res x vs d loop n).1 = 0 ∧ blockFine p res d loop r (behind d x vs) (block1 p res x vs d loop n).2
theorem blockT_go (p : Prog) (res d : Int) (loop : Bool) (r : List Stmt) : ∀ (l : List Stmt) (vs : List Vr) (n : Int), blockFine p res d loop l vs n →
    blockT p res (l ++ r) vs d loop n = blockT p res r (blockGo p res d loop l vs n).1 d loop (blockGo p res d loop l vs n).2
  | [], _, _, _ => rfl
  | x :: l, vs, n, h => by
    simp only [blockFine] at h
    rw [List.cons_append, blockT_cons, if_neg (by rw [h.1]; simp)]
    exact blockT_go p res d loop r l _ _ h.2
theorem blockGo_snoc (p : Prog) (res d : Int) (loop : Bool) (x : Stmt) : ∀ (l : List Stmt) (vs : List Vr) (n : Int),
    blockGo p res d loop (l ++ [x]) vs n = (behind d x (blockGo p res d loop l vs n).1, (block1 p res x (blockGo p res d loop l vs n).1 d loop (blockGo p res d loop l vs n).2).2)
  | [], _, _ => rfl
  | y :: l, vs, n => by
    rw [List.cons_append, blockGo, blockGo_snoc p res d loop x l]; rfl
theorem blockFine_snoc (p : Prog) (res d : Int) (loop : Bool) (x : Stmt) : ∀ (l : List Stmt) (vs : List Vr) (n : Int), blockFine p res d loop l vs n → (block1 p res x (blockGo p res d loop l vs n).1 d loop (blockGo p res d loop l vs n).2).1 = 0 → blockFine p res d loop (l ++ [x]) vs n
  | [], _, _, _, h => ⟨h, trivial⟩
  | y :: l, vs, n, hf, h => by
    simp only [blockFine] at hf
    exact ⟨hf.1, blockFine_snoc p res d loop x l _ _ hf.2 h⟩

mutual
theorem block1_count (p : Prog) (res : Int) : ∀ (x : Stmt) (vs : List Vr) (d : Int) (loop : Bool) (n : Int), n ≤ (block1 p res x vs d loop n).2 ∧ (block1 p res x vs d loop n).2 ≤ n + wtS x
  | ⟨k, t, nm, a, th, el⟩, vs, d, loop, n => by
    rw [block1_eq]
    have h1 := blockT_count p res th (behind d ⟨k, t, nm, a, th, el⟩ vs) (d + 1) (loop || decide (k = 5)) (n + 1)
    have h2 := blockT_count p res el (behind d ⟨k, t, nm, a, th, el⟩ vs) (d + 1) loop (blockT p res th (behind d ⟨k, t, nm, a, th, el⟩ vs) (d + 1) (loop || decide (k = 5)) (n + 1)).2
    rw [wtS_eq]
    simp only
    split
    · simp only; omega
    · split
      · omega
      · omega
theorem blockT_count (p : Prog) (res : Int) : ∀ (l : List Stmt) (vs : List Vr) (d : Int) (loop : Bool) (n : Int), n ≤ (blockT p res l vs d loop n).2 ∧ (blockT p res l vs d loop n).2 ≤ n + wtSs l
  | [], vs, d, loop, n => by simp [blockT, wtSs]
  | x :: r, vs, d, loop, n => by
    rw [blockT_cons]
    have h1 := block1_count p res x vs d loop n
    have h2 := blockT_count p res r (behind d x vs) d loop (block1 p res x vs d loop n).2
    simp only [wtSs]
    split
    · omega
    · omega
end
theorem blockGo_count (p : Prog) (res d : Int) (loop : Bool) : ∀ (l : List Stmt) (vs : List Vr) (n : Int), n ≤ (blockGo p res d loop l vs n).2 ∧ (blockGo p res d loop l vs n).2 ≤ n + wtSs l
  | [], vs, n => by simp [blockGo, wtSs]
  | x :: r, vs, n => by
    have h1 := block1_count p res x vs d loop n
    have h2 := blockGo_count p res d loop r (behind d x vs) (block1 p res x vs d loop n).2
    simp only [wtSs, blockGo]
    omega

set_option maxRecDepth 20000 in
set_option maxHeartbeats 8000000 in
theorem block_spec' : ∀ w (p : Prog) (res : Int) (l : List Stmt) (vs : List Vr) (d m n : Int) (loop : Bool) (σ : Store) (k : Nat), wtSs l ≤ w → w < 1099508000000 → Fit p → stmtsR l m = true → 0 ≤ d → d + m ≤ 1000000 → 0 ≤ m → 0 ≤ n → n + wtSs l < 4000000000000 → σ[k]? = some (fob p res n) →
    pcall E 23 [.ptr k 0 0, stmts l, encVs vs, .int .i64 d, .bool loop] σ = some (.ret (.int .i64 (blockT p res l vs d loop n).1), σ.set k (fob p res (blockT p res l vs d loop n).2))
  := by
  intro w
  induction w with
  | zero =>
    intro p res l vs d m n loop σ k h hw hz hR hd hdm hm hn0 hnw hk
    have hl : l = [] := by
      have := len_wtSs l
      exact List.eq_nil_of_length_eq_zero (by omega)
    subst hl
    have hset : σ.set k (fob p res n) = σ := by
      have hlt := (List.getElem?_eq_some_iff.1 hk)
      obtain ⟨h1, h2⟩ := hlt
      rw [← h2, List.set_getElem_self]
    refine pcall_wp rfl rfl rfl (by simp [stmts]) ?_
    simp only [blockT, hset]
    simp [F23, stmts]
    refine wp_each ([] : List Stmt) K23_0 B23_0 (fun d' => [(2, encVs vs), (18, .int .i64 d'.length)]) (fun _ => σ) (fun _ => True) (by simp) (by simp) ?_ ?_
    · intros d' x r s1 hl' hlt
      simp at hlt
    · intros s1 hp h1 h2 h3 h4
      simp at h1 h2 h3
      simp [*]
  | succ w ih =>
    intro p res l vs d m n loop σ k h hw hz hR hd hdm hm hn0 hnw hk
    have hlen := len_wtSs l
    have hset : σ.set k (fob p res n) = σ := by
      have hlt := (List.getElem?_eq_some_iff.1 hk)
      obtain ⟨h1, h2⟩ := hlt
      rw [← h2, List.set_getElem_self]
    have hklt : k < σ.length := (List.getElem?_eq_some_iff.1 hk).1
    have hwd : wrapK .i64 (d + 1) = d + 1 := wrapK_small (by omega) (by omega)
    refine pcall_wp rfl rfl rfl (by simp [stmts]) ?_
    simp [F23, stmts]
    refine wp_each l K23_0 B23_0 (fun q => [(2, encVs (blockGo p res d loop q vs n).1), (18, .int .i64 q.length)]) (fun q => σ.set k (fob p res (blockGo p res d loop q vs n).2)) (fun q => blockFine p res d loop q vs n) (by omega) (by simp [blockGo, blockFine, hset]) ?_ ?_
    · intros q x r s1 hl' hlt hget hget' hw1 hp h1 h2 h3 h4
      have hT := blockT_go p res d loop (x :: r) q vs n hp
      rw [← hl'.eq, blockT_cons, block1_eq] at hT
      have hG := blockGo_snoc p res d loop x q vs n
      have hF := blockFine_snoc p res d loop x q vs n hp
      rw [block1_eq] at hG hF
      have hxR : stmtR x m = true := by rw [stmtsR_all, List.all_eq_true] at hR; exact hR x hl'.mem
      have hm1 : 1 ≤ m := by
        by_cases h1 : 1 ≤ m
        · exact h1
        · rw [stmtR_eq] at hxR; unfold headR at hxR; simp at hxR; omega
      have hwx := wtS_mem hl'.mem
      rw [wtS_eq] at hwx
      obtain ⟨r1, r2, r3, r4⟩ := stmtR_has hxR
      have hgc := blockGo_count p res d loop q vs n
      have hws : wtSs l = wtSs q + (1 + wtS x + wtSs r) := by rw [hl'.eq, wtSs_append]; rfl
      rw [wtS_eq] at hws
      generalize blockGo p res d loop q vs n = g at *
      obtain ⟨v1, n1⟩ := g
      simp only at hT hG hF h3 h4 hgc
      have hwn : wrapK .i64 (n1 + 1) = n1 + 1 := wrapK_small (by omega) (by omega)
      have hk1 : (σ.set k (fob p res n1))[k]? = some (fob p res n1) := by rw [List.getElem?_set_self hklt]
      have hst := stmtT_spec (d := d) (s := v1) (x := x) (loop := loop) hk1 hz (by rw [wtS_eq]; omega) hxR
      have hi1 := ih p res x.thn (behind d x v1) (d + 1) (m - 1) (n1 + 1) (loop || decide (x.kind = 5)) (σ.set k (fob p res (n1 + 1))) k (by omega) (by omega) hz r3 (by omega) (by omega) (by omega) (by omega) (by omega) (by rw [List.getElem?_set_self hklt])
      rw [List.set_set] at hi1
      have hc1 := blockT_count p res x.thn (behind d x v1) (d + 1) (loop || decide (x.kind = 5)) (n1 + 1)
      generalize hT1 : blockT p res x.thn (behind d x v1) (d + 1) (loop || decide (x.kind = 5)) (n1 + 1) = t1 at *
      obtain ⟨f1, n2⟩ := t1
      simp only at hc1
      have hi2 := ih p res x.els (behind d x v1) (d + 1) (m - 1) n2 loop (σ.set k (fob p res n2)) k (by omega) (by omega) hz r4 (by omega) (by omega) (by omega) (by omega) (by omega) (by rw [List.getElem?_set_self hklt])
      rw [List.set_set] at hi2
      simp only at hT hG hF hi1
      generalize hT2 : blockT p res x.els (behind d x v1) (d + 1) loop n2 = t2 at *
      obtain ⟨f2, n3⟩ := t2
      simp only at hT hG hF hi2
      generalize stmtT p res v1 x.kind x.type x.name x.args d loop = f0 at *
      have hwi := with_spec v1 ⟨x.name, x.type⟩ d (σ.set k (fob p res (n1 + 1)))
      have hb : behind d x v1 = if x.kind = 1 then ⟨x.name, x.type, d⟩ :: v1 else v1 := rfl
      clear ih hT1 hT2 r1 r2 r3 r4 hws hgc hc1 hnw hn0 hwx hxR hl' hR h hlen hset
      rw [encStmt_eq] at hst
      simp [exprs, stmts, encPar] at hst hi1 hi2 hwi
      simp [exprs, stmts] at h1 h2 h3 h4
      unfold fob at *
      by_cases hf0 : f0 = 0
      case neg =>
        simp [hf0] at hT
        rw [hT]
        clear hT hG hF hi1 hi2 hwi hb hp
        replace hf0 := eqn hf0
        simp [*, encStmt_eq, exprs, stmts]
      subst hf0
      by_cases hk1 : x.kind = 1
      · have hk5 : ¬ x.kind = 5 := by omega
        rw [if_pos hk1] at hb
        replace hk1 := eqp hk1
        replace hk5 := eqn hk5
        rw [hb] at hi1 hi2 hG
        clear hb
        simp only [hk5, decide_false, Bool.or_false] at hi1
        by_cases hf1 : f1 = 0
        case neg =>
          simp [hf1] at hT
          rw [hT]
          clear hT hG hF hi2 hp
          replace hf1 := eqn hf1
          cases loop <;> simp [*, encStmt_eq, exprs, stmts]
        subst hf1
        by_cases hf2 : f2 = 0
        case neg =>
          simp [hf2] at hT
          rw [hT]
          clear hT hG hF hp
          replace hf2 := eqn hf2
          cases loop <;> simp [*, encStmt_eq, exprs, stmts]
        subst hf2
        simp at hG hF
        clear hT hp
        cases loop <;> simp [*, encStmt_eq, exprs, stmts]
      · rw [if_neg hk1] at hb
        replace hk1 := eqn hk1
        rw [hb] at hi1 hi2 hG
        clear hb hwi
        by_cases hf1 : f1 = 0
        case neg =>
          simp [hf1] at hT
          rw [hT]
          clear hT hG hF hi2 hp
          replace hf1 := eqn hf1
          cases loop <;> simp at hi1 <;> simp [*, encStmt_eq, exprs, stmts]
        subst hf1
        by_cases hf2 : f2 = 0
        case neg =>
          simp [hf2] at hT
          rw [hT]
          clear hT hG hF hp
          replace hf2 := eqn hf2
          cases loop <;> simp at hi1 <;> simp [*, encStmt_eq, exprs, stmts]
        subst hf2
        simp at hG hF
        clear hT hp
        cases loop <;> simp at hi1 <;> simp [*, encStmt_eq, exprs, stmts]
    · intros s1 hp h1 h2 h3 h4
      clear ih
      have hT := blockT_go p res d loop [] l vs n hp
      rw [List.append_nil, blockT] at hT
      rw [hT]
      simp at h1 h2 h3 h4
      clear hT hp hR
      simp [*]
end PE.U

/-
  The document's types: places, operators, variables.
-/
namespace PE.U
open Go PE

/-- How a row that was handed on may grow: not at all. -/
def skOf : List PV → SK
  | [] => .fit
  | _ => .plain
theorem strip_acc (sz : Nat) (l : List PV) : strip (acc sz l) = .slice (skOf l) sz l := by cases l <;> rfl
theorem lenS_slice (st : Store) (k : SK) (z : Nat) (l : List PV) : lenSem st 1 (.slice k z l) = some (.int .i64 l.length) := Eq.trans rfl rfl

/-- Code's first part; what comes behind it. -/
def sq1 : ICode → ICode
  | .seq a _ => a
  | c => c
def sq2 : ICode → ICode
  | .seq _ b => b
  | c => c

theorem rplace_spec (p : Prog) (nm : List UInt8) (hl : p.funcs.length < 1099511627776) : pcall E 62 [encProg p, .str nm] [] = some (.ret (.int .i64 (placeM p nm)), []) := by
  refine pcall_wp rfl rfl rfl (by simp [encProg]) ?_
  simp [F62, encProg, funcs]
  refine wp_each p.funcs K62_0 B62_0 (fun d => [(5, .int .i64 d.length)]) (fun _ => []) (fun d => ∀ y ∈ d, decide (y.name = nm) = false) (by omega) (by simp) ?_ ?_
  · intros d x r s1 hl' hlt hget hget' hw hp h1 h2 h3 h4
    simp at h1 h2 h3
    by_cases hx : x.name = nm
    · have hh : placeM p nm = d.length := idx_hit hl' hp (decide_eq_true hx)
      rw [hh]
      replace hx := eqp hx
      clear hp hh hl'
      simp [*, encFunc]
    · have hnx : ∀ y ∈ d ++ [x], ¬ y.name = nm := by
        intro y hy
        rcases List.mem_append.1 hy with h | h
        · exact of_decide_eq_false (hp y h)
        · rw [List.mem_singleton.1 h]; exact hx
      replace hx := eqn hx
      clear hp hl'
      simp [*, encFunc]
      all_goals (try grind)
  · intros s1 hp h1 h2 h3 h4
    have hh : placeM p nm = -1 := idx_none hp
    rw [hh]
    simp at h1 h2 h3
    clear hp hh
    simp [*]
theorem rarray_spec (p : Prog) (nm : List UInt8) (hl : p.arrays.length < 1099511627776) : pcall E 61 [encProg p, .str nm] [] = some (.ret (.int .i64 (arrayM p nm)), []) := by
  refine pcall_wp rfl rfl rfl (by simp [encProg]) ?_
  simp [F61, encProg, parrs]
  refine wp_each p.arrays K61_0 B61_0 (fun d => [(5, .int .i64 d.length)]) (fun _ => []) (fun d => ∀ y ∈ d, decide (y.name = nm) = false) (by omega) (by simp) ?_ ?_
  · intros d x r s1 hl' hlt hget hget' hw hp h1 h2 h3 h4
    simp at h1 h2 h3
    by_cases hx : x.name = nm
    · have hh : arrayM p nm = d.length := idx_hit hl' hp (decide_eq_true hx)
      rw [hh]
      replace hx := eqp hx
      clear hp hh hl'
      simp [*, encPArr]
    · have hnx : ∀ y ∈ d ++ [x], ¬ y.name = nm := by
        intro y hy
        rcases List.mem_append.1 hy with h | h
        · exact of_decide_eq_false (hp y h)
        · rw [List.mem_singleton.1 h]; exact hx
      replace hx := eqn hx
      clear hp hl'
      simp [*, encPArr]
      all_goals (try grind)
  · intros s1 hp h1 h2 h3 h4
    have hh : arrayM p nm = -1 := idx_none hp
    rw [hh]
    simp at h1 h2 h3
    clear hp hh
    simp [*]

def operR (op : Int) : Int × Int :=
  if op = 18 ∨ op = 19 ∨ op = 22 then (2, 2)
  else if op = 16 ∨ op = 17 then (0, 2)
  else if 12 ≤ op ∧ op ≤ 15 then (1, 2)
  else (1, 1)
theorem oper_spec (op : Int) : pcall E 67 [.int .i64 op] [] = some (.ret (.tup [.int .i64 (operR op).1, .int .i64 (operR op).2]), []) := by
  refine pcall_wp rfl rfl rfl (by simp) ?_
  unfold operR
  (simp [*, F67]) <;> (repeat' (first | ((first | refine sP _ ?_ ?_ | refine gP _ ?_ ?_ | refine sN _ ?_ ?_ | refine gN _ ?_ ?_) <;> intro hc <;> (first | replace hc := eqn hc | replace hc := eqp hc) <;> simp [*, F67]) | ((first | refine sM _ ?_ ?_ | refine gM _ ?_ ?_ | refine sB _ ?_ ?_ | refine gB _ ?_ ?_) <;> intro hc <;> simp [*, F67])))
  all_goals (try grind)

/-! ### Variables -/

def parOf (v : Vr) : Par := ⟨v.name, v.type⟩
/-- The variables, the last one last. -/
def varsOf (s : List Vr) : List Par := (s.map parOf).reverse
theorem varsOf_len (s : List Vr) : (varsOf s).length = s.length := by simp [varsOf]
theorem varsOf_cons (v : Vr) (s : List Vr) : varsOf (v :: s) = varsOf s ++ [parOf v] := by simp [varsOf]
theorem varsOf_append (a b : List Vr) : varsOf (a ++ b) = varsOf b ++ varsOf a := by simp [varsOf]
theorem varsOf_get (d : List Vr) (v : Vr) (r : List Vr) : (varsOf (d ++ v :: r))[r.length]? = some (parOf v) := by
  rw [varsOf_append, varsOf_cons, List.append_assoc, List.getElem?_append_right (by rw [varsOf_len]; omega), varsOf_len]
  simp
def typeV (s : List Vr) (nm : List UInt8) : Int := ((findV s nm).head?.map (·.type)).getD 0

structure FV where
  d : List Vr
  c : List Vr
theorem rfind_spec (s : List Vr) (nm : List UInt8) (hl : s.length < 1099511627776) : pcall E 26 [parsV (varsOf s), .str nm] [] = some (.ret (.tup [.int .i64 (typeV s nm), .bool (!decide (findV s nm = []))]), []) := by
  refine pcall_wp rfl rfl rfl (by simp [parsV]) ?_
  have hvl := varsOf_len s
  have hw0 : wrapK .i64 ((s.length : Int) - 1) = (s.length : Int) - 1 := wrapK_small (by omega) (by omega)
  simp [F26, parsV, hvl, hw0]
  refine wp_while K26_0 B26_0 (fun c : FV => c.c.length) (fun c => [(6, .int .i64 ((c.c.length : Int) - 1))]) (fun c => []) (fun c => []) (fun c => findV c.c nm = findV s nm ∧ s = c.d ++ c.c) ⟨[], s⟩ (by simp) ?_
  rintro ⟨d, c⟩ s1 ⟨hc, hs⟩ h1 h2 h3 h4 h5
  simp at h1 h3 h5 hc hs
  clear h2 h4
  unfold typeV
  rw [← hc]
  cases c with
  | nil =>
    simp at h3
    clear hc hs
    simp [*, findV]
  | cons v r =>
    have hg := varsOf_get d v r
    rw [← hs] at hg
    have hlen : r.length + d.length < 1099511627776 := by
      have := congrArg List.length hs
      simp at this; omega
    have e1 : (((v :: r).length : Int) - 1) = r.length := by simp
    rw [e1] at h3
    have hw : wrapK .i64 ((r.length : Int) - 1) = (r.length : Int) - 1 := wrapK_small (by omega) (by omega)
    rw [findV_cons] at hc ⊢
    by_cases hn : v.name = nm
    · rw [if_pos hn]
      replace hn := eqp hn
      clear hc hs hvl hlen e1
      simp [*, encPar, parOf]
    · rw [if_neg hn] at hc ⊢
      replace hn := eqn hn
      have hk : ∃ d', s = d' ++ r := ⟨d ++ [v], by rw [hs]; simp⟩
      obtain ⟨d', hd'⟩ := hk
      clear hs hvl hlen e1
      simp [*, encPar, parOf, -hd']
      exact ⟨⟨d', r⟩, by simp, rfl, hc, hd'⟩
end PE.U

/-
  The document's types: of expressions.
-/
namespace PE.U
open Go PE

def okR (tk : Int) (l : List Int) (y : Int) : Bool := !((!decide (tk = 0) && !decide (y = tk)) || !decide (y = at0 l))
theorem made_oper (p : Prog) (s : List Vr) (k o : Int) (nm : List UInt8) (l : List Int) (h : (k = 4 ∧ l.length = 1) ∨ (k = 5 ∧ l.length = 2)) : madeT p s k o nm l = ((operR o).2, l.all (okR (operR o).1 l)) := by
  have hk : k = 4 ∨ k = 5 := by rcases h with h | h <;> simp [h.1]
  have key : ∀ x : Int, (takesT o x).1 = (operR o).2 ∧ ((takesT o x).2 = true ↔ ((operR o).1 = 0 ∨ x = (operR o).1)) := by
    intro x
    unfold takesT operR
    split
    · simp
    split
    · simp
    split
    · rw [if_pos (by omega)]; simp
    · rw [if_neg (by omega)]; simp
  obtain ⟨k1, k2⟩ := key (at0 l)
  rcases h with ⟨rfl, hl⟩ | ⟨rfl, hl⟩
  · obtain ⟨x, rfl⟩ := List.length_eq_one_iff.1 hl
    unfold madeT
    simp only [show ¬ (4 : Int) = 2 from by decide, show ¬ (4 : Int) = 3 from by decide, show ¬ (4 : Int) = 6 from by decide, if_false, if_true]
    refine Prod.ext k1 ?_
    simp only
    rw [Bool.eq_iff_iff, k2]
    simp [okR, at0]
  · obtain ⟨x, y, rfl⟩ : ∃ x y, l = [x, y] := by
      match l, hl with
      | [x, y], _ => exact ⟨x, y, rfl⟩
    unfold madeT
    simp only [show ¬ (5 : Int) = 2 from by decide, show ¬ (5 : Int) = 3 from by decide, show ¬ (5 : Int) = 6 from by decide, show ¬ (5 : Int) = 4 from by decide, if_false, if_true]
    refine Prod.ext k1 ?_
    simp only
    rw [Bool.eq_iff_iff, Bool.and_eq_true, k2]
    simp [okR, at0, at1]
    grind

/-- Behind the checks of names. -/
def typeTail : ICode := sq2 (sq2 (sq2 (sq2 F33.body)))

def encLoc (p : Prog) (e : Expr) : List PV := [.int .i64 e.kind, .int .i64 e.op, .int .i64 e.n, .str e.name, exprs e.args]

set_option maxRecDepth 20000 in
set_option maxHeartbeats 8000000 in
theorem type_tail (p : Prog) (s : List Vr) (e : Expr) (m : Int) (hz : Fit p) (hw : wtE e < 1099510000000) (hm : exprsR e.args m = true) (hk : kindR e.kind e.op e.n e.name e.args.length = true) (h0 : namedT p s e.kind e.name e.args.length = 0)
    (IH : ∀ x ∈ e.args, ∀ m, exprR x m = true → pcall E 33 [encProg p, parsV (varsOf s), encExpr x] [] = some (.ret (encTR (exprT p s x)), []))
    (s1 : St) (b1 : s1.bx 3 = .cells [parrs p.arrays, funcs p.funcs]) (b2 : s1.bx 5 = .cells [.int .i64 e.kind, .int .i64 e.op, .int .i64 e.n, .str e.name, exprs e.args])
    (t1 : s1.fr 1 = parsV (varsOf s)) (t3 : s1.fr 3 = .lptr 3 0) (t5 : s1.fr 5 = .lptr 5 0) (t8 : s1.fr 8 = .int .i64 (placeM p e.name)) (t9 : s1.fr 9 = .int .i64 (typeV s e.name)) (st : s1.st = []) :
    holds (exec (pcall E) typeTail s1) (leaveQ F33.res false 0 (isR (.ret (encTR (exprT p s e)), []))) := by
  have hla := len_wtEs e.args
  rw [wtE_eq] at hw
  obtain ⟨fr, bx, st'⟩ := s1
  simp only at b1 b2 t1 t3 t5 t8 t9 st
  subst st
  have hT := (exprT_eq p s e).symm
  rw [if_neg (by rw [h0]; simp)] at hT
  generalize exprT p s e = R at hT ⊢
  simp [typeTail, sq2, F33, exprs] at b2 ⊢
  refine wp_each e.args K33_0 B33_0 (fun d => [(11, acc 1 ((argsT p s d).1.map (PV.int .i64))), (12, .int .i64 d.length)]) (fun _ => []) (fun d => (argsT p s d).2 = 0) (by omega) (by simp [argsT]) ?_ ?_
  · intros d x r s1 hl' hlt hget hget' hw1 hp h1 h2 h3 h4
    have hx : exprR x (m - 1) = true := by
      rw [exprsR_all, List.all_eq_true] at hm
      have := hm x hl'.mem
      simp at this; exact this.2
    have ih := IH x hl'.mem _ hx
    have hlen := argsT_len p s d hp
    obtain ⟨f1, f2⟩ := argsT_pre p s x r d hp
    rw [← hl'.eq] at f1
    clear IH hm hx hl' hk h0
    rw [encExpr_eq] at ih
    simp [encTR, encProg, exprs] at ih
    simp at h1 h2 h3
    have hroom : (d.length + 1) * 8 ≤ roomMax := by simp only [roomMax]; omega
    generalize exprT p s x = q at *
    obtain ⟨t, f⟩ := q
    simp only at ih f1 f2
    by_cases hf : f = 0
    · subst hf
      have f2 := f2 rfl
      clear f1 hT
      simp [*, encExpr_eq, exprs]
      all_goals (try grind)
    · have f1 := f1 hf
      clear f2
      rw [f1] at hT
      simp [hf] at hT
      replace hf := eqn hf
      clear f1
      subst hT
      simp [*, encExpr_eq, exprs, encTR]
  intros s1 hp h1 h2 h3 h4
  have hlen := argsT_len p s e.args hp
  rw [if_neg (by rw [hp]; simp)] at hT
  rw [← hlen] at hk
  generalize (argsT p s e.args).1 = l at *
  simp at h1 h2 h3
  clear IH hm hp
  by_cases k2 : e.kind = 2
  · replace k2 := eqp k2
    simp [madeT, k2] at hT
    clear hk h0
    subst hT
    simp [*, encTR]
  by_cases k3 : e.kind = 3
  · have hv : madeT p s e.kind e.op e.name l = (typeV s e.name, true) := by unfold madeT; rw [if_neg k2, if_pos k3]; rfl
    rw [hv] at hT
    simp at hT
    replace k2 := eqn k2
    replace k3 := eqp k3
    clear hk h0 hv
    subst hT
    simp [*, encTR]
  by_cases k7 : e.kind = 7
  · have hl1 : l.length ≤ 8 := by
      unfold kindR at hk; simp [k2, k3, k7] at hk; exact hk.2.2
    rcases idx_cases (fun f : Func => decide (f.name = e.name)) p.funcs with ⟨a1, a2⟩ | ⟨n, f, a1, a2, a3, a4, a5⟩
    · have a2 : funcAt p e.name = none := a2
      unfold namedT at h0
      rw [if_neg k3, if_neg (by omega), if_pos k7, a2] at h0
      exact absurd h0 (by simp)
    · have a1 : placeM p e.name = n := a1
      have a3 : funcAt p e.name = some f := a3
      have hpl : f.params.length = l.length := by
        unfold namedT at h0
        rw [if_neg k3, if_neg (by omega), if_pos k7, a3] at h0
        simp only at h0
        split at h0
        · omega
        · exact absurd h0 (by decide)
      have hv : madeT p s e.kind e.op e.name l = (f.type, decide (l = f.params.map (·.type))) := by
        unfold madeT; rw [if_neg k2, if_neg k3, if_neg (by omega), if_neg (by omega), if_neg (by omega), if_pos k7, a3]
      rw [hv, types_eq hpl.symm] at hT
      rw [a1] at t8
      have n0 : ¬ ((n : Int) < 0) := by omega
      have n1 : (0 ≤ (n : Int)) := by omega
      replace k2 := eqn k2
      replace k3 := eqn k3
      replace k7 := eqp k7
      clear hk h0 hv a5 a4 a1 a3
      simp [*, funcs]
      refine wp_each (l.zip f.params) K33_1 B33_1 (fun d => [(15, .int .i64 d.length)]) (fun _ => []) (fun d => (d.all fun x => decide (x.1 = x.2.type)) = true) (by simp; omega) ?_ ?_ ?_
      · simp [*]
      · intros d x r s2 hl' hlt hget hget' hw2 hp g1 g2 g3 g4
        simp at g1 g2 g3
        have hzz : (l.zip f.params)[d.length]? = some x := hget
        rw [List.getElem?_zip_eq_some] at hzz
        obtain ⟨z1, z2⟩ := hzz
        obtain ⟨x1, x2⟩ := x
        simp only at z1 z2
        have hz2 : (l.zip f.params).length = l.length := by simp [hpl]
        have hlt' : (d.length : Int) < l.length := by rw [hz2] at hlt; omega
        have hlt2 : (d.length : Int) < e.args.length := by omega
        by_cases hx : x1 = x2.type
        · replace hp : ((d ++ [(x1, x2)]).all fun x => decide (x.1 = x.2.type)) = true := by rw [List.all_append, hp]; simp [hx]
          replace hx := eqp hx
          clear hl' hget hget' hlt hz2 hT
          simp [*, strip_acc, encFunc, parsV, encPar, funcs]
          all_goals (try grind)
        · have hf : ((l.zip f.params).all fun x => decide (x.1 = x.2.type)) = false := by rw [hl'.eq]; simp [hx]
          rw [hf] at hT
          simp at hT
          replace hx := eqn hx
          clear hl' hget hget' hp hlt hz2
          subst hT
          simp [*, strip_acc, encFunc, parsV, encPar, funcs, encTR]
      · intros s2 hp g1 g2 g3 g4
        simp at g1 g2 g3
        rw [hp] at hT
        simp at hT
        have hz2 : (l.zip f.params).length = l.length := by simp [hpl]
        rw [hpl, Nat.min_self] at g3
        have hnl : ¬ ((l.length : Int) < l.length) := by omega
        clear hp hz2
        subst hT
        simp [*, strip_acc, encFunc, parsV, encPar, funcs, encTR]
  by_cases k6 : e.kind = 6
  · have hl : l.length = 1 := by
      unfold kindR at hk; simp [k2, k3, k6] at hk; exact hk.2.2
    obtain ⟨x, rfl⟩ := List.length_eq_one_iff.1 hl
    have hv : madeT p s e.kind e.op e.name [x] = (1, decide (x = 1)) := by unfold madeT; rw [if_neg k2, if_neg k3, if_pos k6]; rfl
    rw [hv] at hT
    replace k2 := eqn k2
    replace k3 := eqn k3
    replace k7 := eqn k7
    replace k6 := eqp k6
    clear hk h0 hv hl
    by_cases hx : x = 1
    · subst hx
      simp at hT
      subst hT
      simp [*, encTR]
    · simp [hx] at hT
      replace hx := eqn hx
      subst hT
      simp [*, encTR]
  by_cases k45 : e.kind = 4 ∨ e.kind = 5
  · have hll : (e.kind = 4 ∧ l.length = 1) ∨ (e.kind = 5 ∧ l.length = 2) := by
      rcases k45 with k | k
      · left; refine ⟨k, ?_⟩; unfold kindR at hk; simp [k] at hk; exact hk.2.2.2
      · right; refine ⟨k, ?_⟩; unfold kindR at hk; simp [k] at hk; exact hk.2.2.2
    rw [made_oper p s _ _ _ _ hll] at hT
    have ho := oper_spec e.op
    have hl0 : ∃ x r, l = x :: r := by
      rcases hll with ⟨_, h⟩ | ⟨_, h⟩ <;> cases l <;> simp at h ⊢
    have hl2 : l.length ≤ 2 := by rcases hll with ⟨_, h⟩ | ⟨_, h⟩ <;> omega
    obtain ⟨x0, r0, hx0⟩ := hl0
    have hat : at0 l = x0 := by rw [hx0]; rfl
    have hg0 : l[0]? = some x0 := by rw [hx0]; rfl
    generalize operR e.op = oq at *
    obtain ⟨tk, mk⟩ := oq
    simp only at hT ho
    unfold okR at hT
    rw [hat] at hT
    replace k2 := eqn k2
    replace k3 := eqn k3
    replace k7 := eqn k7
    replace k6 := eqn k6
    clear hk h0 hat hx0 hll hlen hla hw hz
    have k4' : e.kind = 5 → (e.kind = 4) = False := fun h => eqn (by omega)
    rcases k45 with k4 | k4
    case' inl => replace k4 := eqp k4; clear k4'
    case' inr => replace k4' := k4' k4; replace k4 := eqp k4
    all_goals
      simp [*]
      refine wp_each l K33_2 B33_2 (fun d => [(18, .int .i64 d.length)]) (fun _ => []) (fun d => (d.all fun y => !((!decide (tk = 0) && !decide (y = tk)) || !decide (y = x0))) = true) (by omega) ?_ ?_ ?_
      · simp [*]
      · intros d x r s2 hl' hlt hget hget' hw2 hp g1 g2 g3 g4
        simp at g1 g2 g3
        have hbad : (!((!decide (tk = 0) && !decide (x = tk)) || !decide (x = x0))) = false → (l.all fun y => !((!decide (tk = 0) && !decide (y = tk)) || !decide (y = x0))) = false := by
          intro h; rw [hl'.eq, List.all_append, List.all_cons, h]; simp
        have hgood : (!((!decide (tk = 0) && !decide (x = tk)) || !decide (x = x0))) = true → ((d ++ [x]).all fun y => !((!decide (tk = 0) && !decide (y = tk)) || !decide (y = x0))) = true := by
          intro h; rw [List.all_append, hp, List.all_cons, h]; simp
        clear hl' hp h1 h2 h3
        by_cases c1 : tk = 0
        · by_cases c2 : x = x0
          · replace hgood := hgood (by simp [c1, c2])
            replace c1 := eqp c1
            replace c2 := eqp c2
            clear hbad hT
            simp [*, strip_acc]
            all_goals (try grind)
          · rw [hbad (by simp [c2])] at hT
            simp at hT
            replace c1 := eqp c1
            replace c2 := eqn c2
            clear hbad hgood
            subst hT
            simp [*, strip_acc, encTR]
        · by_cases c3 : x = tk
          · by_cases c2 : x = x0
            · replace hgood := hgood (by rw [decide_eq_true c3, decide_eq_true c2]; simp)
              replace c1 := eqn c1
              replace c2 := eqp c2
              replace c3 := eqp c3
              clear hbad hT
              simp [*, strip_acc]
              all_goals (try grind)
            · rw [hbad (by simp [c2])] at hT
              simp at hT
              replace c1 := eqn c1
              replace c2 := eqn c2
              replace c3 := eqp c3
              clear hbad hgood
              subst hT
              simp [*, strip_acc, encTR]
          · rw [hbad (by simp [c1, c3])] at hT
            simp at hT
            replace c1 := eqn c1
            replace c3 := eqn c3
            clear hbad hgood
            subst hT
            simp [*, strip_acc, encTR]
      · intros s2 hp g1 g2 g3 g4
        simp at g1 g2 g3
        rw [hp] at hT
        simp at hT
        clear hp h1 h2 h3
        subst hT
        simp [*, strip_acc, encTR]
  · have k4 : ¬ e.kind = 4 := fun h => k45 (Or.inl h)
    have k5 : ¬ e.kind = 5 := fun h => k45 (Or.inr h)
    have hv : madeT p s e.kind e.op e.name l = (1, true) := by unfold madeT; rw [if_neg k2, if_neg k3, if_neg k6, if_neg k4, if_neg k5, if_neg k7]
    rw [hv] at hT
    simp at hT
    replace k2 := eqn k2
    replace k3 := eqn k3
    replace k7 := eqn k7
    replace k6 := eqn k6
    replace k4 := eqn k4
    replace k5 := eqn k5
    clear hk h0 hv k45
    subst hT
    simp [*, strip_acc, encTR]

def hitR (p : Prog) (s : List Vr) (e : Expr) : Bool := decide (namedT p s e.kind e.name e.args.length = 0)

set_option maxRecDepth 20000 in
set_option maxHeartbeats 8000000 in
theorem rTypeOf_spec' : ∀ w (p : Prog) (s : List Vr) (e : Expr) (m : Int), Fit p → wtE e ≤ w → w < 1099510000000 → s.length < 1099509000000 → exprR e m = true → pcall E 33 [encProg p, parsV (varsOf s), encExpr e] [] = some (.ret (encTR (exprT p s e)), []) := by
  intro w
  induction w with
  | zero => intro p s e m _ h _ _ _; rw [wtE_eq] at h; omega
  | succ w ih =>
    intro p s e m hz h hw hsl hR
    rw [exprR_eq, Bool.and_eq_true] at hR
    obtain ⟨hm, hk⟩ := hR
    have hla := len_wtEs e.args
    have hwe := wtE_eq e
    have hp := rplace_spec p e.name (by have := hz.f; omega)
    have ha := rarray_spec p e.name (by have := hz.a; omega)
    have hf := rfind_spec s e.name (by omega)
    have hT := (exprT_eq p s e).symm
    have tail := type_tail p s e m hz (by omega) hm hk
    have h3 : (arrayM p e.name < 0) = (hasArr p e.name = false) := by
      have : decide (0 ≤ arrayM p e.name) = hasArr p e.name := idx_ge (fun f : PArr => decide (f.name = e.name)) p.arrays
      rw [← this, decide_eq_false_iff_not]; apply propext; omega
    replace tail := fun h0 => tail h0 (fun x hx m' hm' => ih p s x m' hz (by have := wtE_mem hx; omega) (by omega) hsl hm')
    have hal : e.args.length < 1099510000000 := by omega
    clear h hw hm hk hla hwe ih
    generalize exprT p s e = R at *
    refine pcall_wp rfl rfl rfl (by simp [encProg, encExpr_eq, parsV]) ?_
    rw [show F33.body = .seq (sq1 F33.body) (.seq (sq1 (sq2 F33.body)) (.seq (sq1 (sq2 (sq2 F33.body))) (.seq (sq1 (sq2 (sq2 (sq2 F33.body)))) typeTail))) from rfl]
    simp [encProg, parsV, encTR] at hp ha hf
    unfold namedT at hT tail
    by_cases k3 : e.kind = 3
    · rw [if_pos k3] at hT tail
      have k7 : (e.kind = 7) = False := eqn (by omega)
      have k6 : (e.kind = 6) = False := eqn (by omega)
      replace k3 := eqp k3
      by_cases hv : findV s e.name = []
      · rw [if_pos hv] at hT
        simp at hT
        replace hv := eqp hv
        clear tail
        subst hT
        simp [*, F33, sq1, sq2, encProg, encExpr_eq, parsV, encTR, exprs]
      · rw [if_neg hv] at tail
        replace tail := tail rfl
        replace hv := eqn hv
        clear hT
        simp [*, F33, sq1, sq2, encProg, encExpr_eq, parsV, encTR, exprs]
        refine tail _ ?_ ?_ ?_ ?_ ?_ ?_ ?_ ?_ <;> simp [*, parsV, exprs]
    rw [if_neg k3] at hT tail
    by_cases k6 : e.kind = 6
    · rw [if_pos k6] at hT tail
      have k7 : (e.kind = 7) = False := eqn (by omega)
      replace k3 := eqn k3
      replace k6 := eqp k6
      cases hb : hasArr p e.name
      · rw [hb] at hT h3
        simp at hT h3
        replace h3 := eqp h3
        clear tail
        subst hT
        simp [*, F33, sq1, sq2, encProg, encExpr_eq, parsV, encTR, exprs]
      · rw [hb] at tail h3
        replace tail := tail rfl
        replace h3 : (arrayM p e.name < 0) = False := by rw [h3]; simp
        clear hT
        simp [*, F33, sq1, sq2, encProg, encExpr_eq, parsV, encTR, exprs]
        refine tail _ ?_ ?_ ?_ ?_ ?_ ?_ ?_ ?_ <;> simp [*, parsV, exprs]
    rw [if_neg k6] at hT tail
    by_cases k7 : e.kind = 7
    · rw [if_pos k7] at hT tail
      replace k3 := eqn k3
      replace k6 := eqn k6
      replace k7 := eqp k7
      rcases idx_cases (fun f : Func => decide (f.name = e.name)) p.funcs with ⟨a1, a2⟩ | ⟨n, f, a1, a2, a3, a4, a5⟩
      · have a1 : placeM p e.name = -1 := a1
        have a2 : funcAt p e.name = none := a2
        rw [a2] at hT
        simp at hT
        rw [a1] at hp
        clear tail a2
        subst hT
        simp [*, F33, sq1, sq2, encProg, encExpr_eq, parsV, encTR, exprs]
      · have a1 : placeM p e.name = n := a1
        have a3 : funcAt p e.name = some f := a3
        have hpf := hz.p f (List.mem_of_getElem? a2)
        rw [a3] at hT tail
        simp only at hT tail
        have n0 : ¬ ((n : Int) < 0) := by omega
        rw [a1] at hp tail
        simp only [funcs] at hp
        by_cases hq : f.params.length = e.args.length
        · rw [if_pos hq] at tail
          replace tail := tail rfl
          have hq' : ((e.args.length : Int) = f.params.length) = True := eqp (by omega)
          clear hT a5 a4 a3 a1 hq
          simp [*, F33, sq1, sq2, encProg, encExpr_eq, parsV, encTR, exprs, funcs, encFunc]
          refine tail _ ?_ ?_ ?_ ?_ ?_ ?_ ?_ ?_ <;> simp [*, parsV, exprs, funcs]
        · rw [if_neg hq] at hT
          simp at hT
          have hq' : ((e.args.length : Int) = f.params.length) = False := eqn (by omega)
          clear tail a5 a4 a3 a1 hq
          subst hT
          simp [*, F33, sq1, sq2, encProg, encExpr_eq, parsV, encTR, exprs, funcs, encFunc]
    · rw [if_neg k7] at tail
      replace tail := tail rfl
      replace k3 := eqn k3
      replace k6 := eqn k6
      replace k7 := eqn k7
      clear hT
      simp [*, F33, sq1, sq2, encProg, encExpr_eq, parsV, encTR, exprs]
      refine tail _ ?_ ?_ ?_ ?_ ?_ ?_ ?_ ?_ <;> simp [*, parsV, exprs]
theorem rTypeOf_spec (p : Prog) (s : List Vr) (e : Expr) (m : Int) (hz : Fit p) (hw : wtE e < 1099510000000) (hs : s.length < 1099509000000) (hR : exprR e m = true) : pcall E 33 [encProg p, parsV (varsOf s), encExpr e] [] = some (.ret (encTR (exprT p s e)), []) :=
  rTypeOf_spec' (wtE e) p s e m hz (Nat.le_refl _) hw hs hR
end PE.U

/-
  The document's types: ends; a statement, but for those in it.
-/
namespace PE.U
open Go PE

set_option maxHeartbeats 1000000 in
theorem breaks_spec' : ∀ w (l : List Stmt), wtSs l ≤ w → w < 1099508500000 → pcall E 31 [stmts l] [] = some (.ret (.bool (leavesT l)), [])
  | w, l, h, hw => by
    have hlen := len_wtSs l
    refine pcall_wp rfl rfl rfl (by simp [stmts]) ?_
    simp [F31, stmts]
    refine wp_each l K31_0 B31_0 (fun d => [(3, .int .i64 d.length)]) (fun _ => []) (fun d => leavesT d = false) (by omega) (by simp [leavesT]) ?_ ?_
    · intros d x r s1 hl' hlt hget hget' hw1 hp h1 h2 h3 h4
      simp at h1 h2 h3
      have hwx := wtS_mem hl'.mem
      rw [wtS_eq] at hwx
      obtain ⟨w, rfl⟩ : ∃ k, w = k + 1 := ⟨w - 1, by omega⟩
      have i1 := breaks_spec' w x.thn (by omega) (by omega)
      have i2 := breaks_spec' w x.els (by omega) (by omega)
      have hyes : leaves1 x = true → leavesT l = true := by intro h; rw [leavesT_any, hl'.eq]; simp [h]
      have hno : leaves1 x = false → leavesT (d ++ [x]) = false := by intro h; rw [leavesT_any] at hp ⊢; rw [List.any_append, hp]; simp [h]
      rw [leaves1_eq] at hyes hno
      clear hl' hp h hwx
      simp [stmts] at i1 i2
      generalize leavesT x.thn = b1 at *
      generalize leavesT x.els = b2 at *
      by_cases k6 : x.kind = 6
      · replace hyes := hyes (by simp [k6])
        replace k6 := eqp k6
        clear hno
        simp [*, encStmt_eq, stmts]
      by_cases k4 : x.kind = 4
      · cases b1
        · cases b2
          · replace hno := hno (by simp [k4])
            replace k6 := eqn k6
            replace k4 := eqp k4
            clear hyes
            simp [*, encStmt_eq, stmts]
            all_goals (try grind)
          · replace hyes := hyes (by simp [k4])
            replace k6 := eqn k6
            replace k4 := eqp k4
            clear hno
            simp [*, encStmt_eq, stmts]
        · replace hyes := hyes (by simp [k4])
          replace k6 := eqn k6
          replace k4 := eqp k4
          clear hno
          simp [*, encStmt_eq, stmts]
      · replace hno := hno (by simp [k4, k6])
        replace k6 := eqn k6
        replace k4 := eqn k4
        clear hyes
        simp [*, encStmt_eq, stmts]
        all_goals (try grind)
    · intros s1 hp h1 h2 h3 h4
      simp at h1 h2 h3
      simp [*]
theorem breaks_spec (l : List Stmt) (h : wtSs l < 1099508000000) : pcall E 31 [stmts l] [] = some (.ret (.bool (leavesT l)), []) := breaks_spec' (wtSs l) l (Nat.le_refl _) (by omega)

set_option maxHeartbeats 1000000 in
theorem rends_spec' : ∀ w (l : List Stmt) (m : Int), wtSs l ≤ w → w < 1099508000000 → stmtsR l m = true → pcall E 12 [stmts l] [] = some (.ret (.bool (endsT l)), [])
  | w, l, m, h, hw, hR => by
    have hlen := len_wtSs l
    refine pcall_wp rfl rfl rfl (by simp [stmts]) ?_
    simp [F12, stmts]
    refine wp_each l K12_0 B12_0 (fun d => [(3, .int .i64 d.length)]) (fun _ => []) (fun d => endsT d = false) (by omega) (by simp [endsT]) ?_ ?_
    · intros d x r s1 hl' hlt hget hget' hw1 hp h1 h2 h3 h4
      simp at h1 h2 h3
      have hwx := wtS_mem hl'.mem
      rw [wtS_eq] at hwx
      obtain ⟨w, rfl⟩ : ∃ k, w = k + 1 := ⟨w - 1, by omega⟩
      have hxR : stmtR x m = true := by rw [stmtsR_all, List.all_eq_true] at hR; exact hR x hl'.mem
      obtain ⟨r1, r2, r3, r4⟩ := stmtR_has hxR
      have i1 := rends_spec' w x.thn _ (by omega) (by omega) r3
      have i2 := rends_spec' w x.els _ (by omega) (by omega) r4
      have i3 := breaks_spec x.thn (by omega)
      have hyes : ends1 x = true → endsT l = true := by intro h; rw [endsT_any, hl'.eq]; simp [h]
      have hno : ends1 x = false → endsT (d ++ [x]) = false := by intro h; rw [endsT_any] at hp ⊢; rw [List.any_append, hp]; simp [h]
      rw [ends1_eq] at hyes hno
      clear hl' hp h hwx hxR hR r2 r3 r4
      simp [stmts] at i1 i2 i3
      generalize endsT x.thn = b1 at *
      generalize endsT x.els = b2 at *
      generalize leavesT x.thn = b3 at *
      by_cases k8 : x.kind = 8
      · replace hyes := hyes (by simp [k8])
        replace k8 := eqp k8
        clear hno r1
        simp [*, encStmt_eq, stmts, exprs]
      by_cases k4 : x.kind = 4
      · rw [if_neg k8, if_pos k4] at hyes hno
        have k5 : (x.kind = 5) = False := eqn (by omega)
        replace k8 := eqn k8
        replace k4 := eqp k4
        clear r1
        cases b1
        · replace hno := hno rfl
          clear hyes
          simp [*, encStmt_eq, stmts, exprs]
          all_goals (try grind)
        · cases b2
          · replace hno := hno rfl
            clear hyes
            simp [*, encStmt_eq, stmts, exprs]
            all_goals (try grind)
          · replace hyes := hyes rfl
            clear hno
            simp [*, encStmt_eq, stmts, exprs]
      by_cases k5 : x.kind = 5
      · rw [if_neg k8, if_neg k4, if_pos k5] at hyes hno
        have hl1 : x.args.length = 1 := by rw [k5] at r1; simp [shapeR] at r1; omega
        obtain ⟨y, hy⟩ := List.length_eq_one_iff.1 hl1
        have hg0 : x.args[0]? = some y := by rw [hy]; rfl
        have ha0 : arg0 x.args = y := by unfold arg0; rw [hg0]; rfl
        rw [ha0] at hyes hno
        clear hy hl1 r1 ha0
        replace k8 := eqn k8
        replace k4 := eqn k4
        replace k5 := eqp k5
        by_cases y2 : y.kind = 2
        · by_cases y1 : y.n = 1
          · cases b3
            · replace hyes := hyes (by simp [y1, y2])
              replace y2 := eqp y2
              replace y1 := eqp y1
              clear hno
              simp [*, encStmt_eq, stmts, exprs, encExpr_eq]
            · replace hno := hno (by simp)
              replace y2 := eqp y2
              replace y1 := eqp y1
              clear hyes
              simp [*, encStmt_eq, stmts, exprs, encExpr_eq]
              all_goals (try grind)
          · replace hno := hno (by simp [y1])
            replace y2 := eqp y2
            replace y1 := eqn y1
            clear hyes
            simp [*, encStmt_eq, stmts, exprs, encExpr_eq]
            all_goals (try grind)
        · replace hno := hno (by simp [y2])
          replace y2 := eqn y2
          clear hyes
          simp [*, encStmt_eq, stmts, exprs, encExpr_eq]
          all_goals (try grind)
      · rw [if_neg k8, if_neg k4, if_neg k5] at hyes hno
        replace hno := hno rfl
        replace k8 := eqn k8
        replace k4 := eqn k4
        replace k5 := eqn k5
        clear hyes r1
        simp [*, encStmt_eq, stmts, exprs]
        all_goals (try grind)
    · intros s1 hp h1 h2 h3 h4
      simp at h1 h2 h3
      clear hR
      simp [*]
theorem rends_spec (l : List Stmt) (m : Int) (h : wtSs l < 1099508000000) (hR : stmtsR l m = true) : pcall E 12 [stmts l] [] = some (.ret (.bool (endsT l)), []) := rends_spec' (wtSs l) l m (Nat.le_refl _) h hR

/-! ### A statement -/

/-- What goes through a function. -/
def cob (p : Prog) (f : Func) (n : Int) : Obj := .arr 7 [.agg [parrs p.arrays, funcs p.funcs, .str f.name, .int .i64 f.type, parsV f.params, stmts f.body, .int .i64 n]]

theorem rwant_spec {p : Prog} {g : Func} {s : List Vr} {e : Expr} {t m : Int} {σ : Store} {k : Nat} {n : Int} (hk : σ[k]? = some (cob p g n)) (hz : Fit p) (hs : s.length < 1099509000000) (hw : wtE e < 1099510000000) (hR : exprR e m = true) :
    pcall E 82 [.ptr k 0 0, parsV (varsOf s), encExpr e, .int .i64 t] σ = some (.ret (.int .i64 (wantT p s e t)), σ) := by
  refine pcall_wp rfl rfl rfl (by simp [encExpr_eq, parsV]) ?_
  have h1 := rTypeOf_spec p s e m hz hw hs hR
  unfold wantT
  generalize exprT p s e = q at *
  obtain ⟨ty, f⟩ := q
  simp only
  clear hR hw hz hs
  rw [encExpr_eq] at h1
  simp [encProg, exprs, encTR, parsV] at h1
  unfold cob at hk
  by_cases hf : f = 0
  · subst hf
    by_cases ht : ty = t
    · replace ht := eqp ht
      simp [*, F82, encExpr_eq, exprs, parsV]
    · replace ht := eqn ht
      simp [*, F82, encExpr_eq, exprs, parsV]
  · replace hf := eqn hf
    simp [*, F82, encExpr_eq, exprs, parsV]

theorem findV_append (a b : List Vr) (nm : List UInt8) : findV (a ++ b) nm = if findV a nm = [] then findV b nm else findV a nm ++ b := by
  induction a with
  | nil => simp [findV]
  | cons v r ih =>
    rw [List.cons_append, findV_cons, findV_cons, ih]
    by_cases h : v.name = nm <;> simp [h]
theorem findV_mem {s : List Vr} {nm : List UInt8} {v : Vr} {r : List Vr} (h : findV s nm = v :: r) : v ∈ s := by
  induction s with
  | nil => simp [findV] at h
  | cons x q ih =>
    rw [findV_cons] at h
    split at h
    · cases h; simp
    · simp [ih h]

/-- The variables of a list of statements, and those around. -/
structure Lay (s : List Vr) (d : Int) (q : Nat) where
  inner : List Vr
  outer : List Vr
  eq : s = inner ++ outer
  len : outer.length = q
  ins : ∀ v ∈ inner, v.depth = d
  outs : ∀ v ∈ outer, v.depth < d

theorem lay_let {s : List Vr} {d : Int} {q : Nat} (L : Lay s d q) (nm : List UInt8) : (match findV s nm with | [] => (0 : Int) | v :: _ => if v.depth < d then 0 else 50) = if findV L.inner nm = [] then 0 else 50 := by
  obtain ⟨inner, outer, rfl, len, ins, outs⟩ := L
  simp only
  rw [findV_append]
  by_cases h : findV inner nm = []
  · rw [if_pos h, if_pos h]
    cases hb : findV outer nm with
    | nil => rfl
    | cons v r =>
      simp only
      rw [if_pos (outs v (findV_mem hb))]
  · rw [if_neg h, if_neg h]
    cases hb : findV inner nm with
    | nil => exact absurd hb h
    | cons v r =>
      simp only [List.cons_append]
      rw [if_neg (by rw [ins v (findV_mem hb)]; omega)]
theorem lay_drop {s : List Vr} {d : Int} {q : Nat} (L : Lay s d q) : (varsOf s).drop q = varsOf L.inner := by
  obtain ⟨inner, outer, rfl, len, ins, outs⟩ := L
  simp only
  rw [varsOf_append, List.drop_append_of_le_length (by rw [varsOf_len, len]; exact Nat.le_refl _), List.drop_of_length_le (by rw [varsOf_len, len]; exact Nat.le_refl _), List.nil_append]

set_option maxRecDepth 20000 in
set_option maxHeartbeats 8000000 in
theorem rown_spec {p : Prog} {g : Func} {s : List Vr} {x : Stmt} {d m : Int} {loop : Bool} {σ : Store} {k q : Nat} {n : Int} (hk : σ[k]? = some (cob p g n)) (L : Lay s d q) (hz : Fit p) (hs : s.length < 1099509000000) (hw : wtS x < 1099509000000) (hR : stmtR x m = true) :
    pcall E 63 [.ptr k 0 0, encStmt x, parsV (varsOf s), .int .i64 q, .bool loop] σ = some (.ret (.int .i64 (stmtT p g.type s x.kind x.type x.name x.args d loop)), σ) := by
  refine pcall_wp rfl rfl rfl (by simp [encStmt_eq, parsV]) ?_
  obtain ⟨r1, r2, _, _⟩ := stmtR_has hR
  rw [wtS_eq] at hw
  have hwant : ∀ y ∈ x.args, ∀ t, pcall E 82 [.ptr k 0 0, parsV (varsOf s), encExpr y, .int .i64 t] σ = some (.ret (.int .i64 (wantT p s y t)), σ) := by
    intro y hy t
    have := wtE_mem hy
    exact rwant_spec hk hz hs (by omega) (r2 y hy)
  have hexp : ∀ y ∈ x.args, pcall E 33 [encProg p, parsV (varsOf s), encExpr y] [] = some (.ret (encTR (exprT p s y)), []) := by
    intro y hy
    have := wtE_mem hy
    exact rTypeOf_spec p s y 100 hz (by omega) hs (r2 y hy)
  have hone : (x.kind = 1 ∨ x.kind = 2 ∨ x.kind = 4 ∨ x.kind = 5 ∨ x.kind = 8 ∨ x.kind = 9 ∨ x.kind = 10) → ∃ y, x.args = [y] := by
    intro h
    have : x.args.length = 1 := by rcases h with h | h | h | h | h | h | h <;> (rw [h] at r1; simp [shapeR] at r1; omega)
    exact List.length_eq_one_iff.1 this
  have hkind : 1 ≤ x.kind ∧ x.kind ≤ 10 := by
    by_cases h : 1 ≤ x.kind ∧ x.kind ≤ 10
    · exact h
    · exfalso
      have : (shapeR x.kind).2.2.1 = -1 := by
        unfold shapeR
        repeat' (first | rw [if_neg (by omega)] | rfl)
      omega
  have hf := rfind_spec s x.name (by omega)
  have hil : L.inner.length < 1099511627776 := by
    have := congrArg List.length L.eq; rw [List.length_append] at this; omega
  have hql : q ≤ s.length := by
    have := congrArg List.length L.eq; rw [List.length_append, L.len] at this; omega
  have hfi := rfind_spec L.inner x.name hil
  have hdrop := lay_drop L
  have hlet := lay_let L x.name
  have hvl := varsOf_len s
  have hh := rarray_spec p x.name (by have := hz.a; omega)
  have h3 : decide (0 ≤ arrayM p x.name) = hasArr p x.name := idx_ge (fun f : PArr => decide (f.name = x.name)) p.arrays
  have h3' : (arrayM p x.name < 0) = (hasArr p x.name = false) := by
    rw [← h3, decide_eq_false_iff_not]; apply propext; omega
  have hlvl : ((varsOf s).map encPar).length = s.length := by simp [varsOf]
  clear r2 hR hw hz h3 hil
  unfold stmtT
  unfold cob at hk
  simp [encProg] at hh
  have one : ∀ y, x.args = [y] → x.args[0]? = some y ∧ arg0 x.args = y := by
    intro y hy
    have hget : x.args[0]? = some y := by rw [hy]; rfl
    exact ⟨hget, by unfold arg0; rw [hget]; rfl⟩
  by_cases k1 : x.kind = 1
  · obtain ⟨y, hy⟩ := hone (by simp [k1])
    obtain ⟨hget, ha0⟩ := one y hy
    have hw1 := hwant y (by rw [hy]; simp) x.type
    rw [if_neg (by omega), if_neg (by omega), if_neg (by omega), if_neg (by omega), if_neg (by omega)]
    have hb : boundT p s x.kind x.type x.name x.args d = if wantT p s (arg0 x.args) x.type ≠ 0 then wantT p s (arg0 x.args) x.type else if findV L.inner x.name = [] then 0 else 50 := by
      unfold boundT
      rw [if_pos k1]
      split
      · rfl
      · exact hlet
    rw [hb, ha0]
    rw [encExpr_eq] at hw1
    simp [exprs, parsV] at hw1 hfi
    have hd2 : List.drop q ((varsOf s).map encPar) = (varsOf L.inner).map encPar := by rw [← List.map_drop, hdrop]
    have htk : List.take s.length ((varsOf s).map encPar) = (varsOf s).map encPar := List.take_of_length_le (by rw [hlvl]; exact Nat.le_refl _)
    unfold parsV
    generalize (varsOf s).map encPar = vs at *
    replace k1 := eqp k1
    clear hy r1 ha0 hwant hexp hone hkind h3' hh one hf hlet hdrop hvl hb
    generalize wantT p s y x.type = f at *
    have q0 : (0 ≤ (q : Int)) := by omega
    by_cases hff : f = 0
    · subst hff
      by_cases hin : findV L.inner x.name = []
      · replace hin := eqp hin
        simp [*, F63, encStmt_eq, exprs, encExpr_eq, parsV]
      · replace hin := eqn hin
        simp [*, F63, encStmt_eq, exprs, encExpr_eq, parsV]
    · replace hff := eqn hff
      simp [*, F63, encStmt_eq, exprs, encExpr_eq, parsV]
  clear hfi hdrop hlet hql hvl hlvl
  by_cases k2 : x.kind = 2
  · obtain ⟨y, hy⟩ := hone (by simp [k2])
    obtain ⟨hget, ha0⟩ := one y hy
    have hw1 := hwant y (by rw [hy]; simp)
    rw [if_neg (by omega), if_neg (by omega), if_neg (by omega), if_neg (by omega), if_neg (by omega)]
    unfold boundT
    rw [if_neg k1, if_pos k2, ha0]
    clear hy r1 ha0 hwant hexp hone hkind h3' hh one
    replace k1 := eqn k1
    replace k2 := eqp k2
    unfold typeV at hf
    generalize findV s x.name = vs at *
    cases vs with
    | nil =>
      clear hw1
      simp [parsV] at hf
      simp [*, F63, encStmt_eq, exprs, encExpr_eq, parsV]
    | cons v r =>
      have hw1 := hw1 v.type
      rw [encExpr_eq] at hw1
      simp [exprs, parsV] at hw1 hf
      simp [*, F63, encStmt_eq, exprs, encExpr_eq, parsV]
  clear hf
  by_cases k3 : x.kind = 3
  · have hl2 : x.args.length = 2 := by rw [k3] at r1; simp [shapeR] at r1; omega
    obtain ⟨y, z, hy⟩ : ∃ y z, x.args = [y, z] := by
      match h : x.args, hl2 with
      | [y, z], _ => exact ⟨y, z, rfl⟩
    have hget : x.args[0]? = some y := by rw [hy]; rfl
    have hget1 : x.args[1]? = some z := by rw [hy]; rfl
    have ha0 : arg0 x.args = y := by unfold arg0; rw [hget]; rfl
    have ha1 : arg1 x.args = z := by unfold arg1; rw [hget1]; rfl
    rw [if_neg (by omega), if_neg (by omega), if_neg (by omega), if_neg (by omega), if_neg (by omega)]
    unfold boundT
    rw [if_neg k1, if_neg k2, ha0, ha1]
    have hw1 := hwant y (by rw [hy]; simp) 1
    have hw2 := hwant z (by rw [hy]; simp) 1
    clear hy hl2 r1 ha0 ha1 hwant hexp hone hkind one
    replace k1 := eqn k1
    replace k2 := eqn k2
    replace k3 := eqp k3
    rw [encExpr_eq] at hw1 hw2
    simp [exprs, parsV] at hw1 hw2
    generalize hasArr p x.name = b at *
    cases b
    · clear hw1 hw2
      simp at h3'
      replace h3' := eqp h3'
      simp [*, F63, encStmt_eq, exprs, encExpr_eq, parsV]
    · simp at h3'
      replace h3' : (arrayM p x.name < 0) = False := eqn (by omega)
      generalize wantT p s y 1 = f at *
      by_cases hff : f = 0
      · subst hff
        simp [*, F63, encStmt_eq, exprs, encExpr_eq, parsV]
      · replace hff := eqn hff
        simp [*, F63, encStmt_eq, exprs, encExpr_eq, parsV]
  clear hh h3'
  by_cases k45 : x.kind = 4 ∨ x.kind = 5
  · obtain ⟨y, hy⟩ := hone (by rcases k45 with h | h <;> simp [h])
    obtain ⟨hget, ha0⟩ := one y hy
    have hw1 := hwant y (by rw [hy]; simp) 2
    rw [if_pos k45, ha0]
    rw [encExpr_eq] at hw1
    simp [exprs, parsV] at hw1
    clear hy r1 ha0 hwant hexp hone one
    have k5' : x.kind = 5 → (x.kind = 4) = False := fun h => eqn (by omega)
    replace k1 := eqn k1
    replace k2 := eqn k2
    replace k3 := eqn k3
    clear hkind
    rcases k45 with k4 | k4
    · replace k4 := eqp k4
      clear k5'
      simp [*, F63, encStmt_eq, exprs, encExpr_eq, parsV]
    · replace k5' := k5' k4
      replace k4 := eqp k4
      simp [*, F63, encStmt_eq, exprs, encExpr_eq, parsV]
  rw [if_neg k45]
  have k4 : (x.kind = 4) = False := eqn fun h => k45 (Or.inl h)
  have k5 : (x.kind = 5) = False := eqn fun h => k45 (Or.inr h)
  replace k1 := eqn k1
  replace k2 := eqn k2
  replace k3 := eqn k3
  clear k45
  by_cases k8 : x.kind = 8
  · obtain ⟨y, hy⟩ := hone (by simp [k8])
    obtain ⟨hget, ha0⟩ := one y hy
    have hw1 := hwant y (by rw [hy]; simp) g.type
    rw [if_pos k8, ha0]
    rw [encExpr_eq] at hw1
    simp [exprs, parsV] at hw1
    clear hy r1 ha0 hwant hexp hone one hkind
    replace k8 := eqp k8
    simp [*, F63, encStmt_eq, exprs, encExpr_eq, parsV]
  by_cases k9 : x.kind = 9
  · obtain ⟨y, hy⟩ := hone (by simp [k9])
    obtain ⟨hget, ha0⟩ := one y hy
    have hw1 := hwant y (by rw [hy]; simp) 1
    rw [if_neg k8, if_pos k9, ha0]
    rw [encExpr_eq] at hw1
    simp [exprs, parsV] at hw1
    clear hy r1 ha0 hwant hexp hone one hkind
    replace k8 := eqn k8
    replace k9 := eqp k9
    simp [*, F63, encStmt_eq, exprs, encExpr_eq, parsV]
  by_cases k10 : x.kind = 10
  · obtain ⟨y, hy⟩ := hone (by simp [k10])
    obtain ⟨hget, ha0⟩ := one y hy
    have hw1 := hexp y (by rw [hy]; simp)
    rw [if_neg k8, if_neg k9, if_pos k10, ha0]
    rw [encExpr_eq] at hw1
    simp [exprs, parsV, encProg, encTR] at hw1
    clear hy r1 ha0 hwant hexp hone one hkind
    replace k8 := eqn k8
    replace k9 := eqn k9
    replace k10 := eqp k10
    simp [*, F63, encStmt_eq, exprs, encExpr_eq, parsV]
  rw [if_neg k8, if_neg k9, if_neg k10, if_pos (by
    have := of_eq_false k1; have := of_eq_false k2; have := of_eq_false k3; have := of_eq_false k4; have := of_eq_false k5
    omega)]
  replace k8 := eqn k8
  replace k9 := eqn k9
  replace k10 := eqn k10
  clear r1 hwant hexp hone one hkind
  cases loop <;> simp [*, F63, encStmt_eq, exprs, encExpr_eq, parsV]
end PE.U

/-
  The document's types: statements.
-/
namespace PE.U
open Go PE

theorem blockGo_len (p : Prog) (res d : Int) (loop : Bool) : ∀ (l : List Stmt) (vs : List Vr) (n : Int), (blockGo p res d loop l vs n).1.length ≤ vs.length + l.length
  | [], vs, n => by simp [blockGo]
  | x :: r, vs, n => by
    have h2 := blockGo_len p res d loop r (behind d x vs) (block1 p res x vs d loop n).2
    have h1 : (behind d x vs).length ≤ vs.length + 1 := by unfold behind; split <;> simp
    simp only [blockGo, List.length_cons]; omega

theorem lay_behind {s : List Vr} {d : Int} {q : Nat} (L : Lay s d q) (x : Stmt) : Nonempty (Lay (behind d x s) d q) := by
  obtain ⟨inner, outer, rfl, len, ins, outs⟩ := L
  unfold behind
  split
  · refine ⟨⟨⟨x.name, x.type, d⟩ :: inner, outer, rfl, len, ?_, outs⟩⟩
    intro v hv
    rcases List.mem_cons.1 hv with rfl | hv
    · rfl
    · exact ins v hv
  · exact ⟨⟨inner, outer, rfl, len, ins, outs⟩⟩
theorem lay_under {s : List Vr} {d : Int} {q : Nat} (L : Lay s d q) : ∀ v ∈ s, v.depth < d + 1 := by
  obtain ⟨inner, outer, rfl, len, ins, outs⟩ := L
  intro v hv
  rcases List.mem_append.1 hv with h | h
  · have := ins v h; omega
  · have := outs v h; omega

set_option maxRecDepth 20000 in
set_option maxHeartbeats 16000000 in
theorem rblock_spec' : ∀ w (p : Prog) (g : Func) (l : List Stmt) (vs : List Vr) (d m n : Int) (loop : Bool) (σ : Store) (k : Nat), wtSs l ≤ w → w < 1099508000000 → Fit p → stmtsR l m = true → 0 ≤ n → n + wtSs l < 4000000000000 → vs.length + wtSs l < 1099508500000 → (∀ v ∈ vs, v.depth < d) → σ[k]? = some (cob p g n) →
    pcall E 27 [.ptr k 0 0, stmts l, parsV (varsOf vs), .bool loop] σ = some (.ret (.int .i64 (blockT p g.type l vs d loop n).1), σ.set k (cob p g (blockT p g.type l vs d loop n).2)) := by
  intro w
  induction w with
  | zero =>
    intro p g l vs d m n loop σ k h hw hz hR hn0 hnw hvl hvd hk
    have hl : l = [] := by
      have := len_wtSs l
      exact List.eq_nil_of_length_eq_zero (by omega)
    subst hl
    have hset : σ.set k (cob p g n) = σ := by
      have hlt := (List.getElem?_eq_some_iff.1 hk)
      obtain ⟨h1, h2⟩ := hlt
      rw [← h2, List.set_getElem_self]
    have hvl2 := varsOf_len vs
    have hroom : vs.length * 24 ≤ roomMax := by simp only [roomMax]; omega
    refine pcall_wp rfl rfl rfl (by simp [stmts, parsV]) ?_
    simp only [blockT, hset]
    simp [F27, stmts, parsV, hvl2, hroom]
    refine wp_each ([] : List Stmt) K27_0 B27_0 (fun d' => [(9, acc 2 ((varsOf vs).map encPar)), (10, .int .i64 d'.length)]) (fun _ => σ) (fun _ => True) (by simp) (by simp) ?_ ?_
    · intros d' x r s1 hl' hlt
      simp at hlt
    · intros s1 hp h1 h2 h3 h4
      simp at h1 h2 h3
      simp [*]
  | succ w ih =>
    intro p g l vs d m n loop σ k h hw hz hR hn0 hnw hvl hvd hk
    have hlen := len_wtSs l
    have hset : σ.set k (cob p g n) = σ := by
      have hlt := (List.getElem?_eq_some_iff.1 hk)
      obtain ⟨h1, h2⟩ := hlt
      rw [← h2, List.set_getElem_self]
    have hklt : k < σ.length := (List.getElem?_eq_some_iff.1 hk).1
    have hvl2 := varsOf_len vs
    have hroom : vs.length * 24 ≤ roomMax := by simp only [roomMax]; omega
    refine pcall_wp rfl rfl rfl (by simp [stmts, parsV]) ?_
    simp [F27, stmts, parsV, hvl2, hroom]
    refine wp_each l K27_0 B27_0 (fun q => [(9, acc 2 ((varsOf (blockGo p g.type d loop q vs n).1).map encPar)), (10, .int .i64 q.length)]) (fun q => σ.set k (cob p g (blockGo p g.type d loop q vs n).2)) (fun q => blockFine p g.type d loop q vs n ∧ Nonempty (Lay (blockGo p g.type d loop q vs n).1 d vs.length)) (by omega) ?_ ?_ ?_
    · simp [blockGo, blockFine, hset]
      exact ⟨⟨[], vs, rfl, rfl, by simp, hvd⟩⟩
    · intros q x r s1 hl' hlt hget hget' hw1 hp h1 h2 h3 h4
      obtain ⟨hp, ⟨L⟩⟩ := hp
      have hT := blockT_go p g.type d loop (x :: r) q vs n hp
      rw [← hl'.eq, blockT_cons, block1_eq] at hT
      have hG := blockGo_snoc p g.type d loop x q vs n
      have hF := blockFine_snoc p g.type d loop x q vs n hp
      rw [block1_eq] at hG hF
      have hxR : stmtR x m = true := by rw [stmtsR_all, List.all_eq_true] at hR; exact hR x hl'.mem
      have hwx := wtS_mem hl'.mem
      rw [wtS_eq] at hwx
      obtain ⟨r1, r2, r3, r4⟩ := stmtR_has hxR
      have hgc := blockGo_count p g.type d loop q vs n
      have hgl := blockGo_len p g.type d loop q vs n
      have hws : wtSs l = wtSs q + (1 + wtS x + wtSs r) := by rw [hl'.eq, wtSs_append]; rfl
      rw [wtS_eq] at hws
      have hlq := len_wtSs q
      generalize blockGo p g.type d loop q vs n = gg at *
      obtain ⟨v1, n1⟩ := gg
      simp only at hT hG hF h3 h4 hgc hgl L
      have hwn : wrapK .i64 (n1 + 1) = n1 + 1 := wrapK_small (by omega) (by omega)
      have hk1 : (σ.set k (cob p g n1))[k]? = some (cob p g n1) := by rw [List.getElem?_set_self hklt]
      have hst := rown_spec (x := x) (loop := loop) hk1 L hz (by omega) (by rw [wtS_eq]; omega) hxR
      obtain ⟨L2⟩ := lay_behind L x
      have hun := lay_under L2
      have hbl : (behind d x v1).length ≤ v1.length + 1 := by unfold behind; split <;> simp
      have hvv := varsOf_len v1
      have hi1 := ih p g x.thn (behind d x v1) (d + 1) (m - 1) (n1 + 1) (loop || decide (x.kind = 5)) (σ.set k (cob p g (n1 + 1))) k (by omega) (by omega) hz r3 (by omega) (by omega) (by omega) hun (by rw [List.getElem?_set_self hklt])
      rw [List.set_set] at hi1
      have hc1 := blockT_count p g.type x.thn (behind d x v1) (d + 1) (loop || decide (x.kind = 5)) (n1 + 1)
      generalize hT1 : blockT p g.type x.thn (behind d x v1) (d + 1) (loop || decide (x.kind = 5)) (n1 + 1) = t1 at *
      obtain ⟨f1, n2⟩ := t1
      simp only at hc1
      have hi2 := ih p g x.els (behind d x v1) (d + 1) (m - 1) n2 loop (σ.set k (cob p g n2)) k (by omega) (by omega) hz r4 (by omega) (by omega) (by omega) hun (by rw [List.getElem?_set_self hklt])
      rw [List.set_set] at hi2
      simp only at hT hG hF hi1
      generalize hT2 : blockT p g.type x.els (behind d x v1) (d + 1) loop n2 = t2 at *
      obtain ⟨f2, n3⟩ := t2
      simp only at hT hG hF hi2
      generalize stmtT p g.type v1 x.kind x.type x.name x.args d loop = f0 at *
      have hb : behind d x v1 = if x.kind = 1 then ⟨x.name, x.type, d⟩ :: v1 else v1 := rfl
      have hroom1 : (v1.length + 1) * 24 ≤ roomMax := by simp only [roomMax]; omega
      have hL3 : Nonempty (Lay (behind d x v1) d vs.length) := ⟨L2⟩
      clear ih hT1 hT2 r1 r2 r3 r4 hws hgc hc1 hnw hn0 hwx hxR hl' hR h hlen hset L L2 hun hlq hbl hgl hroom hvd hvl
      rw [encStmt_eq] at hst
      simp [exprs, stmts, parsV] at hst hi1 hi2
      simp [exprs, stmts] at h1 h2 h3 h4
      unfold cob at *
      simp only [stmts, parsV] at hst hi1 hi2 h4 hk ⊢
      by_cases hf0 : f0 = 0
      case neg =>
        simp [hf0] at hT
        rw [hT]
        clear hT hG hF hi1 hi2 hb hp hL3
        replace hf0 := eqn hf0
        simp [*, encStmt_eq, exprs, stmts, parsV]
      subst hf0
      by_cases hk1 : x.kind = 1
      · have hk5 : ¬ x.kind = 5 := by omega
        rw [if_pos hk1] at hb
        replace hk1 := eqp hk1
        replace hk5 := eqn hk5
        rw [hb] at hi1 hi2 hG hL3
        clear hb
        rw [varsOf_cons] at hi1 hi2
        simp only [parOf, hk5, decide_false, Bool.or_false, List.map_append, List.map_cons, List.map_nil, encPar] at hi1 hi2
        by_cases hf1 : f1 = 0
        case neg =>
          simp [hf1] at hT
          rw [hT]
          clear hT hG hF hi2 hp hL3
          replace hf1 := eqn hf1
          cases loop <;> simp [*, encStmt_eq, exprs, stmts, parsV]
        subst hf1
        by_cases hf2 : f2 = 0
        case neg =>
          simp [hf2] at hT
          rw [hT]
          clear hT hG hF hp hL3
          replace hf2 := eqn hf2
          cases loop <;> simp [*, encStmt_eq, exprs, stmts, parsV]
        subst hf2
        simp at hG hF
        clear hT hp
        have hv2 : (varsOf (⟨x.name, x.type, d⟩ :: v1)).map encPar = (varsOf v1).map encPar ++ [.agg [.str x.name, .int .i64 x.type]] := by rw [varsOf_cons]; simp [parOf, encPar]
        cases loop <;> simp [*, encStmt_eq, exprs, stmts, parsV]
      · rw [if_neg hk1] at hb
        replace hk1 := eqn hk1
        rw [hb] at hi1 hi2 hG hL3
        clear hb
        by_cases hf1 : f1 = 0
        case neg =>
          simp [hf1] at hT
          rw [hT]
          clear hT hG hF hi2 hp hL3
          replace hf1 := eqn hf1
          cases loop <;> simp at hi1 <;> simp [*, encStmt_eq, exprs, stmts, parsV]
        subst hf1
        by_cases hf2 : f2 = 0
        case neg =>
          simp [hf2] at hT
          rw [hT]
          clear hT hG hF hp hL3
          replace hf2 := eqn hf2
          cases loop <;> simp at hi1 <;> simp [*, encStmt_eq, exprs, stmts, parsV]
        subst hf2
        simp at hG hF
        clear hT hp
        cases loop <;> simp at hi1 <;> simp [*, encStmt_eq, exprs, stmts, parsV]
    · intros s1 hp h1 h2 h3 h4
      obtain ⟨hp, _⟩ := hp
      have hT := blockT_go p g.type d loop [] l vs n hp
      rw [List.append_nil, blockT] at hT
      rw [hT]
      simp at h1 h2 h3 h4
      clear hT hp hR ih
      simp [*]
end PE.U

/-
  Types: names that are counted.
-/
namespace PE.U
open Go PE

abbrev Cnt := List (List UInt8 × Int)
def encCnt (l : Cnt) : List (PV × PV) := l.map fun x => (.str x.1, .int .i64 x.2)
def getC (nm : List UInt8) : Cnt → Int
  | [] => 0
  | x :: r => if nm = x.1 then x.2 else getC nm r
def hasC (nm : List UInt8) (l : Cnt) : Bool := l.any fun x => decide (nm = x.1)
def setC (nm : List UInt8) (v : Int) : Cnt → Cnt
  | [] => [(nm, v)]
  | x :: r => if nm = x.1 then (nm, v) :: r else x :: setC nm v r

theorem find_cnt (nm : List UInt8) (l : Cnt) : mapFind true (.str nm) (encCnt l) = some (if hasC nm l then some (.int .i64 (getC nm l)) else none) := by
  induction l with
  | nil => simp [encCnt, hasC]
  | cons x r ih =>
    have ih' : mapFind true (.str nm) (r.map fun x => (PV.str x.1, PV.int .i64 x.2)) = _ := ih
    simp only [encCnt, List.map_cons, mapFind, keyEq, if_true]
    by_cases h : nm = x.1
    · simp [h, hasC, getC]
    · have hd : decide (nm = x.1) = false := decide_eq_false h
      simp only [decide_eq_false h, ih', getC, if_neg h, hasC, List.any_cons, Bool.false_or]
      rfl
theorem set_cnt (nm : List UInt8) (v : Int) (l : Cnt) : mapSet true (.str nm) (.int .i64 v) (encCnt l) = some (encCnt (setC nm v l)) := by
  induction l with
  | nil => simp [encCnt, setC]
  | cons x r ih =>
    have ih' : mapSet true (.str nm) (.int .i64 v) (r.map fun x => (PV.str x.1, PV.int .i64 x.2)) = _ := ih
    simp only [encCnt, List.map_cons, mapSet, keyEq, if_true]
    by_cases h : nm = x.1
    · simp [h, setC]
    · simp [h, ih', setC, encCnt]

/-- Names, counted one by one. -/
noncomputable def bump (l : Cnt) (nm : List UInt8) : Cnt := setC nm (wrapK .i64 (getC nm l + 1)) l
noncomputable def counts (l : Cnt) (d : List (List UInt8)) : Cnt := d.foldl bump l
theorem counts_snoc (l : Cnt) (d : List (List UInt8)) (x : List UInt8) : counts l (d ++ [x]) = bump (counts l d) x := by simp [counts]
theorem getC_none {nm : List UInt8} {l : Cnt} (h : hasC nm l = false) : getC nm l = 0 := by
  induction l with
  | nil => rfl
  | cons x r ih =>
    simp [hasC] at h ih
    rw [getC, if_neg h.1]
    exact ih (by simpa [hasC] using h.2)

theorem setC_keys (nm : List UInt8) (v : Int) (l : Cnt) : (setC nm v l).length = (if hasC nm l then l.length else l.length + 1) ∧ ∀ y, hasC y (setC nm v l) = (decide (y = nm) || hasC y l) := by
  induction l with
  | nil => simp [setC, hasC]
  | cons x r ih =>
    obtain ⟨i1, i2⟩ := ih
    unfold setC
    by_cases h : nm = x.1
    · rw [if_pos h]
      subst h
      refine ⟨by simp [hasC], fun y => ?_⟩
      simp [hasC]
    · rw [if_neg h]
      refine ⟨?_, fun y => ?_⟩
      · have : hasC nm (x :: r) = hasC nm r := by simp [hasC, h]
        rw [List.length_cons, i1, this]
        split <;> simp
      · have e1 : hasC y (x :: setC nm v r) = (decide (y = x.1) || hasC y (setC nm v r)) := by simp [hasC]
        have e2 : hasC y (x :: r) = (decide (y = x.1) || hasC y r) := by simp [hasC]
        rw [e1, e2, i2]
        cases decide (y = x.1) <;> simp

/-- The count of names tells whether each is its own. -/
theorem counts_len (d : List (List UInt8)) : (counts [] d).length ≤ d.length ∧ ((counts [] d).length = d.length ↔ d.Nodup) ∧ ∀ y, hasC y (counts [] d) = decide (y ∈ d) := by
  suffices h : ∀ d : List (List UInt8), (counts [] d.reverse).length ≤ d.length ∧ ((counts [] d.reverse).length = d.length ↔ d.Nodup) ∧ ∀ y, hasC y (counts [] d.reverse) = decide (y ∈ d) by
    have := h d.reverse
    rw [(List.reverse_perm d).nodup_iff] at this
    simpa using this
  intro d
  induction d with
  | nil => simp [counts, hasC]
  | cons x r ih =>
    obtain ⟨i1, i2, i3⟩ := ih
    rw [List.reverse_cons, counts_snoc]
    unfold bump
    obtain ⟨k1, k2⟩ := setC_keys x (wrapK .i64 (getC x (counts [] r.reverse) + 1)) (counts [] r.reverse)
    rw [i3] at k1
    refine ⟨?_, ?_, ?_⟩
    · rw [k1]; split <;> simp <;> omega
    · rw [k1, List.nodup_cons]
      by_cases hx : x ∈ r
      · simp [hx]; omega
      · simp [hx]; exact i2
    · intro y
      rw [k2, i3]
      simp

theorem mapLen (l : Cnt) : (encCnt l).length = l.length := by simp [encCnt]

def twiceM (l : List Par) : Bool := !decide ((l.map (·.name)).Nodup)

set_option maxHeartbeats 1000000 in
theorem twice_spec (l : List Par) (hl : l.length < 1099511000000) : pcall E 22 [parsV l] [] = some (.ret (.bool (twiceM l)), []) := by
  refine pcall_wp rfl rfl rfl (by simp [parsV]) ?_
  simp [F22, parsV]
  refine wp_each l K22_0 B22_0 (fun d => [(9, .int .i64 d.length)]) (fun d => [.mp (encCnt (counts [] (d.map (·.name))))]) (fun _ => True) (by omega) (by simp [counts, encCnt]) ?_ ?_
  · intros d x r s1 hl' hlt hget hget' hw1 hp h1 h2 h3 h4
    simp at h1 h2 h3 h4
    have f1 := find_cnt x.name (counts [] (d.map (·.name)))
    have s1' := set_cnt x.name (wrapK .i64 (getC x.name (counts [] (d.map (·.name))) + 1)) (counts [] (d.map (·.name)))
    have e1 : counts [] ((d ++ [x]).map (·.name)) = setC x.name (wrapK .i64 (getC x.name (counts [] (d.map (·.name))) + 1)) (counts [] (d.map (·.name))) := by rw [List.map_append, List.map_cons, List.map_nil, counts_snoc]; rfl
    have e2 := getC_none (nm := x.name) (l := counts [] (d.map (·.name)))
    generalize counts [] (d.map (·.name)) = c at *
    clear hl'
    cases hh : hasC x.name c
    · rw [hh] at f1
      have e2 := e2 hh
      rw [e2] at s1' e1
      simp at f1 s1' e1
      simp [*, encPar]
    · rw [hh] at f1
      clear e2
      simp at f1 s1' e1
      simp [*, encPar]
  · intros s1 hp h1 h2 h3 h4
    simp at h1 h2 h3 h4
    obtain ⟨c1, c2, c3⟩ := counts_len (l.map (·.name))
    have hlen := mapLen (counts [] (l.map (·.name)))
    simp only [List.length_map] at c1 c2
    generalize counts [] (l.map (·.name)) = c at *
    have hR : twiceM l = decide ((c.length : Int) < l.length) := by
      unfold twiceM
      rw [← decide_not, decide_eq_decide, ← c2]; omega
    clear c1 c2 c3 hp
    simp [*]

def mainN : List UInt8 := [109, 97, 105, 110]
def namedM (p : Prog) : Bool := decide ((p.arrays.map (·.name) ++ p.funcs.map (·.name)).Nodup) && (match funcAt p mainN with
  | some f => decide (f.type = 1) && decide (f.params = [])
  | none => false)

set_option maxHeartbeats 4000000 in
theorem tnamed_spec (p : Prog) (hz : Fit p) : pcall E 21 [encProg p] [] = some (.ret (.bool (namedM p)), []) := by
  have ha := hz.a
  have hf := hz.f
  have hpl := place_spec p mainN [] (by omega)
  have hsum : wrapK .i64 ((p.arrays.length : Int) + p.funcs.length) = (p.arrays.length : Int) + p.funcs.length := wrapK_small (by omega) (by omega)
  refine pcall_wp rfl rfl rfl (by simp [encProg]) ?_
  simp [F21, encProg, parrs, funcs]
  refine wp_each p.arrays K21_0 B21_0 (fun d => [(13, .int .i64 d.length)]) (fun d => [.mp (encCnt (counts [] (d.map (·.name))))]) (fun _ => True) (by omega) (by simp [counts, encCnt]) ?_ ?_
  · intros d x r s1 hl' hlt hget hget' hw1 hp h1 h2 h3 h4
    simp at h1 h2 h3 h4
    have f1 := find_cnt x.name (counts [] (d.map (·.name)))
    have s1' := set_cnt x.name (wrapK .i64 (getC x.name (counts [] (d.map (·.name))) + 1)) (counts [] (d.map (·.name)))
    have e1 : counts [] ((d ++ [x]).map (·.name)) = setC x.name (wrapK .i64 (getC x.name (counts [] (d.map (·.name))) + 1)) (counts [] (d.map (·.name))) := by rw [List.map_append, List.map_cons, List.map_nil, counts_snoc]; rfl
    have e2 := getC_none (nm := x.name) (l := counts [] (d.map (·.name)))
    generalize counts [] (d.map (·.name)) = c at *
    clear hl' hpl hsum ha hf
    cases hh : hasC x.name c
    · rw [hh] at f1
      have e2 := e2 hh
      rw [e2] at s1' e1
      simp at f1 s1' e1
      simp [*, encPArr]
    · rw [hh] at f1
      clear e2
      simp at f1 s1' e1
      simp [*, encPArr]
  intros s1 hp h1 h2 h3 h4
  simp at h1 h2 h3 h4
  clear hp
  simp [*]
  refine wp_each p.funcs K21_1 B21_1 (fun d => [(26, .int .i64 d.length)]) (fun d => [.mp (encCnt (counts [] (p.arrays.map (·.name) ++ d.map (·.name))))]) (fun _ => True) (by omega) ?_ ?_ ?_
  · simp [*]
  · intros d x r s2 hl' hlt hget hget' hw1 hp g1 g2 g3 g4
    simp at g1 g2 g3 g4
    have f1 := find_cnt x.name (counts [] (p.arrays.map (·.name) ++ d.map (·.name)))
    have s1' := set_cnt x.name (wrapK .i64 (getC x.name (counts [] (p.arrays.map (·.name) ++ d.map (·.name))) + 1)) (counts [] (p.arrays.map (·.name) ++ d.map (·.name)))
    have e1 : counts [] (p.arrays.map (·.name) ++ (d ++ [x]).map (·.name)) = setC x.name (wrapK .i64 (getC x.name (counts [] (p.arrays.map (·.name) ++ d.map (·.name))) + 1)) (counts [] (p.arrays.map (·.name) ++ d.map (·.name))) := by rw [List.map_append, List.map_cons, List.map_nil, ← List.append_assoc, counts_snoc]; rfl
    have e2 := getC_none (nm := x.name) (l := counts [] (p.arrays.map (·.name) ++ d.map (·.name)))
    generalize counts [] (p.arrays.map (·.name) ++ d.map (·.name)) = c at *
    clear hl' hpl hsum ha hf h1 h2 h4
    cases hh : hasC x.name c
    · rw [hh] at f1
      have e2 := e2 hh
      rw [e2] at s1' e1
      simp at f1 s1' e1
      simp [*, encFunc]
    · rw [hh] at f1
      clear e2
      simp at f1 s1' e1
      simp [*, encFunc]
  · intros s2 hp g1 g2 g3 g4
    simp at g1 g2 g3 g4
    obtain ⟨c1, c2, c3⟩ := counts_len (p.arrays.map (·.name) ++ p.funcs.map (·.name))
    have hlen := mapLen (counts [] (p.arrays.map (·.name) ++ p.funcs.map (·.name)))
    simp only [List.length_map, List.length_append] at c1 c2
    unfold namedM
    have hR : decide ((p.arrays.map (·.name) ++ p.funcs.map (·.name)).Nodup) = decide (((counts [] (p.arrays.map (·.name) ++ p.funcs.map (·.name))).length : Int) = (p.arrays.length : Int) + p.funcs.length) := by
      rw [decide_eq_decide, ← c2]; omega
    rw [hR]
    generalize counts [] (p.arrays.map (·.name) ++ p.funcs.map (·.name)) = c at *
    clear c1 c2 c3 hp h1 h2 h4 hR
    simp [encProg, mainN, parrs, funcs] at hpl
    rcases idx_cases (fun f : Func => decide (f.name = mainN)) p.funcs with ⟨a1, a2⟩ | ⟨n, f, a1, a2, a3, a4, a5⟩
    · have a1 : placeM p mainN = -1 := a1
      have a2 : funcAt p mainN = none := a2
      simp [mainN] at a1
      rw [a1] at hpl
      rw [a2]
      clear ha hf a2 a1
      by_cases hq : (c.length : Int) = (p.arrays.length : Int) + p.funcs.length
      · replace hq := eqp hq
        simp [*]
      · replace hq := eqn hq
        simp [*]
    · have a1 : placeM p mainN = n := a1
      have a3 : funcAt p mainN = some f := a3
      simp [mainN] at a1
      rw [a1] at hpl
      rw [a3]
      clear ha hf a3 a4 a5 a1
      by_cases hq : (c.length : Int) = (p.arrays.length : Int) + p.funcs.length
      · replace hq := eqp hq
        by_cases ht : f.type = 1
        · replace ht := eqp ht
          simp [*, encFunc, parsV]
        · replace ht := eqn ht
          simp [*, encFunc, parsV]
      · replace hq := eqn hq
        simp [*]
end PE.U

/-
  Types: what is wrong with a program.
-/
namespace PE.U
open Go PE

/-- What is wrong with a function, and the number of statements. -/
def func1 (p : Prog) (f : Func) : Int × Int :=
  if twiceM f.params then (50, 0)
  else
    let q := blockT p f.type f.body (scopedV f.params) 1 false 0
    (if q.1 = 0 ∧ endsT f.body = false then 52 else q.1, q.2)
def checkGo (p : Prog) : List Func → Int → Int × Int × Int
  | [], _ => (0, 0, 0)
  | f :: r, i => if (func1 p f).1 ≠ 0 then ((func1 p f).1, i, (func1 p f).2) else checkGo p r (i + 1)
def checkT (p : Prog) : Int × Int × Int := if rightR p then if namedM p then checkGo p p.funcs 0 else (50, 0, 0) else (1, 0, 0)
def encCheck (r : Int × Int × Int) : PV := .tup [.int .i64 r.1, .agg [.int .i64 r.2.1, .int .i64 r.2.2]]

theorem checkGo_pre (p : Prog) (r : List Func) : ∀ (d : List Func) (i : Int), (∀ f ∈ d, (func1 p f).1 = 0) → checkGo p (d ++ r) i = checkGo p r (i + d.length)
  | [], i, _ => by simp
  | f :: d, i, h => by
    have h1 := h f (by simp)
    rw [List.cons_append, checkGo, if_neg (by rw [h1]; simp), checkGo_pre p r d (i + 1) (fun g hg => h g (by simp [hg]))]
    rw [List.length_cons]
    congr 1; omega

theorem PSz.fit {p : Prog} (h : PSz p) : Fit p := ⟨h.1, h.2.1, fun f hf => (h.2.2 f hf).2⟩

set_option maxRecDepth 20000 in
set_option maxHeartbeats 8000000 in
theorem check_spec (p : Prog) (hz : PSz p) : pcall E 9 [encProg p] [] = some (.ret (encCheck (checkT p)), []) := by
  have hfit := hz.fit
  obtain ⟨z1, z2, z3⟩ := hz
  have hr := tright_spec p ⟨z1, z2, z3⟩
  have hn := tnamed_spec p hfit
  refine pcall_wp rfl rfl rfl (by simp [encProg]) ?_
  unfold checkT
  cases hR : rightR p
  · rw [hR] at hr
    clear hn hfit z3
    simp [encProg] at hr
    simp [*, F9, encProg, encCheck]
  cases hN : namedM p
  · rw [hR] at hr
    rw [hN] at hn
    clear hfit z3
    simp [encProg] at hr hn
    simp [*, F9, encProg, encCheck]
  rw [hR] at hr
  rw [hN] at hn
  simp [encProg, funcs] at hr hn
  simp [hr, hn, F9, encProg, funcs]
  refine wp_eachB p.funcs K9_0 B9_0 (fun d => [(21, .int .i64 d.length)]) (fun d => [(3, .cells [.int .i64 0, .int .i64 0])]) (fun d => d.map fun f => fob p f.type (func1 p f).2) (fun d => ∀ f ∈ d, (func1 p f).1 = 0) (by omega) (by simp) ?_ ?_
  · intros d x r s1 hl' hlt hget hget' hw1 hp h1 h2 h3 h5 h4
    have hC := checkGo_pre p (x :: r) d 0 hp
    rw [← hl'.eq, checkGo, Int.zero_add] at hC
    obtain ⟨y1, y2⟩ := z3 x hl'.mem
    have hbR : stmtsR x.body 100 = true := by
      unfold rightR at hR
      rw [Bool.and_eq_true, List.all_eq_true, List.all_eq_true] at hR
      have := hR.2 x hl'.mem
      unfold funcR at this
      simp only [Bool.and_eq_true] at this
      exact this.2.2.2.1
    have e1 := twice_spec x.params (by omega)
    have e2 := scoped_spec x.params [] (by omega)
    have e3 := ends_spec x.body 100 y1 hbR
    have hlen : (d.map fun f => fob p f.type (func1 p f).2).length = d.length := by simp
    have e4 := block_spec' (wtSs x.body) p x.type x.body (scopedV x.params) 1 100 0 false ((d.map fun f => fob p f.type (func1 p f).2) ++ [fob p x.type 0]) d.length (Nat.le_refl _) y1 hfit hbR (by omega) (by omega) (by omega) (by omega) (by omega) (by rw [List.getElem?_append_right (by omega), hlen]; simp)
    have hnx : (func1 p x).1 = 0 → ∀ f ∈ d ++ [x], (func1 p f).1 = 0 := by
      intro h f hf
      rcases List.mem_append.1 hf with hf | hf
      · exact hp f hf
      · rw [List.mem_singleton.1 hf]; exact h
    have hset : ∀ v, ((d.map fun f => fob p f.type (func1 p f).2) ++ [fob p x.type 0]).set d.length v = (d.map fun f => fob p f.type (func1 p f).2) ++ [v] := by
      intro v
      rw [List.set_append_right _ _ (by omega), hlen]; simp
    have hmap : (d ++ [x]).map (fun f => fob p f.type (func1 p f).2) = (d.map fun f => fob p f.type (func1 p f).2) ++ [fob p x.type (func1 p x).2] := by simp
    rw [hset] at e4
    have h1x : func1 p x = if twiceM x.params then (50, 0) else (if (blockT p x.type x.body (scopedV x.params) 1 false 0).1 = 0 ∧ endsT x.body = false then 52 else (blockT p x.type x.body (scopedV x.params) 1 false 0).1, (blockT p x.type x.body (scopedV x.params) 1 false 0).2) := rfl
    generalize hfx : func1 p x = fx at *
    generalize blockT p x.type x.body (scopedV x.params) 1 false 0 = q at *
    generalize twiceM x.params = tw at *
    generalize endsT x.body = en at *
    obtain ⟨f, n⟩ := q
    obtain ⟨fe, fn⟩ := fx
    simp only at e4 hC hnx hmap h1x
    generalize hσ : (d.map fun f => fob p f.type (func1 p f).2) = σ at *
    have hget0 : (σ ++ [fob p x.type n])[d.length]? = some (fob p x.type n) := by rw [List.getElem?_append_right (by omega), hlen]; simp
    simp at h1 h2 h3 h4 h5
    simp [parsV] at e1 e2
    simp [stmts] at e3 e4
    clear hl' hR hN hset hbR y1 y2 z1 z2 z3 hfit hp
    unfold fob at *
    simp only [funcs] at e4 hget0 hmap
    cases tw
    case true =>
      simp at h1x
      obtain ⟨rfl, rfl⟩ := h1x
      simp at hC
      clear e2 e3 e4 hnx hmap hget0 hlen hfx
      simp [*, encFunc, parsV, stmts, encCheck]
    simp at h1x
    obtain ⟨ha, rfl⟩ := h1x
    by_cases hf : f = 0
    · subst hf
      cases en
      · simp at ha
        subst ha
        simp at hC
        clear hnx hmap hfx
        simp [*, encFunc, parsV, stmts, encCheck]
      · simp at ha
        subst ha
        replace hnx := hnx rfl
        have keep : fn = (func1 p x).2 ∧ ∀ g, g ∈ d ∨ g = x → (func1 p g).1 = 0 := ⟨by rw [hfx], fun g hg => hnx g (by simpa using hg)⟩
        clear hC hnx hfx hmap
        simp [*, -keep, encFunc, parsV, stmts, encCheck]
        exact ⟨⟨rfl, keep.1⟩, keep.2⟩
    · simp [hf] at ha
      subst ha
      simp [hf] at hC
      replace hf := eqn hf
      clear hnx hmap hfx
      simp [*, encFunc, parsV, stmts, encCheck]
  · intros s1 hp h1 h2 h3 h5 h4
    have hC := checkGo_pre p [] p.funcs 0 hp
    rw [List.append_nil, checkGo] at hC
    rw [hC]
    simp at h1 h2 h3 h4 h5
    clear hp hC z3
    simp [*, encCheck]
end PE.U

/-
  The document's types: programs.
-/
namespace PE.U
open Go PE

theorem nodup_idx {α : Type} (f : α → List UInt8) (l : List α) : (l.map f).Nodup ↔ ∀ d x r, l = d ++ x :: r → idx (fun y => decide (f y = f x)) l = d.length := by
  constructor
  · intro h d x r e
    subst e
    refine idx_hit (x := x) (r := r) rfl ?_ (by simp)
    intro y hy
    rw [List.map_append, List.nodup_append] at h
    exact decide_eq_false (h.2.2 _ (List.mem_map_of_mem hy) _ (by simp))
  · intro h
    have : ∀ d r, l = d ++ r → (d.map f).Nodup := by
      intro d
      suffices hs : ∀ d : List α, ∀ r, l = d.reverse ++ r → (d.reverse.map f).Nodup by
        intro r e
        have := hs d.reverse r (by simpa using e)
        simpa using this
      intro d
      induction d with
      | nil => intro r _; simp
      | cons x d ih =>
        intro r e
        rw [List.reverse_cons, List.append_assoc] at e
        have h1 := ih _ e
        have h2 := h d.reverse x r (by simpa using e)
        rw [List.reverse_cons, List.map_append, List.nodup_append]
        refine ⟨h1, by simp, ?_⟩
        intro a ha b hb hab
        simp only [List.map_cons, List.map_nil, List.mem_singleton] at hb
        subst hb
        rw [List.mem_map] at ha
        obtain ⟨y, hy, rfl⟩ := ha
        -- y stands ahead of x, with its name
        obtain ⟨s, t, hst⟩ := List.append_of_mem hy
        have h3 : idx (fun y => decide (f y = f x)) l ≤ s.length := by
          rw [e, hst]
          clear h2 h1 ih e h
          have : ∀ s : List α, idx (fun y => decide (f y = f x)) ((s ++ y :: t) ++ ([x] ++ r)) ≤ s.length := by
            intro s
            unfold idx
            have hf : (((s ++ y :: t) ++ ([x] ++ r)).findIdx? fun y => decide (f y = f x)).isSome = true := by
              rw [List.findIdx?_isSome, List.any_eq_true]
              exact ⟨y, by simp, by simp [hab]⟩
            cases hfi : ((s ++ y :: t) ++ ([x] ++ r)).findIdx? fun y => decide (f y = f x) with
            | none => simp
            | some i =>
              simp only
              have hle : i ≤ s.length := by
                rcases Nat.lt_or_ge s.length i with hlt | hge
                · rw [List.findIdx?_eq_some_iff_getElem] at hfi
                  obtain ⟨_, _, h3⟩ := hfi
                  have := h3 s.length hlt
                  simp [hab] at this
                · exact hge
              omega
          exact this s
        rw [h2, hst] at h3
        simp at h3
        omega
    have := this l [] (by simp)
    exact this

theorem idx_neg {α : Type} (p : α → Bool) (l : List α) : idx p l < 0 ↔ ∀ y ∈ l, p y = false := by
  rcases idx_cases p l with ⟨a1, a2⟩ | ⟨n, f, a1, a2, a3, a4, a5⟩
  · rw [a1]
    simp only [List.find?_eq_none] at a2
    constructor
    · intro _ y hy; simpa using a2 y hy
    · intro _; omega
  · rw [a1]
    constructor
    · intro h; omega
    · intro h
      have := h f (List.mem_of_getElem? a2)
      rw [a5] at this; exact absurd this (by decide)

set_option maxHeartbeats 4000000 in
theorem globals_spec (p : Prog) (hz : Fit p) : pcall E 25 [encProg p] [] = some (.ret (.bool (namedM p)), []) := by
  have ha := hz.a
  have hf := hz.f
  have hpl := rplace_spec p mainN (by omega)
  have hcond : decide ((p.arrays.map (·.name) ++ p.funcs.map (·.name)).Nodup) = true ↔ (∀ d x r, p.arrays = d ++ x :: r → arrayM p x.name = d.length ∧ placeM p x.name < 0) ∧ (∀ d x r, p.funcs = d ++ x :: r → placeM p x.name = d.length) := by
    rw [decide_eq_true_eq, List.nodup_append, nodup_idx (fun a : PArr => a.name), nodup_idx (fun a : Func => a.name)]
    constructor
    · rintro ⟨h1, h2, h3⟩
      refine ⟨fun d x r e => ⟨h1 d x r e, ?_⟩, h2⟩
      rw [placeM, idx_neg]
      intro y hy
      have := h3 x.name (List.mem_map_of_mem (by rw [e]; simp)) y.name (List.mem_map_of_mem hy)
      exact decide_eq_false fun h => this h.symm
    · rintro ⟨h1, h2⟩
      refine ⟨fun d x r e => (h1 d x r e).1, h2, ?_⟩
      intro a ha b hb hab
      rw [List.mem_map] at ha hb
      obtain ⟨x, hx, rfl⟩ := ha
      obtain ⟨y, hy, rfl⟩ := hb
      obtain ⟨s, t, hst⟩ := List.append_of_mem hx
      have := (h1 s x t hst).2
      rw [placeM, idx_neg] at this
      have := this y hy
      simp only [decide_eq_false_iff_not] at this
      exact this hab.symm
  refine pcall_wp rfl rfl rfl (by simp [encProg]) ?_
  have hno : ¬ ((∀ d x r, p.arrays = d ++ x :: r → arrayM p x.name = d.length ∧ placeM p x.name < 0) ∧ (∀ d x r, p.funcs = d ++ x :: r → placeM p x.name = d.length)) → namedM p = false := by
    intro h
    rw [← hcond] at h
    rw [Bool.not_eq_true] at h
    unfold namedM
    rw [h]; rfl
  simp [F25, encProg, parrs, funcs]
  refine wp_each p.arrays K25_0 B25_0 (fun d => [(3, .int .i64 d.length)]) (fun _ => []) (fun d => ∀ e x r, d = e ++ x :: r → arrayM p x.name = e.length ∧ placeM p x.name < 0) (by omega) (by simp) ?_ ?_
  · intros d x r s1 hl' hlt hget hget' hw1 hp h1 h2 h3 h4
    simp at h1 h2 h3 h4
    have e1 := rarray_spec p x.name (by omega)
    have e2 := rplace_spec p x.name (by omega)
    simp [encProg, parrs, funcs] at e1 e2
    have hbad : ¬ (arrayM p x.name = d.length ∧ placeM p x.name < 0) → namedM p = false := fun h => hno fun hh => h (hh.1 d x r hl'.eq)
    have hgood : arrayM p x.name = d.length → placeM p x.name < 0 → ∀ e y q, d ++ [x] = e ++ y :: q → arrayM p y.name = e.length ∧ placeM p y.name < 0 := by
      intro g1 g2 e y q hh
      rcases List.append_eq_append_iff.1 hh with ⟨a, ha1, ha2⟩ | ⟨a, ha1, ha2⟩
      · cases a with
        | nil => simp at ha1 ha2; obtain ⟨rfl, rfl⟩ := ha2; subst ha1; exact ⟨g1, g2⟩
        | cons z a => simp at ha2
      · cases a with
        | nil => simp at ha1 ha2; obtain ⟨rfl, rfl⟩ := ha2; subst ha1; exact ⟨g1, g2⟩
        | cons z a =>
          simp at ha2
          obtain ⟨rfl, _⟩ := ha2
          exact hp e y a ha1
    generalize namedM p = R at *
    clear hno hcond hl' hp hpl
    by_cases c1 : arrayM p x.name = d.length
    · by_cases c2 : placeM p x.name < 0
      · replace hgood := hgood c1 c2
        have c2' : (0 ≤ placeM p x.name) = False := eqn (by omega)
        replace c1 := eqp c1
        clear hbad c2
        simp [*, -hgood, encPArr]
        exact hgood
      · have hR := hbad (fun h => c2 h.2)
        have c2' : (0 ≤ placeM p x.name) = True := eqp (by omega)
        subst hR
        replace c1 := eqp c1
        clear hbad c2 hgood
        simp [*, encPArr]
    · have hR := hbad (fun h => c1 h.1)
      subst hR
      replace c1 := eqn c1
      clear hbad hgood
      simp [*, encPArr]
  intros s1 hp h1 h2 h3 h4
  simp at h1 h2 h3 h4
  simp [h1, h2, h3, h4]
  refine wp_each p.funcs K25_1 B25_1 (fun d => [(4, .int .i64 d.length)]) (fun _ => []) (fun d => ∀ e x r, d = e ++ x :: r → placeM p x.name = e.length) (by omega) ?_ ?_ ?_
  · simp
  · intros d x r s2 hl' hlt hget hget' hw1 hp2 g1 g2 g3 g4
    simp at g1 g2 g3 g4
    have e2 := rplace_spec p x.name (by omega)
    simp [encProg, parrs, funcs] at e2
    have hbad : ¬ (placeM p x.name = d.length) → namedM p = false := fun h => hno fun hh => h (hh.2 d x r hl'.eq)
    have hgood : placeM p x.name = d.length → ∀ e y q, d ++ [x] = e ++ y :: q → placeM p y.name = e.length := by
      intro g1 e y q hh
      rcases List.append_eq_append_iff.1 hh with ⟨a, ha1, ha2⟩ | ⟨a, ha1, ha2⟩
      · cases a with
        | nil => simp at ha1 ha2; obtain ⟨rfl, rfl⟩ := ha2; subst ha1; exact g1
        | cons z a => simp at ha2
      · cases a with
        | nil => simp at ha1 ha2; obtain ⟨rfl, rfl⟩ := ha2; subst ha1; exact g1
        | cons z a =>
          simp at ha2
          obtain ⟨rfl, _⟩ := ha2
          exact hp2 e y a ha1
    generalize namedM p = R at *
    clear hno hcond hl' hp hp2 hpl h1 h3
    by_cases c1 : placeM p x.name = d.length
    · replace hgood := hgood c1
      replace c1 := eqp c1
      clear hbad
      simp [*, -hgood, encFunc]
      exact hgood
    · have hR := hbad c1
      subst hR
      replace c1 := eqn c1
      clear hbad hgood
      simp [*, encFunc]
  · intros s2 hp2 g1 g2 g3 g4
    simp at g1 g2 g3 g4
    have hyes : decide ((p.arrays.map (·.name) ++ p.funcs.map (·.name)).Nodup) = true := hcond.2 ⟨fun d x r e => hp d x r e, fun d x r e => hp2 d x r e⟩
    simp [encProg, mainN, parrs, funcs] at hpl
    clear hcond hno hp hp2 h1 h3
    rcases idx_cases (fun f : Func => decide (f.name = mainN)) p.funcs with ⟨a1, a2⟩ | ⟨n, f, a1, a2, a3, a4, a5⟩
    · have a1 : placeM p mainN = -1 := a1
      have a2 : funcAt p mainN = none := a2
      simp [mainN] at a1
      rw [a1] at hpl
      have hN : namedM p = false := by unfold namedM; rw [a2]; simp
      rw [hN]
      clear ha hf a2 a1 hyes
      simp [*]
    · have a1 : placeM p mainN = n := a1
      have a3 : funcAt p mainN = some f := a3
      simp [mainN] at a1
      rw [a1] at hpl
      have hN : namedM p = (decide (f.type = 1) && decide (f.params = [])) := by unfold namedM; rw [hyes, a3]; rfl
      rw [hN]
      clear ha hf a3 a4 a5 a1 hyes hN
      by_cases ht : f.type = 1
      · replace ht := eqp ht
        simp [*, encFunc, parsV]
      · replace ht := eqn ht
        simp [*, encFunc, parsV]

theorem scopedV_vars (l : List Par) : varsOf (scopedV l) = l := by
  suffices h : ∀ l : List Par, varsOf (scopedV l.reverse) = l.reverse by
    have := h l.reverse
    simpa using this
  intro l
  induction l with
  | nil => rfl
  | cons x r ih =>
    rw [List.reverse_cons, scopedV_snoc, varsOf_cons, ih]; rfl
theorem scopedV_len (l : List Par) : (scopedV l).length = l.length := by
  have := congrArg List.length (scopedV_vars l)
  rw [varsOf_len] at this; exact this
theorem scopedV_depth (l : List Par) : ∀ v ∈ scopedV l, v.depth = 0 := by
  suffices h : ∀ l : List Par, ∀ v ∈ scopedV l.reverse, v.depth = 0 by
    have := h l.reverse
    simpa using this
  intro l
  induction l with
  | nil => intro v hv; simp [scopedV] at hv
  | cons x r ih =>
    rw [List.reverse_cons, scopedV_snoc]
    intro v hv
    rcases List.mem_cons.1 hv with rfl | hv
    · rfl
    · exact ih v hv
theorem scopedV_find (l : List Par) (nm : List UInt8) : findV (scopedV l) nm = [] ↔ nm ∉ l.map (·.name) := by
  suffices h : ∀ s : List Vr, findV s nm = [] ↔ nm ∉ (varsOf s).map (·.name) by
    rw [h, scopedV_vars]
  intro s
  induction s with
  | nil => simp [findV, varsOf]
  | cons v r ih =>
    rw [findV_cons, varsOf_cons, List.map_append, List.mem_append]
    by_cases h : v.name = nm
    · simp [h, parOf]
    · rw [if_neg h, ih]
      simp [parOf]
      intro _ hh; exact h hh.symm
end PE.U

/-
  The document's types: what is wrong with a program.
-/
namespace PE.U
open Go PE

set_option maxRecDepth 20000 in
set_option maxHeartbeats 16000000 in
theorem rcheckP_spec (p : Prog) (hz : PSz p) : pcall E 10 [encProg p] [] = some (.ret (encCheck (checkT p)), []) := by
  have hfit := hz.fit
  obtain ⟨z1, z2, z3⟩ := hz
  have hr := right_spec p ⟨z1, z2, z3⟩
  have hn := globals_spec p hfit
  refine pcall_wp rfl rfl rfl (by simp [encProg]) ?_
  unfold checkT
  cases hR : rightR p
  · rw [hR] at hr
    clear hn hfit z3
    simp [encProg] at hr
    simp [*, F10, encProg, encCheck]
  cases hN : namedM p
  · rw [hR] at hr
    rw [hN] at hn
    clear hfit z3
    simp [encProg] at hr hn
    simp [*, F10, encProg, encCheck]
  rw [hR] at hr
  rw [hN] at hn
  simp [encProg, funcs] at hr hn
  simp [hr, hn, F10, encProg, funcs]
  refine wp_eachB p.funcs K10_1 B10_1 (fun d => [(4, .int .i64 d.length)]) (fun d => [(3, .cells [.int .i64 0, .int .i64 0])]) (fun d => d.map fun f => cob p f (func1 p f).2) (fun d => ∀ f ∈ d, (func1 p f).1 = 0) (by omega) (by simp) ?_ ?_
  · intros d x r s1 hl' hlt hget hget' hw1 hp h1 h2 h3 h5 h4
    have hC := checkGo_pre p (x :: r) d 0 hp
    rw [← hl'.eq, checkGo, Int.zero_add] at hC
    obtain ⟨y1, y2⟩ := z3 x hl'.mem
    have hfR : funcR x = true := by
      unfold rightR at hR
      rw [Bool.and_eq_true, List.all_eq_true, List.all_eq_true] at hR
      exact hR.2 x hl'.mem
    have hbR : stmtsR x.body 100 = true := by
      unfold funcR at hfR
      simp only [Bool.and_eq_true] at hfR
      exact hfR.2.2.2.1
    have hp8 : x.params.length ≤ 8 := by
      unfold funcR at hfR
      simp only [Bool.and_eq_true, decide_eq_true_eq] at hfR
      exact hfR.2.2.1
    have e3 := rends_spec x.body 100 y1 hbR
    have hlen : (d.map fun f => cob p f (func1 p f).2).length = d.length := by simp
    have e4 := rblock_spec' (wtSs x.body) p x x.body (scopedV x.params) 1 100 0 false ((d.map fun f => cob p f (func1 p f).2) ++ [cob p x 0]) d.length (Nat.le_refl _) y1 hfit hbR (by omega) (by omega) (by rw [scopedV_len]; omega) (by intro v hv; rw [scopedV_depth _ v hv]; omega) (by rw [List.getElem?_append_right (by omega), hlen]; simp)
    rw [scopedV_vars] at e4
    have hnx : (func1 p x).1 = 0 → ∀ f ∈ d ++ [x], (func1 p f).1 = 0 := by
      intro h f hf
      rcases List.mem_append.1 hf with hf | hf
      · exact hp f hf
      · rw [List.mem_singleton.1 hf]; exact h
    have hset : ∀ v, ((d.map fun f => cob p f (func1 p f).2) ++ [cob p x 0]).set d.length v = (d.map fun f => cob p f (func1 p f).2) ++ [v] := by
      intro v
      rw [List.set_append_right _ _ (by omega), hlen]; simp
    rw [hset] at e4
    have h1x : func1 p x = if twiceM x.params then (50, 0) else (if (blockT p x.type x.body (scopedV x.params) 1 false 0).1 = 0 ∧ endsT x.body = false then 52 else (blockT p x.type x.body (scopedV x.params) 1 false 0).1, (blockT p x.type x.body (scopedV x.params) 1 false 0).2) := rfl
    generalize hfx : func1 p x = fx at *
    generalize blockT p x.type x.body (scopedV x.params) 1 false 0 = q at *
    have htw : twiceM x.params = !decide ((x.params.map (·.name)).Nodup) := rfl
    generalize twiceM x.params = tw at *
    generalize endsT x.body = en at *
    obtain ⟨f, n⟩ := q
    obtain ⟨fe, fn⟩ := fx
    simp only at e4 hC hnx h1x
    generalize hσ : (d.map fun f => cob p f (func1 p f).2) = σ at *
    have hget0 : (σ ++ [cob p x n])[d.length]? = some (cob p x n) := by rw [List.getElem?_append_right (by omega), hlen]; simp
    simp at h1 h2 h3 h4 h5
    simp [stmts, parsV] at e3 e4
    clear hl' hR hN hset hbR hfR y1 y2 z1 z2 z3 hfit hp
    have hcx : cob p x 0 = .arr 7 [.agg [parrs p.arrays, .slice .plain 4 (p.funcs.map encFunc), .str x.name, .int .i64 x.type, .slice .plain 2 (x.params.map encPar), .slice .plain 6 (x.body.map encStmt), .int .i64 0]] := rfl
    have hcn : cob p x n = .arr 7 [.agg [parrs p.arrays, .slice .plain 4 (p.funcs.map encFunc), .str x.name, .int .i64 x.type, .slice .plain 2 (x.params.map encPar), .slice .plain 6 (x.body.map encStmt), .int .i64 n]] := rfl
    rw [hcx, hcn] at e4
    rw [hcn] at hget0
    have keep : tw = false → fe = 0 → (.arr 7 [.agg [parrs p.arrays, .slice .plain 4 (p.funcs.map encFunc), .str x.name, .int .i64 x.type, .slice .plain 2 (x.params.map encPar), .slice .plain 6 (x.body.map encStmt), .int .i64 n]] = cob p x (func1 p x).2) ∧ ∀ g, g ∈ d ∨ g = x → (func1 p g).1 = 0 := by
      intro h1 h2
      rw [h1] at h1x
      simp at h1x
      rw [hfx]
      simp only
      rw [h1x.2, ← hcn]
      exact ⟨rfl, fun g hg => hnx h2 g (by simpa using hg)⟩
    clear hcx hcn hnx hfx
    simp [*, -keep, encFunc, parsV, stmts]
    refine wp_eachB x.params K10_0 B10_0 (fun d => [(6, .int .i64 d.length)]) (fun _ => [(3, .cells [.int .i64 0, .int .i64 0])]) (fun _ => σ) (fun d => (d.map (·.name)).Nodup) (by omega) ?_ ?_ ?_
    · simp [*, -keep]
    · intros d2 y r2 s2 hl2 hlt2 hget2 hget2' hw2 hp2 k1 k2 k3 k5 k4
      simp at k1 k2 k3 k4 k5
      have hf2 := rfind_spec (scopedV d2) y.name (by rw [scopedV_len]; omega)
      rw [scopedV_vars] at hf2
      have htk : x.params.take d2.length = d2 := by rw [hl2.eq]; simp
      have hdup : findV (scopedV d2) y.name ≠ [] → tw = true := by
        intro h
        rw [htw, hl2.eq]
        simp only [Bool.not_eq_true', decide_eq_false_iff_not]
        intro hh
        rw [List.map_append, List.nodup_append] at hh
        rw [ne_eq, scopedV_find, Classical.not_not] at h
        exact hh.2.2 _ h _ (by simp) rfl
      have hok : findV (scopedV d2) y.name = [] → ((d2 ++ [y]).map (·.name)).Nodup := by
        intro h
        rw [scopedV_find] at h
        rw [List.map_append, List.nodup_append]
        refine ⟨hp2, by simp, ?_⟩
        intro a ha b hb hab
        simp at hb
        rw [hb] at hab
        rw [hab] at ha
        exact h ha
      have htk2 : (x.params.map encPar).take d2.length = d2.map encPar := by rw [← List.map_take, htk]
      generalize hfv : findV (scopedV d2) y.name = fv at *
      simp [encTR, parsV] at hf2
      have hlt2i : (d2.length : Int) < x.params.length := by omega
      have hle2 : d2.length ≤ x.params.length := by omega
      clear htw hl2 hp2 e3 e4 htk hfv hget0 keep
      cases fv with
      | nil =>
        replace hok := hok rfl
        clear hdup hC
        simp at hf2
        simp [*, -hok, encPar]
        all_goals (try grind)
      | cons z zr =>
        replace hdup := hdup (by simp)
        subst hdup
        simp at h1x
        obtain ⟨rfl, rfl⟩ := h1x
        simp at hC
        clear hok
        simp at hf2
        simp [*, encPar, encCheck]
    · intros s2 hp2 k1 k2 k3 k5 k4
      simp at k1 k2 k3 k4 k5
      have htwf : tw = false := by rw [htw]; simp; exact hp2
      replace keep := keep htwf
      subst htwf
      simp at h1x
      obtain ⟨ha, rfl⟩ := h1x
      clear hp2 htw
      simp [*, -keep, encFunc, parsV, stmts]
      by_cases hf : f = 0
      · subst hf
        cases en
        · simp at ha
          subst ha
          simp at hC
          clear keep
          simp [*, encFunc, parsV, stmts, encCheck]
        · simp at ha
          subst ha
          replace keep := keep rfl
          clear hC
          simp [*, -keep, encFunc, parsV, stmts, encCheck]
          exact keep
      · simp [hf] at ha
        subst ha
        simp [hf] at hC
        replace hf := eqn hf
        clear keep
        simp [*, encFunc, parsV, stmts, encCheck]
  · intros s1 hp h1 h2 h3 h5 h4
    have hC := checkGo_pre p [] p.funcs 0 hp
    rw [List.append_nil, checkGo] at hC
    rw [hC]
    simp at h1 h2 h3 h4 h5
    clear hp hC z3
    simp [*, encCheck]
end PE.U

/-
  The parser's fuel is enough: it goes on, or stops.
-/
namespace PE.U
open Go PE

/-- What is left. -/
def left (T : List Tok) (p : PS) : Nat := T.length - p.at'
/-- On the way from p to q nothing is given back. -/
def Fw (p q : PS) : Prop := p.at' ≤ q.at' ∧ (overF p = true → overF q = true)
theorem Fw.refl (p : PS) : Fw p p := ⟨Nat.le_refl _, id⟩
theorem Fw.trans {p q r : PS} (a : Fw p q) (b : Fw q r) : Fw p r := ⟨Nat.le_trans a.1 b.1, fun h => b.2 (a.2 h)⟩
theorem fw_adv (p : PS) : Fw p (adv p) := ⟨Nat.le_succ _, id⟩
theorem fw_must (T : List Tok) (s : List UInt8) (p : PS) : Fw p (mustF T s p) := by
  unfold mustF
  split
  · exact ⟨Nat.le_succ _, id⟩
  · split
    · exact Fw.refl _
    · exact ⟨Nat.le_refl _, fun _ => rfl⟩
theorem fw_text (T : List Tok) (k : Int) (p : PS) : Fw p (textF T k p).2 := by
  unfold textF
  split
  · exact Fw.refl _
  · split
    · exact ⟨Nat.le_succ _, id⟩
    · exact ⟨Nat.le_refl _, fun _ => rfl⟩
theorem fw_typed (T : List Tok) (p : PS) : Fw p (typedF T p).2 := by
  unfold typedF
  split
  · exact fw_adv p
  · exact fw_must T _ p
theorem fw_deepF (d : Int) (p : PS) : Fw p (deepF d p) := by
  unfold deepF
  split
  · split
    · exact Fw.refl _
    · exact ⟨Nat.le_refl _, fun _ => by simp [overF]⟩
  · exact Fw.refl _
theorem fw_deepS (d : Int) (p : PS) : Fw p (deepS d p) := by
  unfold deepS
  split
  · exact ⟨Nat.le_refl _, fun _ => by simp [overF]⟩
  · exact Fw.refl _
theorem left_adv {T : List Tok} {p : PS} {s : List UInt8} (I : Inv1 T p) (h : isF T s p = true) : left T (adv p) + 1 = left T p := by
  have := I.lt
  unfold left adv; simp only; omega
theorem left_fw {T : List Tok} {p q : PS} (h : Fw p q) : left T q ≤ left T p := by
  unfold left; have := h.1; omega

/-- Enough fuel for each part: by what is left, and by rank. -/
structure Enough (T : List Tok) (n : Nat) : Prop where
  primary : ∀ d p, Inv1 T p → 64 * left T p + 1 ≤ n → ∃ v p', primaryF T n d p = some (v, p') ∧ Inv1 T p' ∧ Fw p p'
  unary : ∀ d p, Inv1 T p → 64 * left T p + 2 ≤ n → ∃ v p', unaryF T n d p = some (v, p') ∧ Inv1 T p' ∧ Fw p p'
  expr : ∀ (k : Nat) L d p, Inv1 T p → L = 11 - (k : Int) → k ≤ 10 → 64 * left T p + 3 + 2 * k ≤ n → ∃ v p', exprF T n L d p = some (v, p') ∧ Inv1 T p' ∧ Fw p p'
  loop : ∀ (k : Nat) L d a p, Inv1 T p → L = 11 - (k : Int) → 1 ≤ k → k ≤ 10 → 64 * left T p + 2 + 2 * k ≤ n → ∃ v p', exprLoopF T n L d a p = some (v, p') ∧ Inv1 T p' ∧ Fw p p'
  args : ∀ d p, Inv1 T p → 64 * left T p + 26 ≤ n → ∃ v p', argsF T n d p = some (v, p') ∧ Inv1 T p' ∧ Fw p p'
  al : ∀ d l (f : Bool) p, Inv1 T p → 64 * left T p + 24 + f.toNat ≤ n → ∃ v p', argsLoopF T n d l f p = some (v, p') ∧ Inv1 T p' ∧ Fw p p'

theorem enough_of {T : List Tok} {n : Nat} (E : Enough T n) : Enough T (n + 1) := by
  refine ⟨?_, ?_, ?_, ?_, ?_, ?_⟩
  · intro d p I h
    simp only [primaryF]
    split
    · exact ⟨_, _, rfl, I, Fw.refl _⟩
    split
    · rename_i hc
      have hl := left_adv I hc
      obtain ⟨v, p', e, I', F⟩ := E.expr 10 1 (d + 1) (adv p) (I.adv _ hc) (by omega) (by omega) (by omega)
      rw [e]
      exact ⟨_, _, rfl, I'.must _, ((fw_adv p).trans F).trans (fw_must _ _ _)⟩
    split
    · rename_i hc; exact ⟨_, _, rfl, I.adv _ hc, fw_adv p⟩
    split
    · rename_i hc; exact ⟨_, _, rfl, I.adv _ hc, fw_adv p⟩
    split
    · rename_i hc; exact ⟨_, _, rfl, ((I.adv _ hc).must _).must _, ((fw_adv p).trans (fw_must _ _ _)).trans (fw_must _ _ _)⟩
    split
    · rename_i hc; exact ⟨_, _, rfl, I.next (by rw [hc]; decide) _ _, fw_adv p⟩
    have I1 := I.text 1 (by decide)
    have F1 := fw_text T 1 p
    have hl1 := left_fw (T := T) F1
    split
    · rename_i hc
      have hl := left_adv I1 hc
      obtain ⟨v, p', e, I', F⟩ := E.args (d + 1) _ (I1.adv _ hc) (by omega)
      rw [e]
      exact ⟨_, _, rfl, I', (F1.trans (fw_adv _)).trans F⟩
    split
    · rename_i hc
      have hl := left_adv I1 hc
      obtain ⟨v, p', e, I', F⟩ := E.expr 10 1 (d + 1) _ (I1.adv _ hc) (by omega) (by omega) (by omega)
      rw [e]
      exact ⟨_, _, rfl, I'.must _, ((F1.trans (fw_adv _)).trans F).trans (fw_must _ _ _)⟩
    exact ⟨_, _, rfl, I1, F1⟩
  · intro d p I h
    simp only [unaryF]
    have I1 := I.deepF d
    have F1 := fw_deepF d p
    have hl1 := left_fw (T := T) F1
    cases hu : unF T (deepF d p) with
    | none =>
      simp only
      obtain ⟨v, p', e, I', F⟩ := E.primary d _ I1 (by omega)
      exact ⟨v, p', e, I', F1.trans F⟩
    | some i =>
      simp only
      have hi : isF T (signR ((i + 20 : Nat) : Int)) (deepF d p) = true := (unF_get hu).2.1
      have hl := left_adv I1 hi
      split
      · have F2 := fw_must T [40] (adv (deepF d p))
        have hl2 := left_fw (T := T) F2
        obtain ⟨v, p', e, I', F⟩ := E.expr 10 1 (d + 1) _ ((I1.adv _ hi).must [40]) (by omega) (by omega) (by omega)
        rw [e]
        exact ⟨_, _, rfl, I'.must _, (((F1.trans (fw_adv _)).trans F2).trans F).trans (fw_must _ _ _)⟩
      · obtain ⟨v, p', e, I', F⟩ := E.unary (d + 1) _ (I1.adv _ hi) (by omega)
        rw [e]
        exact ⟨_, _, rfl, I', (F1.trans (fw_adv _)).trans F⟩
  · intro k L d p I hL hk h
    simp only [exprF]
    split
    · exact E.unary d p I (by omega)
    · rename_i h10
      obtain ⟨v, p', e, I', F⟩ := E.expr (k - 1) (L + 1) d p I (by omega) (by omega) (by omega)
      rw [e]
      have hl := left_fw (T := T) F
      obtain ⟨v2, p2, e2, I2, F2⟩ := E.loop k L d v p' I' hL (by omega) hk (by omega)
      exact ⟨v2, p2, e2, I2, F.trans F2⟩
  · intro k L d a p I hL hk1 hk h
    simp only [exprLoopF]
    split
    · exact ⟨_, _, rfl, I, Fw.refl _⟩
    · rename_i hne
      obtain ⟨s, hs⟩ := opF_pos hne
      have hl := left_adv I hs
      obtain ⟨v, p', e, I', F⟩ := E.expr (k - 1) (L + 1) d (adv p) (I.adv _ hs) (by omega) (by omega) (by omega)
      rw [e]
      have hl2 := left_fw (T := T) F
      obtain ⟨v2, p2, e2, I2, F2⟩ := E.loop k L d _ p' I' hL hk1 hk (by omega)
      exact ⟨v2, p2, e2, I2, ((fw_adv p).trans F).trans F2⟩
  · intro d p I h
    simp only [argsF]
    split
    · rename_i hc; exact ⟨_, _, rfl, I.adv _ hc, fw_adv p⟩
    · obtain ⟨v, p', e, I', F⟩ := E.al d [] true p I (by simp; omega)
      rw [e]
      exact ⟨_, _, rfl, I'.must _, F.trans (fw_must _ _ _)⟩
  · intro d l f p I h
    simp only [argsLoopF]
    have fin : ∀ q : PS, Inv1 T q → Fw p q → 64 * left T q + 24 ≤ n → ∃ v p', (if overF q then some (l, q) else match exprF T n 1 d q with | none => none | some x => argsLoopF T n d (l ++ [x.1]) false x.2) = some (v, p') ∧ Inv1 T p' ∧ Fw p p' := by
      intro q Iq Fq hq
      split
      · exact ⟨_, _, rfl, Iq, Fq⟩
      · obtain ⟨v, p', e, I', F⟩ := E.expr 10 1 d q Iq (by omega) (by omega) (by omega)
        rw [e]
        have hl := left_fw (T := T) F
        obtain ⟨v2, p2, e2, I2, F2⟩ := E.al d (l ++ [v]) false p' I' (by simp; omega)
        exact ⟨v2, p2, e2, I2, (Fq.trans F).trans F2⟩
    cases f
    · cases c2 : isF T [44] p
      · exact ⟨l, p, rfl, I, Fw.refl _⟩
      · have hl := left_adv I c2
        replace h : 64 * left T p + 24 ≤ n + 1 := by simpa using h
        have hh := fin (adv p) (I.adv _ c2) (fw_adv p) (by omega)
        exact hh
    · simp at h
      have hh := fin p I (Fw.refl _) (by omega)
      exact hh

theorem enough (T : List Tok) : ∀ n, Enough T n
  | 0 => ⟨fun _ _ _ h => by omega, fun _ _ _ h => by omega, fun _ _ _ _ _ _ _ h => by omega, fun _ _ _ _ _ _ _ _ _ h => by omega, fun _ _ _ h => by omega, fun _ _ _ _ _ h => by omega⟩
  | n + 1 => enough_of (enough T n)
end PE.U

/-
  Fuel is enough for statements, functions, programs.
-/
namespace PE.U
open Go PE

theorem expr1_enough {T : List Tok} {n : Nat} {p : PS} (I : Inv1 T p) (h : 64 * left T p + 23 ≤ n) : ∃ v p', exprF T n 1 1 p = some (v, p') ∧ Inv1 T p' ∧ Fw p p' :=
  (enough T n).expr 10 1 1 p I (by omega) (by omega) (by omega)
theorem inside_enough {T : List Tok} {n : Nat} {p : PS} (I : Inv1 T p) (h : 64 * left T p + 23 ≤ n) : ∃ v p', insideF T n p = some (v, p') ∧ Inv1 T p' ∧ Fw p p' := by
  unfold insideF
  have hl := left_fw (T := T) (fw_must T [40] p)
  obtain ⟨v, p', e, I', F⟩ := expr1_enough (n := n) (I.must [40]) (by omega)
  rw [e]
  exact ⟨_, _, rfl, I'.must _, ((fw_must _ _ _).trans F).trans (fw_must _ _ _)⟩

/-- It was over, or something is taken, or it is over now. -/
def Go1 (p q : PS) : Prop := p.at' < q.at' ∨ overF q = true
theorem text_go {T : List Tok} {k : Int} {p : PS} : Go1 p (textF T k p).2 := by
  unfold textF
  split
  · rename_i h; exact Or.inr h
  · split
    · exact Or.inl (Nat.lt_succ_self _)
    · exact Or.inr (by simp [overF])
theorem must_go {T : List Tok} {s : List UInt8} {p : PS} : Go1 p (mustF T s p) := by
  unfold mustF
  split
  · exact Or.inl (Nat.lt_succ_self _)
  · split
    · rename_i h; exact Or.inr (by simp [overF, h])
    · exact Or.inr (by simp [overF])
theorem typed_go {T : List Tok} {p : PS} : Go1 p (typedF T p).2 := by
  unfold typedF
  split
  · exact Or.inl (Nat.lt_succ_self _)
  · exact must_go
theorem adv_go (p : PS) : Go1 p (adv p) := Or.inl (Nat.lt_succ_self _)
theorem Go1.fw {p q r : PS} (h : Go1 p q) (f : Fw q r) : Go1 p r := by
  rcases h with h | h
  · exact Or.inl (Nat.lt_of_lt_of_le h f.1)
  · exact Or.inr (f.2 h)
theorem Fw.go {p q r : PS} (f : Fw p q) (h : Go1 q r) : Go1 p r := by
  rcases h with h | h
  · exact Or.inl (Nat.lt_of_le_of_lt f.1 h)
  · exact Or.inr h

theorem named_enough {T : List Tok} {n : Nat} {p : PS} (I : Inv1 T p) (h : 64 * left T p + 26 ≤ n) : ∃ v p', namedF T n p = some (v, p') ∧ Inv1 T p' ∧ Fw p p' ∧ Go1 p p' := by
  unfold namedF
  have I1 := I.text 1 (by decide)
  have F1 := fw_text T 1 p
  have G1 := text_go (T := T) (k := 1) (p := p)
  have hl1 := left_fw (T := T) F1
  split
  · rename_i hc
    have hl := left_adv I1 hc
    obtain ⟨v, p', e, I', F⟩ := (enough T n).args 2 _ (I1.adv _ hc) (by omega)
    rw [e]
    exact ⟨_, _, rfl, I', (F1.trans (fw_adv _)).trans F, G1.fw ((fw_adv _).trans F)⟩
  split
  · rename_i hc
    have hl := left_adv I1 hc
    obtain ⟨v, p', e, I', F⟩ := expr1_enough (n := n) (I1.adv _ hc) (by omega)
    rw [e]
    simp only
    have F2 := (fw_must T [93] p').trans (fw_must T [61] _)
    have hl2 := left_fw (T := T) F
    have hl3 := left_fw (T := T) F2
    obtain ⟨v2, p2, e2, I2, F3⟩ := expr1_enough (n := n) ((I'.must [93]).must [61]) (by omega)
    rw [e2]
    exact ⟨_, _, rfl, I2, (((F1.trans (fw_adv _)).trans F).trans F2).trans F3, G1.fw ((((fw_adv _).trans F).trans F2).trans F3)⟩
  · have F2 := fw_must T [61] (textF T 1 p).2
    have hl3 := left_fw (T := T) F2
    obtain ⟨v2, p2, e2, I2, F3⟩ := expr1_enough (n := n) (I1.must [61]) (by omega)
    rw [e2]
    exact ⟨_, _, rfl, I2, (F1.trans F2).trans F3, G1.fw (F2.trans F3)⟩

structure EnoughS (T : List Tok) (n : Nat) : Prop where
  stmt : ∀ d p, Inv1 T p → 64 * left T p + 28 ≤ n → ∃ v p', stmtF T n d p = some (v, p') ∧ Inv1 T p' ∧ Fw p p' ∧ Go1 p p'
  block : ∀ d l p, Inv1 T p → 64 * left T p + 30 ≤ n → ∃ v p', blockF T n d l p = some (v, p') ∧ Inv1 T p' ∧ Fw p p'
  over : ∀ d l p, Inv1 T p → 1 ≤ n → overF p = true → ∃ v p', blockF T n d l p = some (v, p') ∧ Inv1 T p' ∧ Fw p p'

theorem enoughS_of {T : List Tok} {n : Nat} (E : EnoughS T n) : EnoughS T (n + 1) := by
  refine ⟨?_, ?_, ?_⟩
  · intro d p I0 h
    simp only [stmtF]
    have I := I0.deepS d
    have F0 := fw_deepS d p
    have hl0 := left_fw (T := T) F0
    generalize deepS d p = q at *
    have fin : ∀ r, Fw q r → Go1 q r → Fw p r ∧ Go1 p r := fun r a b => ⟨F0.trans a, F0.go b⟩
    split
    · have G1 := typed_go (T := T) (p := q)
      have F1 := ((fw_typed T q).trans (fw_text T 1 _)).trans (fw_must T [61] _)
      have hl := left_fw (T := T) F1
      obtain ⟨v, p', e, I', F⟩ := expr1_enough (n := n) ((I.typed.text 1 (by decide)).must [61]) (by omega)
      rw [e]
      have := fin _ ((F1.trans F).trans (fw_must T [59] _)) (G1.fw ((((fw_text T 1 _).trans (fw_must T [61] _)).trans F).trans (fw_must T [59] _)))
      exact ⟨_, _, rfl, I'.must _, this.1, this.2⟩
    split
    · rename_i hc
      have hl := left_adv I hc
      obtain ⟨v, p', e, I', F⟩ := inside_enough (n := n) (I.adv _ hc) (by omega)
      rw [e]
      simp only
      have F2 := F.trans (fw_must T [123] p')
      have hl2 := left_fw (T := T) F2
      obtain ⟨v2, p2, e2, I2, F3⟩ := E.block (d + 1) [] _ (I'.must [123]) (by omega)
      rw [e2]
      simp only
      have hl3 := left_fw (T := T) F3
      split
      · rename_i hc2
        have hl4 := left_adv I2 hc2
        have F4 := (fw_adv p2).trans (fw_must T [123] _)
        have hl5 := left_fw (T := T) (fw_must T [123] (adv p2))
        obtain ⟨v3, p3, e3, I3, F5⟩ := E.block (d + 1) [] _ ((I2.adv _ hc2).must [123]) (by omega)
        rw [e3]
        have := fin _ (((((fw_adv q).trans F2).trans F3).trans F4).trans F5) ((adv_go q).fw (((F2.trans F3).trans F4).trans F5))
        exact ⟨_, _, rfl, I3, this.1, this.2⟩
      · have := fin _ (((fw_adv q).trans F2).trans F3) ((adv_go q).fw (F2.trans F3))
        exact ⟨_, _, rfl, I2, this.1, this.2⟩
    split
    · rename_i hc
      have hl := left_adv I hc
      obtain ⟨v, p', e, I', F⟩ := inside_enough (n := n) (I.adv _ hc) (by omega)
      rw [e]
      simp only
      have F2 := F.trans (fw_must T [123] p')
      have hl2 := left_fw (T := T) F2
      obtain ⟨v2, p2, e2, I2, F3⟩ := E.block (d + 1) [] _ (I'.must [123]) (by omega)
      rw [e2]
      have := fin _ (((fw_adv q).trans F2).trans F3) ((adv_go q).fw (F2.trans F3))
      exact ⟨_, _, rfl, I2, this.1, this.2⟩
    split
    · rename_i hc
      have := fin _ ((fw_adv q).trans (fw_must T [59] _)) ((adv_go q).fw (fw_must T [59] _))
      exact ⟨_, _, rfl, (I.adv _ hc).must _, this.1, this.2⟩
    split
    · rename_i hc
      have := fin _ ((fw_adv q).trans (fw_must T [59] _)) ((adv_go q).fw (fw_must T [59] _))
      exact ⟨_, _, rfl, (I.adv _ hc).must _, this.1, this.2⟩
    split
    · rename_i hc
      have hl := left_adv I hc
      obtain ⟨v, p', e, I', F⟩ := expr1_enough (n := n) (I.adv _ hc) (by omega)
      rw [e]
      have := fin _ (((fw_adv q).trans F).trans (fw_must T [59] _)) ((adv_go q).fw (F.trans (fw_must T [59] _)))
      exact ⟨_, _, rfl, I'.must _, this.1, this.2⟩
    split
    · rename_i hc
      have hl := left_adv I hc
      obtain ⟨v, p', e, I', F⟩ := inside_enough (n := n) (I.adv _ hc) (by omega)
      rw [e]
      have := fin _ (((fw_adv q).trans F).trans (fw_must T [59] _)) ((adv_go q).fw (F.trans (fw_must T [59] _)))
      exact ⟨_, _, rfl, I'.must _, this.1, this.2⟩
    · obtain ⟨v, p', e, I', F, G⟩ := named_enough (n := n) I (by omega)
      rw [e]
      have := fin _ (F.trans (fw_must T [59] _)) (G.fw (fw_must T [59] _))
      exact ⟨_, _, rfl, I'.must _, this.1, this.2⟩
  · intro d l p I h
    simp only [blockF]
    split
    · exact ⟨_, _, rfl, I, Fw.refl _⟩
    split
    · rename_i hc; exact ⟨_, _, rfl, I.adv _ hc, fw_adv p⟩
    · obtain ⟨v, p', e, I', F, G⟩ := E.stmt d p I (by omega)
      rw [e]
      simp only
      rcases G with hg | hg
      · have hl : left T p' + 1 ≤ left T p := by
          have := I'.lt; have := I.lt; unfold left; omega
        obtain ⟨v2, p2, e2, I2, F2⟩ := E.block d (l ++ [v]) p' I' (by omega)
        exact ⟨v2, p2, e2, I2, F.trans F2⟩
      · obtain ⟨v2, p2, e2, I2, F2⟩ := E.over d (l ++ [v]) p' I' (by omega) hg
        exact ⟨v2, p2, e2, I2, F.trans F2⟩
  · intro d l p I h ho
    simp only [blockF]
    rw [if_pos ho]
    exact ⟨_, _, rfl, I, Fw.refl _⟩

theorem enoughS (T : List Tok) : ∀ n, EnoughS T n
  | 0 => ⟨fun _ _ _ h => by omega, fun _ _ _ _ h => by omega, fun _ _ _ _ h => by omega⟩
  | n + 1 => enoughS_of (enoughS T n)
end PE.U

/-
  Fuel is enough for functions and programs.
-/
namespace PE.U
open Go PE

theorem params_enough {T : List Tok} : ∀ n l (f : Bool) p, Inv1 T p → left T p + 2 + f.toNat ≤ n → ∃ v p', paramsF T n l f p = some (v, p') ∧ Inv1 T p' ∧ Fw p p' := by
  intro n
  induction n with
  | zero => intro l f p _ h; omega
  | succ n ih =>
    intro l f p I h
    simp only [paramsF]
    have ov : ∀ l q, Inv1 T q → overF q = true → 1 ≤ n → ∃ v p', paramsF T n l false q = some (v, p') ∧ Inv1 T p' ∧ Fw q p' := by
      intro l q Iq ho hn
      obtain ⟨n, rfl⟩ : ∃ m, n = m + 1 := ⟨n - 1, by omega⟩
      have hc : isF T [44] q = false := by unfold isF; rw [ho]; rfl
      refine ⟨l, q, ?_, Iq, Fw.refl _⟩
      simp [paramsF, hc]
    have fin : ∀ q : PS, Inv1 T q → Fw p q → left T q + 2 ≤ n → ∃ v p', (if overF q then some (l, q) else paramsF T n (l ++ [⟨(textF T 1 (typedF T q).2).1, (typedF T q).1⟩]) false (textF T 1 (typedF T q).2).2) = some (v, p') ∧ Inv1 T p' ∧ Fw p p' := by
      intro q Iq Fq hq
      split
      · exact ⟨_, _, rfl, Iq, Fq⟩
      · have F := (fw_typed T q).trans (fw_text T 1 _)
        have hl := left_fw (T := T) F
        have I2 := Iq.typed.text 1 (by decide)
        obtain ⟨v2, p2, e2, I3, F2⟩ := ih (l ++ [⟨(textF T 1 (typedF T q).2).1, (typedF T q).1⟩]) false _ I2 (by simp; omega)
        exact ⟨v2, p2, e2, I3, (Fq.trans F).trans F2⟩
    cases f
    · cases c2 : isF T [44] p
      · exact ⟨l, p, rfl, I, Fw.refl _⟩
      · have hl := left_adv I c2
        replace h : left T p + 2 ≤ n + 1 := by simpa using h
        have hh := fin (adv p) (I.adv _ c2) (fw_adv p) (by omega)
        exact hh
    · replace h : left T p + 2 + 1 ≤ n + 1 := by simpa using h
      have hh := fin p I (Fw.refl _) (by omega)
      exact hh

theorem function_enough {T : List Tok} {n : Nat} {t : Int} {s : List UInt8} {p : PS} (I : Inv1 T p) (h : 64 * left T p + 30 ≤ n) : ∃ v p', functionF T n t s p = some (v, p') ∧ Inv1 T p' ∧ Fw p p' := by
  unfold functionF
  have I1 := I.must [40]
  have F1 := fw_must T [40] p
  have hl1 := left_fw (T := T) F1
  split
  · rename_i hc
    have F2 := (fw_adv (mustF T [40] p)).trans (fw_must T [123] _)
    have hl2 := left_fw (T := T) F2
    obtain ⟨v, p', e, I', F⟩ := (enoughS T n).block 1 [] _ ((I1.adv _ hc).must [123]) (by omega)
    rw [e]
    exact ⟨_, _, rfl, I', (F1.trans F2).trans F⟩
  · obtain ⟨v, p', e, I', F⟩ := params_enough n [] true _ I1 (by simp; omega)
    rw [e]
    simp only
    have F2 := (fw_must T [41] p').trans (fw_must T [123] _)
    have hl2 := left_fw (T := T) F
    have hl3 := left_fw (T := T) F2
    obtain ⟨v2, p2, e2, I2, F3⟩ := (enoughS T n).block 1 [] _ ((I'.must [41]).must [123]) (by omega)
    rw [e2]
    exact ⟨_, _, rfl, I2, ((F1.trans F).trans F2).trans F3⟩

theorem prog_enough {T : List Tok} : ∀ n ars fs p, Inv1 T p → 64 * left T p + 31 ≤ n ∨ (overF p = true ∧ 1 ≤ n) → ∃ v p', progF T n ars fs p = some (v, p') ∧ Inv1 T p' := by
  intro n
  induction n with
  | zero => intro ars fs p _ h; omega
  | succ n ih =>
    intro ars fs p I h
    simp only [progF]
    split
    · exact ⟨_, _, rfl, I⟩
    rename_i hno
    replace h : 64 * left T p + 31 ≤ n + 1 := by
      rcases h with h | h
      · exact h
      · exact absurd h.1 hno
    split
    · exact ⟨_, _, rfl, I⟩
    have G1 := typed_go (T := T) (p := p)
    have I2 := I.typed.text 1 (by decide)
    have F1 := (fw_typed T p).trans (fw_text T 1 _)
    have G2 : Go1 p (textF T 1 (typedF T p).2).2 := G1.fw (fw_text T 1 _)
    have hl := left_fw (T := T) F1
    have nx : ∀ q, Inv1 T q → Go1 p q → 64 * left T q + 31 ≤ n ∨ (overF q = true ∧ 1 ≤ n) := by
      intro q Iq G
      rcases G with g | g
      · left
        have := Iq.lt; have := I.lt; unfold left at *; omega
      · exact Or.inr ⟨g, by omega⟩
    split
    · rename_i hc
      have I3 := (((I2.adv _ hc.2.2).text 0 (by decide)).must [93]).must [59]
      exact ih _ _ _ I3 (nx _ I3 (G2.fw ((((fw_adv _).trans (fw_text T 0 _)).trans (fw_must T [93] _)).trans (fw_must T [59] _))))
    · obtain ⟨v, p', e, I', F⟩ := function_enough (n := n) (t := (typedF T p).1) (s := (textF T 1 (typedF T p).2).1) I2 (by omega)
      rw [e]
      exact ih _ _ _ I' (nx _ I' (G2.fw F))
end PE.U

/-
  The document's Parse.
-/
namespace PE.U
open Go PE

def TokOK (t : Tok) : Prop := t.kind = 0 → digs t.text = true ∧ t.text.length < 1000000

theorem tokGo_ok : ∀ n (q : List UInt8) line acc, q.length < n → q.length ≤ 100000 → (∀ t ∈ acc, TokOK t) → (tokGo n q line acc).2.1 = 0 →
    (∀ t ∈ (tokGo n q line acc).1, TokOK t) ∧ (tokGo n q line acc).1.length ≤ acc.length + q.length + 1 ∧ 0 < (tokGo n q line acc).1.length ∧ ∃ t, (tokGo n q line acc).1[(tokGo n q line acc).1.length - 1]? = some t ∧ t.kind = 3 := by
  intro n
  induction n with
  | zero => intro q line acc h; omega
  | succ n ih =>
    intro q line acc hq hs ha h0
    cases q with
    | nil =>
      simp only [tokGo]
      refine ⟨?_, by simp, by simp, ⟨3, [], line⟩, by simp, rfl⟩
      intro t ht
      rcases List.mem_append.1 ht with h | h
      · exact ha t h
      · rw [List.mem_singleton.1 h]; intro h; exact absurd h (by simp)
    | cons b r =>
      simp only [List.length_cons] at hq hs
      have mono : ∀ (q' : List UInt8) line' acc', q'.length ≤ r.length → acc'.length + q'.length ≤ acc.length + r.length + 1 → (∀ t ∈ acc', TokOK t) → (tokGo n q' line' acc').2.1 = 0 →
          (∀ t ∈ (tokGo n q' line' acc').1, TokOK t) ∧ (tokGo n q' line' acc').1.length ≤ acc.length + (b :: r).length + 1 ∧ 0 < (tokGo n q' line' acc').1.length ∧ ∃ t, (tokGo n q' line' acc').1[(tokGo n q' line' acc').1.length - 1]? = some t ∧ t.kind = 3 := by
        intro q' line' acc' h1 h2 h3 h4
        obtain ⟨x1, x2, x3, x4⟩ := ih q' line' acc' (by omega) (by omega) h3 h4
        exact ⟨x1, by simp only [List.length_cons]; omega, x3, x4⟩
      simp only [tokGo] at h0 ⊢
      split at h0
      · rename_i c; rw [if_pos c]; exact mono r _ _ (Nat.le_refl _) (by omega) ha h0
      rename_i c; rw [if_neg c]
      split at h0
      · rename_i c; rw [if_pos c]; exact mono r _ _ (Nat.le_refl _) (by omega) ha h0
      rename_i c; rw [if_neg c]
      split at h0
      · rename_i c; rw [if_pos c]
        have hl : ((b :: r).dropWhile (· != 10)).length ≤ r.length := by
          rw [List.dropWhile_cons, c.1]
          simp only [show ((47 : UInt8) != 10) = true from rfl, if_true]
          rw [dropWhile_eq_drop, List.length_drop]; omega
        exact mono _ _ _ hl (by omega) ha h0
      rename_i c; rw [if_neg c]
      split at h0
      · rename_i c; rw [if_pos c]
        split at h0
        · exact absurd h0 (by simp)
        rename_i c2; rw [if_neg c2]
        have hw : 0 < ((b :: r).takeWhile nameByte).length := by rw [List.takeWhile_cons, c]; simp
        have hw2 := (List.takeWhile_prefix (l := b :: r) (p := nameByte)).length_le
        simp only [List.length_cons] at hw2
        refine mono _ _ _ (by rw [List.length_drop]; simp only [List.length_cons]; omega) (by rw [List.length_drop]; simp only [List.length_cons, List.length_append, List.length_nil]; omega) ?_ h0
        intro t ht
        rcases List.mem_append.1 ht with h | h
        · exact ha t h
        · rw [List.mem_singleton.1 h]
          intro hk
          simp only at hk
          refine ⟨?_, by simp only; omega⟩
          simp only [tokBad, hk, Bool.or_eq_true, Bool.and_eq_true, decide_eq_true_eq, Bool.not_eq_true', not_or, not_and, Bool.not_eq_false] at c2
          have := c2.2 trivial
          simp only [numberM, Bool.and_eq_true] at this
          exact this.1
      rename_i c; rw [if_neg c]
      split at h0
      · exact absurd h0 (by simp)
      rename_i c2; rw [if_neg c2]
      have hp : 0 < (signM (b :: r)).length := List.length_pos_iff.2 c2
      have hp2 := sign_len (b :: r)
      simp only [List.length_cons] at hp2
      refine mono _ _ _ (by rw [List.length_drop]; simp only [List.length_cons]; omega) (by rw [List.length_drop]; simp only [List.length_cons, List.length_append, List.length_nil]; omega) ?_ h0
      intro t ht
      rcases List.mem_append.1 ht with h | h
      · exact ha t h
      · rw [List.mem_singleton.1 h]; intro h; exact absurd h (by simp)

theorem tokens_inv (s : List UInt8) (h : (tokensM s).2.1 = 0) : Inv1 (tokensM s).1 ⟨0, false, false⟩ := by
  unfold tokensM at h ⊢
  split at h
  · exact absurd h (by decide)
  rename_i hs
  rw [if_neg hs]
  obtain ⟨x1, x2, x3, x4⟩ := tokGo_ok (s.length + 1) s 1 [] (by omega) (by omega) (by simp) h
  exact ⟨x3, x4, by simp at x2; omega, x1⟩

/-- The fuel. -/
def fuel (l : List Tok) : Nat := 64 * l.length + 100
def parseM (s : List UInt8) : Prog × Int × Int :=
  if (tokensM s).2.1 = 0 then
    match progF (tokensM s).1 (fuel (tokensM s).1) [] [] ⟨0, false, false⟩ with
    | none => (⟨[], []⟩, 0, 0)
    | some q =>
      if q.2.deep then (⟨[], []⟩, 2, (tk (tokensM s).1 q.2.at').line)
      else if q.2.bad then (⟨[], []⟩, 20, (tk (tokensM s).1 q.2.at').line)
      else if rightR q.1 then (q.1, 0, 0) else (⟨[], []⟩, 2, 0)
  else (⟨[], []⟩, (tokensM s).2.1, (tokensM s).2.2)
end PE.U

/-
  What the parser makes weighs no more than what it takes.
-/
namespace PE.U
open Go PE

/-- No text of a token is long. -/
def Short (T : List Tok) (M : Nat) : Prop := 8 ≤ M ∧ ∀ t ∈ T, t.text.length + 8 ≤ M
theorem short_text {T : List Tok} {M : Nat} {k : Int} {p : PS} (I : Inv1 T p) (h : Short T M) : (textF T k p).1.length + 8 ≤ M := by
  unfold textF
  split
  · simpa using h.1
  · split
    · refine h.2 _ ?_
      rw [← tk_get' I.lt]; exact List.getElem_mem I.lt
    · simpa using h.1

/-- How much may have been made up to here. -/
def wa (M : Nat) (p : PS) : Nat := M * p.at'
theorem wa_adv (M : Nat) (p : PS) : wa M (adv p) = wa M p + M := Nat.mul_succ _ _
theorem wa_fw {M : Nat} {p q : PS} (h : Fw p q) : wa M p ≤ wa M q := Nat.mul_le_mul_left _ h.1

structure Light (T : List Tok) (M n : Nat) : Prop where
  primary : ∀ d p v p', Inv1 T p → primaryF T n d p = some (v, p') → Inv1 T p' ∧ Fw p p' ∧ wtE v + 2 * wa M p ≤ 2 * wa M p' + M
  unary : ∀ d p v p', Inv1 T p → unaryF T n d p = some (v, p') → Inv1 T p' ∧ Fw p p' ∧ wtE v + 2 * wa M p ≤ 2 * wa M p' + M
  expr : ∀ L d p v p', Inv1 T p → exprF T n L d p = some (v, p') → Inv1 T p' ∧ Fw p p' ∧ wtE v + 2 * wa M p ≤ 2 * wa M p' + M
  loop : ∀ L d a p v p', Inv1 T p → exprLoopF T n L d a p = some (v, p') → ∀ k : Nat, wtE a + k ≤ 2 * wa M p + M → Inv1 T p' ∧ Fw p p' ∧ wtE v + k ≤ 2 * wa M p' + M
  args : ∀ d p v p', Inv1 T p → argsF T n d p = some (v, p') → Inv1 T p' ∧ Fw p p' ∧ wtEs v + 2 * wa M p ≤ 2 * wa M p' + 2 * M
  al : ∀ d l (f : Bool) p v p', Inv1 T p → argsLoopF T n d l f p = some (v, p') → ∀ k : Nat, wtEs l + k ≤ 2 * wa M p + (if f then 0 else 2 * M) → Inv1 T p' ∧ Fw p p' ∧ wtEs v + k ≤ 2 * wa M p' + 2 * M

theorem light_of {T : List Tok} {M n : Nat} (hS : Short T M) (E : Light T M n) : Light T M (n + 1) := by
  have h8 := hS.1
  refine ⟨?_, ?_, ?_, ?_, ?_, ?_⟩
  · intro d p v p' I h
    simp only [primaryF] at h
    split at h
    · cases h; exact ⟨I, Fw.refl _, by simp [wtE, wtEs]; omega⟩
    split at h
    · rename_i hc
      split at h
      · cases h
      · rename_i q hq
        cases h
        obtain ⟨I', F, W⟩ := E.expr _ _ _ _ _ (I.adv _ hc) hq
        have := wa_adv M p
        have := wa_fw (M := M) (fw_must T [41] q.2)
        exact ⟨I'.must _, ((fw_adv p).trans F).trans (fw_must _ _ _), by omega⟩
    split at h
    · rename_i hc; cases h
      have := wa_adv M p
      exact ⟨I.adv _ hc, fw_adv p, by simp [wtE, wtEs]; omega⟩
    split at h
    · rename_i hc; cases h
      have := wa_adv M p
      exact ⟨I.adv _ hc, fw_adv p, by simp [wtE, wtEs]; omega⟩
    split at h
    · rename_i hc; cases h
      have F := ((fw_adv p).trans (fw_must T [40] _)).trans (fw_must T [41] _)
      have := wa_fw (M := M) F
      exact ⟨((I.adv _ hc).must _).must _, F, by simp [wtE, wtEs]; omega⟩
    split at h
    · rename_i hc; cases h
      have := wa_adv M p
      exact ⟨I.next (by rw [hc]; decide) _ _, fw_adv p, by simp [wtE, wtEs]; omega⟩
    have I1 := I.text 1 (by decide)
    have F1 := fw_text T 1 p
    have w1 := wa_fw (M := M) F1
    have hs := short_text (k := 1) I hS
    split at h
    · rename_i hc
      split at h
      · cases h
      · rename_i q hq
        cases h
        obtain ⟨I', F, W⟩ := E.args _ _ _ _ (I1.adv _ hc) hq
        have := wa_adv M (textF T 1 p).2
        exact ⟨I', (F1.trans (fw_adv _)).trans F, by simp only [wtE]; omega⟩
    split at h
    · rename_i hc
      split at h
      · cases h
      · rename_i q hq
        cases h
        obtain ⟨I', F, W⟩ := E.expr _ _ _ _ _ (I1.adv _ hc) hq
        have := wa_adv M (textF T 1 p).2
        have := wa_fw (M := M) (fw_must T [93] q.2)
        exact ⟨I'.must _, ((F1.trans (fw_adv _)).trans F).trans (fw_must _ _ _), by simp only [wtE, wtEs]; omega⟩
    · cases h
      exact ⟨I1, F1, by simp only [wtE, wtEs]; omega⟩
  · intro d p v p' I h
    simp only [unaryF] at h
    have I1 := I.deepF d
    have F1 := fw_deepF d p
    have w1 := wa_fw (M := M) F1
    cases hu : unF T (deepF d p) with
    | none =>
      rw [hu] at h
      obtain ⟨I', F, W⟩ := E.primary _ _ _ _ I1 h
      exact ⟨I', F1.trans F, by omega⟩
    | some i =>
      rw [hu] at h
      simp only at h
      have hi : isF T (signR ((i + 20 : Nat) : Int)) (deepF d p) = true := (unF_get hu).2.1
      have := wa_adv M (deepF d p)
      split at h
      · split at h
        · cases h
        · rename_i q hq
          cases h
          have F2 := fw_must T [40] (adv (deepF d p))
          have := wa_fw (M := M) F2
          obtain ⟨I', F, W⟩ := E.expr _ _ _ _ _ ((I1.adv _ hi).must _) hq
          have := wa_fw (M := M) (fw_must T [41] q.2)
          exact ⟨I'.must _, (((F1.trans (fw_adv _)).trans F2).trans F).trans (fw_must _ _ _), by simp only [wtE, wtEs, List.length_nil]; omega⟩
      · split at h
        · cases h
        · rename_i q hq
          cases h
          obtain ⟨I', F, W⟩ := E.unary _ _ _ _ (I1.adv _ hi) hq
          exact ⟨I', (F1.trans (fw_adv _)).trans F, by simp only [wtE, wtEs, List.length_nil]; omega⟩
  · intro L d p v p' I h
    simp only [exprF] at h
    split at h
    · exact E.unary _ _ _ _ I h
    · split at h
      · cases h
      · rename_i q hq
        obtain ⟨I', F, W⟩ := E.expr _ _ _ _ _ I hq
        obtain ⟨I2, F2, W2⟩ := E.loop _ _ _ _ _ _ I' h (2 * wa M p) W
        exact ⟨I2, F.trans F2, W2⟩
  · intro L d a p v p' I h k hk
    simp only [exprLoopF] at h
    split at h
    · cases h; exact ⟨I, Fw.refl _, hk⟩
    · rename_i hne
      obtain ⟨s, hs⟩ := opF_pos hne
      have := wa_adv M p
      split at h
      · cases h
      · rename_i q hq
        obtain ⟨I', F, W⟩ := E.expr _ _ _ _ _ (I.adv _ hs) hq
        obtain ⟨I2, F2, W2⟩ := E.loop _ _ _ _ _ _ I' h k (by simp only [wtE, wtEs, List.length_nil]; omega)
        exact ⟨I2, ((fw_adv p).trans F).trans F2, W2⟩
  · intro d p v p' I h
    simp only [argsF] at h
    split at h
    · rename_i hc; cases h
      have := wa_adv M p
      exact ⟨I.adv _ hc, fw_adv p, by simp only [wtEs]; omega⟩
    · split at h
      · cases h
      · rename_i q hq
        cases h
        obtain ⟨I', F, W⟩ := E.al _ _ _ _ _ _ I hq (2 * wa M p) (by simp [wtEs])
        have := wa_fw (M := M) (fw_must T [41] q.2)
        exact ⟨I'.must _, F.trans (fw_must _ _ _), by omega⟩
  · intro d l f p v p' I h k hk
    simp only [argsLoopF] at h
    have fin : ∀ q : PS, Inv1 T q → Fw p q → wtEs l + k + (if f then 0 else M + 1) ≤ 2 * wa M q + (if f then 0 else M + 1) → (f = false → wtEs l + k ≤ 2 * wa M q) → (if overF q then some (l, q) else match exprF T n 1 d q with | none => none | some x => argsLoopF T n d (l ++ [x.1]) false x.2) = some (v, p') → Inv1 T p' ∧ Fw p p' ∧ wtEs v + k ≤ 2 * wa M p' + 2 * M := by
      intro q Iq Fq hq hq2 h
      have hq3 : wtEs l + k ≤ 2 * wa M q := by cases f <;> simp at hq <;> omega
      split at h
      · cases h; exact ⟨Iq, Fq, by omega⟩
      · split at h
        · cases h
        · rename_i x hx
          obtain ⟨I', F, W⟩ := E.expr _ _ _ _ _ Iq hx
          obtain ⟨I2, F2, W2⟩ := E.al _ _ _ _ _ _ I' h k (by rw [wtEs_append]; simp [wtEs]; omega)
          exact ⟨I2, (Fq.trans F).trans F2, W2⟩
    cases f
    · cases c2 : isF T [44] p
      · rw [c2] at h
        simp at h hk
        obtain ⟨rfl, rfl⟩ := h
        exact ⟨I, Fw.refl _, by omega⟩
      · have := wa_adv M p
        rw [c2] at h
        simp at hk
        exact fin (adv p) (I.adv _ c2) (fw_adv p) (by simp; omega) (fun _ => by omega) h
    · simp at hk
      exact fin p I (Fw.refl _) (by simp; omega) (fun h => by cases h) h

theorem light {T : List Tok} {M : Nat} (hS : Short T M) : ∀ n, Light T M n
  | 0 => ⟨fun _ _ _ _ _ h => by simp [primaryF] at h, fun _ _ _ _ _ h => by simp [unaryF] at h, fun _ _ _ _ _ _ h => by simp [exprF] at h, fun _ _ _ _ _ _ _ h => by simp [exprLoopF] at h, fun _ _ _ _ _ h => by simp [argsF] at h, fun _ _ _ _ _ _ _ h => by simp [argsLoopF] at h⟩
  | n + 1 => light_of hS (light hS n)
end PE.U

/-
  Weights of statements, functions, programs.
-/
namespace PE.U
open Go PE

section
variable {T : List Tok} {M : Nat}
theorem light1 (hS : Short T M) {n : Nat} {p p' : PS} {v : Expr} (I : Inv1 T p) (h : exprF T n 1 1 p = some (v, p')) : Inv1 T p' ∧ Fw p p' ∧ wtE v + 2 * wa M p ≤ 2 * wa M p' + M := (light hS n).expr _ _ _ _ _ I h
theorem lightI (hS : Short T M) {n : Nat} {p p' : PS} {v : Expr} (I : Inv1 T p) (h : insideF T n p = some (v, p')) : Inv1 T p' ∧ Fw p p' ∧ wtE v + 2 * wa M p ≤ 2 * wa M p' + M := by
  unfold insideF at h
  split at h
  · cases h
  · rename_i q hq
    cases h
    obtain ⟨I', F, W⟩ := light1 hS (I.must _) hq
    have := wa_fw (M := M) (fw_must T [40] p)
    have := wa_fw (M := M) (fw_must T [41] q.2)
    exact ⟨I'.must _, ((fw_must _ _ _).trans F).trans (fw_must _ _ _), by omega⟩
theorem lightN (hS : Short T M) {n : Nat} {p p' : PS} {v : Stmt} (I : Inv1 T p) (h : namedF T n p = some (v, p')) : Inv1 T p' ∧ Fw p p' ∧ wtS v + 2 * wa M p ≤ 2 * wa M p' + 3 * M := by
  unfold namedF at h
  have h8 := hS.1
  have I1 := I.text 1 (by decide)
  have F1 := fw_text T 1 p
  have w1 := wa_fw (M := M) F1
  have hs := short_text (k := 1) I hS
  split at h
  · rename_i hc
    split at h
    · cases h
    · rename_i q hq
      cases h
      obtain ⟨I', F, W⟩ := (light hS n).args _ _ _ _ (I1.adv _ hc) hq
      have := wa_adv M (textF T 1 p).2
      exact ⟨I', (F1.trans (fw_adv _)).trans F, by simp only [wtS, wtE, wtEs, wtSs, List.length_nil]; omega⟩
  split at h
  · rename_i hc
    split at h
    · cases h
    · rename_i q hq
      obtain ⟨I', F, W⟩ := light1 hS (I1.adv _ hc) hq
      have := wa_adv M (textF T 1 p).2
      have F2 := (fw_must T [93] q.2).trans (fw_must T [61] _)
      have := wa_fw (M := M) F2
      split at h
      · cases h
      · rename_i r hr
        cases h
        obtain ⟨I2, F3, W2⟩ := light1 hS ((I'.must [93]).must [61]) hr
        exact ⟨I2, (((F1.trans (fw_adv _)).trans F).trans F2).trans F3, by simp only [wtS, wtE, wtEs, wtSs, List.length_nil]; omega⟩
  · split at h
    · cases h
    · rename_i q hq
      cases h
      obtain ⟨I', F, W⟩ := light1 hS (I1.must _) hq
      have := wa_fw (M := M) (fw_must T [61] (textF T 1 p).2)
      exact ⟨I', (F1.trans (fw_must _ _ _)).trans F, by simp only [wtS, wtE, wtEs, wtSs, List.length_nil]; omega⟩

end
end PE.U

/-
  Weights of statements.
-/
namespace PE.U
open Go PE

def ovM (M : Nat) (p : PS) : Nat := if overF p then 8 * M else 0
theorem ovM_le (M : Nat) (p : PS) : ovM M p ≤ 8 * M := by unfold ovM; split <;> omega
theorem ovM_fw {M : Nat} {p q : PS} (h : Fw p q) : ovM M p ≤ ovM M q := by
  unfold ovM
  cases ho : overF p
  · simp
  · rw [h.2 ho]; exact Nat.le_refl _
theorem go_wa {M : Nat} {p q : PS} (h : Go1 p q) : wa M p + M ≤ wa M q ∨ ovM M q = 8 * M := by
  rcases h with h | h
  · left
    unfold wa
    have := Nat.mul_le_mul_left M h
    rw [Nat.mul_succ] at this
    exact this
  · right
    unfold ovM; rw [if_pos h]

theorem named_go {T : List Tok} {M n : Nat} {p p' : PS} {v : Stmt} (hS : Short T M) (I : Inv1 T p) (h : namedF T n p = some (v, p')) : Go1 p p' := by
  unfold namedF at h
  have I1 := I.text 1 (by decide)
  have F1 := fw_text T 1 p
  have G1 := text_go (T := T) (k := 1) (p := p)
  split at h
  · rename_i hc
    split at h
    · cases h
    · rename_i q hq
      cases h
      obtain ⟨I', F, W⟩ := (light hS n).args _ _ _ _ (I1.adv _ hc) hq
      exact G1.fw ((fw_adv _).trans F)
  split at h
  · rename_i hc
    split at h
    · cases h
    · rename_i q hq
      obtain ⟨I', F, W⟩ := light1 hS (I1.adv _ hc) hq
      have F2 := (fw_must T [93] q.2).trans (fw_must T [61] _)
      split at h
      · cases h
      · rename_i r hr
        cases h
        obtain ⟨I2, F3, W2⟩ := light1 hS ((I'.must [93]).must [61]) hr
        exact G1.fw ((((fw_adv _).trans F).trans F2).trans F3)
  · split at h
    · cases h
    · rename_i q hq
      cases h
      obtain ⟨I', F, W⟩ := light1 hS (I1.must _) hq
      exact G1.fw ((fw_must _ _ _).trans F)

structure LightS (T : List Tok) (M n : Nat) : Prop where
  stmt : ∀ d p v p', Inv1 T p → stmtF T n d p = some (v, p') → Inv1 T p' ∧ Fw p p' ∧ wtS v + 1 + 8 * wa M p ≤ 8 * wa M p' + ovM M p'
  block : ∀ d l p v p', Inv1 T p → blockF T n d l p = some (v, p') → ∀ k : Nat, wtSs l + k ≤ 8 * wa M p + ovM M p → Inv1 T p' ∧ Fw p p' ∧ wtSs v + k ≤ 8 * wa M p' + ovM M p'

theorem lightS_of {T : List Tok} {M n : Nat} (hS : Short T M) (E : LightS T M n) : LightS T M (n + 1) := by
  have h8 := hS.1
  refine ⟨?_, ?_⟩
  · intro d p v p' I0 h
    simp only [stmtF] at h
    have I := I0.deepS d
    have F0 := fw_deepS d p
    have w0 : wa M (deepS d p) = wa M p := by unfold wa deepS; split <;> rfl
    generalize deepS d p = q at *
    -- something is taken, and what is made weighs little
    have fin : ∀ r : PS, Fw q r → Go1 q r → ∀ W : Nat, W + 2 * wa M q ≤ 2 * wa M r + 4 * M → Fw p r ∧ W + 1 + 8 * wa M p ≤ 8 * wa M r + ovM M r := by
      intro r F G W hW
      refine ⟨F0.trans F, ?_⟩
      have := wa_fw (M := M) F
      rcases go_wa (M := M) G with g | g <;> omega
    split at h
    · have G1 := typed_go (T := T) (p := q)
      have Ft := (fw_typed T q).trans (fw_text T 1 _)
      have F1 := Ft.trans (fw_must T [61] _)
      have hs := short_text (k := 1) I.typed hS
      split at h
      · cases h
      · rename_i x hx
        cases h
        obtain ⟨I', F, W⟩ := light1 hS ((I.typed.text 1 (by decide)).must [61]) hx
        have F2 := fw_must T [59] x.2
        have := wa_fw (M := M) F1
        have := wa_fw (M := M) F2
        have := fin _ ((F1.trans F).trans F2) (G1.fw ((((fw_text T 1 _).trans (fw_must T [61] _)).trans F).trans F2)) (wtS ⟨1, (typedF T q).1, (textF T 1 (typedF T q).2).1, [x.1], [], []⟩) (by simp only [wtS, wtEs, wtSs]; omega)
        exact ⟨I'.must _, this.1, this.2⟩
    split at h
    · rename_i hc
      have wadv := wa_adv M q
      split at h
      · cases h
      · rename_i x hx
        obtain ⟨I', F, W⟩ := lightI hS (I.adv _ hc) hx
        have F2 := fw_must T [123] x.2
        have w2 := wa_fw (M := M) F2
        have w1 := wa_fw (M := M) F
        split at h
        · cases h
        · rename_i y hy
          obtain ⟨I2, F3, W3⟩ := E.block _ _ _ _ _ (I'.must [123]) hy (8 * wa M (mustF T [123] x.2) + ovM M (mustF T [123] x.2)) (by simp [wtSs])
          split at h
          · rename_i hc2
            split at h
            · cases h
            · rename_i z hz
              cases h
              have F4 := (fw_adv y.2).trans (fw_must T [123] _)
              have w4 := wa_fw (M := M) F4
              have o4 := ovM_fw (M := M) F4
              obtain ⟨I3, F5, W5⟩ := E.block _ _ _ _ _ ((I2.adv _ hc2).must [123]) hz (8 * wa M (mustF T [123] (adv y.2)) + ovM M (mustF T [123] (adv y.2))) (by simp [wtSs])
              have w5 := wa_fw (M := M) F5
              have w3 := wa_fw (M := M) F3
              exact ⟨I3, F0.trans ((((((fw_adv q).trans F).trans F2).trans F3).trans F4).trans F5), by simp only [wtS, wtEs, List.length_nil]; omega⟩
          · cases h
            have w3 := wa_fw (M := M) F3
            exact ⟨I2, F0.trans ((((fw_adv q).trans F).trans F2).trans F3), by simp only [wtS, wtEs, wtSs, List.length_nil]; omega⟩
    split at h
    · rename_i hc
      have wadv := wa_adv M q
      split at h
      · cases h
      · rename_i x hx
        obtain ⟨I', F, W⟩ := lightI hS (I.adv _ hc) hx
        have F2 := fw_must T [123] x.2
        have w2 := wa_fw (M := M) F2
        have w1 := wa_fw (M := M) F
        split at h
        · cases h
        · rename_i y hy
          obtain ⟨I2, F3, W3⟩ := E.block _ _ _ _ _ (I'.must [123]) hy (8 * wa M (mustF T [123] x.2) + ovM M (mustF T [123] x.2)) (by simp [wtSs])
          cases h
          have w3 := wa_fw (M := M) F3
          exact ⟨I2, F0.trans ((((fw_adv q).trans F).trans F2).trans F3), by simp only [wtS, wtEs, wtSs, List.length_nil]; omega⟩
    split at h
    · rename_i hc
      cases h
      have wadv := wa_adv M q
      have F2 := fw_must T [59] (adv q)
      have := wa_fw (M := M) F2
      have := fin _ ((fw_adv q).trans F2) ((adv_go q).fw F2) (wtS ⟨6, 0, [], [], [], []⟩) (by simp only [wtS, wtEs, wtSs, List.length_nil]; omega)
      exact ⟨(I.adv _ hc).must _, this.1, this.2⟩
    split at h
    · rename_i hc
      cases h
      have wadv := wa_adv M q
      have F2 := fw_must T [59] (adv q)
      have := wa_fw (M := M) F2
      have := fin _ ((fw_adv q).trans F2) ((adv_go q).fw F2) (wtS ⟨7, 0, [], [], [], []⟩) (by simp only [wtS, wtEs, wtSs, List.length_nil]; omega)
      exact ⟨(I.adv _ hc).must _, this.1, this.2⟩
    split at h
    · rename_i hc
      have wadv := wa_adv M q
      split at h
      · cases h
      · rename_i x hx
        cases h
        obtain ⟨I', F, W⟩ := light1 hS (I.adv _ hc) hx
        have F2 := fw_must T [59] x.2
        have := wa_fw (M := M) F2
        have := fin _ (((fw_adv q).trans F).trans F2) ((adv_go q).fw (F.trans F2)) (wtS ⟨8, 0, [], [x.1], [], []⟩) (by simp only [wtS, wtEs, wtSs, List.length_nil]; omega)
        exact ⟨I'.must _, this.1, this.2⟩
    split at h
    · rename_i hc
      have wadv := wa_adv M q
      split at h
      · cases h
      · rename_i x hx
        cases h
        obtain ⟨I', F, W⟩ := lightI hS (I.adv _ hc) hx
        have F2 := fw_must T [59] x.2
        have := wa_fw (M := M) F2
        have := fin _ (((fw_adv q).trans F).trans F2) ((adv_go q).fw (F.trans F2)) (wtS ⟨9, 0, [], [x.1], [], []⟩) (by simp only [wtS, wtEs, wtSs, List.length_nil]; omega)
        exact ⟨I'.must _, this.1, this.2⟩
    · split at h
      · cases h
      · rename_i x hx
        cases h
        obtain ⟨I', F, W⟩ := lightN hS I hx
        have G := named_go hS I hx
        have F2 := fw_must T [59] x.2
        have := wa_fw (M := M) F2
        have := fin _ (F.trans F2) (G.fw F2) (wtS x.1) (by omega)
        exact ⟨I'.must _, this.1, this.2⟩
  · intro d l p v p' I h k hk
    simp only [blockF] at h
    split at h
    · cases h; exact ⟨I, Fw.refl _, hk⟩
    rename_i hno
    have ho0 : ovM M p = 0 := by unfold ovM; rw [if_neg hno]
    split at h
    · rename_i hc
      cases h
      have := wa_adv M p
      exact ⟨I.adv _ hc, fw_adv p, by omega⟩
    · split at h
      · cases h
      · rename_i x hx
        obtain ⟨I', F, W⟩ := E.stmt _ _ _ _ I hx
        obtain ⟨I2, F2, W2⟩ := E.block _ _ _ _ _ I' h k (by rw [wtSs_append]; simp only [wtSs]; omega)
        exact ⟨I2, F.trans F2, W2⟩

theorem lightS {T : List Tok} {M : Nat} (hS : Short T M) : ∀ n, LightS T M n
  | 0 => ⟨fun _ _ _ _ _ h => by simp [stmtF] at h, fun _ _ _ _ _ _ h => by simp [blockF] at h⟩
  | n + 1 => lightS_of hS (lightS hS n)
end PE.U

/-
  How much there is in a program that was parsed.
-/
namespace PE.U
open Go PE

theorem tokGo_short (N : Nat) : ∀ n (q : List UInt8) line acc, q.length ≤ N → (∀ t ∈ acc, t.text.length ≤ N) → ∀ t ∈ (tokGo n q line acc).1, t.text.length ≤ N := by
  intro n
  induction n with
  | zero => intro q line acc hs ha; exact ha
  | succ n ih =>
    intro q line acc hs ha
    cases q with
    | nil =>
      simp only [tokGo]
      intro t ht
      rcases List.mem_append.1 ht with h | h
      · exact ha t h
      · rw [List.mem_singleton.1 h]; simp
    | cons b r =>
      simp only [List.length_cons] at hs
      simp only [tokGo]
      split
      · exact ih _ _ _ (by omega) ha
      split
      · exact ih _ _ _ (by omega) ha
      split
      · refine ih _ _ _ ?_ ha
        rw [dropWhile_eq_drop, List.length_drop]; simp only [List.length_cons]; omega
      split
      · split
        · intro t ht; cases ht
        · have hw2 := (List.takeWhile_prefix (l := b :: r) (p := nameByte)).length_le
          simp only [List.length_cons] at hw2
          refine ih _ _ _ (by rw [List.length_drop]; simp only [List.length_cons]; omega) ?_
          intro t ht
          rcases List.mem_append.1 ht with h | h
          · exact ha t h
          · rw [List.mem_singleton.1 h]; simp only; omega
      split
      · intro t ht; cases ht
      · have hp2 := sign_len (b :: r)
        simp only [List.length_cons] at hp2
        refine ih _ _ _ (by rw [List.length_drop]; simp only [List.length_cons]; omega) ?_
        intro t ht
        rcases List.mem_append.1 ht with h | h
        · exact ha t h
        · rw [List.mem_singleton.1 h]; simp only; omega

theorem tokens_short (s : List UInt8) : Short (tokensM s).1 100008 := by
  refine ⟨by decide, ?_⟩
  unfold tokensM
  split
  · intro t ht; cases ht
  · rename_i h
    intro t ht
    have := tokGo_short 100000 _ _ _ _ (by omega) (by simp) t ht
    omega

theorem tokens_count (s : List UInt8) (h : (tokensM s).2.1 = 0) : (tokensM s).1.length ≤ 100001 := by
  unfold tokensM at h ⊢
  split at h
  · exact absurd h (by decide)
  rename_i hs
  rw [if_neg hs]
  obtain ⟨x1, x2, x3, x4⟩ := tokGo_ok (s.length + 1) s 1 [] (by omega) (by omega) (by simp) h
  simp at x2; omega

section
variable {T : List Tok} {M : Nat} (hS : Short T M)

theorem block_wt {n : Nat} {d : Int} {p p' : PS} {v : List Stmt} (hS : Short T M) (I : Inv1 T p) (h : blockF T n d [] p = some (v, p')) : wtSs v ≤ 8 * (M * T.length) + 8 * M := by
  obtain ⟨I', F, W⟩ := (lightS hS n).block _ _ _ _ _ I h (8 * wa M p + ovM M p) (by simp [wtSs])
  have := ovM_le M p'
  have h2 : wa M p' ≤ M * T.length := Nat.mul_le_mul_left _ (Nat.le_of_lt I'.lt)
  omega

theorem params_len : ∀ n l (f : Bool) p v p', paramsF T n l f p = some (v, p') → v.length ≤ l.length + n := by
  intro n
  induction n with
  | zero => intro l f p v p' h; simp [paramsF] at h
  | succ n ih =>
    intro l f p v p' h
    simp only [paramsF] at h
    by_cases hc : (f || isF T [44] p) = true
    · rw [if_pos hc] at h
      generalize (if f = true then p else adv p) = q at h
      split at h
      · cases h; omega
      · have := ih _ _ _ _ _ h
        simp only [List.length_append, List.length_cons, List.length_nil] at this
        omega
    · rw [if_neg hc] at h; cases h; omega

theorem function_wt {n : Nat} {t : Int} {s : List UInt8} {p p' : PS} {v : Func} (hS : Short T M) (I : Inv1 T p) (h : functionF T n t s p = some (v, p')) : wtSs v.body ≤ 8 * (M * T.length) + 8 * M ∧ v.params.length ≤ n := by
  unfold functionF at h
  have I1 := I.must [40]
  split at h
  · rename_i hc
    split at h
    · cases h
    · rename_i q hq
      cases h
      exact ⟨block_wt hS ((I1.adv _ hc).must _) hq, by simp⟩
  · split at h
    · cases h
    · rename_i r hr
      have Ir := paramsF_inv _ _ _ _ _ _ hr I1
      have hl := params_len _ _ _ _ _ _ hr
      split at h
      · cases h
      · rename_i q hq
        cases h
        exact ⟨block_wt hS ((Ir.must _).must _) hq, by simpa using hl⟩

theorem prog_wt (hS : Short T M) : ∀ n ars fs p v p', n ≤ 999999980 → Inv1 T p → progF T n ars fs p = some (v, p') → ∀ B : Nat, n ≤ B →
    (∀ f ∈ fs, wtSs f.body ≤ 8 * (M * T.length) + 8 * M ∧ f.params.length ≤ B) →
    v.arrays.length ≤ ars.length + n ∧ v.funcs.length ≤ fs.length + n ∧ ∀ f ∈ v.funcs, wtSs f.body ≤ 8 * (M * T.length) + 8 * M ∧ f.params.length ≤ B := by
  intro n
  induction n with
  | zero => intro ars fs p v p' _ I h; simp [progF] at h
  | succ n ih =>
    intro ars fs p v p' hn I h B hB hf
    simp only [progF] at h
    have I2 := I.typed.text 1 (by decide)
    split at h
    · cases h; exact ⟨Nat.le_add_right _ _, Nat.le_add_right _ _, hf⟩
    split at h
    · cases h; exact ⟨Nat.le_add_right _ _, Nat.le_add_right _ _, hf⟩
    split at h
    · rename_i hc
      have I3 := (((I2.adv _ hc.2.2).text 0 (by decide)).must [93]).must [59]
      obtain ⟨a1, a2, a3⟩ := ih _ _ _ _ _ (by omega) I3 h B (by omega) hf
      simp only [List.length_append, List.length_cons, List.length_nil] at a1
      exact ⟨by omega, by omega, a3⟩
    · split at h
      · cases h
      · rename_i q hq
        have I3 := (function_spec hq I2 (by omega)).2
        have hw := function_wt hS I2 hq
        obtain ⟨a1, a2, a3⟩ := ih _ _ _ _ _ (by omega) I3 h B (by omega) (by
          intro f hff
          rcases List.mem_append.1 hff with h' | h'
          · exact hf f h'
          · rw [List.mem_singleton.1 h']; exact ⟨hw.1, by omega⟩)
        simp only [List.length_append, List.length_cons, List.length_nil] at a2
        exact ⟨by omega, by omega, a3⟩
end

theorem parse_sz (s : List UInt8) (h0 : (tokensM s).2.1 = 0) {v : Prog} {p' : PS} (h : progF (tokensM s).1 (fuel (tokensM s).1) [] [] ⟨0, false, false⟩ = some (v, p')) : PSz v := by
  have I := tokens_inv s h0
  have hc := tokens_count s h0
  have hS := tokens_short s
  have hf : fuel (tokensM s).1 ≤ 6400164 := by unfold fuel; omega
  obtain ⟨a1, a2, a3⟩ := prog_wt hS _ _ _ _ _ _ (by omega) I h (fuel (tokensM s).1) (Nat.le_refl _) (by simp)
  simp only [List.length_nil] at a1 a2
  have hm : 100008 * (tokensM s).1.length ≤ 100008 * 100001 := Nat.mul_le_mul_left _ hc
  refine ⟨by omega, by omega, fun f hff => ?_⟩
  obtain ⟨b1, b2⟩ := a3 f hff
  exact ⟨by omega, by omega⟩

theorem parse_run (s : List UInt8) (h0 : (tokensM s).2.1 = 0) : ∃ v p', progF (tokensM s).1 (fuel (tokensM s).1) [] [] ⟨0, false, false⟩ = some (v, p') ∧ Inv1 (tokensM s).1 p' ∧ PSz v := by
  have I := tokens_inv s h0
  obtain ⟨v, p', e, I'⟩ := prog_enough (fuel (tokensM s).1) [] [] _ I (Or.inl (by unfold fuel left; omega))
  exact ⟨v, p', e, I', parse_sz s h0 e⟩
end PE.U

/-
  The document's Parse: the contract.
-/
namespace PE.U
open Go PE

def encParse (r : Prog × Int × Int) : PV := .tup [encProg r.1, .int .i64 r.2.1, .int .i64 r.2.2]

set_option maxHeartbeats 4000000 in
theorem parse_spec (s : List UInt8) : pcall E 6 [.str s] [] = some (.ret (encParse (parseM s)), []) := by
  refine pcall_wp rfl rfl rfl (by simp) ?_
  have ht := tokens_spec s
  by_cases h0 : (tokensM s).2.1 = 0
  · obtain ⟨v, p', e, I', hz⟩ := parse_run s h0
    have I := tokens_inv s h0
    have hf : fuel (tokensM s).1 ≤ 6400164 := by have := tokens_count s h0; unfold fuel; omega
    have hp := (prog_spec e I (by omega)).1
    have hr := right_spec v hz
    have hm : parseM s = if p'.deep then (⟨[], []⟩, 2, (tk (tokensM s).1 p'.at').line) else if p'.bad then (⟨[], []⟩, 20, (tk (tokensM s).1 p'.at').line) else if rightR v then (v, 0, 0) else (⟨[], []⟩, 2, 0) := by
      unfold parseM; rw [if_pos h0, e]
    have hg := tk_get I'.lt
    rw [hm]
    clear hm e hz I hf
    generalize tokensM s = tt at *
    obtain ⟨T, e0, ln⟩ := tt
    simp only at h0 hp hg ht I'
    subst h0
    have hlt := I'.lt
    clear I'
    obtain ⟨pa, pb, pd⟩ := p'
    obtain ⟨ars, fs⟩ := v
    simp [encTokR, toks, pob, encProg, parrs, funcs] at ht hp hr hg hlt
    cases pd
    · cases pb
      · cases hR : rightR ⟨ars, fs⟩
        · rw [hR] at hr
          simp [*, F6, encParse, encProg, parrs, funcs]
        · rw [hR] at hr
          simp [*, F6, encParse, encProg, parrs, funcs]
      · clear hr
        simp [*, F6, encParse, encProg, parrs, funcs, encTok]
        exact congrArg Tok.line (tk_get' hlt)
    · clear hr
      simp [*, F6, encParse, encProg, parrs, funcs, encTok]
      exact congrArg Tok.line (tk_get' hlt)
  · have hm : parseM s = (⟨[], []⟩, (tokensM s).2.1, (tokensM s).2.2) := by unfold parseM; rw [if_neg h0]
    rw [hm]
    clear hm
    generalize tokensM s = tt at *
    obtain ⟨T, e0, ln⟩ := tt
    simp only at h0 ht
    simp [encTokR, toks] at ht
    replace h0 := eqn h0
    simp [*, F6, encParse, encProg, parrs, funcs]
end PE.U

/-
  Tokens without their lines: of a text, a line end, and a text.
-/
namespace PE.U
open Go PE

abbrev KT := Int × List UInt8
def kt (t : Tok) : KT := (t.kind, t.text)

def tokK : Nat → List UInt8 → Option (List KT)
  | 0, _ => none
  | _ + 1, [] => some []
  | n + 1, b :: r =>
    if b = 10 then tokK n r
    else if blank b then tokK n r
    else if b = 47 ∧ r.head? = some 47 then tokK n ((b :: r).dropWhile (· != 10))
    else if nameByte b then
      if tokBad ((b :: r).takeWhile nameByte) b then none
      else (tokK n ((b :: r).drop ((b :: r).takeWhile nameByte).length)).map fun l => (tokKind ((b :: r).takeWhile nameByte) b, (b :: r).takeWhile nameByte) :: l
    else if signM (b :: r) = [] then none
    else (tokK n ((b :: r).drop (signM (b :: r)).length)).map fun l => (2, signM (b :: r)) :: l
def tokS (s : List UInt8) : Option (List KT) := tokK (s.length + 1) s

theorem drop_name {b : UInt8} {r : List UInt8} (h : nameByte b = true) : ((b :: r).drop ((b :: r).takeWhile nameByte).length).length ≤ r.length := by
  have hw : 0 < ((b :: r).takeWhile nameByte).length := by rw [List.takeWhile_cons, h]; simp
  rw [List.length_drop]; simp only [List.length_cons]; omega
theorem drop_sign {b : UInt8} {r : List UInt8} (h : ¬ signM (b :: r) = []) : ((b :: r).drop (signM (b :: r)).length).length ≤ r.length := by
  have hp : 0 < (signM (b :: r)).length := List.length_pos_iff.2 h
  rw [List.length_drop]; simp only [List.length_cons]; omega
theorem drop_com {b : UInt8} {r : List UInt8} (h : b = 47) : ((b :: r).dropWhile (· != 10)).length ≤ r.length := by
  rw [List.dropWhile_cons, h]
  simp only [show ((47 : UInt8) != 10) = true from rfl, if_true]
  rw [dropWhile_eq_drop, List.length_drop]; omega

theorem tokK_fuel : ∀ n m (s : List UInt8), s.length < n → s.length < m → tokK n s = tokK m s := by
  intro n
  induction n with
  | zero => intro m s h; omega
  | succ n ih =>
    intro m s hn hm
    obtain ⟨m, rfl⟩ : ∃ k, m = k + 1 := ⟨m - 1, by omega⟩
    cases s with
    | nil => rfl
    | cons b r =>
      simp only [List.length_cons] at hn hm
      simp only [tokK]
      split
      · exact ih m r (by omega) (by omega)
      split
      · exact ih m r (by omega) (by omega)
      split
      · rename_i h
        have := drop_com (r := r) h.1
        exact ih m _ (by omega) (by omega)
      split
      · rename_i h
        have := drop_name (r := r) h
        split
        · rfl
        · rw [ih m _ (by omega) (by omega)]
      split
      · rfl
      · rename_i h
        have := drop_sign h
        rw [ih m _ (by omega) (by omega)]

theorem tokK_S {n : Nat} {s : List UInt8} (h : s.length < n) : tokK n s = tokS s := tokK_fuel n (s.length + 1) s h (by omega)

theorem take_nl (s t : List UInt8) : (s ++ 10 :: t).takeWhile nameByte = s.takeWhile nameByte := by
  induction s with
  | nil => rfl
  | cons b r ih =>
    rw [List.cons_append, List.takeWhile_cons, List.takeWhile_cons, ih]
theorem drop_nl (s t : List UInt8) : (s ++ 10 :: t).dropWhile (· != 10) = s.dropWhile (· != 10) ++ 10 :: t := by
  induction s with
  | nil => simp
  | cons b r ih =>
    rw [List.cons_append, List.dropWhile_cons, List.dropWhile_cons, ih]
    split <;> rfl
theorem prefix_nl : ∀ (x s t : List UInt8), (10 : UInt8) ∉ x → x.isPrefixOf (s ++ 10 :: t) = x.isPrefixOf s
  | [], s, t, _ => by simp
  | a :: x, [], t, h => by
    have : ¬ a = 10 := fun e => h (by rw [e]; simp)
    simp [List.isPrefixOf, this]
  | a :: x, b :: s, t, h => by
    have h' : (10 : UInt8) ∉ x := fun e => h (by simp [e])
    simp [List.isPrefixOf, prefix_nl x s t h']
theorem sign_nl (s t : List UInt8) : signM (s ++ 10 :: t) = signM s := by
  have h : ∀ x ∈ signsL, (10 : UInt8) ∉ x := by decide
  unfold signM
  have e : signsL.find? (fun x => x.isPrefixOf (s ++ 10 :: t)) = signsL.find? (fun x => x.isPrefixOf s) := by
    have : ∀ l : List (List UInt8), (∀ x ∈ l, (10 : UInt8) ∉ x) → l.find? (fun x => x.isPrefixOf (s ++ 10 :: t)) = l.find? (fun x => x.isPrefixOf s) := by
      intro l
      induction l with
      | nil => intro _; rfl
      | cons x r ih =>
        intro hl
        rw [List.find?_cons, List.find?_cons, prefix_nl x s t (hl x (by simp)), ih (fun y hy => hl y (by simp [hy]))]
    exact this _ h
  rw [e]

theorem sign_le (s : List UInt8) : (signM s).length ≤ s.length := sign_len s

theorem tokS_nl' : ∀ n (s t : List UInt8), s.length < n → tokS (s ++ 10 :: t) = (tokS s).bind fun a => (tokS t).map (a ++ ·) := by
  intro n
  induction n with
  | zero => intro s t h; omega
  | succ n ih =>
    intro s t hn
    cases s with
    | nil =>
      have e1 : tokS ([] ++ 10 :: t) = tokS t := by
        unfold tokS
        simp only [List.nil_append, List.length_cons, tokK, if_true]
      have e2 : tokS [] = some [] := rfl
      rw [e1, e2]
      simp only [Option.bind_some, List.nil_append]
      cases tokS t <;> rfl
    | cons b r =>
      simp only [List.length_cons] at hn
      have hlen : (r ++ 10 :: t).length = r.length + t.length + 1 := by simp; omega
      have hh : (r ++ 10 :: t).head? = some 47 ↔ r.head? = some 47 := by
        cases r with
        | nil => simp
        | cons c q => simp
      have hnl := take_nl (b :: r) t
      have hdl := drop_nl (b :: r) t
      have hsl := sign_nl (b :: r) t
      have e1 : tokS ((b :: r) ++ 10 :: t) = tokK (r.length + t.length + 1 + 1 + 1) (b :: (r ++ 10 :: t)) := by
        unfold tokS
        rw [show ((b :: r) ++ 10 :: t).length = r.length + t.length + 1 + 1 from by simp; omega]; rfl
      have e2 : tokS (b :: r) = tokK (r.length + 1 + 1) (b :: r) := rfl
      rw [e1, e2]
      rw [List.cons_append] at hnl hdl hsl
      simp only [tokK, hnl, hdl, hsl, hh]
      split
      · rw [tokK_S (by rw [hlen]; omega), tokK_S (by omega)]; exact ih r t (by omega)
      split
      · rw [tokK_S (by rw [hlen]; omega), tokK_S (by omega)]; exact ih r t (by omega)
      split
      · rename_i h
        have := drop_com (r := r) h.1
        rw [tokK_S (by simp; omega), tokK_S (by omega)]
        exact ih _ t (by omega)
      split
      · rename_i h
        have hd := drop_name (r := r) h
        have hle := (List.takeWhile_prefix (l := b :: r) (p := nameByte)).length_le
        split
        · rfl
        · rw [← List.cons_append, List.drop_append_of_le_length hle, tokK_S (by simp at hd ⊢; omega), tokK_S (by omega), ih _ t (by omega)]
          cases tokS (List.drop (List.takeWhile nameByte (b :: r)).length (b :: r)) with
          | none => rfl
          | some a => cases tokS t <;> simp
      split
      · rfl
      · rename_i h
        have hd := drop_sign h
        have hle := sign_le (b :: r)
        rw [← List.cons_append, List.drop_append_of_le_length hle, tokK_S (by simp at hd ⊢; omega), tokK_S (by omega), ih _ t (by omega)]
        cases tokS (List.drop (signM (b :: r)).length (b :: r)) with
        | none => rfl
        | some a => cases tokS t <;> simp
theorem tokS_nl (s t : List UInt8) : tokS (s ++ 10 :: t) = (tokS s).bind fun a => (tokS t).map (a ++ ·) := tokS_nl' _ s t (Nat.lt_succ_self _)

theorem tokGo_K : ∀ n (s : List UInt8) line acc, s.length < n →
    (tokK n s = none → (tokGo n s line acc).2.1 = 20) ∧ (∀ L, tokK n s = some L → (tokGo n s line acc).2 = (0, 0) ∧ (tokGo n s line acc).1.map kt = acc.map kt ++ L ++ [(3, [])]) := by
  intro n
  induction n with
  | zero => intro s line acc h; omega
  | succ n ih =>
    intro s line acc hn
    cases s with
    | nil =>
      refine ⟨fun h => by simp [tokK] at h, fun L h => ?_⟩
      simp only [tokK, Option.some.injEq] at h
      subst h
      simp [tokGo, kt]
    | cons b r =>
      simp only [List.length_cons] at hn
      simp only [tokK, tokGo]
      split
      · exact ih r _ _ (by omega)
      split
      · exact ih r _ _ (by omega)
      split
      · rename_i h
        have := drop_com (r := r) h.1
        exact ih _ _ _ (by omega)
      split
      · rename_i h
        have hd := drop_name (r := r) h
        split
        · exact ⟨fun _ => rfl, fun L h => by cases h⟩
        · obtain ⟨i1, i2⟩ := ih ((b :: r).drop ((b :: r).takeWhile nameByte).length) line (acc ++ [⟨tokKind ((b :: r).takeWhile nameByte) b, (b :: r).takeWhile nameByte, line⟩]) (by omega)
          refine ⟨fun h => i1 (by simpa using h), fun L h => ?_⟩
          rw [Option.map_eq_some_iff] at h
          obtain ⟨L', h1, rfl⟩ := h
          obtain ⟨j1, j2⟩ := i2 L' h1
          refine ⟨j1, ?_⟩
          rw [j2]; simp [kt]
      split
      · exact ⟨fun _ => rfl, fun L h => by cases h⟩
      · rename_i h
        have hd := drop_sign h
        obtain ⟨i1, i2⟩ := ih ((b :: r).drop (signM (b :: r)).length) line (acc ++ [⟨2, signM (b :: r), line⟩]) (by omega)
        refine ⟨fun h => i1 (by simpa using h), fun L h => ?_⟩
        rw [Option.map_eq_some_iff] at h
        obtain ⟨L', h1, rfl⟩ := h
        obtain ⟨j1, j2⟩ := i2 L' h1
        refine ⟨j1, ?_⟩
        rw [j2]; simp [kt]

/-- The tokens of a text that is not too long. -/
theorem tokens_K (s : List UInt8) (h : s.length ≤ 100000) (h0 : (tokensM s).2.1 = 0) : ∃ L, tokS s = some L ∧ (tokensM s).1.map kt = L ++ [(3, [])] := by
  unfold tokensM at h0 ⊢
  rw [if_neg (by omega)] at h0 ⊢
  obtain ⟨i1, i2⟩ := tokGo_K (s.length + 1) s 1 [] (by omega)
  cases hk : tokK (s.length + 1) s with
  | none => rw [i1 hk] at h0; exact absurd h0 (by decide)
  | some L =>
    exact ⟨L, hk, by rw [(i2 L hk).2]; simp⟩
end PE.U

/-
  The parser elsewhere among tokens, and with more fuel.
-/
namespace PE.U
open Go PE

/-- From a place on tokens are these, but for lines. -/
def Up (T T' : List Tok) (δ : Nat) : Prop := ∀ i, kt (tk T (i + δ)) = kt (tk T' i)
def up (δ : Nat) (p : PS) : PS := ⟨p.at' + δ, p.bad, p.deep⟩

section
variable {T T' : List Tok} {δ : Nat}
theorem Up.kind (U : Up T T' δ) (i : Nat) : (tk T (i + δ)).kind = (tk T' i).kind := congrArg Prod.fst (U i)
theorem Up.text (U : Up T T' δ) (i : Nat) : (tk T (i + δ)).text = (tk T' i).text := congrArg Prod.snd (U i)
theorem overF_up (p : PS) : overF (up δ p) = overF p := rfl
theorem adv_up (p : PS) : adv (up δ p) = up δ (adv p) := by unfold adv up; simp only; congr 1; omega
theorem isF_up (U : Up T T' δ) (s : List UInt8) (p : PS) : isF T s (up δ p) = isF T' s p := by
  unfold isF
  rw [overF_up, show (up δ p).at' = p.at' + δ from rfl, U.kind, U.text]
theorem mustF_up (U : Up T T' δ) (s : List UInt8) (p : PS) : mustF T s (up δ p) = up δ (mustF T' s p) := by
  unfold mustF
  rw [isF_up U]
  split
  · exact adv_up p
  · rw [show (up δ p).deep = p.deep from rfl]
    split <;> rfl
theorem textF_up (U : Up T T' δ) (k : Int) (p : PS) : textF T k (up δ p) = ((textF T' k p).1, up δ (textF T' k p).2) := by
  unfold textF
  rw [overF_up, show (up δ p).at' = p.at' + δ from rfl, U.kind, U.text]
  split
  · rfl
  · split
    · simp only; congr 1; exact adv_up p
    · rfl
theorem typedF_up (U : Up T T' δ) (p : PS) : typedF T (up δ p) = ((typedF T' p).1, up δ (typedF T' p).2) := by
  unfold typedF
  rw [isF_up U]
  split
  · simp only; congr 1; exact adv_up p
  · rw [mustF_up U]
theorem deepF_up (d : Int) (p : PS) : deepF d (up δ p) = up δ (deepF d p) := by
  unfold deepF
  rw [show (up δ p).bad = p.bad from rfl]
  repeat' (first | rfl | split)
theorem deepS_up (d : Int) (p : PS) : deepS d (up δ p) = up δ (deepS d p) := by
  unfold deepS
  repeat' (first | rfl | split)
theorem unF_up (U : Up T T' δ) (p : PS) : unF T (up δ p) = unF T' p := by
  unfold unF
  congr 1
  funext i
  unfold unHere
  rw [isF_up U]
theorem opF_up (U : Up T T' δ) (L : Int) (p : PS) : opF T L (up δ p) = opF T' L p := by
  unfold opF
  have : opHere T L (up δ p) = opHere T' L p := by
    funext i
    unfold opHere
    rw [isF_up U]
  rw [this]
theorem at_up (p : PS) : (up δ p).at' = p.at' + δ := rfl
end

structure UpE (T T' : List Tok) (δ n : Nat) : Prop where
  primary : ∀ m d p v p', n ≤ m → primaryF T' n d p = some (v, p') → primaryF T m d (up δ p) = some (v, up δ p')
  unary : ∀ m d p v p', n ≤ m → unaryF T' n d p = some (v, p') → unaryF T m d (up δ p) = some (v, up δ p')
  expr : ∀ m L d p v p', n ≤ m → exprF T' n L d p = some (v, p') → exprF T m L d (up δ p) = some (v, up δ p')
  loop : ∀ m L d a p v p', n ≤ m → exprLoopF T' n L d a p = some (v, p') → exprLoopF T m L d a (up δ p) = some (v, up δ p')
  args : ∀ m d p v p', n ≤ m → argsF T' n d p = some (v, p') → argsF T m d (up δ p) = some (v, up δ p')
  al : ∀ m d l (f : Bool) p v p', n ≤ m → argsLoopF T' n d l f p = some (v, p') → argsLoopF T m d l f (up δ p) = some (v, up δ p')

theorem upE_of {T T' : List Tok} {δ n : Nat} (U : Up T T' δ) (E : UpE T T' δ n) : UpE T T' δ (n + 1) := by
  refine ⟨?_, ?_, ?_, ?_, ?_, ?_⟩
  · intro m d p v p' hm h
    obtain ⟨m, rfl⟩ : ∃ k, m = k + 1 := ⟨m - 1, by omega⟩
    have hm : n ≤ m := by omega
    simp only [primaryF] at h ⊢
    simp only [overF_up, adv_up, isF_up U, textF_up U, at_up, U.kind, U.text, mustF_up U]
    split at h
    · rename_i c; rw [if_pos c]; cases h; rfl
    rename_i c; rw [if_neg c]
    split at h
    · rename_i c; rw [if_pos c]
      split at h
      · cases h
      · rename_i q hq
        cases h
        rw [E.expr m _ _ _ _ _ hm hq]
        simp only [mustF_up U]
    rename_i c; rw [if_neg c]
    split at h
    · rename_i c; rw [if_pos c]; cases h; rfl
    rename_i c; rw [if_neg c]
    split at h
    · rename_i c; rw [if_pos c]; cases h; rfl
    rename_i c; rw [if_neg c]
    split at h
    · rename_i c; rw [if_pos c]; cases h; rfl
    rename_i c; rw [if_neg c]
    split at h
    · rename_i c; rw [if_pos c]; cases h; rfl
    rename_i c; rw [if_neg c]
    split at h
    · rename_i c; rw [if_pos c]
      split at h
      · cases h
      · rename_i q hq
        cases h
        rw [E.args m _ _ _ _ hm hq]
    rename_i c; rw [if_neg c]
    split at h
    · rename_i c; rw [if_pos c]
      split at h
      · cases h
      · rename_i q hq
        cases h
        rw [E.expr m _ _ _ _ _ hm hq]
        simp only [mustF_up U]
    rename_i c; rw [if_neg c]
    cases h; rfl
  · intro m d p v p' hm h
    obtain ⟨m, rfl⟩ : ∃ k, m = k + 1 := ⟨m - 1, by omega⟩
    have hm : n ≤ m := by omega
    simp only [unaryF] at h ⊢
    rw [deepF_up, unF_up U]
    cases hu : unF T' (deepF d p) with
    | none =>
      rw [hu] at h
      exact E.primary m _ _ _ _ hm h
    | some i =>
      rw [hu] at h
      simp only at h ⊢
      simp only [adv_up, mustF_up U]
      split at h
      · rename_i c; rw [if_pos c]
        split at h
        · cases h
        · rename_i q hq
          cases h
          rw [E.expr m _ _ _ _ _ hm hq]
          simp only [mustF_up U]
      · rename_i c; rw [if_neg c]
        split at h
        · cases h
        · rename_i q hq
          cases h
          rw [E.unary m _ _ _ _ hm hq]
  · intro m L d p v p' hm h
    obtain ⟨m, rfl⟩ : ∃ k, m = k + 1 := ⟨m - 1, by omega⟩
    have hm : n ≤ m := by omega
    simp only [exprF] at h ⊢
    split at h
    · rename_i c; rw [if_pos c]; exact E.unary m _ _ _ _ hm h
    · rename_i c; rw [if_neg c]
      split at h
      · cases h
      · rename_i q hq
        rw [E.expr m _ _ _ _ _ hm hq]
        exact E.loop m _ _ _ _ _ _ hm h
  · intro m L d a p v p' hm h
    obtain ⟨m, rfl⟩ : ∃ k, m = k + 1 := ⟨m - 1, by omega⟩
    have hm : n ≤ m := by omega
    simp only [exprLoopF] at h ⊢
    simp only [opF_up U, adv_up]
    split at h
    · rename_i c; rw [if_pos c]; cases h; rfl
    · rename_i c; rw [if_neg c]
      split at h
      · cases h
      · rename_i q hq
        rw [E.expr m _ _ _ _ _ hm hq]
        exact E.loop m _ _ _ _ _ _ hm h
  · intro m d p v p' hm h
    obtain ⟨m, rfl⟩ : ∃ k, m = k + 1 := ⟨m - 1, by omega⟩
    have hm : n ≤ m := by omega
    simp only [argsF] at h ⊢
    simp only [isF_up U, adv_up]
    split at h
    · rename_i c; rw [if_pos c]; cases h; rfl
    · rename_i c; rw [if_neg c]
      split at h
      · cases h
      · rename_i q hq
        cases h
        rw [E.al m _ _ _ _ _ _ hm hq]
        simp only [mustF_up U]
  · intro m d l f p v p' hm h
    obtain ⟨m, rfl⟩ : ∃ k, m = k + 1 := ⟨m - 1, by omega⟩
    have hm : n ≤ m := by omega
    simp only [argsLoopF] at h ⊢
    simp only [isF_up U, adv_up]
    have hq : (if f = true then up δ p else up δ (adv p)) = up δ (if f = true then p else adv p) := by split <;> rfl
    rw [hq]
    generalize (if f = true then p else adv p) = q at *
    by_cases c : (f || isF T' [44] p) = true
    · rw [if_pos c] at h ⊢
      rw [overF_up]
      split at h
      · rename_i c; rw [if_pos c]; cases h; rfl
      · rename_i c; rw [if_neg c]
        split at h
        · cases h
        · rename_i x hx
          rw [E.expr m _ _ _ _ _ hm hx]
          exact E.al m _ _ _ _ _ _ hm h
    · rw [if_neg c] at h ⊢
      cases h; rfl

theorem upE {T T' : List Tok} {δ : Nat} (U : Up T T' δ) : ∀ n, UpE T T' δ n
  | 0 => ⟨fun _ _ _ _ _ _ h => by simp [primaryF] at h, fun _ _ _ _ _ _ h => by simp [unaryF] at h, fun _ _ _ _ _ _ _ h => by simp [exprF] at h, fun _ _ _ _ _ _ _ _ h => by simp [exprLoopF] at h, fun _ _ _ _ _ _ h => by simp [argsF] at h, fun _ _ _ _ _ _ _ _ h => by simp [argsLoopF] at h⟩
  | n + 1 => upE_of U (upE U n)

section
variable {T T' : List Tok} {δ : Nat}
theorem expr1_up (U : Up T T' δ) {n m : Nat} {p p' : PS} {v : Expr} (hm : n ≤ m) (h : exprF T' n 1 1 p = some (v, p')) : exprF T m 1 1 (up δ p) = some (v, up δ p') := (upE U n).expr m _ _ _ _ _ hm h
theorem inside_up (U : Up T T' δ) {n m : Nat} {p p' : PS} {v : Expr} (hm : n ≤ m) (h : insideF T' n p = some (v, p')) : insideF T m (up δ p) = some (v, up δ p') := by
  unfold insideF at h ⊢
  rw [mustF_up U]
  split at h
  · cases h
  · rename_i q hq
    cases h
    rw [expr1_up U hm hq]
    simp only [mustF_up U]
theorem named_up (U : Up T T' δ) {n m : Nat} {p p' : PS} {v : Stmt} (hm : n ≤ m) (h : namedF T' n p = some (v, p')) : namedF T m (up δ p) = some (v, up δ p') := by
  unfold namedF at h ⊢
  simp only [textF_up U, isF_up U, adv_up, mustF_up U]
  split at h
  · rename_i c; rw [if_pos c]
    split at h
    · cases h
    · rename_i q hq
      cases h
      rw [(upE U n).args m _ _ _ _ hm hq]
  rename_i c; rw [if_neg c]
  split at h
  · rename_i c; rw [if_pos c]
    split at h
    · cases h
    · rename_i q hq
      rw [expr1_up U hm hq]
      simp only [mustF_up U]
      split at h
      · cases h
      · rename_i r hr
        cases h
        rw [expr1_up U hm hr]
  · rename_i c; rw [if_neg c]
    split at h
    · cases h
    · rename_i q hq
      cases h
      rw [expr1_up U hm hq]
end

structure UpS (T T' : List Tok) (δ n : Nat) : Prop where
  stmt : ∀ m d p v p', n ≤ m → stmtF T' n d p = some (v, p') → stmtF T m d (up δ p) = some (v, up δ p')
  block : ∀ m d l p v p', n ≤ m → blockF T' n d l p = some (v, p') → blockF T m d l (up δ p) = some (v, up δ p')

theorem upS_of {T T' : List Tok} {δ n : Nat} (U : Up T T' δ) (E : UpS T T' δ n) : UpS T T' δ (n + 1) := by
  refine ⟨?_, ?_⟩
  · intro m d p v p' hm h
    obtain ⟨m, rfl⟩ : ∃ k, m = k + 1 := ⟨m - 1, by omega⟩
    have hm : n ≤ m := by omega
    simp only [stmtF] at h ⊢
    rw [deepS_up]
    generalize deepS d p = q at *
    simp only [isF_up U, adv_up, typedF_up U, textF_up U, mustF_up U]
    split at h
    · rename_i c; rw [if_pos c]
      split at h
      · cases h
      · rename_i x hx
        cases h
        rw [expr1_up U hm hx]
        simp only [mustF_up U]
    rename_i c; rw [if_neg c]
    split at h
    · rename_i c; rw [if_pos c]
      split at h
      · cases h
      · rename_i x hx
        rw [inside_up U hm hx]
        simp only [mustF_up U]
        split at h
        · cases h
        · rename_i y hy
          rw [E.block m _ _ _ _ _ hm hy]
          simp only [isF_up U, adv_up, mustF_up U]
          split at h
          · rename_i c; rw [if_pos c]
            split at h
            · cases h
            · rename_i z hz
              cases h
              rw [E.block m _ _ _ _ _ hm hz]
          · rename_i c; rw [if_neg c]
            cases h; rfl
    rename_i c; rw [if_neg c]
    split at h
    · rename_i c; rw [if_pos c]
      split at h
      · cases h
      · rename_i x hx
        rw [inside_up U hm hx]
        simp only [mustF_up U]
        split at h
        · cases h
        · rename_i y hy
          cases h
          rw [E.block m _ _ _ _ _ hm hy]
    rename_i c; rw [if_neg c]
    split at h
    · rename_i c; rw [if_pos c]; cases h; rfl
    rename_i c; rw [if_neg c]
    split at h
    · rename_i c; rw [if_pos c]; cases h; rfl
    rename_i c; rw [if_neg c]
    split at h
    · rename_i c; rw [if_pos c]
      split at h
      · cases h
      · rename_i x hx
        cases h
        rw [expr1_up U hm hx]
        simp only [mustF_up U]
    rename_i c; rw [if_neg c]
    split at h
    · rename_i c; rw [if_pos c]
      split at h
      · cases h
      · rename_i x hx
        cases h
        rw [inside_up U hm hx]
        simp only [mustF_up U]
    rename_i c; rw [if_neg c]
    split at h
    · cases h
    · rename_i x hx
      cases h
      rw [named_up U hm hx]
      simp only [mustF_up U]
  · intro m d l p v p' hm h
    obtain ⟨m, rfl⟩ : ∃ k, m = k + 1 := ⟨m - 1, by omega⟩
    have hm : n ≤ m := by omega
    simp only [blockF] at h ⊢
    simp only [overF_up, isF_up U, adv_up]
    split at h
    · rename_i c; rw [if_pos c]; cases h; rfl
    rename_i c; rw [if_neg c]
    split at h
    · rename_i c; rw [if_pos c]; cases h; rfl
    rename_i c; rw [if_neg c]
    split at h
    · cases h
    · rename_i x hx
      rw [E.stmt m _ _ _ _ hm hx]
      exact E.block m _ _ _ _ _ hm h

theorem upS {T T' : List Tok} {δ : Nat} (U : Up T T' δ) : ∀ n, UpS T T' δ n
  | 0 => ⟨fun _ _ _ _ _ _ h => by simp [stmtF] at h, fun _ _ _ _ _ _ _ h => by simp [blockF] at h⟩
  | n + 1 => upS_of U (upS U n)

section
variable {T T' : List Tok} {δ : Nat}
theorem params_up (U : Up T T' δ) : ∀ n m l (f : Bool) p v p', n ≤ m → paramsF T' n l f p = some (v, p') → paramsF T m l f (up δ p) = some (v, up δ p') := by
  intro n
  induction n with
  | zero => intro m l f p v p' _ h; simp [paramsF] at h
  | succ n ih =>
    intro m l f p v p' hm h
    obtain ⟨m, rfl⟩ : ∃ k, m = k + 1 := ⟨m - 1, by omega⟩
    have hm : n ≤ m := by omega
    simp only [paramsF] at h ⊢
    simp only [isF_up U, adv_up]
    have hq : (if f = true then up δ p else up δ (adv p)) = up δ (if f = true then p else adv p) := by split <;> rfl
    rw [hq]
    generalize (if f = true then p else adv p) = q at *
    by_cases c : (f || isF T' [44] p) = true
    · rw [if_pos c] at h ⊢
      simp only [overF_up, typedF_up U, textF_up U]
      split at h
      · rename_i c; rw [if_pos c]; cases h; rfl
      · rename_i c; rw [if_neg c]
        exact ih m _ _ _ _ _ hm h
    · rw [if_neg c] at h ⊢
      cases h; rfl
theorem function_up (U : Up T T' δ) {n m : Nat} {t : Int} {s : List UInt8} {p p' : PS} {v : Func} (hm : n ≤ m) (h : functionF T' n t s p = some (v, p')) : functionF T m t s (up δ p) = some (v, up δ p') := by
  unfold functionF at h ⊢
  simp only [mustF_up U, isF_up U, adv_up]
  split at h
  · rename_i c; rw [if_pos c]
    split at h
    · cases h
    · rename_i q hq
      cases h
      rw [(upS U n).block m _ _ _ _ _ hm hq]
  · rename_i c; rw [if_neg c]
    split at h
    · cases h
    · rename_i r hr
      rw [params_up U n m _ _ _ _ _ hm hr]
      simp only [mustF_up U]
      split at h
      · cases h
      · rename_i q hq
        cases h
        rw [(upS U n).block m _ _ _ _ _ hm hq]
end
end PE.U

/-
  Texts of functions' bodies.
-/
namespace PE.U
open Go PE

def u8s (l : List UInt8) : PV := .slice .plain 1 (l.map fun b => .int .u8 b.toNat)
section
variable (l : List UInt8)
@[simp high] theorem isCell_u8s : isCell (u8s l) = true := Eq.trans rfl rfl
@[simp high] theorem isVar_u8s : isVar (u8s l) = true := Eq.trans rfl rfl
@[simp high] theorem canon1_u8s : canon1 (u8s l) = u8s l := Eq.trans rfl rfl
@[simp high] theorem strip_u8s : strip (u8s l) = u8s l := Eq.trans rfl rfl
@[simp high] theorem stripA_u8s : stripA (u8s l) = u8s l := Eq.trans rfl rfl
@[simp high] theorem isOwn_u8s : isOwn (u8s l) = none := Eq.trans rfl rfl
@[simp high] theorem cellsOf_u8s : cellsOf (u8s l) = [u8s l] := Eq.trans rfl rfl
@[simp high] theorem avoids_u8s (dead : List Nat) : avoids dead (u8s l) = true := Eq.trans rfl rfl
@[simp high] theorem bl_u8 (n : Nat) : belowL n (l.map fun b => PV.int .u8 b.toNat) = true := belowL_map _ _ _ (fun _ => rfl)
@[simp high] theorem below_u8s (n : Nat) : belowV n (u8s l) = true := by simp [u8s]
end

theorem remNat (a b : Nat) : remK (a : Int) (b : Int) = ((a % b : Nat) : Int) := by rw [remK_eq]; rfl

def texts05 : List (List UInt8) := [[120, 32, 61, 32, 49, 59], [105, 110, 116, 32, 121, 32, 61, 32, 120, 59], [98, 111, 111, 108, 32, 98, 32, 61, 32, 120, 32, 60, 32, 50, 59], [98, 32, 61, 32, 33, 98, 59], [97, 91, 120, 93, 32, 61, 32, 121, 59], [105, 102, 32, 40, 98, 41, 32, 123], [125, 32, 101, 108, 115, 101, 32, 123], [125], [119, 104, 105, 108, 101, 32, 40, 120, 32, 60, 32, 51, 41, 32, 123], [119, 104, 105, 108, 101, 32, 40, 116, 114, 117, 101, 41, 32, 123], [98, 114, 101, 97, 107, 59], [99, 111, 110, 116, 105, 110, 117, 101, 59], [114, 101, 116, 117, 114, 110, 32, 120, 59], [114, 101, 116, 117, 114, 110, 32, 98, 59], [112, 114, 105, 110, 116, 40, 120, 32, 43, 32, 97, 91, 48, 93, 41, 59], [102, 40, 120, 44, 32, 98, 41, 59], [105, 110, 116, 32, 120, 32, 61, 32, 50, 59], [120, 32, 61, 32, 102, 40, 49, 44, 32, 116, 114, 117, 101, 41, 59], [98, 32, 61, 32, 102, 40, 120, 44, 32, 98, 41, 32, 61, 61, 32, 50, 32, 38, 38, 32, 98, 59], [121, 32, 61, 32, 105, 56, 40, 120, 41, 59], [98, 32, 61, 32, 120, 59], [120, 32, 61, 32, 45, 98, 59], [114, 101, 116, 117, 114, 110, 32, 102, 40, 120, 44, 32, 98, 32, 61, 61, 32, 116, 114, 117, 101, 41, 59], [122, 32, 61, 32, 49, 59], [99, 91, 48, 93, 32, 61, 32, 49, 59], [104, 40, 41, 59], [120, 32, 61, 32, 114, 101, 97, 100, 40, 41, 59], [123], [114, 101, 116, 117, 114, 110, 32, 48, 59], [112, 114, 105, 110, 116, 40, 116, 114, 117, 101, 41, 59], [98, 32, 61, 32, 116, 114, 117, 101, 32, 33, 61, 32, 40, 120, 32, 62, 32, 49, 41, 59]]
theorem texts05_spec : pcall E 17 [] [] = some (.ret (.slice .plain 1 (texts05.map PV.str)), []) := by
  refine pcall_wp rfl rfl rfl (by simp) ?_
  simp [F17, texts05]

def pre05 : List UInt8 := [105, 110, 116, 32, 97, 91, 52, 93, 59, 10, 105, 110, 116, 32, 102, 40, 105, 110, 116, 32, 120, 44, 32, 98, 111, 111, 108, 32, 98, 41, 32, 123, 10]
def ret05 : List UInt8 := [114, 101, 116, 117, 114, 110, 32, 49, 59, 10]
def suf05 : List UInt8 := [125, 10, 105, 110, 116, 32, 109, 97, 105, 110, 40, 41, 32, 123, 32, 114, 101, 116, 117, 114, 110, 32, 102, 40, 49, 44, 32, 116, 114, 117, 101, 41, 59, 32, 125, 10]
def piece05 (b : UInt8) : List UInt8 := texts05[b.toNat % 31]?.getD [] ++ [10]
def bodyM (l : List UInt8) (ends : Bool) : List UInt8 := pre05 ++ ((l.take 14).flatMap piece05 ++ ((if ends then ret05 else []) ++ suf05))
theorem texts05_get (k : Nat) (h : k < 31) : texts05[k]? = some (texts05[k]?.getD []) ∧ (texts05[k]?.getD []).length ≤ 29 := by
  have : ∀ k, k < 31 → texts05[k]? = some (texts05[k]?.getD []) ∧ (texts05[k]?.getD []).length ≤ 29 := by decide
  exact this k h

def q05 (l : List UInt8) (i : Nat) : List UInt8 := (l.take i).flatMap piece05
theorem piece05_len (b : UInt8) : (piece05 b).length ≤ 30 := by
  obtain ⟨g1, g2⟩ := texts05_get (b.toNat % 31) (Nat.mod_lt _ (by decide))
  unfold piece05
  rw [List.length_append]
  simp only [List.length_cons, List.length_nil]
  omega
theorem flat05_len (l : List UInt8) : (l.flatMap piece05).length ≤ 30 * l.length := by
  induction l with
  | nil => simp
  | cons b r ih =>
    have := piece05_len b
    rw [List.flatMap_cons, List.length_append, List.length_cons]; omega
theorem q05_len (l : List UInt8) (i : Nat) : (q05 l i).length ≤ 30 * i := by
  have h1 := flat05_len (l.take i)
  have h2 : (l.take i).length ≤ i := by rw [List.length_take]; omega
  unfold q05; omega
theorem q05_succ (l : List UInt8) (i : Nat) (h : i < l.length) : q05 l (i + 1) = q05 l i ++ (texts05[l[i].toNat % 31]?.getD [] ++ [10]) := by
  unfold q05
  rw [List.take_add_one, List.getElem?_eq_getElem h, Option.toList_some, List.flatMap_append, List.flatMap_singleton]; rfl

set_option maxHeartbeats 1000000 in
theorem body_spec (l : List UInt8) (ends : Bool) (hl : l.length ≤ 9223372036854775807) : pcall E 7 [u8s l, .bool ends] [] = some (.ret (.str (bodyM l ends)), []) := by
  refine pcall_wp rfl rfl rfl (by simp) ?_
  have ht := texts05_spec
  have htl : texts05.length = 31 := rfl
  simp [*, F7, u8s]
  refine wp_while K7_0 B7_0 (fun i : Nat => 14 - i) (fun i => [(5, .str (pre05 ++ q05 l i)), (7, .int .i64 i)]) (fun _ => []) (fun _ => []) (fun i => i ≤ 14 ∧ i ≤ l.length) 0 (by simp [pre05, q05]) ?_
  rintro i s1 ⟨hi, hil⟩ h1 h2 h3 h4 h5
  simp at h1 h3 h5
  clear h2 h4
  have hlen := q05_len l i
  have hp : pre05.length = 33 := rfl
  by_cases hc : i < l.length ∧ i < 14
  · obtain ⟨c1, c2⟩ := hc
    obtain ⟨g1, g2⟩ := texts05_get (l[i].toNat % 31) (Nat.mod_lt _ (by decide))
    have hrem : remK (l[i].toNat : Int) 31 = ((l[i].toNat % 31 : Nat) : Int) := remNat _ 31
    have htk := q05_succ l i c1
    have hget : l[i]? = some l[i] := List.getElem?_eq_getElem c1
    generalize texts05[l[i].toNat % 31]?.getD [] = t at *
    generalize hb : l[i] = b at *
    generalize hk : b.toNat % 31 = k at *
    generalize q05 l i = q at *
    have k1 : ((i : Int) < l.length) = True := eqp (by omega)
    have k2 : ((i : Int) < 14) = True := eqp (by omega)
    have hw : wrapK .i64 ((i : Int) + 1) = (i : Int) + 1 := wrapK_small (by omega) (by omega)
    have m1 : 33 + q.length + t.length ≤ 9223372036854775807 := by omega
    have m2 : 33 + q.length + t.length + 1 ≤ 9223372036854775807 := by omega
    have m1' : 33 + (q.length + t.length) ≤ 9223372036854775807 := by omega
    have m2' : 33 + (q.length + (t.length + 1)) ≤ 9223372036854775807 := by omega
    have m2'' : 33 + (q.length + t.length) + 1 ≤ 9223372036854775807 := by omega
    clear ht hk c1 hb
    simp [*]
    exact ⟨i + 1, by omega, ⟨by rw [htk], by omega⟩, by omega, by have := of_eq_true k1; omega⟩
  · have e : l.take 14 = l.take i := by
      by_cases h14 : i = 14
      · rw [h14]
      · have : l.length ≤ i := by omega
        rw [List.take_of_length_le this, List.take_of_length_le (by omega)]
    have e2 : bodyM l ends = pre05 ++ (q05 l i ++ ((if ends then ret05 else []) ++ suf05)) := by unfold bodyM q05; rw [e]
    rw [e2]
    clear e e2
    generalize q05 l i = q at *
    have m1 : 33 + q.length + 10 ≤ 9223372036854775807 := by omega
    have m2 : 33 + q.length + 10 + 36 ≤ 9223372036854775807 := by omega
    have m3 : 33 + q.length + 36 ≤ 9223372036854775807 := by omega
    have m1' : 33 + (q.length + 10) ≤ 9223372036854775807 := by omega
    have m2' : 33 + (q.length + 10) + 36 ≤ 9223372036854775807 := by omega
    have m3' : 33 + (q.length + 36) ≤ 9223372036854775807 := by omega
    by_cases k1 : (i : Int) < l.length
    · have k2 : ¬ (i : Int) < 14 := by omega
      replace k1 := eqp k1
      replace k2 := eqn k2
      clear ht
      cases ends <;> simp [*, ret05, suf05]
    · replace k1 := eqn k1
      clear ht
      cases ends <;> simp [*, ret05, suf05]
end PE.U

/-
  Types: what any right program answers.
-/
namespace PE.U
open Go PE

def aw1 : List UInt8 := [105, 110, 116, 32, 109, 97, 105, 110, 40, 41, 32, 123, 32, 98, 111, 111, 108, 32, 98, 32, 61, 32, 49, 59, 32, 125]
def aw2 : List UInt8 := [105, 110, 116, 32, 97, 91, 50, 93, 59, 32, 105, 110, 116, 32, 109, 97, 105, 110, 40, 41, 32, 123, 32, 105, 110, 116, 32, 120, 32, 61, 32, 97, 91, 48, 93, 59, 32, 119, 104, 105, 108, 101, 32, 40, 120, 32, 60, 32, 50, 41, 32, 123, 32, 120, 32, 61, 32, 120, 32, 43, 32, 49, 59, 32, 125, 32, 114, 101, 116, 117, 114, 110, 32, 120, 59, 32, 125]

theorem aw1_ok : checkT (parseM aw1).1 = (51, 0, 0) := by decide +kernel
theorem aw2_ok : checkT (parseM aw2).1 = (0, 0, 0) ∧ placeM (parseM aw2).1 mainN = 0 ∧ arrayM (parseM aw2).1 [97] = 0 ∧ arrayM (parseM aw2).1 mainN = -1 := by decide +kernel

theorem parse_psz (s : List UInt8) : PSz (parseM s).1 := by
  have h0 : PSz ⟨[], []⟩ := ⟨by simp, by simp, by simp⟩
  unfold parseM
  split
  · rename_i h
    obtain ⟨v, p', e, I', hz⟩ := parse_run s h
    rw [e]
    simp only
    split
    · exact h0
    split
    · exact h0
    split
    · exact hz
    · exact h0
  · exact h0

set_option maxHeartbeats 1000000 in
theorem awake05_spec : pcall E 8 [] [] = some (.ret (.bool true), []) := by
  refine pcall_wp rfl rfl rfl (by simp) ?_
  have p1 := parse_spec aw1
  have p2 := parse_spec aw2
  have z1 := parse_psz aw1
  have z2 := parse_psz aw2
  have c1 := check_spec _ z1
  have c2 := check_spec _ z2
  obtain ⟨a1, a2, a3, a4⟩ := aw2_ok
  have b2 := place_spec (parseM aw2).1 mainN [] (by have := z2.2.1; omega)
  have b3 := array_spec (parseM aw2).1 [97] [] (by have := z2.1; omega)
  have b4 := array_spec (parseM aw2).1 mainN [] (by have := z2.1; omega)
  rw [aw1_ok] at c1
  rw [a1] at c2
  rw [a2] at b2
  rw [a3] at b3
  rw [a4] at b4
  clear z1 z2 a1 a2 a3 a4
  generalize parseM aw1 = q1 at *
  generalize parseM aw2 = q2 at *
  obtain ⟨⟨ar1, fs1⟩, e1, n1⟩ := q1
  obtain ⟨⟨ar2, fs2⟩, e2, n2⟩ := q2
  simp [encParse, encProg, encCheck, aw1, aw2, mainN] at p1 p2 c1 c2 b2 b3 b4
  simp [*, F8]
end PE.U

/-
  What the parser makes of a body's text.
-/
namespace PE.U
open Go PE

def preK : List KT := [(2, [105, 110, 116]), (1, [97]), (2, [91]), (0, [52]), (2, [93]), (2, [59]), (2, [105, 110, 116]), (1, [102]), (2, [40]), (2, [105, 110, 116]), (1, [120]), (2, [44]), (2, [98, 111, 111, 108]), (1, [98]), (2, [41]), (2, [123])]
def sufK : List KT := [(2, [125]), (2, [105, 110, 116]), (1, [109, 97, 105, 110]), (2, [40]), (2, [41]), (2, [123]), (2, [114, 101, 116, 117, 114, 110]), (1, [102]), (2, [40]), (0, [49]), (2, [44]), (2, [116, 114, 117, 101]), (2, [41]), (2, [59]), (2, [125])]
def retK : List KT := [(2, [114, 101, 116, 117, 114, 110]), (0, [49]), (2, [59])]
def pieceK (b : UInt8) : List KT := (tokS (texts05[b.toNat % 31]?.getD [])).getD []
def midK (l : List UInt8) (ends : Bool) : List KT := (l.take 14).flatMap pieceK ++ (if ends then retK else [])

theorem pieceK_ok (b : UInt8) : tokS (texts05[b.toNat % 31]?.getD []) = some (pieceK b) := by
  have h : ∀ k, k < 31 → tokS (texts05[k]?.getD []) = some ((tokS (texts05[k]?.getD [])).getD []) := by decide +kernel
  exact h _ (Nat.mod_lt _ (by decide))

theorem tokS_pieces (R : List UInt8) (K : List KT) (h : tokS R = some K) : ∀ l : List UInt8, tokS (l.flatMap piece05 ++ R) = some (l.flatMap pieceK ++ K)
  | [] => h
  | b :: l => by
    have e : (b :: l).flatMap piece05 ++ R = (texts05[b.toNat % 31]?.getD []) ++ 10 :: (l.flatMap piece05 ++ R) := by
      rw [List.flatMap_cons]; unfold piece05; simp
    rw [e, tokS_nl, pieceK_ok, tokS_pieces R K h l]
    simp

theorem tokS_body (l : List UInt8) (ends : Bool) : tokS (bodyM l ends) = some (preK ++ (midK l ends ++ sufK)) := by
  have e1 : ∀ x, pre05 ++ x = pre05.dropLast ++ 10 :: x := fun x => rfl
  have h1 : tokS pre05.dropLast = some preK := by decide +kernel
  have h2 : tokS suf05 = some sufK := by decide +kernel
  have h3 : tokS (ret05 ++ suf05) = some (retK ++ sufK) := by decide +kernel
  unfold bodyM
  rw [e1, tokS_nl, h1]
  have h4 : tokS ((if ends then ret05 else []) ++ suf05) = some ((if ends then retK else []) ++ sufK) := by
    cases ends
    · exact h2
    · exact h3
  rw [tokS_pieces _ _ h4]
  unfold midK
  simp

/-! ### Where a function may begin -/

def isTy (x : KT) : Bool := decide (x = (2, [105, 110, 116])) || decide (x = (2, [98, 111, 111, 108]))
def declB : List KT → Bool
  | [] => true
  | x :: r => (!isTy x || decide (r[1]? = some (2, [61]))) && declB r
theorem declB_get : ∀ {l : List KT} {i : Nat} {x : KT}, declB l = true → l[i]? = some x → isTy x = true → l[i + 2]? = some (2, [61])
  | [], i, x, _, h, _ => by simp at h
  | y :: r, 0, x, hd, h, ht => by
    simp only [List.getElem?_cons_zero, Option.some.injEq] at h
    subst h
    simp only [declB, ht, Bool.not_true, Bool.false_or, Bool.and_eq_true, decide_eq_true_eq] at hd
    exact hd.1
  | y :: r, i + 1, x, hd, h, ht => by
    simp only [declB, Bool.and_eq_true] at hd
    simp only [List.getElem?_cons_succ] at h
    have := declB_get (i := i) hd.2 h ht
    simpa using this
theorem declB_append : ∀ {a b : List KT}, declB a = true → declB b = true → declB (a ++ b) = true
  | [], b, _, h => h
  | x :: a, b, ha, hb => by
    simp only [declB, Bool.and_eq_true] at ha
    rw [List.cons_append, declB, declB_append ha.2 hb, Bool.and_true]
    rcases Bool.or_eq_true _ _ |>.mp ha.1 with h | h
    · rw [h]; rfl
    · simp only [decide_eq_true_eq] at h
      have hlt : 1 < a.length := (List.getElem?_eq_some_iff.1 h).1
      rw [List.getElem?_append_left hlt, h]; simp
theorem midK_decl (l : List UInt8) (ends : Bool) : declB (midK l ends) = true := by
  have hp : ∀ b, declB (pieceK b) = true := by
    intro b
    have h : ∀ k, k < 31 → declB ((tokS (texts05[k]?.getD [])).getD []) = true := by decide +kernel
    exact h _ (Nat.mod_lt _ (by decide))
  have h1 : ∀ l : List UInt8, declB (l.flatMap pieceK) = true := by
    intro l
    induction l with
    | nil => rfl
    | cons b r ih => rw [List.flatMap_cons]; exact declB_append (hp b) ih
  unfold midK
  refine declB_append (h1 _) ?_
  cases ends <;> decide

def sufE : List KT := sufK ++ [(3, [])]
def ktAt (L : List KT) (i : Nat) : KT := L[i]?.getD (3, [])
theorem kt_at {T : List Tok} {L : List KT} (h : T.map kt = L) (i : Nat) : kt (tk T i) = ktAt L i := by
  subst h
  unfold tk ktAt
  rw [List.getElem?_map]
  cases T[i]? <;> rfl

theorem begins (l : List UInt8) (ends : Bool) (q : Nat) (hq : 16 ≤ q) (h1 : isTy (ktAt (preK ++ (midK l ends ++ sufE)) q) = true) (h2 : ktAt (preK ++ (midK l ends ++ sufE)) (q + 2) = (2, [40])) : q = 16 + (midK l ends).length + 1 := by
  have hd := midK_decl l ends
  generalize midK l ends = M at *
  have hp : preK.length = 16 := rfl
  unfold ktAt at h1 h2
  rw [List.getElem?_append_right (by omega), hp] at h1 h2
  obtain ⟨i, rfl⟩ : ∃ i, q = 16 + i := ⟨q - 16, by omega⟩
  rw [show 16 + i - 16 = i from by omega] at h1
  rw [show 16 + i + 2 - 16 = i + 2 from by omega] at h2
  by_cases hi : i < M.length
  · exfalso
    rw [List.getElem?_append_left hi] at h1
    have hg : M[i]? = some M[i] := List.getElem?_eq_getElem hi
    rw [hg] at h1
    have := declB_get hd hg h1
    have hlt := (List.getElem?_eq_some_iff.1 this).1
    rw [List.getElem?_append_left hlt, this] at h2
    exact absurd h2 (by decide)
  · obtain ⟨j, rfl⟩ : ∃ j, i = M.length + j := ⟨i - M.length, by omega⟩
    rw [List.getElem?_append_right (by omega), show M.length + j - M.length = j from by omega] at h1
    have hj : ∀ j, j < 16 → isTy (sufE[j]?.getD (3, [])) = true → j = 1 := by decide
    by_cases h16 : j < 16
    · have := hj j h16 h1; omega
    · have : sufE[j]? = none := List.getElem?_eq_none (by simpa [sufE, sufK] using h16)
      rw [this] at h1
      exact absurd h1 (by decide)

/-! ### On the way nothing is given back -/

section
variable {T : List Tok} {M : Nat}
theorem params_fw : ∀ n l (f : Bool) p v p', paramsF T n l f p = some (v, p') → Fw p p' := by
  intro n
  induction n with
  | zero => intro l f p v p' h; simp [paramsF] at h
  | succ n ih =>
    intro l f p v p' h
    simp only [paramsF] at h
    have hq : Fw p (if f = true then p else adv p) := by split; exact Fw.refl _; exact fw_adv p
    by_cases c : (f || isF T [44] p) = true
    · rw [if_pos c] at h
      generalize (if f = true then p else adv p) = q at *
      split at h
      · cases h; exact hq
      · have := ih _ _ _ _ _ h
        exact hq.trans (((fw_typed T q).trans (fw_text T 1 _)).trans this)
    · rw [if_neg c] at h
      cases h; exact Fw.refl _
theorem function_fw {n : Nat} {t : Int} {s : List UInt8} {p p' : PS} {v : Func} (hS : Short T M) (I : Inv1 T p) (h : functionF T n t s p = some (v, p')) : Fw (mustF T [40] p) p' := by
  unfold functionF at h
  have I1 := I.must [40]
  split at h
  · rename_i hc
    split at h
    · cases h
    · rename_i q hq
      cases h
      have := ((lightS hS n).block _ _ _ _ _ ((I1.adv _ hc).must [123]) hq 0 (by simp [wtSs])).2.1
      exact ((fw_adv _).trans (fw_must T [123] _)).trans this
  · split at h
    · cases h
    · rename_i r hr
      have Ir := paramsF_inv _ _ _ _ _ _ hr I1
      have Fr := params_fw _ _ _ _ _ _ hr
      split at h
      · cases h
      · rename_i q hq
        cases h
        have := ((lightS hS n).block _ _ _ _ _ ((Ir.must [41]).must [123]) hq 0 (by simp [wtSs])).2.1
        exact (Fr.trans ((fw_must T [41] _).trans (fw_must T [123] _))).trans this
theorem prog_grow (hS : Short T M) : ∀ n ars fs p v p', n ≤ 999999980 → Inv1 T p → progF T n ars fs p = some (v, p') → (∃ ex, v.funcs = fs ++ ex) ∧ (fs ≠ [] → v.arrays = ars) ∧ Fw p p' := by
  intro n
  induction n with
  | zero => intro ars fs p v p' _ I h; simp [progF] at h
  | succ n ih =>
    intro ars fs p v p' hn I h
    simp only [progF] at h
    have I2 := I.typed.text 1 (by decide)
    have F2 := (fw_typed T p).trans (fw_text T 1 _)
    split at h
    · cases h; exact ⟨⟨[], by simp⟩, fun _ => rfl, Fw.refl _⟩
    split at h
    · cases h; exact ⟨⟨[], by simp⟩, fun _ => rfl, Fw.refl _⟩
    split at h
    · rename_i hc
      have I3 := (((I2.adv _ hc.2.2).text 0 (by decide)).must [93]).must [59]
      obtain ⟨e, a, F⟩ := ih _ _ _ _ _ (by omega) I3 h
      exact ⟨e, fun hne => absurd hc.2.1 hne, F2.trans (((((fw_adv _).trans (fw_text T 0 _)).trans (fw_must T [93] _)).trans (fw_must T [59] _)).trans F)⟩
    · split at h
      · cases h
      · rename_i q hq
        have I3 := (function_spec hq I2 (by omega)).2
        obtain ⟨⟨ex, e⟩, a, F⟩ := ih _ _ _ _ _ (by omega) I3 h
        exact ⟨⟨q.1 :: ex, by rw [e]; simp⟩, fun _ => a (by simp), ((F2.trans (fw_must T [40] _)).trans (function_fw hS I2 hq)).trans F⟩
end
theorem Fw.still {p q : PS} (h : Fw p q) (hq : overF q = false) : overF p = false := by
  cases hp : overF p
  · rfl
  · rw [h.2 hp] at hq; exact hq
theorem text_still {T : List Tok} {k : Int} {p : PS} (h : overF (textF T k p).2 = false) : (tk T p.at').kind = k ∧ (textF T k p).2 = adv p := by
  have hp : overF p = false := (fw_text T k p).still h
  unfold textF at h ⊢
  rw [if_neg (by rw [hp]; decide)] at h ⊢
  split at h
  · rename_i c; rw [if_pos c]; exact ⟨c, rfl⟩
  · exact absurd h (by simp [overF])
theorem must_still {T : List Tok} {s : List UInt8} {p : PS} (h : overF (mustF T s p) = false) : isF T s p = true := by
  unfold mustF at h
  split at h
  · assumption
  · split at h
    · rename_i c; exact absurd h (by simp [overF, c])
    · exact absurd h (by simp [overF])
theorem isF_kt {T : List Tok} {s : List UInt8} {p : PS} (h : isF T s p = true) : kt (tk T p.at') = (2, s) := by
  unfold isF at h
  simp only [Bool.and_eq_true, decide_eq_true_eq] at h
  unfold kt
  rw [h.2.1, h.2.2]
theorem typed_still {T : List Tok} {p : PS} (h : overF (typedF T p).2 = false) : isTy (kt (tk T p.at')) = true ∧ (typedF T p).2 = adv p := by
  unfold typedF at h ⊢
  split at h
  · rename_i c
    rw [if_pos c, isF_kt c]; exact ⟨rfl, rfl⟩
  · rename_i c
    rw [if_neg c]
    have hb := must_still h
    rw [isF_kt hb]
    refine ⟨rfl, ?_⟩
    unfold mustF
    rw [if_pos hb]; rfl

/-! ### The program -/

def mainX : Func := ⟨mainN, 1, [], [⟨8, 0, [], [⟨7, 0, 0, [102], [⟨1, 0, 1, [], []⟩, ⟨2, 0, 1, [], []⟩]⟩], [], []⟩]⟩
def fX (b : List Stmt) : Func := ⟨[102], 1, [⟨[120], 1⟩, ⟨[98], 2⟩], b⟩
def sufT : List Tok := sufE.map fun x => ⟨x.1, x.2, 0⟩

set_option maxRecDepth 100000 in
theorem mainX_parse : functionF sufT 1000 1 mainN ⟨3, false, false⟩ = some (mainX, ⟨15, false, false⟩) := by kernel_rfl

theorem sufT_typed : typedF sufT ⟨1, false, false⟩ = (1, ⟨2, false, false⟩) := by rfl
theorem sufT_text : textF sufT 1 ⟨2, false, false⟩ = (mainN, ⟨3, false, false⟩) := by rfl

theorem sufT_up {T : List Tok} {l : List UInt8} {ends : Bool} (hT : T.map kt = preK ++ (midK l ends ++ sufE)) : Up T sufT (16 + (midK l ends).length) := by
  intro i
  have h1 := kt_at hT (i + (16 + (midK l ends).length))
  have h2 : kt (tk sufT i) = ktAt sufE i := kt_at (by rfl) i
  rw [h1, h2]
  unfold ktAt
  have hp : preK.length = 16 := rfl
  rw [List.getElem?_append_right (by omega), List.getElem?_append_right (by omega), hp]
  congr 2; omega

set_option maxHeartbeats 4000000 in
theorem body_head {T : List Tok} {l : List UInt8} {ends : Bool} {k : Nat} {v : Prog} {p' : PS} (hT : T.map kt = preK ++ (midK l ends ++ sufE)) (h : progF T (k + 5) [] [] ⟨0, false, false⟩ = some (v, p')) :
    ∃ b q, blockF T (k + 3) 1 [] ⟨16, false, false⟩ = some (b, q) ∧ progF T (k + 3) [⟨[97], 4⟩] [fX b] q = some (v, p') := by
  have hk : ∀ i, i < 16 → kt (tk T i) = ktAt preK i := by
    intro i hi
    rw [kt_at hT]
    unfold ktAt
    rw [List.getElem?_append_left (by exact hi)]
  have K : ∀ i, i < 16 → (tk T i).kind = (ktAt preK i).1 ∧ (tk T i).text = (ktAt preK i).2 := fun i hi => ⟨congrArg Prod.fst (hk i hi), congrArg Prod.snd (hk i hi)⟩
  obtain ⟨a0, b0⟩ := K 0 (by decide)
  obtain ⟨a1, b1⟩ := K 1 (by decide)
  obtain ⟨a2, b2⟩ := K 2 (by decide)
  obtain ⟨a3, b3⟩ := K 3 (by decide)
  obtain ⟨a4, b4⟩ := K 4 (by decide)
  obtain ⟨a5, b5⟩ := K 5 (by decide)
  obtain ⟨a6, b6⟩ := K 6 (by decide)
  obtain ⟨a7, b7⟩ := K 7 (by decide)
  obtain ⟨a8, b8⟩ := K 8 (by decide)
  obtain ⟨a9, b9⟩ := K 9 (by decide)
  obtain ⟨a10, b10⟩ := K 10 (by decide)
  obtain ⟨a11, b11⟩ := K 11 (by decide)
  obtain ⟨a12, b12⟩ := K 12 (by decide)
  obtain ⟨a13, b13⟩ := K 13 (by decide)
  obtain ⟨a14, b14⟩ := K 14 (by decide)
  obtain ⟨a15, b15⟩ := K 15 (by decide)
  clear K hk
  simp [ktAt, preK] at a0 b0 a1 b1 a2 b2 a3 b3 a4 b4 a5 b5 a6 b6 a7 b7 a8 b8 a9 b9 a10 b10 a11 b11 a12 b12 a13 b13 a14 b14 a15 b15
  have hv : valueM [52] = 4 := by decide
  have e1 : progF T (k + 5) [] [] ⟨0, false, false⟩ = progF T (k + 4) [⟨[97], 4⟩] [] ⟨6, false, false⟩ := by
    rw [progF]
    simp [overF, typedF, textF, isF, mustF, adv, *]
  have e2 : progF T (k + 4) [⟨[97], 4⟩] [] ⟨6, false, false⟩ = match functionF T (k + 3) 1 [102] ⟨8, false, false⟩ with
      | none => none
      | some q => progF T (k + 3) [⟨[97], 4⟩] [q.1] q.2 := by
    rw [progF]
    simp [overF, typedF, textF, isF, mustF, adv, *]
    cases functionF T (k + 3) 1 [102] ⟨8, false, false⟩ <;> rfl
  have e3 : functionF T (k + 3) 1 [102] ⟨8, false, false⟩ = match blockF T (k + 3) 1 [] ⟨16, false, false⟩ with
      | none => none
      | some q => some (fX q.1, q.2) := by
    have ep : paramsF T (k + 3) [] true ⟨9, false, false⟩ = some ([⟨[120], 1⟩, ⟨[98], 2⟩], ⟨14, false, false⟩) := by
      simp [paramsF, overF, typedF, textF, isF, mustF, adv, *]
    have hm : mustF T [40] ⟨8, false, false⟩ = ⟨9, false, false⟩ := by simp [mustF, isF, overF, *]
    unfold functionF
    rw [hm, ep]
    have hi : isF T [41] ⟨9, false, false⟩ = false := by simp [isF, overF, *]
    rw [if_neg (by rw [hi]; decide)]
    have hm2 : mustF T [123] (mustF T [41] ⟨14, false, false⟩) = ⟨16, false, false⟩ := by simp [mustF, isF, overF, *]
    simp only [hm2]
    rfl
  rw [e1, e2, e3] at h
  cases hb : blockF T (k + 3) 1 [] ⟨16, false, false⟩ with
  | none => rw [hb] at h; cases h
  | some q =>
    rw [hb] at h
    exact ⟨q.1, q.2, rfl, h⟩

/-- A body's program of two functions: the first has the head that it was given, the second is main. -/
theorem body_two {l : List UInt8} {ends : Bool} (h0 : (parseM (bodyM l ends)).2.1 = 0) (h2 : (parseM (bodyM l ends)).1.funcs.length = 2) :
    ∃ b, (parseM (bodyM l ends)).1 = ⟨[⟨[97], 4⟩], [fX b, mainX]⟩ ∧ rightR ⟨[⟨[97], 4⟩], [fX b, mainX]⟩ = true := by
  have hs : (bodyM l ends).length ≤ 100000 := by
    have h1 := flat05_len (l.take 14)
    have h2 : (l.take 14).length ≤ 14 := by rw [List.length_take]; omega
    unfold bodyM
    simp only [List.length_append]
    have : pre05.length = 33 := rfl
    have : suf05.length = 36 := rfl
    have : (if ends then ret05 else []).length ≤ 10 := by cases ends <;> decide
    omega
  generalize hsd : bodyM l ends = s at *
  unfold parseM at h0 h2 ⊢
  by_cases ht : (tokensM s).2.1 = 0
  case neg => rw [if_neg ht] at h0; exact absurd h0 ht
  rw [if_pos ht] at h0 h2 ⊢
  obtain ⟨L, hL1, hL2⟩ := tokens_K s hs ht
  rw [← hsd, tokS_body] at hL1
  cases hL1
  have hT : (tokensM s).1.map kt = preK ++ (midK l ends ++ sufE) := by rw [hL2]; unfold sufE; simp
  have hS := tokens_short s
  have I0 := tokens_inv s ht
  have hcount := tokens_count s ht
  have hlen : (tokensM s).1.length = 16 + (midK l ends).length + 16 := by
    have := congrArg List.length hT
    rw [List.length_map, List.length_append, List.length_append] at this
    rw [this]; show 16 + (_ + 16) = _; omega
  obtain ⟨v, p', e, I', hz⟩ := parse_run s ht
  rw [e] at h0 h2 ⊢
  simp only at h0 h2 ⊢
  have hnd : p'.deep = false := by
    cases hd : p'.deep
    · rfl
    · rw [hd] at h0; simp at h0
  rw [hnd] at h0 h2 ⊢
  have hnb : p'.bad = false := by
    cases hd : p'.bad
    · rfl
    · rw [hd] at h0; simp at h0
  rw [hnb] at h0 h2 ⊢
  simp only [Bool.false_eq_true, if_false] at h0 h2 ⊢
  have hR : rightR v = true := by
    cases hd : rightR v
    · rw [hd] at h0; simp at h0
    · rfl
  rw [if_pos hR] at h2 ⊢
  simp only at h2 ⊢
  generalize (tokensM s).1 = T at *
  have hov : overF p' = false := by unfold overF; rw [hnd, hnb]; rfl
  obtain ⟨k, hk⟩ : ∃ k, fuel T = k + 5 := ⟨fuel T - 5, by unfold fuel; omega⟩
  have hkf : k + 5 = 64 * T.length + 100 := by rw [← hk]; rfl
  rw [hk] at e
  obtain ⟨b, q, hb, h⟩ := body_head hT e
  have I16 : Inv1 T ⟨16, false, false⟩ := ⟨by simp only; omega, I0.last, I0.sm, I0.num⟩
  obtain ⟨Iq, Fq, _⟩ := (lightS hS _).block _ _ _ _ _ I16 hb 0 (by simp [wtSs])
  obtain ⟨_, _, Fe⟩ := prog_grow hS _ _ _ _ _ _ (by omega) Iq h
  have hq := Fe.still hov
  rw [progF] at h
  rw [if_neg (by rw [hq]; decide)] at h
  split at h
  · cases h; simp at h2
  rw [if_neg (by simp)] at h
  split at h
  · cases h
  rename_i x hx
  have I2 := Iq.typed.text 1 (by decide)
  have I3 := (function_spec hx I2 (by omega)).2
  have F3 := function_fw hS I2 hx
  obtain ⟨⟨ex, e2⟩, ea, Fe⟩ := prog_grow hS _ _ _ _ _ _ (by omega) I3 h
  have ea := ea (by simp)
  have hex : ex = [] := by
    rw [e2] at h2
    simp at h2
    exact h2
  subst hex
  -- where the second function begins
  have s3 := (F3.trans Fe).still hov
  have c3 := isF_kt (must_still s3)
  have s2 := (fw_must T [40] _).still s3
  obtain ⟨c2, t2⟩ := text_still s2
  have s1 := (fw_text T 1 _).still s2
  obtain ⟨c1, t1⟩ := typed_still s1
  rw [t2, t1, kt_at hT] at c3
  rw [kt_at hT] at c1
  have hq16 : 16 ≤ q.at' := Fq.1
  have hpos := begins l ends q.at' hq16 c1 c3
  have hqu : q = up (16 + (midK l ends).length) ⟨1, false, false⟩ := by
    obtain ⟨qa, qb, qd⟩ := q
    simp only [overF, Bool.or_eq_false_iff] at hq
    obtain ⟨rfl, rfl⟩ := hq
    simp only at hpos
    unfold up
    simp only
    congr 1; omega
  have hU := sufT_up hT
  have f1 : typedF T q = (1, up (16 + (midK l ends).length) ⟨2, false, false⟩) := by rw [hqu, typedF_up hU, sufT_typed]
  have f2 : textF T 1 (typedF T q).2 = (mainN, up (16 + (midK l ends).length) ⟨3, false, false⟩) := by rw [f1]; simp only; rw [textF_up hU, sufT_text]
  rw [f2, f1] at hx
  have f3 := function_up hU (m := k + 2) (by omega) mainX_parse
  rw [f3] at hx
  cases hx
  refine ⟨b, ?_, ?_⟩
  · obtain ⟨va, vf⟩ := v
    simp only at ea e2
    rw [ea (by simp), e2]; rfl
  · obtain ⟨va, vf⟩ := v
    simp only at ea e2
    rw [ea (by simp), e2] at hR
    exact hR
end PE.U

/-
  Law 05: bodies, and whether they end.
-/
namespace PE.U
open Go PE

theorem parse_right (s : List UInt8) (h : (parseM s).2.1 = 0) : rightR (parseM s).1 = true := by
  unfold parseM at h ⊢
  split at h
  · rename_i ht
    rw [if_pos ht]
    split at h
    · rfl
    · split at h
      · simp at h
      · rename_i c; rw [if_neg c]
        split at h
        · simp at h
        · rename_i c; rw [if_neg c]
          split at h
          · rename_i c; rw [if_pos c]; exact c
          · simp at h
  · rename_i ht
    exact absurd h ht

theorem right_body {p : Prog} (h : rightR p = true) {f : Func} (hf : f ∈ p.funcs) : stmtsR f.body 100 = true := by
  unfold rightR at h
  rw [Bool.and_eq_true, List.all_eq_true, List.all_eq_true] at h
  have := h.2 f hf
  unfold funcR at this
  simp only [Bool.and_eq_true] at this
  exact this.2.2.2.1

/-- A text that parses has parsed. -/
theorem parse_ok {s : List UInt8} (h0 : (parseM s).2.1 = 0) (ht : (tokensM s).2.1 = 0) : ∃ p', progF (tokensM s).1 (fuel (tokensM s).1) [] [] ⟨0, false, false⟩ = some ((parseM s).1, p') ∧ overF p' = false := by
  obtain ⟨v, p', e, I', hz⟩ := parse_run s ht
  refine ⟨p', ?_⟩
  unfold parseM at h0 ⊢
  rw [if_pos ht, e] at h0 ⊢
  simp only at h0 ⊢
  have hnd : p'.deep = false := by
    cases hd : p'.deep
    · rfl
    · rw [hd] at h0; simp at h0
  rw [hnd] at h0 ⊢
  have hnb : p'.bad = false := by
    cases hd : p'.bad
    · rfl
    · rw [hd] at h0; simp at h0
  rw [hnb] at h0 ⊢
  simp only [Bool.false_eq_true, if_false] at h0 ⊢
  have hR : rightR v = true := by
    cases hd : rightR v
    · rw [hd] at h0; simp at h0
    · rfl
  rw [if_pos hR]
  exact ⟨rfl, by unfold overF; rw [hnd, hnb]; rfl⟩

theorem tokens_of_parse {s : List UInt8} (h0 : (parseM s).2.1 = 0) : (tokensM s).2.1 = 0 := by
  unfold parseM at h0
  split at h0
  · assumption
  · exact h0

theorem body_len (l : List UInt8) (ends : Bool) : (bodyM l ends).length ≤ 100000 := by
  have h1 := flat05_len (l.take 14)
  have h2 : (l.take 14).length ≤ 14 := by rw [List.length_take]; omega
  unfold bodyM
  simp only [List.length_append]
  have : pre05.length = 33 := rfl
  have : suf05.length = 36 := rfl
  have : (if ends then ret05 else []).length ≤ 10 := by cases ends <;> decide
  omega

theorem body_first (l : List UInt8) (ends : Bool) (h0 : (parseM (bodyM l ends)).2.1 = 0) : ∃ f r, (parseM (bodyM l ends)).1.funcs = f :: r := by
  have ht := tokens_of_parse h0
  have hs := body_len l ends
  obtain ⟨p', e, _⟩ := parse_ok h0 ht
  obtain ⟨L, hL1, hL2⟩ := tokens_K _ hs ht
  rw [tokS_body] at hL1
  cases hL1
  have hT : (tokensM (bodyM l ends)).1.map kt = preK ++ (midK l ends ++ sufE) := by rw [hL2]; unfold sufE; simp
  have hS := tokens_short (bodyM l ends)
  have I0 := tokens_inv _ ht
  have hcount := tokens_count _ ht
  have hlen : (tokensM (bodyM l ends)).1.length = 16 + (midK l ends).length + 16 := by
    have := congrArg List.length hT
    rw [List.length_map, List.length_append, List.length_append] at this
    rw [this]; show 16 + (_ + 16) = _; omega
  generalize (parseM (bodyM l ends)).1 = v at *
  generalize (tokensM (bodyM l ends)).1 = T at *
  obtain ⟨k, hk⟩ : ∃ k, fuel T = k + 5 := ⟨fuel T - 5, by unfold fuel; omega⟩
  have hkf : k + 5 = 64 * T.length + 100 := by rw [← hk]; rfl
  rw [hk] at e
  obtain ⟨b, q, hb, h⟩ := body_head hT e
  have I16 : Inv1 T ⟨16, false, false⟩ := ⟨by simp only; omega, I0.last, I0.sm, I0.num⟩
  obtain ⟨Iq, Fq, _⟩ := (lightS hS _).block _ _ _ _ _ I16 hb 0 (by simp [wtSs])
  obtain ⟨⟨ex, he⟩, _, _⟩ := prog_grow hS _ _ _ _ _ _ (by omega) Iq h
  exact ⟨fX b, ex, by rw [he]; rfl⟩

set_option maxHeartbeats 4000000 in
theorem typesBodies_spec (l : List UInt8) (ends : Bool) (hl : l.length ≤ 9223372036854775807) : pcall E 3 [u8s l, .bool ends] [] = some (.ret (.bool true), []) := by
  refine pcall_wp rfl rfl rfl (by simp) ?_
  have ha := awake05_spec
  have hb := body_spec l ends hl
  have hp := parse_spec (bodyM l ends)
  have hz := parse_psz (bodyM l ends)
  by_cases h0 : (parseM (bodyM l ends)).2.1 = 0
  · obtain ⟨f, r, hf⟩ := body_first l ends h0
    have hR := parse_right _ h0
    have hbR := right_body hR (f := f) (by rw [hf]; simp)
    have hw := (hz.2.2 f (by rw [hf]; simp)).1
    have hx := check_spec _ hz
    have hy := rcheckP_spec _ hz
    have he := ends_spec f.body 100 hw hbR
    have he2 := rends_spec f.body 100 hw hbR
    generalize bodyM l ends = s at *
    generalize parseM s = q at *
    obtain ⟨⟨ars, fs⟩, e, n⟩ := q
    simp only at h0 hf hx hy
    subst h0 hf
    generalize checkT ⟨ars, f :: r⟩ = cx at *
    obtain ⟨e1, i1, n1⟩ := cx
    generalize endsT f.body = en at *
    clear hz hR hw hbR
    simp [encParse, encProg, encCheck, funcs, parrs, encFunc, stmts, parsV] at hp hx hy he he2
    simp [*, F3, encFunc, stmts, parsV]
  · generalize bodyM l ends = s at *
    generalize parseM s = q at *
    obtain ⟨⟨ars, fs⟩, e, n⟩ := q
    simp only at h0
    replace h0 := eqn h0
    clear hz
    simp [encParse, encProg, funcs, parrs] at hp
    simp [*, F3]

/-! ### Pieces of what may end -/

def preE : List UInt8 := [105, 110, 116, 32, 109, 97, 105, 110, 40, 41, 32, 123, 32, 98, 111, 111, 108, 32, 98, 32, 61, 32, 116, 114, 117, 101, 59]
def preEK : List KT := [(2, [105, 110, 116]), (1, [109, 97, 105, 110]), (2, [40]), (2, [41]), (2, [123]), (2, [98, 111, 111, 108]), (1, [98]), (2, [61]), (2, [116, 114, 117, 101]), (2, [59])]

set_option maxHeartbeats 4000000 in
theorem preE_first (r : List UInt8) (hs : (preE ++ 10 :: r).length ≤ 100000) (h0 : (parseM (preE ++ 10 :: r)).2.1 = 0) : ∃ f q, (parseM (preE ++ 10 :: r)).1.funcs = f :: q := by
  have ht := tokens_of_parse h0
  obtain ⟨p', e, _⟩ := parse_ok h0 ht
  obtain ⟨L, hL1, hL2⟩ := tokens_K _ hs ht
  have hpre : tokS preE = some preEK := by decide +kernel
  rw [tokS_nl, hpre] at hL1
  obtain ⟨M, hM⟩ : ∃ M, L = preEK ++ M := by
    simp only [Option.bind_some, Option.map_eq_some_iff] at hL1
    obtain ⟨M, _, h⟩ := hL1
    exact ⟨M, h.symm⟩
  subst hM
  have hS := tokens_short (preE ++ 10 :: r)
  have I0 := tokens_inv _ ht
  have hcount := tokens_count _ ht
  have hlen : 10 ≤ (tokensM (preE ++ 10 :: r)).1.length := by
    have := congrArg List.length hL2
    rw [List.length_map, List.length_append, List.length_append] at this
    have h10 : preEK.length = 10 := rfl
    omega
  generalize (parseM (preE ++ 10 :: r)).1 = v at *
  generalize (tokensM (preE ++ 10 :: r)).1 = T at *
  have K : ∀ i, i < 3 → (tk T i).kind = (ktAt preEK i).1 ∧ (tk T i).text = (ktAt preEK i).2 := by
    intro i hi
    have hk : kt (tk T i) = ktAt preEK i := by
      rw [kt_at hL2]
      unfold ktAt
      rw [List.append_assoc, List.getElem?_append_left (show i < preEK.length from by show i < 10; omega)]
    exact ⟨congrArg Prod.fst hk, congrArg Prod.snd hk⟩
  obtain ⟨a0, b0⟩ := K 0 (by decide)
  obtain ⟨a1, b1⟩ := K 1 (by decide)
  obtain ⟨a2, b2⟩ := K 2 (by decide)
  clear K
  simp [ktAt, preEK] at a0 b0 a1 b1 a2 b2
  obtain ⟨k, hk⟩ : ∃ k, fuel T = k + 1 := ⟨fuel T - 1, by unfold fuel; omega⟩
  have hkf : k + 1 = 64 * T.length + 100 := by rw [← hk]; rfl
  rw [hk] at e
  have e1 : progF T (k + 1) [] [] ⟨0, false, false⟩ = match functionF T k 1 [109, 97, 105, 110] ⟨2, false, false⟩ with
      | none => none
      | some q => progF T k [] [q.1] q.2 := by
    rw [progF]
    simp [overF, typedF, textF, isF, mustF, adv, *]
    cases functionF T k 1 [109, 97, 105, 110] ⟨2, false, false⟩ <;> rfl
  rw [e1] at e
  split at e
  · cases e
  · rename_i q hq
    have I2 : Inv1 T ⟨2, false, false⟩ := ⟨by simp only; omega, I0.last, I0.sm, I0.num⟩
    have I3 := (function_spec hq I2 (by omega)).2
    obtain ⟨⟨ex, he⟩, _, _⟩ := prog_grow hS _ _ _ _ _ _ (by omega) I3 e
    exact ⟨q.1, ex, by rw [he]; rfl⟩

structure ES where
  i : Nat
  s : List UInt8
  o : Int

def textsE : List (List UInt8) := [[119, 104, 105, 108, 101, 32, 40, 116, 114, 117, 101, 41, 32, 123], [119, 104, 105, 108, 101, 32, 40, 98, 41, 32, 123], [105, 102, 32, 40, 98, 41, 32, 123], [125, 32, 101, 108, 115, 101, 32, 123], [125], [98, 114, 101, 97, 107, 59], [114, 101, 116, 117, 114, 110, 32, 49, 59], [99, 111, 110, 116, 105, 110, 117, 101, 59], [112, 114, 105, 110, 116, 40, 49, 41, 59],
  [105, 102, 32, 40, 116, 114, 117, 101, 41, 32, 123, 32, 114, 101, 116, 117, 114, 110, 32, 50, 59, 32, 125, 32, 101, 108, 115, 101, 32, 123]]
theorem textsE_get (k : Nat) (h : k < 10) : textsE[k]? = some (textsE[k]?.getD []) ∧ (textsE[k]?.getD []).length ≤ 30 := by
  have : ∀ k, k < 10 → textsE[k]? = some (textsE[k]?.getD []) ∧ (textsE[k]?.getD []).length ≤ 30 := by decide
  exact this k h

/-- Behind the text. -/
def endsTail : ICode := sq2 (sq2 (sq2 (sq2 (sq2 (sq2 F4.body)))))

set_option maxHeartbeats 8000000 in
theorem ends_tail (s : List UInt8) (r : List UInt8) (hs : s ++ [125] = preE ++ 10 :: r) (hlen : s.length ≤ 2000) (s1 : St) (t3 : s1.fr 3 = .str s) (st : s1.st = []) (b9 : s1.bx 9 = .no) (b13 : s1.bx 13 = .no) (b15 : s1.bx 15 = .no) :
    holds (exec (pcall E) endsTail s1) (leaveQ F4.res false 0 (isR (.ret (.bool true), []))) := by
  obtain ⟨fr, bx, st'⟩ := s1
  simp only at t3 st b9 b13 b15
  subst st
  have ha := awake05_spec
  have hp := parse_spec (s ++ [125])
  have hz := parse_psz (s ++ [125])
  have hadd : s.length + 1 ≤ 9223372036854775807 := by omega
  by_cases h0 : (parseM (s ++ [125])).2.1 = 0
  · obtain ⟨f, r', hf⟩ : ∃ f q, (parseM (s ++ [125])).1.funcs = f :: q := by
      rw [hs] at h0 ⊢
      exact preE_first r (by rw [← hs]; simp; omega) h0
    have hR := parse_right _ h0
    have hbR := right_body hR (f := f) (by rw [hf]; simp)
    have hw := (hz.2.2 f (by rw [hf]; simp)).1
    have hx := check_spec _ hz
    have hy := rcheckP_spec _ hz
    have he := ends_spec f.body 100 hw hbR
    have he2 := rends_spec f.body 100 hw hbR
    generalize parseM (s ++ [125]) = q at *
    obtain ⟨⟨ars, fs⟩, e, n⟩ := q
    simp only at h0 hf hx hy
    subst h0 hf
    generalize checkT ⟨ars, f :: r'⟩ = cx at *
    obtain ⟨e1, i1, n1⟩ := cx
    generalize endsT f.body = en at *
    clear hz hR hw hbR hs hlen
    simp [encParse, encProg, encCheck, funcs, parrs, encFunc, stmts, parsV] at hp hx hy he he2
    simp [*, endsTail, sq2, F4, encFunc, stmts, parsV]
  · generalize parseM (s ++ [125]) = q at *
    obtain ⟨⟨ars, fs⟩, e, n⟩ := q
    simp only at h0
    replace h0 := eqn h0
    clear hz hs hlen
    simp [encParse, encProg, funcs, parrs] at hp
    simp [*, endsTail, sq2, F4]

def endsRest : ICode := sq2 (sq2 (sq2 (sq2 (sq2 F4.body))))

structure ER where
  i : Nat
  s : List UInt8

set_option maxHeartbeats 8000000 in
theorem ends_rest (s : List UInt8) (o : Int) (hs : ∃ r, s = preE ++ 10 :: r) (hlen : s.length ≤ 600) (ho : o ≤ 12) (s1 : St) (t3 : s1.fr 3 = .str s) (t4 : s1.fr 4 = .int .i64 o) (st : s1.st = []) (b9 : s1.bx 9 = .no) (b13 : s1.bx 13 = .no) (b15 : s1.bx 15 = .no) :
    holds (exec (pcall E) endsRest s1) (leaveQ F4.res false 0 (isR (.ret (.bool true), []))) := by
  obtain ⟨fr, bx, st'⟩ := s1
  simp only at t3 t4 st b9 b13 b15
  subst st
  rw [show endsRest = .seq (sq1 endsRest) endsTail from rfl]
  simp [endsRest, F4, sq1, sq2]
  refine wp_while K4_1 [9, 13, 15] (fun e : ER => 12 - e.i) (fun e => [(3, .str e.s), (8, .int .i64 e.i)]) (fun _ => []) (fun _ => []) (fun e => e.i ≤ 12 ∧ (∃ r, e.s = preE ++ 10 :: r) ∧ e.s.length ≤ 600 + e.i) ⟨0, s⟩ (by simp [t3, hlen]; exact hs) ?_
  rintro ⟨i, s2⟩ s1 ⟨hi, hs2, hl2⟩ h1 h2 h3 h4 h5
  simp at h1 h2 h3 h5 hi hs2 hl2
  clear h4
  by_cases hc : (i : Int) < o
  · have hw : wrapK .i64 ((i : Int) + 1) = (i : Int) + 1 := wrapK_small (by omega) (by omega)
    have hi' : i + 1 ≤ 12 := by omega
    have m1 : s2.length + 1 ≤ 9223372036854775807 := by omega
    obtain ⟨r, hr⟩ := hs2
    have hr' : s2 ++ [125] = preE ++ 10 :: (r ++ [125]) := by rw [hr]; simp
    replace hc := eqp hc
    clear hr hs
    simp [*]
    exact ⟨⟨i + 1, s2 ++ [125]⟩, by show 12 - (i + 1) < 12 - i; omega, ⟨hr'.symm, by simp⟩, hi', ⟨_, hr'⟩, by show (s2 ++ [125]).length ≤ 600 + (i + 1); rw [List.length_append]; simp only [List.length_cons, List.length_nil]; omega⟩
  · replace hc := eqn hc
    obtain ⟨r, hr⟩ := hs2
    simp [*]
    exact ends_tail (preE ++ 10 :: r) (r ++ [125]) (by simp) (by rw [← hr]; omega) _ rfl rfl (by simp [*]) (by simp [*]) (by simp [*])

set_option maxRecDepth 20000 in
set_option maxHeartbeats 8000000 in
theorem typesEnds_spec (l : List UInt8) (hl : l.length ≤ 9223372036854775807) : pcall E 4 [u8s l] [] = some (.ret (.bool true), []) := by
  refine pcall_wp rfl rfl rfl (by simp) ?_
  rw [show F4.body = .seq (sq1 F4.body) (.seq (sq1 (sq2 F4.body)) (.seq (sq1 (sq2 (sq2 F4.body))) (.seq (sq1 (sq2 (sq2 (sq2 F4.body)))) (.seq (sq1 (sq2 (sq2 (sq2 (sq2 F4.body))))) endsRest)))) from rfl]
  have hE := textsE_get
  simp [F4, sq1, sq2, u8s]
  refine wp_while K4_0 [9, 13, 15] (fun e : ES => 12 - e.i) (fun e => [(3, .str e.s), (4, .int .i64 e.o), (6, .int .i64 e.i)]) (fun _ => []) (fun _ => []) (fun e => e.i ≤ 12 ∧ e.i ≤ l.length ∧ (∃ r, e.s = preE ++ 10 :: r) ∧ e.s.length ≤ 28 + 40 * e.i ∧ -(e.i : Int) ≤ e.o ∧ e.o ≤ e.i) ⟨0, preE ++ [10], 0⟩ (by simp [preE]) ?_
  rintro ⟨i, s, o⟩ s1 ⟨hi, hil, ⟨r, hr⟩, hsl, ho1, ho2⟩ h1 h2 h3 h4 h5
  simp at h1 h2 h3 h5 hi hil hsl ho1 ho2
  simp only at hr
  obtain ⟨f0, f5⟩ := h1
  replace f5 : s1.fr 5 = .slice .fit 1 (textsE.map PV.str) := f5
  clear h4
  by_cases hc : i < l.length ∧ i < 12
  · obtain ⟨c1, c2⟩ := hc
    obtain ⟨g1, g2⟩ := textsE_get (l[i].toNat % 10) (Nat.mod_lt _ (by decide))
    have hrem : remK (l[i].toNat : Int) 10 = ((l[i].toNat % 10 : Nat) : Int) := remNat _ 10
    have hget : l[i]? = some l[i] := List.getElem?_eq_getElem c1
    have hk10 : l[i].toNat % 10 < 10 := Nat.mod_lt _ (by decide)
    generalize hb : l[i] = b at *
    generalize textsE[b.toNat % 10]?.getD [] = t at *
    generalize hk : b.toNat % 10 = k at *
    have k1 : ((i : Int) < l.length) = True := eqp (by omega)
    have k2 : ((i : Int) < 12) = True := eqp (by omega)
    have hw : wrapK .i64 ((i : Int) + 1) = (i : Int) + 1 := wrapK_small (by omega) (by omega)
    have hwo : wrapK .i64 (o + 1) = o + 1 := wrapK_small (by omega) (by omega)
    have hws : wrapK .i64 (o - 1) = o - 1 := wrapK_small (by omega) (by omega)
    have m1 : s.length + t.length ≤ 9223372036854775807 := by omega
    have m2 : s.length + t.length + 1 ≤ 9223372036854775807 := by omega
    have m2'' : s.length + (t.length + 1) ≤ 9223372036854775807 := by omega
    have hs' : ∃ r, s ++ (t ++ [10]) = preE ++ 10 :: r := ⟨r ++ (t ++ [10]), by rw [hr]; simp⟩
    have hs0 : ∃ r, s = preE ++ 10 :: r := ⟨r, hr⟩
    have q1 : i + 1 ≤ l.length := c1
    have q2 : (s ++ (t ++ [10])).length ≤ 28 + 40 * (i + 1) := by simp only [List.length_append, List.length_cons, List.length_nil]; omega
    clear hr hE hb hk c1
    rcases (show k = 3 ∨ k = 4 ∨ k < 3 ∨ k = 9 ∨ (5 ≤ k ∧ k < 9) from by omega) with hk | hk | hk | hk | hk
    · subst hk
      by_cases ho0 : o = 0
      · replace ho0 := eqp ho0
        simp [*]
        exact ⟨⟨i + 1, s, o⟩, by show 12 - (i + 1) < 12 - i; omega, rfl, ⟨rfl, rfl, by simp⟩, by show i + 1 ≤ 12; omega, q1, hs0, by show s.length ≤ 28 + 40 * (i + 1); omega, by show -((i + 1 : Nat) : Int) ≤ o; omega, by show o ≤ ((i + 1 : Nat) : Int); omega⟩
      · replace ho0 := eqn ho0
        by_cases hb : (b.toNat : Int) < 128
        · replace hb := eqp hb
          simp [*]
          exact ⟨⟨i + 1, s, o⟩, by show 12 - (i + 1) < 12 - i; omega, rfl, ⟨rfl, rfl, by simp⟩, by show i + 1 ≤ 12; omega, q1, hs0, by show s.length ≤ 28 + 40 * (i + 1); omega, by show -((i + 1 : Nat) : Int) ≤ o; omega, by show o ≤ ((i + 1 : Nat) : Int); omega⟩
        · replace hb := eqn hb
          simp [*]
          exact ⟨⟨i + 1, s ++ (t ++ [10]), o⟩, by show 12 - (i + 1) < 12 - i; omega, rfl, ⟨rfl, rfl, by simp⟩, by show i + 1 ≤ 12; omega, q1, hs', q2, by show -((i + 1 : Nat) : Int) ≤ o; omega, by show o ≤ ((i + 1 : Nat) : Int); omega⟩
    · subst hk
      by_cases ho0 : o = 0
      · replace ho0 := eqp ho0
        simp [*]
        exact ⟨⟨i + 1, s, o⟩, by show 12 - (i + 1) < 12 - i; omega, rfl, ⟨rfl, rfl, by simp⟩, by show i + 1 ≤ 12; omega, q1, hs0, by show s.length ≤ 28 + 40 * (i + 1); omega, by show -((i + 1 : Nat) : Int) ≤ o; omega, by show o ≤ ((i + 1 : Nat) : Int); omega⟩
      · replace ho0 := eqn ho0
        simp [*]
        exact ⟨⟨i + 1, s ++ (t ++ [10]), o - 1⟩, by show 12 - (i + 1) < 12 - i; omega, rfl, ⟨rfl, rfl, by simp⟩, by show i + 1 ≤ 12; omega, q1, hs', q2, by show -((i + 1 : Nat) : Int) ≤ o - 1; omega, by show o - 1 ≤ ((i + 1 : Nat) : Int); omega⟩
    · have n3 : ((k : Int) = 3) = False := eqn (by omega)
      have n4 : ((k : Int) = 4) = False := eqn (by omega)
      have p3 : ((k : Int) < 3) = True := eqp (by omega)
      simp [*]
      exact ⟨⟨i + 1, s ++ (t ++ [10]), o + 1⟩, by show 12 - (i + 1) < 12 - i; omega, rfl, ⟨rfl, rfl, by simp⟩, by show i + 1 ≤ 12; omega, q1, hs', q2, by show -((i + 1 : Nat) : Int) ≤ o + 1; omega, by show o + 1 ≤ ((i + 1 : Nat) : Int); omega⟩
    · subst hk
      simp [*]
      exact ⟨⟨i + 1, s ++ (t ++ [10]), o + 1⟩, by show 12 - (i + 1) < 12 - i; omega, rfl, ⟨rfl, rfl, by simp⟩, by show i + 1 ≤ 12; omega, q1, hs', q2, by show -((i + 1 : Nat) : Int) ≤ o + 1; omega, by show o + 1 ≤ ((i + 1 : Nat) : Int); omega⟩
    · have n3 : ((k : Int) = 3) = False := eqn (by omega)
      have n4 : ((k : Int) = 4) = False := eqn (by omega)
      have p3 : ((k : Int) < 3) = False := eqn (by omega)
      have n9 : ((k : Int) = 9) = False := eqn (by omega)
      simp [*]
      exact ⟨⟨i + 1, s ++ (t ++ [10]), o⟩, by show 12 - (i + 1) < 12 - i; omega, rfl, ⟨rfl, rfl, by simp⟩, by show i + 1 ≤ 12; omega, q1, hs', q2, by show -((i + 1 : Nat) : Int) ≤ o; omega, by show o ≤ ((i + 1 : Nat) : Int); omega⟩
  · clear hE
    by_cases k1 : (i : Int) < l.length
    · have k2 : ¬ (i : Int) < 12 := by omega
      replace k1 := eqp k1
      replace k2 := eqn k2
      simp [*]
      exact ends_rest (preE ++ 10 :: r) o ⟨r, rfl⟩ (by rw [← hr]; omega) (by omega) _ rfl rfl rfl (by simp [*]) (by simp [*]) (by simp [*])
    · replace k1 := eqn k1
      simp [*]
      exact ends_rest (preE ++ 10 :: r) o ⟨r, rfl⟩ (by rw [← hr]; omega) (by omega) _ rfl rfl rfl (by simp [*]) (by simp [*]) (by simp [*])
end PE.U
