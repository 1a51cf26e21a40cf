/-
  A function's entry and its results; all functions together.
-/
import Derived.Test.YtpjbeahllepfmaaPeExec
set_option linter.unusedVariables false
set_option linter.unusedSimpArgs false
namespace PE
open Go

section
variable {P : Program} {G G' : Gh} {N : Nat} {s : St} {a : Act} {w w' : World}

def resOk (P : Program) : ResultVar → IRes → Bool
  | .tmp t, .tmp t' => decide (t = t')
  | .cell t ty, .cell t' ag sz => decide (t = t') && szT P ty sz && hasU P ty && (isAggT P ty == ag)
  | _, _ => false

def ressOk (P : Program) : List ResultVar → List IRes → Bool
  | [], [] => true
  | r :: rs, r' :: rs' => resOk P r r' && ressOk P rs rs'
  | _, _ => false

def resSem (tmps : Array Value) : ResultVar → Sem Value
  | .tmp t => pure (tmps.getD t Go.undef)
  | .cell a t => do loadVar t (← asAddr (tmps.getD a Go.undef))

theorem load_box {k off ty sz : Nat} {ag : Bool} {cs : List PV} {u : PV} (hS : Sim G N s a w) (h2 : szT P ty sz = true) (h3 : hasU P ty = true) (h4 : (isAggT P ty == ag) = true)
    (hb : s.bx k = .cells cs) (hu : readCells ag sz cs off = some u) : ∃ mv, (loadVar ty ⟨G.box k, off, none⟩).run P w = .ok mv w ∧ VR (G.im w) (locOf G.loc s.st) (stripA u) mv := by
  have hbx := hS.box k
  rw [hb] at hbx
  obtain ⟨c1, c2, arr, e, c3, c4, c5⟩ := hbx
  obtain ⟨mv, hl, hr⟩ := read_ok (I := G.im w) (L := locOf G.loc s.st) (src := fun j => w.cell? ⟨G.box k, j, none⟩) (fun j c hj => by
    obtain ⟨mv, m1, m2⟩ := c5 j c hj
    exact ⟨mv, by show w.cell? _ = _; rw [cell_row c3]; exact m1, m2.1, m2.strip⟩) hu
  exact ⟨mv, run_loadVar h2 h3 h4 hl, hr⟩

theorem load_obj {l i off ty sz sz' : Nat} {ag : Bool} {es : List PV} {e0 u : PV} (hS : Sim G N s a w) (h2 : szT P ty sz = true) (h3 : hasU P ty = true) (h4 : (isAggT P ty == ag) = true)
    (hst : s.st[l]? = some (.arr sz' es)) (he0 : es[i]? = some e0) (hu : readCells ag sz (cellsOf e0) off = some u) :
    ∃ mv, (loadVar ty ⟨G.loc l, i * sz' + off, none⟩).run P w = .ok mv w ∧ VR (G.im w) (locOf G.loc s.st) (stripA u) mv := by
  obtain ⟨c1, c2, arr, e, c3, c4, c5⟩ := hS.store.obj l _ hst
  obtain ⟨d1, d2, d3⟩ := c5 i e0 he0
  obtain ⟨mv, hl, hr⟩ := read_ok (I := G.im w) (L := locOf G.loc s.st) (src := fun j => w.cell? ⟨G.loc l, i * sz' + j, none⟩) (fun j c hj => by
    obtain ⟨mv, m1, m2⟩ := d3 j c hj
    exact ⟨mv, by show w.cell? _ = _; rw [cell_row c3]; exact m1, m2.1, m2.strip⟩) hu
  exact ⟨mv, run_loadVar h2 h3 h4 (hl.shift fun j x hx => by rw [Nat.add_assoc]; exact hx), hr⟩

theorem res_sound {r : ResultVar} {r' : IRes} (hS : Sim G N s a w) (h : resOk P r r' = true) {v : PV} (hg : r'.get s = some v) (hv : isVar v = true) :
    ∃ mv, (resSem a.tmps r).run P w = .ok mv w ∧ VR (G.im w) (locOf G.loc s.st) v mv := by
  cases r with
  | tmp t =>
    cases r' <;> simp only [resOk, decide_eq_true_eq] at h <;> try (cases h; done)
    subst h
    simp only [IRes.get, Option.some.injEq] at hg
    subst hg
    refine ⟨_, rfl, ?_⟩
    have htN : t < N := by
      rcases Nat.lt_or_ge t N with h | h
      · exact h
      · rw [hS.hi t h] at hv; cases hv
    refine ((hS.tmp t htN).strip .prot).vr ?_ ?_
    · intro sz l
      cases s.fr t <;> simp [strip]
      rename_i k _ _; cases k <;> simp
    · intro k off e
      rw [e] at hv; cases hv
  | cell t ty =>
    cases r' <;> simp only [resOk, Bool.and_eq_true, decide_eq_true_eq] at h <;> try (cases h; done)
    rename_i t' ag sz
    obtain ⟨⟨⟨rfl, h2⟩, h3⟩, h4⟩ := h
    simp only [IRes.get] at hg
    have htN : s.fr t ≠ .undef → t < N := fun hne => by
      rcases Nat.lt_or_ge t N with h | h
      · exact h
      · exact absurd (hS.hi t h) hne
    split at hg
    · rename_i k off hf
      split at hg
      case h_2 => cases hg
      rename_i cs hb
      simp only [Option.map_eq_some_iff] at hg
      obtain ⟨u, hu, rfl⟩ := hg
      have ht := hS.tmp t (htN (by rw [hf]; simp))
      rw [hf] at ht
      obtain ⟨mv, q1, q2⟩ := load_box hS h2 h3 h4 hb hu
      refine ⟨mv, ?_, q2⟩
      have ht' : a.tmps.getD t Go.undef = .pointer (some ⟨G.box k, off, none⟩) := ht
      simp only [resSem, ht']
      simp [asAddr, q1]
    · rename_i l i off hf
      split at hg
      case h_2 => cases hg
      rename_i sz' es hst
      split at hg
      case h_2 => cases hg
      rename_i e0 he0
      simp only [Option.map_eq_some_iff] at hg
      obtain ⟨u, hu, rfl⟩ := hg
      have ht := hS.tmp t (htN (by rw [hf]; simp))
      rw [hf] at ht
      have hvr : VR (G.im w) (locOf G.loc s.st) (.ptr l i off) (a.tmps.getD t Go.undef) := ht
      have hloc : locOf G.loc s.st l = some (G.loc l, sz') := by simp [locOf, hst, Obj.sz]
      have ht' : a.tmps.getD t Go.undef = .pointer (some ⟨G.loc l, i * sz' + off, none⟩) := by
        generalize a.tmps.getD t Go.undef = m at hvr
        cases hvr with
        | ptr hh => rw [hloc] at hh; cases hh; rfl
      obtain ⟨mv, q1, q2⟩ := load_obj hS h2 h3 h4 hst he0 hu
      refine ⟨mv, ?_, q2⟩
      simp only [resSem, ht']
      simp [asAddr, q1]
    · cases hg

theorem ress_sound (hS : Sim G N s a w) : ∀ {rs : List ResultVar} {rs' : List IRes}, ressOk P rs rs' = true → ∀ {vs : List PV}, getAll s rs' = some vs → vs.all isVar = true →
    ∃ mvs : List Value, (rs.mapM (resSem a.tmps)).run P w = .ok mvs w ∧ mvs.length = vs.length ∧ ∀ (j : Nat) c x, vs[j]? = some c → mvs[j]? = some x → VR (G.im w) (locOf G.loc s.st) c x
  | [], [], _, vs, hg, _ => by
    cases hg
    exact ⟨[], rfl, rfl, fun j c x h => by simp at h⟩
  | [], _ :: _, h, _, _, _ => by cases h
  | _ :: _, [], h, _, _, _ => by cases h
  | r :: rs, r' :: rs', h, vs, hg, hv => by
    simp only [ressOk, Bool.and_eq_true] at h
    simp only [getAll] at hg
    split at hg
    case h_2 => cases hg
    rename_i v vs' h1 h2
    cases hg
    simp only [List.all_cons, Bool.and_eq_true] at hv
    obtain ⟨mv, q1, q2⟩ := res_sound hS h.1 h1 hv.1
    obtain ⟨mvs, p1, p2, p3⟩ := ress_sound hS h.2 h2 hv.2
    refine ⟨mv :: mvs, ?_, by simp [p2], fun j c x hc hx => ?_⟩
    · simp [List.mapM_cons, q1, p1]
    · cases j with
      | zero => simp at hc hx; subst hc; subst hx; exact q2
      | succ j => exact p3 j c x (by simpa using hc) (by simpa using hx)

theorem results_sound (hS : Sim G N s a w) {fn : Func} {rs' : List IRes} (h : ressOk P fn.results.toList rs' = true) {vs : List PV} (hg : getAll s rs' = some vs) (hv : vs.all isVar = true) :
    ∃ mv, (results fn a.tmps).run P w = .ok mv w ∧ VR (G.im w) (locOf G.loc s.st) (resVal vs) mv := by
  obtain ⟨mvs, p1, p2, p3⟩ := ress_sound hS h hg hv
  have hres : results fn a.tmps = (fn.results.mapM (resSem a.tmps) >>= fun vs => pure (if h : vs.size = 1 then vs[0] else .tuple vs)) := by
    rfl
  rw [hres]
  simp only [Array.mapM_eq_mapM_toList, Sem.run_bind]
  have hm : (List.toArray <$> fn.results.toList.mapM (resSem a.tmps)).run P w = .ok mvs.toArray w := by
    simp [p1]
  rw [hm]
  refine ⟨_, rfl, ?_⟩
  match vs, p2, p3 with
  | [], p2, p3 =>
    have : mvs = [] := List.eq_nil_of_length_eq_zero (by simpa using p2)
    subst this
    exact .tup rfl (fun j c x h => by simp at h)
  | [v], p2, p3 =>
    match mvs, p2, p3 with
    | [mv], _, p3 => exact p3 0 v mv rfl rfl
  | v :: v' :: vs, p2, p3 =>
    match mvs, p2, p3 with
    | mv :: mv' :: mvs, p2, p3 =>
      have : ¬ (mv :: mv' :: mvs).toArray.size = 1 := by simp
      simp only [this, dite_false]
      exact .tup (by simpa using p2) (fun j c x hc hx => p3 j c x hc (by simpa using hx))

/-- A function's text and its plain reading. -/
def checkFn (P : Program) (fn : Func) (F : IFn) : Bool :=
  (match fn.body with
    | some c => checkC P fn.ntmps c F.body
    | none => false) && decide (fn.ntmps = F.ntmps) && decide (F.nargs ≤ F.ntmps) && ressOk P fn.results.toList F.res && !F.freeze && !(fn.name == "runtime.NumGoroutine")

theorem frOf_at : ∀ (vs : List PV) (k t : Nat), frOf vs k t = if k ≤ t then (vs[t - k]?).getD .undef else .undef
  | [], k, t => by simp [frOf]
  | v :: r, k, t => by
    simp only [frOf, upd, frOf_at r]
    by_cases h : t = k
    · subst h; simp
    · rw [if_neg h]
      by_cases h2 : k + 1 ≤ t
      · rw [if_pos h2, if_pos (by omega)]
        have : t - k = (t - (k + 1)) + 1 := by omega
        rw [this, List.getElem?_cons_succ]
      · rw [if_neg h2, if_neg (by omega)]

theorem entry_sim {args : List PV} {st : Store} {margs : Array Value} {n : Nat} (hS : SimS G st w) (hn : args.length ≤ n) (hsz : margs.size = args.length)
    (hv : ∀ (j : Nat) c x, args[j]? = some c → margs[j]? = some x → VR (G.im w) (locOf G.loc st) c x) :
    Sim G n { fr := frOf args 0, bx := fun _ => .no, st := st } { tmps := margs ++ Array.replicate (n - margs.size) Go.undef, defers := [] } w := by
  have hat : ∀ t, frOf args 0 t = (args[t]?).getD .undef := fun t => by simp [frOf_at]
  refine ⟨rfl, by simp; omega, ?_, ?_, ?_, fun k => trivial, hS⟩
  · intro t ht
    simp only [hat]
    rcases Nat.lt_or_ge t args.length with h | h
    · rw [List.getElem?_eq_getElem h]
      have h' : t < margs.size := by omega
      have := hv t args[t] margs[t] (List.getElem?_eq_getElem h) (Array.getElem?_eq_getElem h')
      have e : (margs ++ Array.replicate (n - margs.size) Go.undef).getD t Go.undef = margs[t] := by
        simp [Array.getElem?_append, h']
      rw [e]
      exact VR.tr this
    · rw [List.getElem?_eq_none h]
      exact VR.undef _
  · intro t ht
    simp only [hat]
    rw [List.getElem?_eq_none (by omega)]; rfl
  · intro t k off e
    simp only [hat] at e
    rcases Nat.lt_or_ge t args.length with h | h
    · rw [List.getElem?_eq_getElem h] at e
      have h' : t < margs.size := by omega
      have := hv t args[t] margs[t] (List.getElem?_eq_getElem h) (Array.getElem?_eq_getElem h')
      simp only [Option.getD_some] at e
      rw [e] at this; cases this
    · rw [List.getElem?_eq_none h] at e; cases e

/-- What is known of an environment. -/
structure EnvOk (P : Program) (E : Env) : Prop where
  fn : ∀ f F, E.fn f = some F → ∃ fn, P.funcs[f]? = some fn ∧ checkFn P fn F = true
  ext : ∀ f g, E.ext f = some g → ∀ args st r st', g args st = some (r, st') → GoodF P f args st r st'

theorem callF_good {E : Env} (hE : EnvOk P E) : ∀ n, Good P (callF E n)
  | 0 => fun f args st r st' h => by cases h
  | n + 1 => by
    intro f args st r st' h
    simp only [callF] at h
    cases hx : E.ext f with
    | some g => rw [hx] at h; exact hE.ext f g hx args st r st' h
    | none =>
      rw [hx] at h
      simp only at h
      cases hf : E.fn f with
      | none => rw [hf] at h; cases h
      | some F =>
        rw [hf] at h
        simp only at h
        obtain ⟨fn, h1, hck⟩ := hE.fn f F hf
        simp only [checkFn, Bool.and_eq_true, decide_eq_true_eq, Bool.not_eq_true'] at hck
        obtain ⟨⟨⟨⟨⟨hbody, hnt⟩, hna⟩, hres⟩, hfz⟩, hname⟩ := hck
        cases hb : fn.body with
        | none => rw [hb] at hbody; cases hbody
        | some c =>
          rw [hb] at hbody
          simp only at hbody
          split at h
          case isFalse => cases h
          rename_i hargs
          intro G w margs hS hsz hv
          refine ⟨⟨fn, c, h1, hname, hb⟩, ?_⟩
          refine calls_of_wp h1 hb ?_
          have hent := entry_sim (n := fn.ntmps) hS (by omega) hsz hv
          cases hex : execF (callF E n) n F.body { fr := frOf args 0, bx := fun _ => .no, st := st } with
          | none => rw [hex] at h; cases h
          | some re =>
            obtain ⟨e, s'⟩ := re
            rw [hex] at h
            have hgood := callF_good hE n
            have fin : finish F st.length s' = some (r, st') → ∀ G' a' w', Sim G' fn.ntmps s' a' w' → Ext G st w G' s'.st w' →
                a'.defers = [] ∧ ∃ mv, (results fn a'.tmps).run P w' = .ok mv w' ∧ Comes1 G st w r st' (Ending.returned mv) w' := by
              intro hfin G' a' w' q1 q2
              simp only [finish, hfz] at hfin
              split at hfin
              · cases hfin
              · rename_i vs hvs
                split at hfin
                case isFalse => cases hfin
                rename_i hall
                simp only [Bool.false_eq_true, if_false] at hfin
                cases hfin
                obtain ⟨mv, p1, p2⟩ := results_sound q1 hres hvs hall
                exact ⟨q1.defers, mv, p1, G', q1.store, q2, p2⟩
            cases e with
            | normal =>
              refine (exec_sound hgood n).1 c F.body _ .normal s' G _ w _ hex hbody hent ?_
              intro G' a' w' q1 q2
              exact fin h G' a' w' q1 q2
            | ret =>
              refine (exec_sound hgood n).1 c F.body _ .ret s' G _ w _ hex hbody hent ?_
              intro G' a' w' q1 q2
              exact fin h G' a' w' q1 q2
            | exit id => cases h
            | pan v =>
              simp only [finishPan, hfz, Bool.false_eq_true, if_false] at h
              cases h
              refine (exec_sound hgood n).1 c F.body _ (.pan v) s' G _ w _ hex hbody hent ?_
              intro G' a' w' mv q0 q1 q2 q3
              exact ⟨q0, G', mv, rfl, q1, q2, q3⟩

end
end PE
