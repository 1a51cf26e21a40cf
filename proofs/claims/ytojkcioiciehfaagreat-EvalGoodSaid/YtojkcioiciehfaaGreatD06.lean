/-
  Texts joined by program: A7R6, A7Q1, A7Q2, A7Q3, A7Q4, A7Q5, PeHand, A7V11, A7Q6, A7T12, A7J1, A7J4, A7J5, A7J6, A7J7, A7J8, A7J9, A7J10, PeEnd, PeRead.
-/
import Derived.Test.YtojkcioiciehfaaGreatD05
import Derived.WalkKit
import Derived.ProofKit
import Derived.OpenShut
import Derived.ShutString
import Derived.ChangeOld
import Derived.Below
set_option linter.unusedVariables false
set_option linter.unusedSectionVars false
set_option linter.unusedSimpArgs false
namespace PE.U
open Go PE
set_option maxRecDepth 20000 in
set_option maxHeartbeats 16000000 in
theorem rcheckP_spec (p : Prog) (hz : PSz p) : zi E 33 [zf p] [] = some (.ret (zwa (zse p)), []) := by
 have hfit := hz.fit
 obtain ⟨z1, z2, z3⟩ := hz
 have hr := right_spec p ⟨z1, z2, z3⟩
 have hn := globals_spec p hfit
 refine zd rfl rfl rfl (by simp [zf]) ?_
 unfold zse
 cases hR : zrc p
 ·rw [hR] at hr
  clear hn hfit z3
  simp [zf] at hr
  simp [*, F33, zf, zwa]
 cases hN : zVc p
 ·rw [hR] at hr
  rw [hN] at hn
  clear hfit z3
  simp [zf] at hr hn
  simp [*, F33, zf, zwa]
 rw [hR] at hr
 rw [hN] at hn
 simp [zf, funcs] at hr hn
 simp [hr, hn, F33, zf, funcs]
 refine zye p.funcs K33_1 B33_1 (fun d => [(4, .int .i64 d.length)]) (fun d => [(3, .cells [.int .i64 0, .int .i64 0])]) (fun d => d.map fun f => cob p f (zAb p f).2) (fun d => ∀ f ∈ d, (zAb p f).1 = 0) (by omega) (by simp) ?_ ?_
 ·intros d x r s1 hl' hlt hget hget' hw1 hp h1 h2 h3 h5 h4
  have hC := zGd p (x :: r) d 0 hp
  rw [<- hl'.eq, zHd, Int.zero_add] at hC
  obtain ⟨y1, y2⟩ := z3 x hl'.mem
  have hfR : zpe x = true := by
   unfold zrc at hR
   rw [Bool.and_eq_true, List.all_eq_true, List.all_eq_true] at hR
   exact hR.2 x hl'.mem
  have hbR : zT x.body 100 = true := by
   unfold zpe at hfR
   simp only [Bool.and_eq_true] at hfR
   exact hfR.2.2.2.1
  have hp8 : x.params.length <= 8 := by
   unfold zpe at hfR
   simp only [Bool.and_eq_true, decide_eq_true_eq] at hfR
   exact hfR.2.2.1
  have e3 := rends_spec x.body 100 y1 hbR
  have hlen : (d.map fun f => cob p f (zAb p f).2).length = d.length := by simp
  have e4 := rblock_spec' (wtSs x.body) p x x.body (zja x.params) 1 100 0 false ((d.map fun f => cob p f (zAb p f).2) ++ [cob p x 0]) d.length (Nat.le_refl _) y1 hfit hbR (by omega) (by omega) (by rw [scopedV_len]; omega) (by intro v hv; rw [scopedV_depth _ v hv]; omega) (by rw [List.getElem?_append_right (by omega), hlen]; simp)
  rw [zLd] at e4
  have hnx : (zAb p x).1 = 0 -> ∀ f ∈ d ++ [x], (zAb p f).1 = 0 := by
   intro h f hf
   rcases List.mem_append.1 hf with hf | hf
   ·exact hp f hf
   ·rw [List.mem_singleton.1 hf]; exact h
  have hset : ∀ v, ((d.map fun f => cob p f (zAb p f).2) ++ [cob p x 0]).set d.length v = (d.map fun f => cob p f (zAb p f).2) ++ [v] := by
   intro v
   rw [List.set_append_right _ _ (by omega), hlen]; simp
  rw [hset] at e4
  have h1x : zAb p x = if twiceM x.params then (50, 0) else (if (zma p x.type x.body (zja x.params) 1 false 0).1 = 0 /\ zcc x.body = false then 52 else (zma p x.type x.body (zja x.params) 1 false 0).1, (zma p x.type x.body (zja x.params) 1 false 0).2) := rfl
  generalize hfx : zAb p x = fx at *
  generalize zma p x.type x.body (zja x.params) 1 false 0 = q at *
  have htw : twiceM x.params = !decide ((x.params.map (·.name)).Nodup) := rfl
  generalize twiceM x.params = tw at *
  generalize zcc x.body = en at *
  obtain ⟨f, n⟩ := q
  obtain ⟨fe, fn⟩ := fx
  simp only at e4 hC hnx h1x
  generalize hσ : (d.map fun f => cob p f (zAb p f).2) = σ at *
  have hget0 : (σ ++ [cob p x n])[d.length]? = some (cob p x n) := by rw [List.getElem?_append_right (by omega), hlen]; simp
  simp at h1 h2 h3 h4 h5
  simp [zh, parsV] at e3 e4
  clear hl' hR hN hset hbR hfR y1 y2 z1 z2 z3 hfit hp
  have hcx : cob p x 0 = .arr 7 [.agg [zga p.arrays, .slice .plain 4 (p.funcs.map zm), .str x.name, .int .i64 x.type, .slice .plain 2 (x.params.map encPar), .slice .plain 6 (x.body.map zda), .int .i64 0]] := rfl
  have hcn : cob p x n = .arr 7 [.agg [zga p.arrays, .slice .plain 4 (p.funcs.map zm), .str x.name, .int .i64 x.type, .slice .plain 2 (x.params.map encPar), .slice .plain 6 (x.body.map zda), .int .i64 n]] := rfl
  rw [hcx, hcn] at e4
  rw [hcn] at hget0
  have keep : tw = false -> fe = 0 -> (.arr 7 [.agg [zga p.arrays, .slice .plain 4 (p.funcs.map zm), .str x.name, .int .i64 x.type, .slice .plain 2 (x.params.map encPar), .slice .plain 6 (x.body.map zda), .int .i64 n]] = cob p x (zAb p x).2) /\ ∀ g, g ∈ d \/ g = x -> (zAb p g).1 = 0 := by
   intro h1 h2
   rw [h1] at h1x
   simp at h1x
   rw [hfx]
   simp only
   rw [h1x.2, <- hcn]
   exact ⟨rfl, fun g hg => hnx h2 g (by simpa using hg)⟩
  clear hcx hcn hnx hfx
  simp [*, -keep, zm, parsV, zh]
  refine zye x.params K33_0 B33_0 (fun d => [(6, .int .i64 d.length)]) (fun _ => [(3, .cells [.int .i64 0, .int .i64 0])]) (fun _ => σ) (fun d => (d.map (·.name)).Nodup) (by omega) ?_ ?_ ?_
  ·simp [*, -keep]
  ·intros d2 y r2 s2 hl2 hlt2 hget2 hget2' hw2 hp2 k1 k2 k3 k5 k4
   simp at k1 k2 k3 k4 k5
   have hf2 := rfind_spec (zja d2) y.name (by rw [scopedV_len]; omega)
   rw [zLd] at hf2
   have htk : x.params.take d2.length = d2 := by rw [hl2.eq]; simp
   have hdup : zJa (zja d2) y.name ≠ [] -> tw = true := by
    intro h
    rw [htw, hl2.eq]
    simp only [Bool.not_eq_true', decide_eq_false_iff_not]
    intro hh
    rw [List.map_append, List.nodup_append] at hh
    rw [ne_eq, scopedV_find, Classical.not_not] at h
    exact hh.2.2 _ h _ (by simp) rfl
   have hok : zJa (zja d2) y.name = [] -> ((d2 ++ [y]).map (·.name)).Nodup := by
    intro h
    rw [scopedV_find] at h
    rw [List.map_append, List.nodup_append]
    refine ⟨hp2, by simp, ?_⟩
    intro a ha b hb hab
    simp at hb
    rw [hb] at hab
    rw [hab] at ha
    exact h ha
   have htk2 : (x.params.map encPar).take d2.length = d2.map encPar := by rw [<- List.map_take, htk]
   generalize hfv : zJa (zja d2) y.name = fv at *
   simp [zbb, parsV] at hf2
   have hlt2i : (d2.length : Int) < x.params.length := by omega
   have hle2 : d2.length <= x.params.length := by omega
   clear htw hl2 hp2 e3 e4 htk hfv hget0 keep
   cases fv with
   | nil =>
    replace hok := hok rfl
    clear hdup hC
    simp at hf2
    simp [*, -hok, encPar]
    all_goals (try grind)
   | cons z zr =>
    replace hdup := hdup (by simp)
    subst hdup
    simp at h1x
    obtain ⟨rfl, rfl⟩ := h1x
    simp at hC
    clear hok
    simp at hf2
    simp [*, encPar, zwa]
  ·intros s2 hp2 k1 k2 k3 k5 k4
   simp at k1 k2 k3 k4 k5
   have htwf : tw = false := by rw [htw]; simp; exact hp2
   replace keep := keep htwf
   subst htwf
   simp at h1x
   obtain ⟨ha, rfl⟩ := h1x
   clear hp2 htw
   simp [*, -keep, zm, parsV, zh]
   by_cases hf : f = 0
   ·subst hf
    cases en
    ·simp at ha
     subst ha
     simp at hC
     clear keep
     simp [*, zm, parsV, zh, zwa]
    ·simp at ha
     subst ha
     replace keep := keep rfl
     clear hC
     simp [*, -keep, zm, parsV, zh, zwa]
     exact keep
   ·simp [hf] at ha
    subst ha
    simp [hf] at hC
    replace hf := eqn hf
    clear keep
    simp [*, zm, parsV, zh, zwa]
 ·intros s1 hp h1 h2 h3 h5 h4
  have hC := zGd p [] p.funcs 0 hp
  rw [List.append_nil, zHd] at hC
  rw [hC]
  simp at h1 h2 h3 h4 h5
  clear hp hC z3
  simp [*, zwa]
end PE.U

namespace PE.U
open Go PE
def zLb (k : Nat) : List PArr -> List PV
 | [] => []
 | a :: r => .mslice k 0 a.size.toNat 1 :: zLb (k + 1) r
def stK : Option Int -> Int
 | none => 0
 | some k => k
def spK : Option Int -> Bool
 | none => false
 | some k => decide (k = 0)
def runR (p : Prog) (S : RS) (h : Option Int) : Obj := .arr 10 [.agg [zga p.arrays, funcs p.funcs, ints S.inp, acc 1 (zLb 1 p.arrays), .int .i64 (stK h), .int .i64 0, acc 1 (S.out.map (PV.int .i64)), .int .i64 S.cost, .int .i64 S.fuel, .bool (spK h)]]
def stR (p : Prog) (S : RS) (h : Option Int) (T : ze) : ze := runR p S h :: (zEb S.arrs ++ T)
def goH {α : Type} : Rt α -> Option Int
 | .ok _ => none
 | .stop k => some k
@[simp] theorem zAd {α : Type} (a : α) : goH (.ok a) = none := rfl
@[simp] theorem zgd {α : Type} (k : Int) : goH (.stop k : Rt α) = some k := rfl
section
variable (p : Prog) (S : RS) (h : Option Int) (T : ze)
@[simp] theorem stR_0 : (stR p S h T)[0]? = some (.arr 10 [.agg [zga p.arrays, funcs p.funcs, ints S.inp, acc 1 (zLb 1 p.arrays), .int .i64 (stK h), .int .i64 0, acc 1 (S.out.map (PV.int .i64)), .int .i64 S.cost, .int .i64 S.fuel, .bool (spK h)]]) := rfl
@[simp] theorem stK_none : stK none = 0 := rfl
@[simp] theorem spK_none : spK none = false := rfl
@[simp] theorem stK_some (k : Int) : stK (some k) = k := rfl
@[simp] theorem spK_some (k : Int) : spK (some k) = decide (k = 0) := rfl
@[simp] theorem setR_fuel (k : Nat) : (stR p S none T).set 0 (.arr 10 [.agg [zga p.arrays, funcs p.funcs, ints S.inp, acc 1 (zLb 1 p.arrays), .int .i64 0, .int .i64 0, acc 1 (S.out.map (PV.int .i64)), .int .i64 S.cost, .int .i64 k, .bool false]]) = stR p { S with fuel := k } none T := rfl
@[simp] theorem setR_cost : (stR p S none T).set 0 (.arr 10 [.agg [zga p.arrays, funcs p.funcs, ints S.inp, acc 1 (zLb 1 p.arrays), .int .i64 0, .int .i64 0, acc 1 (S.out.map (PV.int .i64)), .int .i64 (zB .i64 (S.cost + 1)), .int .i64 S.fuel, .bool false]]) = stR p (zO S) none T := by
 rw [zoa]; rfl
@[simp] theorem setR_spent : (stR p S none T).set 0 (.arr 10 [.agg [zga p.arrays, funcs p.funcs, ints S.inp, acc 1 (zLb 1 p.arrays), .int .i64 0, .int .i64 0, acc 1 (S.out.map (PV.int .i64)), .int .i64 S.cost, .int .i64 S.fuel, .bool true]]) = stR p S (some 0) T := rfl
@[simp] theorem setR_2 : (stR p S none T).set 0 (.arr 10 [.agg [zga p.arrays, funcs p.funcs, ints S.inp, acc 1 (zLb 1 p.arrays), .int .i64 2, .int .i64 0, acc 1 (S.out.map (PV.int .i64)), .int .i64 S.cost, .int .i64 S.fuel, .bool false]]) = stR p S (some 2) T := rfl
@[simp] theorem setR_3 : (stR p S none T).set 0 (.arr 10 [.agg [zga p.arrays, funcs p.funcs, ints S.inp, acc 1 (zLb 1 p.arrays), .int .i64 3, .int .i64 0, acc 1 (S.out.map (PV.int .i64)), .int .i64 S.cost, .int .i64 S.fuel, .bool false]]) = stR p S (some 3) T := rfl
@[simp] theorem setR_4 : (stR p S none T).set 0 (.arr 10 [.agg [zga p.arrays, funcs p.funcs, ints S.inp, acc 1 (zLb 1 p.arrays), .int .i64 4, .int .i64 0, acc 1 (S.out.map (PV.int .i64)), .int .i64 S.cost, .int .i64 S.fuel, .bool false]]) = stR p S (some 4) T := rfl
@[simp] theorem setR_inp (l : List Int) : (stR p S none T).set 0 (.arr 10 [.agg [zga p.arrays, funcs p.funcs, .slice .plain 1 (l.map (PV.int .i64)), acc 1 (zLb 1 p.arrays), .int .i64 0, .int .i64 0, acc 1 (S.out.map (PV.int .i64)), .int .i64 S.cost, .int .i64 S.fuel, .bool false]]) = stR p { S with inp := l } none T := rfl
end
theorem zob (p : Prog) (S : RS) (h : Option Int) (T : ze) : zi E 36 [.ptr 0 0 0] (stR p S h T) = some (.ret (.bool h.isSome), stR p S h T) := by
 refine zd rfl rfl rfl (by simp) ?_
 cases h with
 | none => simp [F36]
 | some k =>
  by_cases hk : k = 0
  ·subst hk; simp [F36]
  ·replace hk := eqn hk
   simp [*, F36]
theorem rstep_spec (p : Prog) (S : RS) (T : ze) (hf : S.fuel <= 9000000000000000000) : zi E 123 [.ptr 0 0 0] (stR p S none T) = some (match S.fuel with
  | 0 => (.ret (.bool false), stR p S (some 0) T)
  | k + 1 => (.ret (.bool true), stR p { S with fuel := k } none T)) := by
 refine zd rfl rfl rfl (by simp) ?_
 have h0 := zob p S none T
 simp at h0
 cases h : S.fuel with
 | zero =>
  have hs : (stR p S none T).set 0 (.arr 10 [.agg [zga p.arrays, funcs p.funcs, ints S.inp, acc 1 (zLb 1 p.arrays), .int .i64 0, .int .i64 0, acc 1 (S.out.map (PV.int .i64)), .int .i64 S.cost, .int .i64 0, .bool true]]) = stR p S (some 0) T := by
   have := setR_spent p S T
   rw [h] at this
   exact this
  simp [*, F123]
 | succ k =>
  have hw : zB .i64 (((k + 1 : Nat) : Int) - 1) = (k : Int) := by rw [zj] <;> omega
  have hne : (((k + 1 : Nat) : Int) < 1) = False := eqn (by omega)
  generalize hc : ((k + 1 : Nat) : Int) = c at *
  simp [*, F123]
theorem rptrs_get : ∀ (l : List PArr) (k i : Nat), (zLb k l)[i]? = (l[i]?).map fun a => .mslice (k + i) 0 a.size.toNat 1
 | [], k, i => by simp [zLb]
 | a :: r, k, 0 => by simp [zLb]
 | a :: r, k, i + 1 => by
  simp only [zLb, List.getElem?_cons_succ]
  rw [rptrs_get r (k + 1) i]
  cases r[i]? with
  | none => rfl
  | some b => simp; omega
theorem rptrs_len : ∀ (l : List PArr) (k : Nat), (zLb k l).length = l.length
 | [], k => rfl
 | a :: r, k => by simp [zLb, rptrs_len r]
theorem rarr_at {p : Prog} {S : RS} {nm : List UInt8} (hS : FitS p S) (h : zlb p nm = true) : ∃ (i : Nat) (l : List Int), zEa p nm = i /\ i < S.arrs.length /\ S.arrs[i]? = some l /\ (zLb 1 p.arrays)[i]? = some (.mslice (i + 1) 0 l.length 1) := by
 obtain ⟨i, l, a1, a2, a3, a4⟩ := arr_at hS h
 refine ⟨i, l, a1, a2, a3, ?_⟩
 rw [rptrs_get]
 have hlt : i < p.arrays.length := by rw [<- hS.len]; exact a2
 have e := congrArg (fun l : List Nat => l[i]?) hS.1
 simp only [List.getElem?_map, a3, List.getElem?_eq_getElem hlt, Option.map_some, Option.some.injEq] at e
 rw [List.getElem?_eq_getElem hlt, Option.map_some, <- e, Nat.add_comm 1 i]
theorem stR_row {p : Prog} {S : RS} {h : Option Int} {T : ze} {i : Nat} {l : List Int} (hl : S.arrs[i]? = some l) : (stR p S h T)[i + 1]? = some (.arr 1 (l.map (PV.int .i64))) := by
 have hlt := (List.getElem?_eq_some_iff.1 hl).1
 simp only [stR, List.getElem?_cons_succ]
 rw [List.getElem?_append_left (by simpa [zEb] using hlt)]
 simp [zEb, hl, intO]
theorem rput_row {p : Prog} {S : RS} {h : Option Int} {T : ze} {i : Nat} {l : List Int} (hl : S.arrs[i]? = some l) (k : Nat) (m : Int) : (stR p S h T).set (i + 1) (.arr 1 ((l.map (PV.int .i64)).set k (.int .i64 m))) = stR p { S with arrs := S.arrs.set i (l.set k m) } h T := by
 have hlt := (List.getElem?_eq_some_iff.1 hl).1
 have e : (l.map (PV.int .i64)).set k (.int .i64 m) = (l.set k m).map (PV.int .i64) := by rw [List.map_set]
 rw [e]
 simp only [stR, List.set_cons_succ]
 rw [List.set_append_left _ _ (by simpa [zEb] using hlt)]
 have : (zEb S.arrs).set i (.arr 1 ((l.set k m).map (PV.int .i64))) = zEb (S.arrs.set i (l.set k m)) := by simp [zEb, List.map_set, intO]
 rw [this]
 rfl
theorem rcell_spec {p : Prog} {S : RS} {T : ze} {nm : List UInt8} {i : Nat} {l : List Int} (n : Int) (hz : p.arrays.length < 1099509000000) (ha : zEa p nm = i) (hl : S.arrs[i]? = some l) (hm : (zLb 1 p.arrays)[i]? = some (.mslice (i + 1) 0 l.length 1)) :
  zi E 127 [.ptr 0 0 0, .str nm, .int .i64 n] (stR p S none T) = some (if 0 <= n /\ n < l.length then (.ret (.bool true), stR p S none T) else (.ret (.bool false), stR p S (some 3) T)) := by
 have hra := zJc p nm (by omega)
 rw [ha] at hra
 simp [zf] at hra
 refine zd rfl rfl rfl (by simp) ?_
 by_cases h0 : n < 0
 ·have hn : ¬ (0 <= n /\ n < l.length) := by omega
  rw [if_neg hn]
  replace h0 := eqp h0
  clear hz
  simp [*, F127]
 ·by_cases h1 : (l.length : Int) <= n
  ·have hn : ¬ (0 <= n /\ n < l.length) := by omega
   rw [if_neg hn]
   replace h0 := eqn h0
   replace h1 := eqp h1
   clear hz
   simp [*, F127]
  ·rw [if_pos (by omega)]
   have h4 : 0 <= n := by omega
   replace h0 := eqn h0
   replace h1 := eqn h1
   clear hz
   simp [*, F127]
def encPl (x : List UInt8 × Int) : PV := .agg [.str x.1, .int .i64 x.2]
def rowV (V : Vs) : List PV := .agg [.str [], .int .i64 0] :: V.reverse.map encPl
theorem zRc (V : Vs) : (rowV V).length = V.length + 1 := by simp [rowV]
theorem rowV_get (V : Vs) (c : Nat) (h : c < V.length) : (rowV V)[V.length - c]? = some (encPl V[c]) := by
 have e : V.length - c = V.length - 1 - c + 1 := by omega
 unfold rowV
 rw [e, List.getElem?_cons_succ, List.getElem?_map, List.getElem?_reverse (by omega)]
 have : V.length - 1 - (V.length - 1 - c) = c := by omega
 rw [this, List.getElem?_eq_getElem h]
 rfl
theorem rowV_strip (V : Vs) : (rowV V).map stripA = rowV V := by
 simp [rowV, encPl, Function.comp_def]
def posV (nm : List UInt8) (V : Vs) : Nat := V.findIdx fun x => decide (x.1 = nm)
theorem posV_lt {nm : List UInt8} {V : Vs} (h : nm ∈ zJ V) : posV nm V < V.length := by
 apply List.findIdx_lt_length_of_exists
 obtain ⟨x, hx, e⟩ := List.mem_map.1 h
 exact ⟨x, hx, by simp [e]⟩
theorem posV_name {nm : List UInt8} {V : Vs} (h : posV nm V < V.length) : V[posV nm V].1 = nm := by
 exact of_decide_eq_true (@List.findIdx_getElem _ (fun x : List UInt8 × Int => decide (x.1 = nm)) V h)
theorem posV_get {nm : List UInt8} : ∀ {V : Vs} (h : posV nm V < V.length), V[posV nm V].2 = getV nm V
 | [], h => by simp at h
 | x :: r, h => by
  unfold posV at h ⊢
  simp only [List.findIdx_cons] at h ⊢
  by_cases hx : x.1 = nm
  ·simp [hx, getV]
  ·simp only [hx, decide_false, Bool.cond_false, cond_false, List.length_cons, Nat.add_lt_add_iff_right] at h
   simp only [hx, decide_false, cond_false, List.getElem_cons_succ, getV, if_false]
   exact posV_get (V := r) h
theorem setV_pos {nm : List UInt8} {n : Int} : ∀ {V : Vs}, posV nm V < V.length -> setV nm n V = V.set (posV nm V) (nm, n)
 | [], h => by simp at h
 | x :: r, h => by
  unfold posV at h ⊢
  simp only [List.findIdx_cons] at h ⊢
  by_cases hx : x.1 = nm
  ·simp [hx, setV]
  ·simp only [hx, decide_false, cond_false, List.length_cons, Nat.add_lt_add_iff_right] at h
   simp only [hx, decide_false, cond_false, setV, if_false, List.set_cons_succ]
   rw [setV_pos (V := r) h]; rfl
theorem rowV_set {V : Vs} {c : Nat} (x : List UInt8 × Int) (h : c < V.length) : (rowV V).set (V.length - c) (encPl x) = rowV (V.set c x) := by
 have e : V.length - c = V.length - 1 - c + 1 := by omega
 unfold rowV
 rw [e, List.set_cons_succ]
 congr 1
 rw [<- List.map_set]
 congr 1
 apply List.ext_getElem?
 intro i
 by_cases hi : i < V.length
 ·rw [List.getElem?_reverse (by simpa using hi), List.getElem?_set, List.getElem?_set, List.length_set]
  by_cases hc : V.length - 1 - c = i
  ·have : c = V.length - 1 - i := by omega
   rw [if_pos hc, if_pos this]
   have h1 : V.length - 1 - c < V.reverse.length := by simp; omega
   rw [if_pos h1, if_pos h]
  ·have : ¬ c = V.length - 1 - i := by omega
   rw [if_neg hc, if_neg this, List.getElem?_reverse hi]
 ·rw [List.getElem?_eq_none (by simp; omega), List.getElem?_eq_none (by simp; omega)]
def nbR (p : Prog) : Nat := p.arrays.length + 1
structure FRr (p : Prog) (T : ze) (m k : Nat) (V : Vs) (h n : Int) : Prop where
 lo : m <= k
 row : ∃ j junk, m <= j /\ j ≠ k /\ T[k]? = some (.arr 3 [.agg [.mslice (nbR p + j) 0 (V.length + 1) 2, .int .i64 h, .int .i64 n]]) /\ T[j]? = some (.arr 2 (rowV V ++ junk))
theorem stR_len {p : Prog} {S : RS} {h : Option Int} {T : ze} (hS : FitS p S) : (stR p S h T).length = nbR p + T.length := by
 simp [stR, zEb, hS.len, nbR]; omega
theorem zqc {p : Prog} {S : RS} {h : Option Int} {T : ze} (hS : FitS p S) (j : Nat) : (stR p S h T)[nbR p + j]? = T[j]? := by
 have : nbR p + j = p.arrays.length + j + 1 := by unfold nbR; omega
 rw [this]
 simp only [stR, List.getElem?_cons_succ]
 rw [List.getElem?_append_right (by simp [zEb, hS.len])]
 simp [zEb, hS.len]
theorem stR_set {p : Prog} {S : RS} {h : Option Int} {T : ze} (hS : FitS p S) (j : Nat) (o : Obj) : (stR p S h T).set (nbR p + j) o = stR p S h (T.set j o) := by
 have : nbR p + j = p.arrays.length + j + 1 := by unfold nbR; omega
 rw [this]
 simp only [stR, List.set_cons_succ]
 rw [List.set_append_right _ _ (by simp [zEb, hS.len])]
 simp [zEb, hS.len]
theorem stR_app {p : Prog} {S : RS} {h : Option Int} {T L : ze} : stR p S h T ++ L = stR p S h (T ++ L) := by simp [stR]
theorem stR_take {p : Prog} {S : RS} {h : Option Int} {T : ze} (hS : FitS p S) (j : Nat) : (stR p S h T).take (nbR p + j) = stR p S h (T.take j) := by
 have : nbR p + j = p.arrays.length + j + 1 := by unfold nbR; omega
 rw [this]
 simp only [stR, List.take_succ_cons]
 rw [List.take_append, List.take_of_length_le (by simp [zEb, hS.len])]
 simp [zEb, hS.len]
theorem rptrs_below (n : Nat) : ∀ (l : List PArr) (k : Nat), k + l.length <= n -> zX n (zLb k l) = true
 | [], _, _ => rfl
 | a :: r, k, h => by
  simp only [List.length_cons] at h
  simp only [zLb, belowL_cons, below_mslice, Bool.and_eq_true, decide_eq_true_eq]
  exact ⟨by omega, rptrs_below n r (k + 1) (by omega)⟩
theorem below_acc (n sz : Nat) (l : List PV) (h : zX n l = true) : zy n (acc sz l) = true := by
 cases l with
 | nil => rfl
 | cons x r => simpa using h
theorem stR_wf {p : Prog} {S : RS} {h : Option Int} {T : ze} (hS : FitS p S) {n : Nat} (hn : nbR p <= n) (hT : ze.wf n T = true) : ze.wf n (stR p S h T) = true := by
 unfold ze.wf at hT ⊢
 simp only [stR, List.all_cons, List.all_append, Bool.and_eq_true]
 refine ⟨?_, ?_, hT⟩
 ·have h1 := rptrs_below n p.arrays 1 (by unfold nbR at hn; omega)
  simp [runR, Obj.below, belowL_acc, ints, below_acc _ _ _ h1]
 ·rw [List.all_eq_true]
  intro o ho
  simp only [zEb, List.mem_map] at ho
  obtain ⟨l, _, rfl⟩ := ho
  simp [intO, Obj.below]
def WTr (p : Prog) (T : ze) : Prop := ze.wf (nbR p + T.length) T = true
theorem vfind_spec {p : Prog} {S : RS} {ho : Option Int} {T : ze} {m k : Nat} {V : Vs} {h n : Int} {nm : List UInt8} (hS : FitS p S) (hF : FRr p T m k V h n) (hn : nm ∈ zJ V) (hV : V.length < 5000000000000) :
  zi E 126 [.ptr (nbR p + k) 0 0, .str nm] (stR p S ho T) = some (.ret (.int .i64 ((V.length - posV nm V : Nat) : Int)), stR p S ho T) := by
 obtain ⟨j, junk, _, _, h1, h2⟩ := hF.row
 have g1 := zqc (h := ho) (T := T) hS k
 have g2 := zqc (h := ho) (T := T) hS j
 rw [h1] at g1
 rw [h2] at g2
 have hp := posV_lt hn
 have hpn := posV_name hp
 have hrow : ∀ c (hc : c < V.length), (rowV V ++ junk)[V.length - c]? = some (.agg [.str V[c].1, .int .i64 V[c].2]) := by
  intro c hc
  rw [List.getElem?_append_left (by rw [zRc]; omega), rowV_get V c hc]; rfl
 refine zd rfl rfl rfl (by simp) ?_
 have hw : zB .i64 (V.length : Int) = (V.length : Int) := by rw [zj] <;> omega
 generalize stR p S ho T = σ at *
 clear hF h1 h2
 simp [*, F126]
 refine zDa K126_0 B126_0 (fun c : Nat => V.length - c) (fun c => [(5, .int .i64 ((V.length - c : Nat) : Int))]) (fun c => []) (fun c => σ) (fun c => c <= posV nm V) 0 (by simp) ?_
 intro c s1 hc q1 q2 q3 q4 q5
 simp at q1 q3 q5
 have hlt : c < V.length := by omega
 have hr := hrow c hlt
 have e0 : ((0 : Int) < ((V.length - c : Nat) : Int)) = True := eqp (by omega)
 have e1 : ((V.length - c : Nat) : Int).toNat = V.length - c := by omega
 have e2 : V.length - c < V.length + 1 := by omega
 have e3 : zB .i64 (((V.length - c : Nat) : Int) - 1) = ((V.length - (c + 1) : Nat) : Int) := by rw [zj] <;> omega
 have e4 : (0 : Int) <= ((V.length - c : Nat) : Int) := by omega
 by_cases hcp : c = posV nm V
 ·subst hcp
  rw [hpn] at hr
  generalize V[posV nm V].2 = val at hr
  clear hrow hc hw hpn hp hlt
  generalize ((V.length - posV nm V : Nat) : Int) = z at *
  simp [*]
 ·have hne : ¬ V[c].1 = nm := by
   intro e
   have : ¬ c < posV nm V := by
    intro hl
    have := List.not_of_lt_findIdx hl
    simp [e] at this
   omega
  have hle : c + 1 <= posV nm V := by omega
  have hmu : V.length - (c + 1) < V.length - c := by omega
  generalize V[c].1 = nx at hr hne
  generalize V[c].2 = vx at hr
  clear hrow hc hw hpn hp hlt
  replace hne := eqn hne
  generalize ((V.length - c : Nat) : Int) = z at *
  simp [*]
  exact ⟨c + 1, by omega, rfl, hle⟩
end PE.U

namespace PE.U
open Go PE
def isER (p : Prog) (T : ze) (q : Rt Int × RS) : CRes -> ze -> Prop := fun res st => ∃ x, res = .ret (.int .i64 x) /\ (∀ n, q.1 = .ok n -> x = n) /\ st = stR p q.2 (goH q.1) T
theorem zfd {p : Prog} {T : ze} {q : Rt Int × RS} {x : Option (CRes × ze)} (h : PC x (isER p T q)) : ∃ n, x = some (.ret (.int .i64 n), stR p q.2 (goH q.1) T) /\ ∀ z, q.1 = .ok z -> n = z := by
 obtain ⟨r, st, e, n, rfl, h1, rfl⟩ := zYd.1 h
 exact ⟨n, e, h1⟩
@[simp] theorem isER_ok (p : Prog) (T : ze) (n : Int) (S : RS) : isER p T (.ok n, S) (.ret (.int .i64 n)) (stR p S none T) = True := eq_true ⟨n, rfl, fun _ h => (by cases h; rfl), rfl⟩
@[simp] theorem isER_stop (p : Prog) (T : ze) (n k : Int) (S : RS) : isER p T (.stop k, S) (.ret (.int .i64 n)) (stR p S (some k) T) = True := eq_true ⟨n, rfl, fun _ h => (by cases h), rfl⟩
def capV : Nat := 5000000000000
structure SpecER (p : Prog) (w : Nat) : Prop where
 expr : ∀ e S T m k V h n, FitS p S -> S.fuel <= w -> okE p (zJ V) e -> wtE e < capE -> V.length < capV -> FRr p T m k V h n -> WTr p T →
  PC (zi E 125 [.ptr 0 0 0, .ptr (nbR p + k) 0 0, zp e] (stR p S none T)) (isER p T ((evF p w).expr e V S))
theorem both_of {p : Prog} {w : Nat} (hE : SpecER p w) {e : Expr} {S : RS} {T : ze} {m k : Nat} {V : Vs} {h n : Int} (hS : FitS p S) (hf : S.fuel <= w) (ho : okE p (zJ V) e) (hk : e.kind = 5) (hop : e.op = 18 \/ e.op = 19) (hw : wtE e < capE) (hV : V.length < capV) (hF : FRr p T m k V h n) (hT : WTr p T) :
  PC (zi E 146 [.ptr 0 0 0, .ptr (nbR p + k) 0 0, zp e] (stR p S none T)) (isER p T (shortW (evF p w) e V S)) := by
 rw [okE_eq] at ho
 obtain ⟨o1, _, _, _, o5⟩ := ho
 rw [hk] at o1
 have hl : e.args.length = 2 := by
  simp only [zyc] at o1
  simp at o1
  exact o1.2.2.2
 obtain ⟨x, y, hxy⟩ : ∃ x y, e.args = [x, y] := by
  match h : e.args, hl with
  | [x, y], _ => exact ⟨x, y, rfl⟩
 rw [zqd, hxy] at hw
 simp only [wtEs] at hw
 rw [hxy, okEs, okEs] at o5
 have h1 := hE.expr x S T m k V h n hS hf o5.1 (by omega) hV hF hT
 have m1 := (zUb p w).expr x V S
 refine zQ rfl rfl rfl (by simp [za]) ?_
 unfold shortW
 have e0 : arg0 e.args = x := by rw [hxy]; rfl
 have e1 : arg1 e.args = y := by rw [hxy]; rfl
 rw [e0, e1]
 have g0 : e.args[0]? = some x := by rw [hxy]; rfl
 have g1 : e.args[1]? = some y := by rw [hxy]; rfl
 generalize (evF p w).expr x V S = q at *
 obtain ⟨a, S1⟩ := q
 obtain ⟨z, h1, hz⟩ := zfd h1
 rw [za x] at h1
 have hov := zob p S1 (goH a) T
 cases a with
 | stop j =>
  clear hE hF hT hw hxy o1 o5 m1 hl e0 e1 hz
  simp [zc] at h1 hov
  simp [*, F146, za, zc]
 | ok b =>
  simp only
  replace hz := hz b rfl
  subst hz
  have h2 := hE.expr y S1 T m k V h n (hS.mono m1.1) (Nat.le_trans m1.1.fuel hf) o5.2.1 (by omega) hV hF hT
  generalize (evF p w).expr y V S1 = q at *
  obtain ⟨b2, S2⟩ := q
  obtain ⟨z2, h2, hz2⟩ := zfd h2
  rw [za y] at h2
  clear hE hF hT hw hxy o1 o5 m1 hl e0 e1
  simp [zc] at h1 hov h2
  have hc : (decide (z = 0) = decide (e.op = 18)) <-> ((!decide (z = 0)) == decide (e.op = 19)) = true := by
   rcases hop with h | h <;> by_cases hz0 : z = 0 <;> simp [h, hz0]
  by_cases hcc : decide (z = 0) = decide (e.op = 18)
  ·have hb := hc.1 hcc
   rw [if_pos hcc]
   clear h2 hc hcc hz2
   simp [*, F146, za, zc]
  ·have hb : ((!decide (z = 0)) == decide (e.op = 19)) = false := by
    cases hq : ((!decide (z = 0)) == decide (e.op = 19))
    ·rfl
    ·exact absurd (hc.2 hq) hcc
   rw [if_neg hcc]
   clear hc hcc
   cases b2 with
   | stop j => clear hz2; simp at h2; simp [*, F146, za, zc]
   | ok u =>
    replace hz2 := hz2 u rfl
    subst hz2
    simp at h2; simp [*, F146, za, zc]
def isSR (p : Prog) (T : ze) (m k : Nat) (V : Vs) (q : Rt (How × Vs) × RS) : CRes -> ze -> Prop := fun res st => ∃ T' V1 h n, res = .ret (.tup []) /\ st = stR p q.2 (goH q.1) T' /\ T.length <= T'.length /\ (∀ j, j < m -> T'[j]? = T[j]?) /\ WTr p T' /\ FRr p T' m k V1 h n /\ V.length <= V1.length ∧
 ∀ hh V2, q.1 = .ok (hh, V2) -> V1 = V2 /\ h = howN hh /\ ∀ x, hh = .ret x -> n = x
theorem isSR_get {p : Prog} {T : ze} {m k : Nat} {V : Vs} {q : Rt (How × Vs) × RS} {x : Option (CRes × ze)} (h : PC x (isSR p T m k V q)) : ∃ T' V1 h n, x = some (.ret (.tup []), stR p q.2 (goH q.1) T') /\ T.length <= T'.length /\ (∀ j, j < m -> T'[j]? = T[j]?) /\ WTr p T' /\ FRr p T' m k V1 h n /\ V.length <= V1.length ∧
  ∀ hh V2, q.1 = .ok (hh, V2) -> V1 = V2 /\ h = howN hh /\ ∀ x, hh = .ret x -> n = x := by
 obtain ⟨r, st, e, T', V1, h, n, rfl, rfl, h1⟩ := zYd.1 h
 exact ⟨T', V1, h, n, e, h1⟩
structure BlockR (p : Prog) (w : Nat) : Prop where
 block : ∀ l S T m k V n loop, FitS p S -> S.fuel <= w -> okB p (zJ V) loop l -> wtSs l < capE -> V.length + wtSs l < capV -> FRr p T m k V 0 n -> WTr p T →
  PC (zi E 74 [.ptr 0 0 0, .ptr (nbR p + k) 0 0, zh l] (stR p S none T)) (isSR p T m k V (zba (evF p w) l V S))
structure CSr where
 d : Nat
 T : ze
theorem bindV_len {ps : List Par} {l : List Int} (h : l.length = ps.length) : (zBc ps l).length = l.length := by
 simp [zBc, h]
theorem bindV_names {ps : List Par} {l : List Int} (h : l.length = ps.length) : zJ (zBc ps l) = (ps.map (·.name)).reverse := by
 simp only [zBc, zJ, List.map_reverse]
 congr 1
 rw [List.map_fst_zip]
 simp [h]
theorem bindV_succ {ps : List Par} {l : List Int} {d : Nat} {x : Par} {n : Int} (hx : ps[d]? = some x) (hn : l[d]? = some n) : zBc (ps.take (d + 1)) (l.take (d + 1)) = (x.name, n) :: zBc (ps.take d) (l.take d) := by
 have h1 : ps.take (d + 1) = ps.take d ++ [x] := by rw [List.take_add_one, hx]; rfl
 have h2 : l.take (d + 1) = l.take d ++ [n] := by rw [List.take_add_one, hn]; rfl
 have h3 : d <= ps.length := by have := (List.getElem?_eq_some_iff.1 hx).1; omega
 have h4 : d <= l.length := by have := (List.getElem?_eq_some_iff.1 hn).1; omega
 rw [h1, h2]
 unfold zBc
 rw [List.map_append, List.zip_append (by simp; omega)]
 simp
theorem FRr_push {p : Prog} {T : ze} {m k : Nat} {V : Vs} {h n : Int} (x : List UInt8 × Int) (hF : FRr p T m k V h n) (hT : WTr p T) (hm : m <= T.length) : ∃ j junk, j ≠ k /\ T[k]? = some (.arr 3 [.agg [.mslice (nbR p + j) 0 (V.length + 1) 2, .int .i64 h, .int .i64 n]]) /\ T[j]? = some (.arr 2 (rowV V ++ junk)) ∧
  (let T1 := (T.set j (Obj.dead 2) ++ [Obj.arr 2 (rowV (x :: V))]).set k (.arr 3 [.agg [.mslice (nbR p + T.length) 0 (V.length + 1 + 1) 2, .int .i64 h, .int .i64 n]]);
   FRr p T1 m k (x :: V) h n /\ WTr p T1 /\ T.length <= T1.length /\ (∀ i, i < m -> T1[i]? = T[i]?) /\ (T.set j (Obj.dead 2) ++ [Obj.arr 2 (rowV (x :: V))])[k]? = some (.arr 3 [.agg [.mslice (nbR p + j) 0 (V.length + 1) 2, .int .i64 h, .int .i64 n]])) := by
 obtain ⟨j, junk, j1, j2, h1, h2⟩ := hF.row
 have hk := (List.getElem?_eq_some_iff.1 h1).1
 have hj := (List.getElem?_eq_some_iff.1 h2).1
 have hmk := hF.lo
 refine ⟨j, junk, j2, h1, h2, ⟨hmk, T.length, [], hm, by omega, ?_, ?_⟩, ?_, ?_, ?_, ?_⟩
 ·rw [List.getElem?_set_self (by simp; omega)]
  simp
 ·rw [List.getElem?_set_ne (by omega), List.getElem?_append_right (by simp)]
  simp
 ·unfold WTr at hT ⊢
  simp only [List.length_set, List.length_append, List.length_cons, List.length_nil]
  refine wf_set ?_ ?_
  ·rw [wf_app, Bool.and_eq_true]
   refine ⟨wf_set (wf_le (by omega) hT) rfl, ?_⟩
   simp only [ze.wf, List.all_cons, List.all_nil, Bool.and_true, Obj.below, rowV, belowL_cons, below_agg]
   simp only [below_str, below_int, belowL_nil, Bool.and_true, Bool.true_and]
   exact zqb _ _ _ (fun x => by simp [encPl])
  ·simp [Obj.below]
 ·simp
 ·intro i hi
  rw [List.getElem?_set_ne (by omega), List.getElem?_append_left (by simp; omega), List.getElem?_set_ne (by omega)]
 ·rw [List.getElem?_append_left (by simpa using hk), List.getElem?_set_ne j2]
  exact h1
theorem rowV_cons (x : List UInt8 × Int) (V : Vs) : rowV (x :: V) = rowV V ++ [.agg [.str x.1, .int .i64 x.2]] := by simp [rowV, encPl]
theorem push_facts {p : Prog} {S : RS} {T : ze} {m k : Nat} {V : Vs} {h n : Int} (x : List UInt8 × Int) (hS : FitS p S) (hF : FRr p T m k V h n) (hT : WTr p T) (hm : m <= T.length) : ∃ j R T1 T2,
  (stR p S none T)[nbR p + k]? = some (.arr 3 [.agg [.mslice (nbR p + j) 0 (V.length + 1) 2, .int .i64 h, .int .i64 n]]) ∧
  (stR p S none T)[nbR p + j]? = some (.arr 2 R) /\ V.length + 1 <= R.length /\ (R.take (V.length + 1)).map stripA = rowV V ∧
  (stR p S none T).set (nbR p + j) (.dead 2) ++ [.arr 2 (rowV V ++ [.agg [.str x.1, .int .i64 x.2]])] = stR p S none T2 ∧
  (stR p S none T2)[nbR p + k]? = some (.arr 3 [.agg [.mslice (nbR p + j) 0 (V.length + 1) 2, .int .i64 h, .int .i64 n]]) ∧
  (stR p S none T2).set (nbR p + k) (.arr 3 [.agg [.mslice (nbR p + T.length) 0 (V.length + 1 + 1) 2, .int .i64 h, .int .i64 n]]) = stR p S none T1 ∧
  FRr p T1 m k (x :: V) h n /\ WTr p T1 /\ T.length <= T1.length /\ (∀ i, i < m -> T1[i]? = T[i]?) := by
 obtain ⟨j, junk, j2, h1, h2, p1, p2, p3, p4, p5⟩ := FRr_push x hF hT hm
 refine ⟨j, rowV V ++ junk, _, T.set j (Obj.dead 2) ++ [Obj.arr 2 (rowV (x :: V))], ?_, ?_, ?_, ?_, ?_, ?_, ?_, p1, p2, p3, p4⟩
 ·rw [zqc hS, h1]
 ·rw [zqc hS, h2]
 ·rw [List.length_append, zRc]; omega
 ·rw [List.take_append_of_le_length (by rw [zRc]; omega), List.take_of_length_le (by rw [zRc]; omega), rowV_strip]
 ·rw [stR_set hS, stR_app, rowV_cons]
 ·rw [zqc hS]; exact p5
 ·rw [stR_set hS]
set_option maxHeartbeats 4000000 in
theorem rcall_of {p : Prog} (hP : OkP p) {w : Nat} (hB : BlockR p w) {f : Func} {i : Nat} (hi : p.funcs[i]? = some f) {S : RS} {T : ze} {l : List Int} (hS : FitS p S) (hw : S.fuel <= w) (hl : l.length = f.params.length) (hT : WTr p T) :
  PC (zi E 34 [.ptr 0 0 0, .int .i64 i, ints l] (stR p S none T)) (isER p T (callW (evF p w) f l S)) := by
 have hf := List.mem_of_getElem? hi
 obtain ⟨z1, z2, z3⟩ := hP.sz
 obtain ⟨f1, f2⟩ := z3 f hf
 obtain ⟨ok1, ok2, ok3⟩ := hP.fn f hf
 have hlen := stR_len (h := none) (T := T) hS
 have hret := blockW_ret (evF_fx p w) f.body _ (zBc f.params l) S ok1 ok2
 have hmono := (zdc (zUb p w) f.body (zBc f.params l) S).1
 have hblk : ∀ T', FRr p T' T.length (T.length + 1) (zBc f.params l) 0 0 -> WTr p T' -> PC (zi E 74 [.ptr 0 0 0, .ptr (nbR p + (T.length + 1)) 0 0, zh f.body] (stR p S none T')) (isSR p T' T.length (T.length + 1) (zBc f.params l) (zba (evF p w) f.body (zBc f.params l) S)) := by
  intro T' h1 h2
  exact hB.block f.body S T' _ _ _ _ false hS hw (by rw [bindV_names hl]; exact ok1) (by unfold capE; omega) (by rw [bindV_len hl]; unfold capV; omega) h1 h2
 refine zQ rfl rfl rfl (by simp [ints]) ?_
 unfold callW
 generalize zba (evF p w) f.body (zBc f.params l) S = q at *
 obtain ⟨a, S1⟩ := q
 have hS1 := hS.mono hmono
 -- the frame, as it is made
 have hF0 : FRr p (T ++ [.arr 2 (rowV []), .arr 3 [.agg [.mslice (nbR p + T.length) 0 1 2, .int .i64 0, .int .i64 0]]]) T.length (T.length + 1) [] 0 0 := by
  refine ⟨by omega, T.length, [], Nat.le_refl _, by omega, ?_, ?_⟩
  ·rw [List.getElem?_append_right (by omega)]; simp
  ·rw [List.getElem?_append_right (Nat.le_refl _)]; simp
 have hT0 : WTr p (T ++ [.arr 2 (rowV []), .arr 3 [.agg [.mslice (nbR p + T.length) 0 1 2, .int .i64 0, .int .i64 0]]]) := by
  unfold WTr
  rw [wf_app, Bool.and_eq_true]
  refine ⟨wf_le (by simp) hT, ?_⟩
  simp [ze.wf, Obj.below, rowV]
 have htk : ∀ T' : ze, T.length <= T'.length -> (∀ j, j < T.length -> T'[j]? = T[j]?) -> T'.take T.length = T := by
  intro T' h1 h2
  apply List.ext_getElem?
  intro j
  rw [List.getElem?_take]
  split
  ·rename_i hj; exact h2 j hj
  ·rename_i hj; rw [List.getElem?_eq_none (by omega)]
 have hwf : ∀ h : Option Int, ze.wf (nbR p + T.length) (stR p S1 h T) = true := fun h => stR_wf hS1 (by omega) hT
 have hvp : (zm f) = .agg [.str f.name, .int .i64 f.type, parsV f.params, zh f.body] := rfl
 have hln : (l.length : Int) < 2000000000000 := by omega
 have hlen1 : ∀ X, (stR p S none (T ++ [X])).length = nbR p + (T.length + 1) := by intro X; rw [stR_len hS]; simp
 simp [*, F34, funcs, zm, ints, stR_app]
 refine zDa K34_0 B34_0 (fun c : CSr => l.length - c.d) (fun c => [(9, .int .i64 c.d)]) (fun c => []) (fun c => stR p S none c.T)
  (fun c => c.d <= l.length /\ FRr p c.T T.length (T.length + 1) (zBc (f.params.take c.d) (l.take c.d)) 0 0 /\ WTr p c.T /\ T.length <= c.T.length /\ ∀ j, j < T.length -> c.T[j]? = T[j]?) ⟨0, T ++ [.arr 2 (rowV []), .arr 3 [.agg [.mslice (nbR p + T.length) 0 1 2, .int .i64 0, .int .i64 0]]]⟩ ?_ ?_
 ·have hb : zBc (f.params.take 0) (l.take 0) = [] := by simp [zBc]
  have hj : ∀ j, j < T.length -> (T ++ [.arr 2 (rowV []), .arr 3 [.agg [.mslice (nbR p + T.length) 0 1 2, .int .i64 0, .int .i64 0]]])[j]? = T[j]? := fun j hj => List.getElem?_append_left hj
  rw [<- hb] at hF0
  refine ⟨by simp, by simp, ?_, Nat.zero_le _, hF0, hT0, by simp, hj⟩
  simp [rowV, hlen]
 ·rintro ⟨d, T1⟩ s1 ⟨d1, d2, d3, d4, d5⟩ g1 g2 g3 g4 g5
  simp at d1 d2 d3 d4 d5 g1 g2 g3 g4 g5
  by_cases hd : d < l.length
  ·obtain ⟨x, hx⟩ : ∃ x, f.params[d]? = some x := ⟨_, List.getElem?_eq_getElem (by omega)⟩
   obtain ⟨n, hn⟩ : ∃ n, l[d]? = some n := ⟨_, List.getElem?_eq_getElem hd⟩
   have hb := bindV_succ hx hn
   have hbl : (zBc (f.params.take d) (l.take d)).length = d := by rw [bindV_len (by simp; omega)]; simp; omega
   obtain ⟨j, R, T2, T3, e1, e2, e3, e4, e5, e6, e7, e8, e9, e10, e11⟩ := push_facts (x.name, n) hS d2 d3 (by omega)
   rw [hbl] at e1 e3 e4 e6 e7
   rw [<- hb] at e8
   have hdec : decide (d < l.length) = true := by simp; exact hd
   have hw : zB .i64 ((d : Int) + 1) = (d : Int) + 1 := zj (by omega) (by omega)
   have hroom : (d + 1 + 1) * 24 <= zw := by simp only [zw]; omega
   have hrl := zRc (zBc (f.params.take d) (l.take d))
   rw [hbl] at hrl
   have h0 : 0 < d + 1 := by omega
   have hmu : l.length - (d + 1) < l.length - d := by omega
   have hle : d + 1 <= l.length := by omega
   have hTl : (stR p S none T1).length = nbR p + T1.length := stR_len hS
   have e12 : T.length <= T2.length := by omega
   have e13 : ∀ j, j < T.length -> T2[j]? = T[j]? := fun j hj => (e11 j hj).trans (d5 j hj)
   clear hwf htk hS1 hblk hret hmono hF0 hT0 hP hB hS hT hf z1 z2 z3 f1 f2 ok1 ok2 ok3 d1 d2 d3 d4 d5 hd hb hlen hl hi
   generalize rowV (zBc (f.params.take d) (l.take d)) = RV at *
   simp [*, encPar, parsV]
   exact ⟨⟨d + 1, T2⟩, by simp [*]; exact e13⟩
  ·have hdl : d = l.length := by omega
   subst hdl
   have t1 : f.params.take l.length = f.params := by rw [hl]; exact List.take_length
   have t2 : l.take l.length = l := List.take_length
   rw [t1, t2] at d2
   obtain ⟨T2, V1, h1, n1, b1, b2, b3, b4, b5, b6, b7⟩ := isSR_get (hblk T1 d2 d3)
   obtain ⟨j, junk, _, _, c1, _⟩ := b5.row
   have hg := zqc (h := goH a) (T := T2) hS1 (T.length + 1)
   rw [c1] at hg
   have hk := htk T2 (by omega) (fun j hj => (b3 j hj).trans (d5 j hj))
   have htake : (stR p S1 (goH a) T2).take (nbR p + T.length) = stR p S1 (goH a) T := by rw [stR_take hS1, hk]
   have hwf := hwf (goH a)
   have hle : nbR p + T.length <= (stR p S1 (goH a) T2).length := by rw [stR_len hS1]; omega
   have hres : isER p T (match ((a, S1) : Rt (How × Vs) × RS) with
     | (.ok (.ret n, _), S1) => (.ok n, S1)
     | (.ok (_, _), S1) => (.ok 0, S1)
     | (.stop k, S1) => (.stop k, S1)) (.ret (.int .i64 n1)) (stR p S1 (goH a) T) := by
    cases a with
    | stop j => simp
    | ok y =>
     obtain ⟨hh, V2⟩ := y
     obtain ⟨z, rfl⟩ := hret hh V2 rfl
     have := (b7 _ _ rfl).2.2 z rfl
     subst this
     simp
   simp only at b1
   clear hblk hret hmono hF0 hT0 hP hB hT hf z1 z2 z3 f1 f2 ok1 ok2 ok3 d1 d2 d3 d4 d5 hd hl hi htk b2 b3 b4 b5 b6 b7 c1 hk hS hS1
   simp [*, fin]
   exact hres
end PE.U

namespace PE.U
open Go PE
def endW (p : Prog) (ev : Ev) (e : Expr) (V : Vs) (l : List Int) (S : RS) : Rt Int × RS :=
 if e.kind = 1 \/ e.kind = 2 then (.ok e.n, S)
 else if e.kind = 3 then (.ok (getV e.name V), S)
 else madeW p ev e l (zO S)
theorem exprW_alt {p : Prog} {ev : Ev} {e : Expr} {V : Vs} {S : RS} (hk : zyc e.kind e.op e.n e.name e.args.length = true) (h5 : ¬ (e.kind = 5 /\ (e.op = 18 \/ e.op = 19))) : exprW p ev e V S = match zid ev V e.args [] S with
  | (.stop j, S1) => (.stop j, S1)
  | (.ok l, S1) => endW p ev e V l S1 := by
 have h0 : (e.kind = 1 \/ e.kind = 2 \/ e.kind = 3) -> e.args = [] := by
  intro h
  rcases h with h | h | h <;> rw [h] at hk <;> simp [zyc] at hk <;> grind
 unfold exprW
 by_cases k1 : e.kind = 1 \/ e.kind = 2
 ·rw [if_pos k1, h0 (by omega)]
  simp only [zid, endW]
  rw [if_pos k1]
 rw [if_neg k1]
 by_cases k3 : e.kind = 3
 ·rw [if_pos k3, h0 (by omega)]
  simp only [zid, endW]
  rw [if_neg k1, if_pos k3]
 rw [if_neg k3, if_neg h5]
 generalize zid ev V e.args [] S = q
 obtain ⟨a, S1⟩ := q
 cases a with
 | stop j => rfl
 | ok l => simp only [endW]; rw [if_neg k1, if_neg k3]
structure ARs where
 rest : List Expr
 acc : List Int
 S : RS
set_option maxHeartbeats 8000000 in
theorem rexpr_of {p : Prog} (hP : OkP p) {w : Nat} (hE : SpecER p w) (hB : BlockR p w) : SpecER p (w + 1) := by
 refine ⟨fun e S T m k V h n hS hf ho hw hV hF hT => ?_⟩
 have hstep := rstep_spec p S T (by have := hS.2; omega)
 have hoe := ho
 rw [okE_eq] at ho
 obtain ⟨o1, o3, o6, o7, oa⟩ := ho
 have hla := zxc e.args
 have hwe := zqd e
 refine zQ rfl rfl rfl (by simp [za]) ?_
 simp only [evF]
 cases hfu : S.fuel with
 | zero =>
  rw [hfu] at hstep
  clear o1 o3 o6 o7 oa
  simp [*, F125, za, zc]
 | succ k' =>
  rw [hfu] at hstep
  simp only at hstep ⊢
  have hS0 : FitS p { S with fuel := k' } := hS.mono ⟨by simp only; omega, by simp only; omega, rfl⟩
  have hf0 : ({ S with fuel := k' } : RS).fuel <= w := by simp only; omega
  generalize hSS : ({ S with fuel := k' } : RS) = S0 at *
  clear hSS hfu hf hS
  by_cases k5 : e.kind = 5 /\ (e.op = 18 \/ e.op = 19)
  ·have hsh := both_of hE hS0 hf0 hoe k5.1 k5.2 hw hV hF hT
   have he : exprW p (evF p w) e V S0 = shortW (evF p w) e V S0 := by
    unfold exprW
    rw [if_neg (by omega), if_neg (by omega), if_pos k5]
   rw [he]
   generalize shortW (evF p w) e V S0 = q at *
   obtain ⟨a, S1⟩ := q
   obtain ⟨z, hsh, hz⟩ := zfd hsh
   rw [za] at hsh
   have hfin : isER p T (a, S1) (.ret (.int .i64 z)) (stR p S1 (goH a) T) := ⟨z, rfl, hz, rfl⟩
   obtain ⟨k5, hop⟩ := k5
   replace k5 := eqp k5
   clear o1 o3 o6 o7 oa hoe hE hB hP he hz
   simp [zc] at hsh
   rcases hop with hop | hop
   ·replace hop := eqp hop
    simp [*, F125, za, zc]
   ·have h18 : (e.op = 18) = False := eqn (by omega)
    replace hop := eqp hop
    simp [*, F125, za, zc]
  rw [exprW_alt o1 k5]
  have hop : (e.kind = 5) = False \/ ((e.kind = 5) = True /\ (e.op = 18) = False /\ (e.op = 19) = False) := by
   by_cases h : e.kind = 5
   ·exact .inr ⟨eqp h, eqn (fun h' => k5 ⟨h, .inl h'⟩), eqn (fun h' => k5 ⟨h, .inr h'⟩)⟩
   ·exact .inl (eqn h)
  have hin : ∀ x ∈ e.args, ∀ S1, FitS p S1 -> S1.fuel <= w -> PC (zi E 125 [.ptr 0 0 0, .ptr (nbR p + k) 0 0, zp x] (stR p S1 none T)) (isER p T ((evF p w).expr x V S1)) := by
   intro x hx S1 h1 h2
   have := zUa hx
   exact hE.expr x S1 T m k V h n h1 h2 (zQd oa hx) (by omega) hV hF hT
  have hlp : F125 = F125 := rfl
  clear hoe hE oa k5 hlp
  have key : zka (exec (zi E) F125.body { fr := frOf [.ptr 0 0 0, .ptr (nbR p + k) 0 0, zp e] 0, bx := fun _ => .no, st := stR p S none T })
   (leaveQ F125.res F125.freeze (stR p S none T).length (isER p T (match zid (evF p w) V e.args [] S0 with
    | (.stop j, S1) => (.stop j, S1)
    | (.ok l, S1) => endW p (evF p w) e V l S1))) := by
   rcases hop with k5 | ⟨k5, k18, k19⟩
   all_goals
    simp [hstep, k5, F125, za, zc]
    try simp [k18, k19]
    refine zDa K125_0 B125_0 (fun c : ARs => c.rest.length) (fun c => [(7, acc 1 (c.acc.map (PV.int .i64))), (8, .int .i64 c.acc.length)]) (fun c => []) (fun c => stR p c.S none T)
     (fun c => ∃ d, e.args = d ++ c.rest /\ d.length = c.acc.length /\ zid (evF p w) V e.args [] S0 = zid (evF p w) V c.rest c.acc c.S /\ FitS p c.S /\ c.S.fuel <= w) ⟨e.args, [], S0⟩ ?_ ?_
    ·simp [hS0, hf0]
    ·rintro ⟨rest, ac, S1⟩ s1 ⟨d, d1, d2, d3, d4, d5⟩ g1 g2 g3 g4 g5
     simp at d1 d2 d3 d4 d5 g1 g2 g3 g4 g5
     cases rest with
     | nil =>
      have hlen : ac.length = e.args.length := by rw [d1, <- d2]; simp
      have d3' : zid (evF p w) V e.args [] S0 = (.ok ac, S1) := d3
      rw [d3']
      simp only
      have hle : decide (ac.length < e.args.length) = false := by simp [hlen]
      have hov := zob p S1 none T
      rw [<- hlen] at o1 o7
      clear hin d1 d2 d3 d3' hstep hlen
      by_cases k1 : e.kind = 1
      ·have hcon : (e.kind = 5) = True -> False := fun h => by have := of_eq_true h; omega
       have he : endW p (evF p w) e V ac S1 = (.ok e.n, S1) := by unfold endW; rw [if_pos (.inl k1)]
       rw [he]
       replace k1 := eqp k1
       clear o1 o3 o6 o7 he
       first | exact (hcon k5).elim | (simp [*, zc]; done)
      by_cases k2 : e.kind = 2
      ·have hcon : (e.kind = 5) = True -> False := fun h => by have := of_eq_true h; omega
       have he : endW p (evF p w) e V ac S1 = (.ok e.n, S1) := by unfold endW; rw [if_pos (.inr k2)]
       rw [he]
       replace k1 := eqn k1
       replace k2 := eqp k2
       clear o1 o3 o6 o7 he
       first | exact (hcon k5).elim | (simp [*, zc]; done)
      by_cases k3 : e.kind = 3
      ·have hcon : (e.kind = 5) = True -> False := fun h => by have := of_eq_true h; omega
       have he : endW p (evF p w) e V ac S1 = (.ok (getV e.name V), S1) := by unfold endW; rw [if_neg (by omega), if_pos k3]
       rw [he]
       have hm := o3 k3
       have hp := posV_lt hm
       have hfi := vfind_spec (ho := none) d4 hF hm (by unfold capV at hV; exact hV)
       obtain ⟨j, junk, _, _, c1, c2⟩ := hF.row
       have q1 := zqc (h := none) (T := T) d4 k
       have q2 := zqc (h := none) (T := T) d4 j
       rw [c1] at q1
       rw [c2] at q2
       have hel : (rowV V ++ junk)[V.length - posV e.name V]? = some (.agg [.str V[posV e.name V].1, .int .i64 (getV e.name V)]) := by
        rw [List.getElem?_append_left (by rw [zRc]; omega), rowV_get V _ hp]
        simp only [encPl, posV_get hp]
       generalize V[posV e.name V].1 = nx at hel
       generalize (rowV V ++ junk) = R at *
       have e2 : V.length - posV e.name V < V.length + 1 := by omega
       replace k1 := eqn k1
       replace k2 := eqn k2
       replace k3 := eqp k3
       clear o1 o3 o6 o7 he c1 c2 hF hm hp d4
       generalize V.length - posV e.name V = z at *
       first | exact (hcon k5).elim | (simp [*, zc]; done)
      have he : endW p (evF p w) e V ac S1 = madeW p (evF p w) e ac (zO S1) := by unfold endW; rw [if_neg (by omega), if_neg k3]
      rw [he]
      clear he
      have d6 := d4.cost
      have d7 : (zO S1).fuel <= w := d5
      replace k1 := eqn k1
      replace k2 := eqn k2
      replace k3 := eqn k3
      unfold madeW
      by_cases k4 : e.kind = 4
      ·have hcon : (e.kind = 5) = True -> False := fun h => by have := of_eq_true h; omega
       rw [if_pos k4]
       have h1 : ac.length = 1 := by
        rw [k4] at o1; simp [zyc] at o1; omega
       obtain ⟨x, rfl⟩ := List.length_eq_one_iff.1 h1
       have hone := rone_spec e.op x []
       rw [rone_eq, one_eqC] at hone
       have e0 : at0 [x] = x := rfl
       rw [e0]
       have hle1 : decide ((1 : Int) < (e.args.length : Int)) = false := by simp at hle ⊢; omega
       replace k4 := eqp k4
       clear o1 o3 o6 o7 hF d4 hle h1
       first | exact (hcon k5).elim | (simp [*, zc]; done)
      rw [if_neg k4]
      by_cases k6 : e.kind = 6
      ·have hcon : (e.kind = 5) = True -> False := fun h => by have := of_eq_true h; omega
       rw [if_pos k6]
       have h1 : ac.length = 1 := by
        rw [k6] at o1; simp [zyc] at o1; omega
       obtain ⟨x, rfl⟩ := List.length_eq_one_iff.1 h1
       have e0 : at0 [x] = x := rfl
       rw [e0]
       obtain ⟨i, row, a1, a2, a3, a4⟩ := rarr_at d6 (o6 k6)
       have hcell := rcell_spec (T := T) x (by have := hP.sz.1; omega) a1 a3 a4
       have hr := stR_row (h := none) (T := T) (p := p) a3
       have hra := zJc p e.name (by have := hP.sz.1; omega)
       rw [a1] at hra
       simp [zf] at hra
       unfold cellAt
       rw [a1]
       simp only [Int.toNat_natCast, a3, Option.bind_some]
       have hle1 : decide ((1 : Int) < (e.args.length : Int)) = false := by simp at hle ⊢; omega
       by_cases hx : 0 <= x /\ x < row.length
       ·rw [if_pos hx] at hcell
        have hn : ¬ x < 0 := by omega
        have hx0 : 0 <= x := hx.1
        have hlt : x.toNat < row.length := by omega
        rw [if_neg hn]
        obtain ⟨y, hy⟩ : ∃ y, row[x.toNat]? = some y := ⟨_, List.getElem?_eq_getElem hlt⟩
        have hyy : row[x.toNat]'hlt = y := by rw [List.getElem?_eq_getElem hlt] at hy; exact Option.some.inj hy
        have hx2 : x < row.length := hx.2
        rw [hy]
        replace k6 := eqp k6
        replace k4 := eqn k4
        clear o1 o3 o6 o7 hF d4 hle h1 hx hn a2
        first | exact (hcon k5).elim | (simp [*, zc]; done)
       ·rw [if_neg hx] at hcell
        have hnone : (if x < 0 then none else row[x.toNat]?) = none := by
         split
         ·rfl
         ·rw [List.getElem?_eq_none]; omega
        rw [hnone]
        replace k6 := eqp k6
        replace k4 := eqn k4
        clear o1 o3 o6 o7 hF d4 hle h1 hx hnone a2
        first | exact (hcon k5).elim | (simp [*, zc]; done)
      rw [if_neg k6]
      by_cases k8 : e.kind = 8
      ·have hcon : (e.kind = 5) = True -> False := fun h => by have := of_eq_true h; omega
       rw [if_pos k8]
       have h1 : ac = [] := by
        rw [k8] at o1; simp [zyc] at o1; grind
       subst h1
       have hle1 : decide (0 < e.args.length) = false := by simp at hle ⊢; exact hle
       have hk7 : (e.kind = 7) = False := eqn (by omega)
       have hk5 : (e.kind = 5) = False := eqn (by omega)
       replace k4 := eqn k4
       replace k6 := eqn k6
       replace k8 := eqp k8
       clear o1 o3 o6 o7 hF d4 hle
       have hic : (zO S1).inp = S1.inp := rfl
       rw [hic]
       cases hi : S1.inp with
       | nil =>
        have hsc := setR_cost p S1 T
        simp only [ints, hi, List.map_nil] at hsc
        have hs4 := setR_4 p (zO S1) T
        rw [hic, hi] at hs4
        simp only [ints, List.map_nil] at hs4
        first | exact (hcon k5).elim | (simp [*, zc, ints]; done)
       | cons u r =>
        have hne : ¬ ((r.length : Int) + 1 = 0) := by omega
        have ht : List.take r.length (r.map (PV.int .i64)) = r.map (PV.int .i64) := by rw [List.take_of_length_le]; simp
        have hs := setR_inp p (zO S1) T r
        have hsc := setR_cost p S1 T
        simp only [ints, hi, List.map_cons] at hsc
        first | exact (hcon k5).elim | (simp [*, zc, ints]; done)
      rw [if_neg k8]
      by_cases k7 : e.kind = 7
      ·have hcon : (e.kind = 5) = True -> False := fun h => by have := of_eq_true h; omega
       rw [if_pos k7]
       obtain ⟨f, hf', hfl⟩ := o7 k7
       have hpl := zIc p e.name (by have := hP.sz.2.1; omega)
       rcases zkb (fun f : Func => decide (f.name = e.name)) p.funcs with ⟨a1, a2⟩ | ⟨i, g, a1, a2, a3, a4, a5⟩
       ·have a2 : zSa p e.name = none := a2
        rw [a2] at hf'; cases hf'
       have a3 : zSa p e.name = some g := a3
       have a1 : zla p e.name = i := a1
       rw [a3, Option.some.injEq] at hf'
       subst hf'
       rw [a3]
       simp only
       rw [a1] at hpl
       have hcall := rcall_of hP hB a2 d6 d7 hfl.symm hT
       generalize callW (evF p w) g ac (zO S1) = q at *
       obtain ⟨a, S2⟩ := q
       obtain ⟨z, hcall, hz⟩ := zfd hcall
       have hfin : isER p T (a, S2) (.ret (.int .i64 z)) (stR p S2 (goH a) T) := ⟨z, rfl, hz, rfl⟩
       simp [ints] at hcall
       simp [zf] at hpl
       replace k4 := eqn k4
       replace k6 := eqn k6
       replace k8 := eqn k8
       replace k7 := eqp k7
       clear o1 o3 o6 o7 hF d4 a3 a4 a5 a1 hB hP hz
       first | exact (hcon k5).elim | (simp [*, zc]; done)
      rw [if_neg k7]
      have k5' : e.kind = 5 := by
       by_cases k5' : e.kind = 5
       ·exact k5'
       ·exfalso
        unfold zyc at o1
        rw [if_neg (by simpa using k1), if_neg (by simpa using k2), if_neg (by simpa using k3), if_neg k4, if_neg k5', if_neg k6, if_neg k7, if_neg k8] at o1
        cases o1
      have hcon : (e.kind = 5) = False -> False := fun h => of_eq_false h k5'
      have h2 : ac.length = 2 := by
       rw [k5'] at o1; simp [zyc] at o1; omega
      obtain ⟨x, y, hxy⟩ : ∃ x y, ac = [x, y] := by
       match h : ac, h2 with
       | [x, y], _ => exact ⟨x, y, rfl⟩
      subst hxy
      have e0 : at0 [x, y] = x := rfl
      have e1 : at1 [x, y] = y := rfl
      rw [e0, e1]
      have hle1 : decide ((2 : Int) < (e.args.length : Int)) = false := by simp at hle ⊢; omega
      have htwo := rtwo_spec e.op x y []
      rw [two_eqC] at htwo
      generalize twoC e.op x y = q at *
      obtain ⟨u, ok⟩ := q
      simp only at htwo ⊢
      replace k4 := eqn k4
      replace k6 := eqn k6
      replace k8 := eqn k8
      replace k7 := eqn k7
      replace k5' := eqp k5'
      clear o1 o3 o6 o7 hF d4 hle h2
      first | exact (hcon k5).elim | (cases ok <;> simp [*, zc]; done)
     | cons x rest =>
      have hx : e.args[ac.length]? = some x := by rw [d1, <- d2]; simp
      have hlt : decide (ac.length < e.args.length) = true := by rw [d1, <- d2]; simp
      have hlt2 : ac.length < e.args.length := by rw [d1, <- d2]; simp
      have hc := hin x (by rw [d1]; simp) S1 d4 d5
      have hm := ((zUb p w).expr x V S1).1
      have hwr : zB .i64 ((ac.length : Int) + 1) = (ac.length : Int) + 1 := zj (by omega) (by unfold capE at hw; omega)
      have hroom : (ac.length + 1) * 8 <= zw := by simp only [zw]; unfold capE at hw; omega
      have d3' : zid (evF p w) V e.args [] S0 = (match (evF p w).expr x V S1 with
       | (.ok n, S2) => zid (evF p w) V rest (ac ++ [n]) S2
       | (.stop k, S2) => (.stop k, S2)) := d3
      generalize (evF p w).expr x V S1 = q at *
      obtain ⟨a, S2⟩ := q
      obtain ⟨z, hc, hz⟩ := zfd hc
      rw [za] at hc
      have hov := zob p S2 (goH a) T
      have d6 := d4.mono hm
      have d7 : S2.fuel <= w := Nat.le_trans hm.fuel d5
      clear hin d3 d4 d5 hm hstep hlt2
      cases a with
      | stop k =>
       simp only at d3'
       rw [d3']
       simp [zc] at hc hov
       clear d1 d2 d3' hz
       simp [*, za, zc]
      | ok u =>
       simp only at d3'
       replace hz := hz u rfl
       subst hz
       simp [zc] at hc hov
       have hex : ∃ d', e.args = d' ++ rest /\ d'.length = ac.length + 1 := ⟨d ++ [x], by rw [d1]; simp, by simp [d2]⟩
       clear d1 d2
       simp [*, za, zc]
       refine ⟨⟨rest, ac ++ [z], S2⟩, ?_⟩
       simp [*]
  exact key
end PE.U

namespace PE.U
open Go PE
theorem frame_facts {p : Prog} {S : RS} {ho : Option Int} {T : ze} {m k : Nat} {V : Vs} {h n : Int} (hS : FitS p S) (hF : FRr p T m k V h n) : ∃ j R, (stR p S ho T)[nbR p + k]? = some (.arr 3 [.agg [.mslice (nbR p + j) 0 (V.length + 1) 2, .int .i64 h, .int .i64 n]]) /\ (stR p S ho T)[nbR p + j]? = some (.arr 2 R) /\ V.length + 1 <= R.length := by
 obtain ⟨j, junk, _, _, h1, h2⟩ := hF.row
 refine ⟨j, rowV V ++ junk, ?_, ?_, ?_⟩
 ·rw [zqc hS, h1]
 ·rw [zqc hS, h2]
 ·rw [List.length_append, zRc]; omega
theorem frame_how {p : Prog} {S : RS} {ho : Option Int} {T : ze} {m k : Nat} {V : Vs} {h n : Int} (h' n' : Int) (hS : FitS p S) (hF : FRr p T m k V h n) (hT : WTr p T) : ∃ j T1, (stR p S ho T)[nbR p + k]? = some (.arr 3 [.agg [.mslice (nbR p + j) 0 (V.length + 1) 2, .int .i64 h, .int .i64 n]]) ∧
  (stR p S ho T).set (nbR p + k) (.arr 3 [.agg [.mslice (nbR p + j) 0 (V.length + 1) 2, .int .i64 h', .int .i64 n']]) = stR p S ho T1 /\ FRr p T1 m k V h' n' /\ WTr p T1 /\ T.length <= T1.length /\ ∀ i, i < m -> T1[i]? = T[i]? := by
 obtain ⟨j, junk, j1, j2, h1, h2⟩ := hF.row
 have hk := (List.getElem?_eq_some_iff.1 h1).1
 have hj := (List.getElem?_eq_some_iff.1 h2).1
 have hmk := hF.lo
 refine ⟨j, T.set k (.arr 3 [.agg [.mslice (nbR p + j) 0 (V.length + 1) 2, .int .i64 h', .int .i64 n']]), ?_, ?_, ⟨hmk, j, junk, j1, j2, ?_, ?_⟩, ?_, by simp, ?_⟩
 ·rw [zqc hS, h1]
 ·rw [stR_set hS]
 ·rw [List.getElem?_set_self hk]
 ·rw [List.getElem?_set_ne (Ne.symm j2)]; exact h2
 ·unfold WTr at hT ⊢
  rw [List.length_set]
  exact wf_set hT (by simp [Obj.below]; omega)
 ·intro i hi
  rw [List.getElem?_set_ne (by omega)]
theorem frame_cut {p : Prog} {S : RS} {ho : Option Int} {T : ze} {m k : Nat} {V : Vs} {h n : Int} (d : Nat) (hd : d <= V.length) (hS : FitS p S) (hF : FRr p T m k V h n) (hT : WTr p T) : ∃ j T1, (stR p S ho T)[nbR p + k]? = some (.arr 3 [.agg [.mslice (nbR p + j) 0 (V.length + 1) 2, .int .i64 h, .int .i64 n]]) ∧
  (stR p S ho T).set (nbR p + k) (.arr 3 [.agg [.mslice (nbR p + j) 0 (V.length - d + 1) 2, .int .i64 h, .int .i64 n]]) = stR p S ho T1 /\ FRr p T1 m k (V.drop d) h n /\ WTr p T1 /\ T.length <= T1.length /\ ∀ i, i < m -> T1[i]? = T[i]? := by
 obtain ⟨j, junk, j1, j2, h1, h2⟩ := hF.row
 have hk := (List.getElem?_eq_some_iff.1 h1).1
 have hj := (List.getElem?_eq_some_iff.1 h2).1
 have hmk := hF.lo
 refine ⟨j, T.set k (.arr 3 [.agg [.mslice (nbR p + j) 0 (V.length - d + 1) 2, .int .i64 h, .int .i64 n]]), ?_, ?_, ⟨hmk, j, (V.take d).reverse.map encPl ++ junk, j1, j2, ?_, ?_⟩, ?_, by simp, ?_⟩
 ·rw [zqc hS, h1]
 ·rw [stR_set hS]
 ·rw [List.getElem?_set_self hk, List.length_drop]
 ·rw [List.getElem?_set_ne (Ne.symm j2), h2, <- List.append_assoc]
  congr 3
  have : V.reverse = (V.drop d).reverse ++ (V.take d).reverse := by rw [<- List.reverse_append, List.take_append_drop]
  unfold rowV
  rw [this, List.map_append, List.cons_append]
 ·unfold WTr at hT ⊢
  rw [List.length_set]
  exact wf_set hT (by simp [Obj.below]; omega)
 ·intro i hi
  rw [List.getElem?_set_ne (by omega)]
structure SpecSR (p : Prog) (w : Nat) : Prop where
 stmt : ∀ s S T m k V n loop, FitS p S -> S.fuel <= w -> okS p (zJ V) loop s -> wtS s < capE -> V.length + 1 + wtS s < capV -> FRr p T m k V 0 n -> WTr p T →
  PC (zi E 101 [.ptr 0 0 0, .ptr (nbR p + k) 0 0, zda s] (stR p S none T)) (isSR p T m k V ((evF p w).stmt s V S))
structure BSr where
 rest : List Stmt
 q : Rt (How × Vs) × RS
 T : ze
 V : Vs
 h : Int
 n : Int
def goS (ev : Ev) (rest : List Stmt) (q : Rt (How × Vs) × RS) : Rt (How × Vs) × RS := match q with
 | (.ok (.on, V), S) => zyb ev rest V S
 | q => q
theorem goS_nil (ev : Ev) (q : Rt (How × Vs) × RS) : goS ev [] q = q := by
 obtain ⟨a, S⟩ := q
 cases a with
 | stop k => rfl
 | ok y => obtain ⟨h, V⟩ := y; cases h <;> rfl
theorem goS_cons (ev : Ev) (x : Stmt) (r : List Stmt) (V : Vs) (S : RS) : goS ev (x :: r) (.ok (.on, V), S) = goS ev r (ev.stmt x V S) := by
 simp only [goS, zyb]
 generalize ev.stmt x V S = q
 obtain ⟨a, S⟩ := q
 cases a with
 | stop k => rfl
 | ok y => obtain ⟨h, V⟩ := y; cases h <;> rfl
theorem goS_not {ev : Ev} {r : List Stmt} {q : Rt (How × Vs) × RS} (h : ∀ V, q.1 ≠ .ok (.on, V)) : goS ev r q = q := by
 obtain ⟨a, S⟩ := q
 cases a with
 | stop k => rfl
 | ok y => obtain ⟨hh, V⟩ := y; cases hh <;> first | rfl | exact absurd rfl (h V)
set_option maxHeartbeats 8000000 in
theorem rblock_of {p : Prog} {w : Nat} (hX : SpecSR p w) : BlockR p w := by
 refine ⟨fun l S T m k V n loop hS hf ho hw hV hF hT => ?_⟩
 have hlen := zza l
 obtain ⟨j0, R0, i1, i2, i3⟩ := frame_facts (ho := none) hS hF
 have hrs : ∀ x ∈ l, ∀ S1 T1 V1 n1 loop, FitS p S1 -> S1.fuel <= w -> okS p (zJ V1) loop x -> V1.length + 1 + wtS x < capV -> FRr p T1 m k V1 0 n1 -> WTr p T1 -> PC (zi E 101 [.ptr 0 0 0, .ptr (nbR p + k) 0 0, zda x] (stR p S1 none T1)) (isSR p T1 m k V1 ((evF p w).stmt x V1 S1)) := by
  intro x hx S1 T1 V1 n1 loop h1 h2 h3 h4 h5 h6
  exact hX.stmt x S1 T1 m k V1 n1 loop h1 h2 h3 (wt_mem' hx hw) h4 h5 h6
 clear hX
 unfold capE at hw
 refine zQ rfl rfl rfl (by simp [zh]) ?_
 simp [*, F74, zh]
 refine zDa K74_0 B74_0 (fun c : BSr => c.rest.length) (fun c => [(7, .int .i64 ((l.length - c.rest.length : Nat) : Int))]) (fun c => []) (fun c => stR p c.q.2 (goH c.q.1) c.T)
  (fun c => (∃ d, l = d ++ c.rest) /\ zyb (evF p w) l V S = goS (evF p w) c.rest c.q /\ FitS p c.q.2 /\ c.q.2.fuel <= w /\ FRr p c.T m k c.V c.h c.n /\ WTr p c.T /\ T.length <= c.T.length /\ (∀ j, j < m -> c.T[j]? = T[j]?) /\ V.length <= c.V.length ∧
   (∀ hh V2, c.q.1 = .ok (hh, V2) -> c.V = V2 /\ c.h = howN hh /\ ∀ x, hh = .ret x -> c.n = x) /\ (∀ V2, c.q.1 = .ok (.on, V2) -> okB p (zJ c.V) loop c.rest /\ c.V.length + wtSs c.rest < capV)) ⟨l, (.ok (.on, V), S), T, V, 0, n⟩ ?_ ?_
 ·simp [*]
  exact ⟨rfl, rfl⟩
 ·rintro ⟨rest, ⟨a, S1⟩, T1, V1, h1, n1⟩ s1 ⟨⟨d, d1⟩, d2, d3, d4, d5, d6, d7, d8, d9, d10, d11⟩ g1 g2 g3 g4 g5
  simp only at d1 d2 d3 d4 d5 d6 d7 d8 d9 d10 d11
  simp at g1 g3 g4 g5
  have hov := zob p S1 (goH a) T1
  obtain ⟨j1, R1, e1, e2, e3⟩ := frame_facts (ho := goH a) d3 d5
  -- the end: the variables are cut
  have hend : (∀ rest', goS (evF p w) rest' (a, S1) = (a, S1)) \/ rest = [] -> ∃ T2, (stR p S1 (goH a) T1).set (nbR p + k) (.arr 3 [.agg [.mslice (nbR p + j1) 0 (V.length + 1) 2, .int .i64 h1, .int .i64 n1]]) = stR p S1 (goH a) T2 /\ isSR p T m k V (zba (evF p w) l V S) (.ret (.tup [])) (stR p S1 (goH a) T2) := by
   intro hq
   have hq' : goS (evF p w) rest (a, S1) = (a, S1) := by
    rcases hq with h | h
    ·exact h rest
    ·rw [h]; exact goS_nil _ _
   rw [hq'] at d2
   have hd : V1.length - V.length <= V1.length := by omega
   obtain ⟨j2, T2, f1, f2, f3, f4, f5, f6⟩ := frame_cut (ho := goH a) (V1.length - V.length) hd d3 d5 d6
   rw [e1] at f1
   have hj : j1 = j2 := by
    have := Option.some.inj f1
    simp at this
    omega
   subst hj
   rw [show V1.length - (V1.length - V.length) + 1 = V.length + 1 from by omega] at f2
   refine ⟨T2, f2, ?_⟩
   refine ⟨T2, V1.drop (V1.length - V.length), h1, n1, rfl, ?_, by omega, fun i hi => (f6 i hi).trans (d8 i hi), f4, f3, by rw [List.length_drop]; omega, ?_⟩
   ·unfold zba
    rw [d2]
    cases a with
    | stop k => rfl
    | ok y => rfl
   ·intro hh V2 e
    unfold zba at e
    rw [d2] at e
    cases a with
    | stop k => cases e
    | ok y =>
     obtain ⟨y1, y2⟩ := y
     cases e
     obtain ⟨u1, u2, u3⟩ := d10 _ _ rfl
     subst u1
     exact ⟨rfl, u2, u3⟩
  have hpos : ((0 : Int) <= (V.length : Int) + 1) = True := eqp (by omega)
  cases rest with
  | nil =>
   obtain ⟨T2, e4, e5⟩ := hend (.inr rfl)
   have hpos : ((0 : Int) <= (V.length : Int) + 1) = True := eqp (by omega)
   clear hend hrs d1 d2 d3 d4 d5 d6 d7 d8 d10 d11 hS hf ho hF hT i1 i2 e2
   simp [*]
  | cons x rest =>
   have hdl : l.length - (rest.length + 1) = d.length := by rw [d1]; simp
   have hdl2 : l.length - rest.length = d.length + 1 := by rw [d1]; simp; omega
   have hx : l[d.length]? = some x := by rw [d1]; simp
   have hlt : decide (d.length < l.length) = true := by rw [d1]; simp
   have hxm : x ∈ l := by rw [d1]; simp
   have hwr : zB .i64 ((d.length : Int) + 1) = (d.length : Int) + 1 := by
    have : d.length < l.length := by rw [d1]; simp
    exact zj (by omega) (by omega)
   have hdd : ∃ d', l = d' ++ rest := ⟨d ++ [x], by rw [d1]; simp⟩
   cases a with
   | stop j =>
    obtain ⟨T2, e4, e5⟩ := hend (.inl fun _ => rfl)
    simp at hov
    simp only [zgd] at e1 e4 e5
    clear hend hrs d1 d2 d3 d4 d5 d6 d7 d8 d10 d11 hS hf ho hF hT i1 i2 hdd hx hxm
    by_cases h0 : h1 = 0
    ·subst h0
     simp [*]
    ·replace h0 := eqn h0
     simp [*]
   | ok y =>
    obtain ⟨hh, V2⟩ := y
    obtain ⟨u1, u2, u3⟩ := d10 _ _ rfl
    subst u1
    simp at hov
    by_cases hon : hh = .on
    ·subst hon
     have h0 : h1 = 0 := u2
     subst h0
     obtain ⟨v1, v2⟩ := d11 V1 rfl
     rw [okB] at v1
     simp only [wtSs] at v2
     have hst := hrs x hxm S1 T1 V1 n1 loop d3 d4 v1.1 (by omega) d5 d6
     have hm := (zUb p w).stmt x V1 S1
     have d2' : zyb (evF p w) l V S = goS (evF p w) rest ((evF p w).stmt x V1 S1) := d2.trans (goS_cons _ _ _ _ _)
     generalize (evF p w).stmt x V1 S1 = q at *
     obtain ⟨b, S2⟩ := q
     obtain ⟨T2, V2, h2, n2, c1, c2, c3, c4, c5, c6, c7⟩ := isSR_get hst
     have d3' := d3.mono hm.1
     have d4' : S2.fuel <= w := Nat.le_trans hm.1.fuel d4
     have c8 : T.length <= T2.length := by omega
     have c9 : ∀ j, j < m -> T2[j]? = T[j]? := fun j hj => (c3 j hj).trans (d8 j hj)
     have c10 : V.length <= V2.length := by omega
     have c11 : ∀ V3, b = .ok (.on, V3) -> okB p (zJ V2) loop rest /\ V2.length + wtSs rest < capV := by
      intro V3 e
      have h3 := (hm.2 _ _ e).2
      obtain ⟨e1, _, _⟩ := c7 _ _ e
      subst e1
      rw [h3]
      refine ⟨v1.2, ?_⟩
      have hl := congrArg List.length h3
      simp only [zJ, List.length_map, List.length_append] at hl
      have : (zKb x).length <= 1 := by unfold zKb; split <;> simp
      omega
     simp only [zAd] at e1 hov
     rw [zb] at c1
     simp [zc, zh] at c1
     clear hend hrs d1 d2 d3 d4 d5 d6 d7 d8 d10 d11 hS hf ho hF hT i1 i2 hm hst v1 v2 u2 u3 hxm
     simp [*, zb, zc, zh]
     refine ⟨⟨rest, (b, S2), T2, V2, h2, n2⟩, ?_⟩
     simp only [hdl2]
     exact ⟨by simp, by simp, trivial, hdd, trivial, d3', d4', c5, c4, c8, c9, c10, c7, c11⟩
    ·have hne : (howN hh = 0) = False := eqn (by cases hh <;> first | exact absurd rfl hon | (simp [howN]))
     obtain ⟨T2, e4, e5⟩ := hend (.inl fun r => goS_not (by intro V e; cases e; exact hon rfl))
     subst u2
     simp only [zAd] at e1 e4 e5
     clear hend hrs d1 d2 d3 d4 d5 d6 d7 d8 d10 d11 hS hf ho hF hT i1 i2 hdd hx hxm
     simp [*]
structure LSr where
 k : Nat
 S : RS
 T : ze
 V : Vs
 n : Int
structure LoopR (p : Prog) (w : Nat) : Prop where
 loop : ∀ s S T m k V n loop, FitS p S -> S.fuel <= w -> s.kind = 5 -> okS p (zJ V) loop s -> wtS s < capE -> V.length + 1 + wtS s < capV -> FRr p T m k V 0 n -> WTr p T →
  PC (zi E 124 [.ptr 0 0 0, .ptr (nbR p + k) 0 0, zda s] (stR p S none T)) (isSR p T m k V (zlc (evF p w) (arg0 s.args) s.thn (w + 1) V S))
theorem zPa {p : Prog} {T T1 : ze} {m k : Nat} {V V1 : Vs} {q : Rt (How × Vs) × RS} {h n : Int} (h1 : T.length <= T1.length) (h2 : ∀ j, j < m -> T1[j]? = T[j]?) (h3 : WTr p T1) (h4 : FRr p T1 m k V1 h n) (h5 : V.length <= V1.length) (h6 : ∀ hh V2, q.1 = .ok (hh, V2) -> V1 = V2 /\ h = howN hh /\ ∀ x, hh = .ret x -> n = x) : isSR p T m k V q (.ret (.tup [])) (stR p q.2 (goH q.1) T1) :=
 ⟨T1, V1, h, n, rfl, rfl, h1, h2, h3, h4, h5, h6⟩
set_option maxHeartbeats 8000000 in
theorem rloop_of {p : Prog} {w : Nat} (hE : SpecER p w) (hB : BlockR p w) : LoopR p w := by
 refine ⟨fun s S T m k V n loop hS hf hk ho hw hV hF hT => ?_⟩
 rw [okS_eq] at ho
 obtain ⟨_, o2, o3, _, _, _, o7, _⟩ := ho
 have hl1 : s.args.length = 1 := by rw [hk] at o2; simp [zM] at o2; omega
 obtain ⟨g0, gm⟩ := arg0_one hl1
 have hwe := zUa gm
 rw [zxb] at hw hV
 have oe := zQd o3 gm
 have hadd : zKb s = [] := if_neg (by omega)
 rw [hadd, List.nil_append] at o7
 clear o2 o3 gm
 generalize arg0 s.args = c0 at *
 have hex : ∀ S1 T1 V1 n1, FitS p S1 -> S1.fuel <= w -> zJ V1 = zJ V -> FRr p T1 m k V1 0 n1 -> WTr p T1 -> PC (zi E 125 [.ptr 0 0 0, .ptr (nbR p + k) 0 0, zp c0] (stR p S1 none T1)) (isER p T1 ((evF p w).expr c0 V1 S1)) := by
  intro S1 T1 V1 n1 h1 h2 h3 h4 h5
  have hl := congrArg List.length h3
  simp only [zJ, List.length_map] at hl
  exact hE.expr c0 S1 T1 m k V1 0 n1 h1 h2 (by rw [h3]; exact oe) (by omega) (by omega) h4 h5
 have hbl : ∀ S1 T1 V1 n1, FitS p S1 -> S1.fuel <= w -> zJ V1 = zJ V -> FRr p T1 m k V1 0 n1 -> WTr p T1 -> PC (zi E 74 [.ptr 0 0 0, .ptr (nbR p + k) 0 0, zh s.thn] (stR p S1 none T1)) (isSR p T1 m k V1 (zba (evF p w) s.thn V1 S1)) := by
  intro S1 T1 V1 n1 h1 h2 h3 h4 h5
  have hl := congrArg List.length h3
  simp only [zJ, List.length_map] at hl
  exact hB.block s.thn S1 T1 m k V1 n1 _ h1 h2 (by rw [h3]; exact o7) (by omega) (by omega) h4 h5
 clear hE hB o7 oe hwe hw hl1 hV
 refine zQ rfl rfl rfl (by simp [zb]) ?_
 simp [F124, zb, zc]
 refine zDa K124_0 B124_0 (fun c : LSr => c.S.fuel) (fun c => []) (fun c => []) (fun c => stR p c.S none c.T)
  (fun c => c.S.fuel < c.k /\ zlc (evF p w) c0 s.thn (w + 1) V S = zlc (evF p w) c0 s.thn c.k c.V c.S /\ FitS p c.S /\ c.S.fuel <= w /\ T.length <= c.T.length /\ (∀ j, j < m -> c.T[j]? = T[j]?) /\ FRr p c.T m k c.V 0 c.n /\ WTr p c.T /\ zJ c.V = zJ V) ⟨w + 1, S, T, V, n⟩ ?_ ?_
 ·have : S.fuel < w + 1 := by omega
  simp [*]
 ·rintro ⟨k', S1, T1, V1, n1⟩ s1 ⟨d1, d2, d3, d4, d5, d5', d6, d7, d8⟩ q1 q2 q3 q4 q5
  simp only at d1 d2 d3 d4 d5 d5' d6 d7 d8
  simp at q1 q2 q3 q4 q5
  obtain ⟨k', rfl⟩ : ∃ k'', k' = k'' + 1 := ⟨k' - 1, by omega⟩
  have hVl : V.length <= V1.length := by
   have hl := congrArg List.length d8
   simp only [zJ, List.length_map] at hl
   omega
  have hc := hex S1 T1 V1 n1 d3 d4 d8 d6 d7
  have hm := (zUb p w).expr c0 V1 S1
  have d2' : zlc (evF p w) c0 s.thn (w + 1) V S = (match (evF p w).expr c0 V1 S1 with
   | (.stop j, S1) => (.stop j, S1)
   | (.ok n, S1) => if n = 0 then (.ok (.on, V1), S1) else
    match zba (evF p w) s.thn V1 S1 with
    | (.ok (.brk, V1), S2) => (.ok (.on, V1), S2)
    | (.ok (.ret m, V1), S2) => (.ok (.ret m, V1), S2)
    | (.ok (_, V1), S2) => zlc (evF p w) c0 s.thn k' V1 S2
    | (.stop j, S2) => (.stop j, S2)) := d2
  generalize (evF p w).expr c0 V1 S1 = q at *
  obtain ⟨a, S2⟩ := q
  obtain ⟨z, hc, hz⟩ := zfd hc
  rw [za] at hc
  obtain ⟨m1, m2⟩ := hm
  have e3 := d3.mono m1
  have hov := zob p S2 (goH a) T1
  cases a with
  | stop j =>
   simp only at d2'
   have hfin := zPa (q := ((.stop j, S2) : Rt (How × Vs) × RS)) d5 d5' d7 d6 hVl (fun hh V2 e => by cases e)
   simp only [zAd, zgd] at hfin
   rw [<- d2'] at hfin
   simp [zc] at hc hov
   clear hex hbl d1 d2 d2' d3 d4 d5 d6 d7 d8 m1 m2 e3 hz
   generalize zlc (evF p w) c0 s.thn (w + 1) V S = zz at *
   simp [*, za, zc]
  | ok u =>
   simp only at d2'
   replace hz := hz u rfl
   subst hz
   replace m2 := m2 z rfl
   simp only at m2
   simp [zc] at hc hov
   by_cases hn : z = 0
   ·rw [if_pos hn] at d2'
    have hfin := zPa (q := ((.ok (.on, V1), S2) : Rt (How × Vs) × RS)) d5 d5' d7 d6 hVl (fun hh V2 e => by cases e; exact ⟨rfl, rfl, fun _ h => by cases h⟩)
    simp only [zAd, zgd] at hfin
    rw [<- d2'] at hfin
    replace hn := eqp hn
    clear hex hbl d1 d2 d2' d3 d4 d5 d6 d7 d8 m1 m2 e3
    generalize zlc (evF p w) c0 s.thn (w + 1) V S = zz at *
    simp [*, za, zc]
   ·rw [if_neg hn] at d2'
    have hb := hbl S2 T1 V1 n1 e3 (Nat.le_trans m1.fuel d4) d8 d6 d7
    have hbm := zdc (zUb p w) s.thn V1 S2
    generalize zba (evF p w) s.thn V1 S2 = q at *
    obtain ⟨b, S3⟩ := q
    obtain ⟨T3, V3, h3, n3, c1, c2, c3, c4, c5, c6, c7⟩ := isSR_get hb
    have hov2 := zob p S3 (goH b) T3
    have e4 := e3.mono hbm.1
    have f3 : S3.fuel <= w := Nat.le_trans hbm.1.fuel (Nat.le_trans m1.fuel d4)
    have f4 : S3.fuel < S1.fuel := by have := hbm.1.fuel; simp only at this; omega
    have f5 : S3.fuel < k' := by omega
    have e5 : T.length <= T3.length := by omega
    have e6 : ∀ j, j < m -> T3[j]? = T[j]? := fun j hj => (c3 j hj).trans (d5' j hj)
    have e7 : V.length <= V3.length := by omega
    replace hn := eqn hn
    simp [zh] at c1
    cases b with
    | stop j =>
     simp only at d2'
     have hfin := zPa (q := ((.stop j, S3) : Rt (How × Vs) × RS)) e5 e6 c4 c5 e7 (fun hh V2 e => by cases e)
     simp only [zAd, zgd] at hfin
     rw [<- d2'] at hfin
     simp at hov2
     clear hex hbl d1 d2 d2' d3 d4 d5 d6 d7 d8 m1 m2 e3 c2 c3 c4 c5 c6 c7 e4 f3 f4 f5 e5 e6 e7 hbm hb
     generalize zlc (evF p w) c0 s.thn (w + 1) V S = zz at *
     simp [*, za, zc, zh]
    | ok y =>
     obtain ⟨hh, V4⟩ := y
     obtain ⟨u1, u2, u3⟩ := c7 _ _ rfl
     subst u1
     have hnm : zJ V3 = zJ V := (hbm.2 _ _ rfl).trans d8
     simp at hov2
     obtain ⟨j3, R3, i1, i2, i3⟩ := frame_facts (ho := none) e4 c5
     obtain ⟨j4, T4, w1, w2, w3, w4, w5, w6⟩ := frame_how (ho := none) 0 n3 e4 c5 c4
     rw [i1] at w1
     have hj : j4 = j3 := by
      have := Option.some.inj w1
      simp at this
      omega
     subst hj
     have e8 : T.length <= T4.length := by omega
     have e9 : ∀ j, j < m -> T4[j]? = T[j]? := fun j hj => (w6 j hj).trans (e6 j hj)
     have i4 : (stR p S3 none T4)[nbR p + k]? = some (.arr 3 [.agg [.mslice (nbR p + j4) 0 (V3.length + 1) 2, .int .i64 0, .int .i64 n3]]) := by
      rw [<- w2, List.getElem?_set_self]
      exact (List.getElem?_eq_some_iff.1 i1).1
     cases hh with
     | on =>
      simp only at d2'
      simp only [howN] at u2
      subst u2
      clear hex hbl d1 d2 d3 d4 d5 d6 d7 d8 m1 m2 e3 c2 c3 c4 c5 c6 c7 e5 e6 hbm hb w5 w6 i2 i3 u3 d5'
      simp [*, za, zc, zh]
      refine ⟨⟨k', S3, T4, V3, n3⟩, ?_⟩
      simp [*]
      exact e9
     | cont =>
      simp only at d2'
      simp only [howN] at u2
      subst u2
      clear hex hbl d1 d2 d3 d4 d5 d6 d7 d8 m1 m2 e3 c2 c3 c4 c5 c6 c7 e5 e6 hbm hb w5 w6 i2 i3 u3 d5'
      simp [*, za, zc, zh]
      refine ⟨⟨k', S3, T4, V3, n3⟩, ?_⟩
      simp [*]
      exact e9
     | brk =>
      simp only at d2'
      simp only [howN] at u2
      subst u2
      have hfin := zPa (q := ((.ok (.on, V3), S3) : Rt (How × Vs) × RS)) e8 e9 w4 w3 e7 (fun hh V2 e => by cases e; exact ⟨rfl, rfl, fun _ h => by cases h⟩)
      simp only [zAd, zgd] at hfin
      rw [<- d2'] at hfin
      clear hex hbl d1 d2 d2' d3 d4 d5 d6 d7 d8 m1 m2 e3 c2 c3 c4 c5 c6 c7 e5 e6 hbm hb w5 w6 i2 i3 u3 d5' e4 f3 f4 f5 w3 w4
      generalize zlc (evF p w) c0 s.thn (w + 1) V S = zz at *
      simp [*, za, zc, zh]
     | ret n' =>
      simp only at d2'
      simp only [howN] at u2
      subst u2
      have hfin := zPa (q := ((.ok (.ret n', V3), S3) : Rt (How × Vs) × RS)) e5 e6 c4 c5 e7 (fun hh V2 e => by cases e; exact ⟨rfl, rfl, fun _ h => by cases h; exact u3 _ rfl⟩)
      simp only [zAd, zgd] at hfin
      rw [<- d2'] at hfin
      clear hex hbl d1 d2 d2' d3 d4 d5 d6 d7 d8 m1 m2 e3 c2 c3 c4 c5 c6 c7 e5 e6 hbm hb w5 w6 i2 i3 u3 d5' e4 f3 f4 f5 w3 w4 w2 i4
      generalize zlc (evF p w) c0 s.thn (w + 1) V S = zz at *
      simp [*, za, zc, zh]
end PE.U

namespace PE.U
open Go PE
theorem frame_set {p : Prog} {S : RS} {ho : Option Int} {T : ze} {m k : Nat} {V : Vs} {h n : Int} {nm : List UInt8} (a : Int) (hS : FitS p S) (hF : FRr p T m k V h n) (hT : WTr p T) (hm : nm ∈ zJ V) : ∃ j R T1 old, (stR p S ho T)[nbR p + k]? = some (.arr 3 [.agg [.mslice (nbR p + j) 0 (V.length + 1) 2, .int .i64 h, .int .i64 n]]) ∧
  (stR p S ho T)[nbR p + j]? = some (.arr 2 R) /\ R[V.length - posV nm V]? = some (.agg [.str nm, .int .i64 old]) /\ V.length - posV nm V < V.length + 1 ∧
  (stR p S ho T).set (nbR p + j) (.arr 2 (R.set (V.length - posV nm V) (.agg [.str nm, .int .i64 a]))) = stR p S ho T1 /\ FRr p T1 m k (setV nm a V) h n /\ WTr p T1 /\ T.length <= T1.length /\ ∀ i, i < m -> T1[i]? = T[i]? := by
 obtain ⟨j, junk, j1, j2, h1, h2⟩ := hF.row
 have hk := (List.getElem?_eq_some_iff.1 h1).1
 have hj := (List.getElem?_eq_some_iff.1 h2).1
 have hp := posV_lt hm
 have hR : (rowV V ++ junk)[V.length - posV nm V]? = some (.agg [.str nm, .int .i64 V[posV nm V].2]) := by
  rw [List.getElem?_append_left (by rw [zRc]; omega), rowV_get V _ hp]
  simp only [encPl, posV_name hp]
 have hset : (rowV V ++ junk).set (V.length - posV nm V) (.agg [.str nm, .int .i64 a]) = rowV (setV nm a V) ++ junk := by
  rw [List.set_append_left _ _ (by rw [zRc]; omega)]
  have := rowV_set (nm, a) hp
  simp only [encPl] at this
  rw [this, <- setV_pos hp]
 have hlen : (setV nm a V).length = V.length := by rw [setV_pos hp]; simp
 refine ⟨j, rowV V ++ junk, T.set j (.arr 2 (rowV (setV nm a V) ++ junk)), _, ?_, ?_, hR, by omega, ?_, ⟨hF.lo, j, junk, j1, j2, ?_, ?_⟩, ?_, by simp, ?_⟩
 ·rw [zqc hS, h1]
 ·rw [zqc hS, h2]
 ·rw [hset, stR_set hS]
 ·rw [List.getElem?_set_ne j2, h1, hlen]
 ·rw [List.getElem?_set_self hj]
 ·have hT' := hT
  unfold WTr at hT ⊢
  rw [List.length_set]
  refine wf_set hT ?_
  have hb : (Obj.arr 2 (rowV V ++ junk)).below (nbR p + T.length) = true := by
   unfold ze.wf at hT
   rw [List.all_eq_true] at hT
   exact hT _ (List.mem_of_getElem? h2)
  simp only [Obj.below, belowL_append, Bool.and_eq_true] at hb ⊢
  refine ⟨?_, hb.2⟩
  simp only [rowV, belowL_cons, below_agg, below_str, below_int, belowL_nil, Bool.and_true, Bool.true_and]
  exact zqb _ _ _ (fun x => by simp [encPl])
 ·intro i hi
  rw [List.getElem?_set_ne (by omega)]
theorem setR_out {p : Prog} {S : RS} {T : ze} (l : List Int) : (stR p S none T).set 0 (.arr 10 [.agg [zga p.arrays, funcs p.funcs, ints S.inp, acc 1 (zLb 1 p.arrays), .int .i64 0, .int .i64 0, acc 1 (l.map (PV.int .i64)), .int .i64 S.cost, .int .i64 S.fuel, .bool false]]) = stR p { S with out := l } none T := rfl
theorem setV_len (nm : List UInt8) (n : Int) (V : Vs) : (setV nm n V).length = V.length := by
 have := congrArg List.length (names_set nm n V)
 simpa [zJ] using this
set_option maxHeartbeats 16000000 in
theorem rstmt_of {p : Prog} (hP : OkP p) {w : Nat} (hE : SpecER p w) (hB : BlockR p w) : SpecSR p (w + 1) := by
 refine ⟨fun s S T m k V n loop hS hf ho hw hV hF hT => ?_⟩
 have hL := rloop_of hE hB
 have hstep := rstep_spec p S T (by have := hS.2; omega)
 have hoe := ho
 rw [okS_eq] at ho
 obtain ⟨⟨o0, o0'⟩, o2, o3, o4, o5, o6, o7, o8⟩ := ho
 have hws := hw
 have hVs := hV
 rw [zxb] at hw hV
 refine zQ rfl rfl rfl (by simp [zb]) ?_
 simp only [evF]
 cases hfu : S.fuel with
 | zero =>
  rw [hfu] at hstep
  have hfin := zPa (p := p) (q := ((.stop 0, S) : Rt (How × Vs) × RS)) (Nat.le_refl T.length) (fun _ _ => rfl) hT hF (Nat.le_refl _) (fun hh V2 e => by cases e)
  simp at hfin
  clear o0 o0' o2 o3 o4 o5 o6 o7 o8 hoe
  simp [*, F101, zb, zc, zh]
 | succ k' =>
  rw [hfu] at hstep
  simp only at hstep ⊢
  have hS0 : FitS p { S with fuel := k' } := hS.mono ⟨by simp only; omega, by simp only; omega, rfl⟩
  have hf0 : ({ S with fuel := k' } : RS).fuel <= w := by simp only; omega
  generalize hSS : ({ S with fuel := k' } : RS) = S0 at *
  clear hSS hfu hf hS
  unfold stmtW
  by_cases k5 : s.kind = 5
  ·rw [if_pos k5]
   have hc := hL.loop s S0 T m k V n loop hS0 hf0 k5 hoe hws hVs hF hT
   replace k5 := eqp k5
   generalize zlc (evF p w) (arg0 s.args) s.thn (w + 1) V S0 = q at *
   obtain ⟨T1, V1, h1, n1, c1, c2, c3, c4, c5, c6, c7⟩ := isSR_get hc
   have hfin := zPa c2 c3 c4 c5 c6 c7
   rw [zb] at c1
   simp [zc, zh] at c1
   clear o0 o0' o2 o3 o4 o5 o6 o7 o8 hoe hL hE hB hP hF hT hw hws hV hVs c2 c3 c4 c5 c6 c7 hc
   simp [*, F101, zb, zc, zh]
  rw [if_neg k5]
  by_cases k6 : s.kind = 6
  ·rw [if_pos k6]
   obtain ⟨j, T1, a1, a2, a3, a4, a5, a6⟩ := frame_how (ho := none) 1 n hS0 hF hT
   have hfin := zPa (q := ((.ok (.brk, V), S0) : Rt (How × Vs) × RS)) a5 a6 a4 a3 (Nat.le_refl _) (fun hh V2 e => by cases e; exact ⟨rfl, rfl, fun _ h => by cases h⟩)
   simp only [zAd] at hfin
   replace k5 := eqn k5
   replace k6 := eqp k6
   clear o0 o0' o2 o3 o4 o5 o6 o7 o8 hoe hL hE hB hP hF hT hw hws hV hVs a3 a4 a5 a6
   simp [*, F101, zb, zc, zh]
  rw [if_neg k6]
  by_cases k7 : s.kind = 7
  ·rw [if_pos k7]
   obtain ⟨j, T1, a1, a2, a3, a4, a5, a6⟩ := frame_how (ho := none) 2 n hS0 hF hT
   have hfin := zPa (q := ((.ok (.cont, V), S0) : Rt (How × Vs) × RS)) a5 a6 a4 a3 (Nat.le_refl _) (fun hh V2 e => by cases e; exact ⟨rfl, rfl, fun _ h => by cases h⟩)
   simp only [zAd] at hfin
   replace k5 := eqn k5
   replace k6 := eqn k6
   replace k7 := eqp k7
   clear o0 o0' o2 o3 o4 o5 o6 o7 o8 hoe hL hE hB hP hF hT hw hws hV hVs a3 a4 a5 a6
   simp [*, F101, zb, zc, zh]
  rw [if_neg k7]
  have hl1 : 1 <= (s.args.length : Int) := by
   rw [o2]; unfold zM
   repeat' (first | rw [if_neg (by omega)] | split)
   all_goals (first | decide | (simp; done) | omega)
  have gm := arg0_mem hl1
  have g0 : s.args[0]? = some (arg0 s.args) := by
   revert hl1
   cases s.args with
   | nil => intro h; simp at h
   | cons x r => intro _; rfl
  have hwe := zUa gm
  have hc := hE.expr (arg0 s.args) S0 T m k V 0 n hS0 hf0 (zQd o3 gm) (by omega) (by omega) hF hT
  have hm := (zUb p w).expr (arg0 s.args) V S0
  generalize he0 : arg0 s.args = x0 at *
  generalize (evF p w).expr x0 V S0 = q at *
  obtain ⟨a, S1⟩ := q
  obtain ⟨z, hc, hz⟩ := zfd hc
  rw [za] at hc
  have hov := zob p S1 (goH a) T
  obtain ⟨m1, _⟩ := hm
  have hS1 := hS0.mono m1
  have hf1 : S1.fuel <= w := Nat.le_trans m1.fuel hf0
  replace k5 := eqn k5
  replace k6 := eqn k6
  replace k7 := eqn k7
  cases a with
  | stop j =>
   have hfin := zPa (p := p) (q := ((.stop j, S1) : Rt (How × Vs) × RS)) (Nat.le_refl T.length) (fun _ _ => rfl) hT hF (Nat.le_refl _) (fun hh V2 e => by cases e)
   simp only [zgd] at hfin
   simp [zc] at hc hov
   clear o0 o0' o2 o3 o4 o5 o6 o7 o8 hoe hL hE hB hP hF hT hw hws hV hVs hl1 gm hwe m1 hS1 hf1 he0 hz
   simp [*, F101, zb, za, zc, zh]
  | ok u =>
   simp only
   replace hz := hz u rfl
   subst hz
   simp [zc] at hc hov
   unfold zie
   have hmT : m <= T.length := by
    obtain ⟨j, junk, j1, j2, h1, h2⟩ := hF.row
    have := (List.getElem?_eq_some_iff.1 h2).1
    omega
   by_cases k1 : s.kind = 1
   ·rw [if_pos k1]
    obtain ⟨j, R, T1, T2, e1, e2, e3, e4, e5, e6, e7, e8, e9, e10, e11⟩ := push_facts (s.name, z) hS1 hF hT hmT
    have hfin := zPa (V := V) (q := ((.ok (.on, (s.name, z) :: V), S1) : Rt (How × Vs) × RS)) e10 e11 e9 e8 (by simp) (fun hh V2 e => by cases e; exact ⟨rfl, rfl, fun _ h => by cases h⟩)
    simp only [zAd] at hfin
    have hlen := stR_len (h := none) (T := T) hS1
    have hrl := zRc V
    have hroom : (V.length + 1 + 1) * 24 <= zw := by simp only [zw]; unfold capV at hV; omega
    replace k1 := eqp k1
    clear o0 o0' o2 o3 o4 o5 o6 o7 o8 hoe hL hE hB hP hF hT hw hws hV hVs hl1 gm hwe m1 hS1 hf1 he0 e8 e9 e10 e11 hmT
    generalize rowV V = RV at *
    simp [*, F101, zb, za, zc, zh]
   rw [if_neg k1]
   by_cases k2 : s.kind = 2
   ·rw [if_pos k2]
    obtain ⟨j, R, T1, old, e1, e2, e3, e4, e5, e6, e7, e8, e9⟩ := frame_set (ho := none) z hS1 hF hT (o4 k2)
    have hfi := vfind_spec (ho := none) hS1 hF (o4 k2) (by unfold capV at hV; omega)
    have hfin := zPa (V := V) (q := ((.ok (.on, setV s.name z V), S1) : Rt (How × Vs) × RS)) e8 e9 e7 e6 (by rw [setV_len]; exact Nat.le_refl _) (fun hh V2 e => by cases e; exact ⟨rfl, rfl, fun _ h => by cases h⟩)
    simp only [zAd] at hfin
    replace k1 := eqn k1
    replace k2 := eqp k2
    clear o0 o0' o2 o3 o4 o5 o6 o7 o8 hoe hL hE hB hP hF hT hw hws hV hVs hl1 gm hwe m1 hS1 hf1 he0 e6 e7 e8 e9 hmT
    generalize V.length - posV s.name V = z9 at *
    simp [*, F101, zb, za, zc, zh]
   rw [if_neg k2]
   by_cases k3 : s.kind = 3
   ·rw [if_pos k3]
    have hl2 : s.args.length = 2 := by rw [k3] at o2; simp [zM] at o2; omega
    obtain ⟨g1, gm1, _, _⟩ := arg1_two hl2
    have hwe1 := zUa gm1
    have hc1 := hE.expr (arg1 s.args) S1 T m k V 0 n hS1 hf1 (zQd o3 gm1) (by omega) (by omega) hF hT
    have hm1 := (zUb p w).expr (arg1 s.args) V S1
    generalize arg1 s.args = x1 at *
    generalize (evF p w).expr x1 V S1 = q at *
    obtain ⟨a, S2⟩ := q
    obtain ⟨y, hc1, hz1⟩ := zfd hc1
    rw [za] at hc1
    have hov1 := zob p S2 (goH a) T
    have hS2 := hS1.mono hm1.1
    replace k1 := eqn k1
    replace k2 := eqn k2
    replace k3 := eqp k3
    cases a with
    | stop j =>
     have hfin := zPa (p := p) (q := ((.stop j, S2) : Rt (How × Vs) × RS)) (Nat.le_refl T.length) (fun _ _ => rfl) hT hF (Nat.le_refl _) (fun hh V2 e => by cases e)
     simp only [zgd] at hfin
     simp [zc] at hc1 hov1
     clear o0 o0' o2 o3 o4 o5 o6 o7 o8 hoe hL hE hB hP hF hT hw hws hV hVs hl1 gm hwe m1 hS1 hf1 he0 hl2 gm1 hwe1 hm1 hS2 hmT hz1
     simp [*, F101, zb, za, zc, zh]
    | ok u1 =>
     simp only
     replace hz1 := hz1 u1 rfl
     subst hz1
     simp [zc] at hc1 hov1
     obtain ⟨i, row, a1, a2, a3, a4⟩ := rarr_at hS2.cost (o5 (of_eq_true k3))
     have hcell := rcell_spec (T := T) z (by have := hP.sz.1; omega) a1 a3 a4
     have hrow := stR_row (h := none) (T := T) (p := p) a3
     have hra := zJc p s.name (by have := hP.sz.1; omega)
     rw [a1] at hra
     simp [zf] at hra
     unfold putAt
     rw [a1]
     simp only [Int.toNat_natCast, a3, Option.bind_some]
     by_cases hx : 0 <= z /\ z < row.length
     ·rw [if_pos hx] at hcell
      rw [if_neg (by omega), if_pos (by omega)]
      have hlt : z.toNat < row.length := by omega
      have hx0 : 0 <= z := hx.1
      have hx1 : z < row.length := hx.2
      obtain ⟨y0, hy0⟩ : ∃ y0, row[z.toNat]? = some y0 := ⟨_, List.getElem?_eq_getElem hlt⟩
      have hput := rput_row (p := p) (h := none) (T := T) a3 z.toNat y
      have hfin := zPa (V := V) (q := ((.ok (.on, V), { zO S2 with arrs := (zO S2).arrs.set i (row.set z.toNat y) }) : Rt (How × Vs) × RS)) (Nat.le_refl T.length) (fun _ _ => rfl) hT hF (Nat.le_refl _) (fun hh V2 e => by cases e; exact ⟨rfl, rfl, fun _ h => by cases h⟩)
      simp only [zAd] at hfin
      clear o0 o0' o2 o3 o4 o5 o6 o7 o8 hoe hL hE hB hP hF hT hw hws hV hVs hl1 gm hwe m1 hS1 hf1 he0 hl2 gm1 hwe1 hm1 hS2 hmT hx hlt a1 a2
      simp [*, F101, zb, za, zc, zh]
     ·rw [if_neg hx] at hcell
      have hnone : (if z < 0 then none else if z.toNat < row.length then some { zO S2 with arrs := (zO S2).arrs.set i (row.set z.toNat y) } else none : Option RS) = none := by
       split
       ·rfl
       ·rw [if_neg (by omega)]
      rw [hnone]
      have hfin := zPa (p := p) (q := ((.stop 3, zO S2) : Rt (How × Vs) × RS)) (Nat.le_refl T.length) (fun _ _ => rfl) hT hF (Nat.le_refl _) (fun hh V2 e => by cases e)
      simp only [zgd] at hfin
      clear o0 o0' o2 o3 o4 o5 o6 o7 o8 hoe hL hE hB hP hF hT hw hws hV hVs hl1 gm hwe m1 hS1 hf1 he0 hl2 gm1 hwe1 hm1 hS2 hmT hx a1 a2 hnone hrow
      simp [*, F101, zb, za, zc, zh]
   rw [if_neg k3]
   by_cases k4 : s.kind = 4
   ·rw [if_pos k4]
    have hadd : zKb s = [] := if_neg k1
    rw [hadd, List.nil_append] at o7 o8
    have hblk : ∀ l, (l = s.els \/ l = s.thn) -> PC (zi E 74 [.ptr 0 0 0, .ptr (nbR p + k) 0 0, zh l] (stR p S1 none T)) (isSR p T m k V (zba (evF p w) l V S1)) := by
     rintro l (rfl | rfl)
     ·exact hB.block _ S1 T m k V n _ hS1 hf1 o8 (by omega) (by omega) hF hT
     ·exact hB.block _ S1 T m k V n _ hS1 hf1 o7 (by omega) (by omega) hF hT
    have hc2 := hblk (if z = 0 then s.els else s.thn) (by split <;> simp)
    replace k1 := eqn k1
    replace k2 := eqn k2
    replace k3 := eqn k3
    replace k4 := eqp k4
    clear o0 o0' o2 o3 o4 o5 o6 o7 o8 hoe hL hE hB hP hF hT hw hws hV hVs hl1 gm hwe m1 hS1 hf1 he0 hmT hblk
    by_cases hn : z = 0
    ·rw [if_pos hn] at hc2 ⊢
     generalize zba (evF p w) s.els V S1 = q at *
     obtain ⟨T1, V1, h1, n1, c1, c2, c3, c4, c5, c6, c7⟩ := isSR_get hc2
     have hfin := zPa c2 c3 c4 c5 c6 c7
     simp [zh] at c1
     replace hn := eqp hn
     clear c2 c3 c4 c5 c6 c7 hc2
     simp [*, F101, zb, za, zc, zh]
    ·rw [if_neg hn] at hc2 ⊢
     generalize zba (evF p w) s.thn V S1 = q at *
     obtain ⟨T1, V1, h1, n1, c1, c2, c3, c4, c5, c6, c7⟩ := isSR_get hc2
     have hfin := zPa c2 c3 c4 c5 c6 c7
     simp [zh] at c1
     replace hn := eqn hn
     clear c2 c3 c4 c5 c6 c7 hc2
     simp [*, F101, zb, za, zc, zh]
   rw [if_neg k4]
   by_cases k8 : s.kind = 8
   ·rw [if_pos k8]
    obtain ⟨j, T0, b1, b2, b3, b4, b5, b6⟩ := frame_how (ho := none) 3 n hS1 hF hT
    obtain ⟨j', T1, a1, a2, a3, a4, a5, a6⟩ := frame_how (ho := none) 3 z hS1 b3 b4
    have hfin := zPa (q := ((.ok (.ret z, V), S1) : Rt (How × Vs) × RS)) (Nat.le_trans b5 a5) (fun i hi => (a6 i hi).trans (b6 i hi)) a4 a3 (Nat.le_refl _) (fun hh V2 e => by cases e; exact ⟨rfl, rfl, fun _ h => by cases h; rfl⟩)
    simp only [zAd] at hfin
    have hjj : j' = j := by
     rw [<- b2, List.getElem?_set_self (List.getElem?_eq_some_iff.1 b1).1] at a1
     have := Option.some.inj a1
     simp at this
     omega
    subst hjj
    replace k1 := eqn k1
    replace k2 := eqn k2
    replace k3 := eqn k3
    replace k4 := eqn k4
    replace k8 := eqp k8
    clear o0 o0' o2 o3 o4 o5 o6 o7 o8 hoe hL hE hB hP hF hT hw hws hV hVs hl1 gm hwe m1 hS1 hf1 he0 hmT a3 a4 a5 a6 b3 b4 b5 b6
    simp [*, F101, zb, za, zc, zh]
   rw [if_neg k8]
   by_cases k9 : s.kind = 9
   ·rw [if_pos k9]
    have hfin := zPa (V := V) (q := ((.ok (.on, V), { zO S1 with out := S1.out ++ [z] }) : Rt (How × Vs) × RS)) (Nat.le_refl T.length) (fun _ _ => rfl) hT hF (Nat.le_refl _) (fun hh V2 e => by cases e; exact ⟨rfl, rfl, fun _ h => by cases h⟩)
    simp only [zAd] at hfin
    have hso := setR_out (p := p) (S := zO S1) (T := T) (S1.out ++ [z])
    have hroom : (S1.out.length + 1) * 8 <= zw := by have := hS1.2; simp only at this; simp only [zw]; omega
    have hr4 : ∀ X, ((stR p (zO S1) none T).set 0 X)[0]? = some X := by
     intro X
     rw [List.getElem?_set_self (by rw [stR_len hS1.cost]; unfold nbR; omega)]
    have hao : acc 1 ((S1.out ++ [z]).map (PV.int .i64)) = .slice .own 1 (S1.out.map (PV.int .i64) ++ [.int .i64 z]) := by
     rw [acc_ne (by simp)]; simp
    have hio : isOwn (acc 1 (S1.out.map (PV.int .i64) ++ [.int .i64 z])) = some (1, S1.out.map (PV.int .i64) ++ [.int .i64 z]) := by
     rw [acc_ne (by simp)]; rfl
    rw [hao] at hso
    have hco : (zO S1).out = S1.out := rfl
    replace k1 := eqn k1
    replace k2 := eqn k2
    replace k3 := eqn k3
    replace k4 := eqn k4
    replace k8 := eqn k8
    replace k9 := eqp k9
    clear o0 o0' o2 o3 o4 o5 o6 o7 o8 hoe hL hE hB hP hF hT hw hws hV hVs hl1 gm hwe m1 hS1 hf1 he0 hmT hao
    simp [*, F101, zb, za, zc, zh]
   rw [if_neg k9]
   have hfin := zPa (V := V) (q := ((.ok (.on, V), S1) : Rt (How × Vs) × RS)) (Nat.le_refl T.length) (fun _ _ => rfl) hT hF (Nat.le_refl _) (fun hh V2 e => by cases e; exact ⟨rfl, rfl, fun _ h => by cases h⟩)
   simp only [zAd] at hfin
   replace k1 := eqn k1
   replace k2 := eqn k2
   replace k3 := eqn k3
   replace k4 := eqn k4
   replace k8 := eqn k8
   replace k9 := eqn k9
   clear o0 o0' o2 o3 o4 o5 o6 o7 o8 hoe hL hE hB hP hF hT hw hws hV hVs hl1 gm hwe m1 hS1 hf1 he0 hmT
   simp [*, F101, zb, za, zc, zh]
theorem rspec0 (p : Prog) : SpecER p 0 /\ SpecSR p 0 := by
 constructor
 ·refine ⟨fun e S T m k V h n hS hf ho hw hV hF hT => ?_⟩
  have h0 : S.fuel = 0 := by omega
  have hstep := rstep_spec p S T (by omega)
  rw [h0] at hstep
  refine zQ rfl rfl rfl (by simp [za]) ?_
  simp only [evF]
  clear ho hF
  simp [*, F125, za, zc]
 ·refine ⟨fun s S T m k V n loop hS hf ho hw hV hF hT => ?_⟩
  have h0 : S.fuel = 0 := by omega
  have hstep := rstep_spec p S T (by omega)
  rw [h0] at hstep
  have hfin := zPa (p := p) (q := ((.stop 0, S) : Rt (How × Vs) × RS)) (Nat.le_refl T.length) (fun _ _ => rfl) hT hF (Nat.le_refl _) (fun hh V2 e => by cases e)
  simp at hfin
  refine zQ rfl rfl rfl (by simp [zb]) ?_
  simp only [evF]
  clear ho hF
  simp [*, F101, zb, zc, zh]
theorem rspecs {p : Prog} (hP : OkP p) : ∀ w, SpecER p w /\ SpecSR p w
 | 0 => rspec0 p
 | w + 1 => by
  obtain ⟨h1, h2⟩ := rspecs hP w
  have hB := rblock_of h2
  exact ⟨rexpr_of hP h1 hB, rstmt_of hP h1 hB⟩
end PE.U

namespace PE
open Go
def hendQ (n : Nat) (R : CRes -> ze -> Prop) : Ex -> St -> Prop
 | .normal, s => ze.wf n (s.st.take n) = true /\ n <= s.st.length /\ R (.ret (.tup [])) (s.st.take n)
 | .ret, s => ze.wf n (s.st.take n) = true /\ n <= s.st.length /\ R (.ret (.tup [])) (s.st.take n)
 | _, _ => False
def hrestQ (K : PV × ze -> Prop) : Ex -> St -> Prop
 | .normal, s => K (.nilif, s.st)
 | .ret, s => K (.nilif, s.st)
 | .pan (.iface t v), s => K (.iface t v, s.st)
 | _, _ => False
noncomputable def hpreQ (E : Env) (H : HFn) (n : Nat) (R : CRes -> ze -> Prop) : Ex -> St -> Prop
 | .normal, s1 => (zo s1.fr H.caps).all zE = true /\ zka (exec (zi E) H.rest { s1 with fr := upd s1.fr H.d (.fn H.k [] (zo s1.fr H.caps)) }) (hrestQ fun q => zka (exec (zi E) H.code (handSt H (zo s1.fr H.caps) q)) (hendQ n R))
 | _, _ => False
section
variable (n : Nat) (R : CRes -> ze -> Prop) (s : St) (K : PV × ze -> Prop) (E : Env) (H : HFn)
@[simp] theorem hendQ_normal : hendQ n R .normal s = (ze.wf n (s.st.take n) = true /\ n <= s.st.length /\ R (.ret (.tup [])) (s.st.take n)) := Eq.trans rfl rfl
@[simp] theorem hrestQ_normal : hrestQ K .normal s = K (.nilif, s.st) := Eq.trans rfl rfl
@[simp] theorem hrestQ_pan (t : Nat) (v : PV) : hrestQ K (.pan (.iface t v)) s = K (.iface t v, s.st) := Eq.trans rfl rfl
@[simp] theorem hpreQ_normal : hpreQ E H n R .normal s = ((zo s.fr H.caps).all zE = true /\ zka (exec (zi E) H.rest { s with fr := upd s.fr H.d (.fn H.k [] (zo s.fr H.caps)) }) (hrestQ fun q => zka (exec (zi E) H.code (handSt H (zo s.fr H.caps) q)) (hendQ n R))) := Eq.trans rfl rfl
@[simp] theorem handSt_eq (cv : List PV) (q : PV × ze) : handSt H cv q = { fr := upd (upd (frOf cv 0) H.r1 q.1) H.r2 q.1, bx := fun _ => .no, st := q.2 } := Eq.trans rfl rfl
end
theorem hand_wp {E : Env} {f : Nat} {H : HFn} {args : List PV} {st : ze} {R : CRes -> ze -> Prop} (hx : E.ext f = none) (hh : E.hand f = some H) (hl : args.length = H.nargs) (hv : args.all zE = true)
  (h : zka (exec (zi E) H.pre { fr := frOf args 0, bx := fun _ => .no, st := st }) (hpreQ E H st.length R)) : PC (zi E f args st) R := by
 rw [holds_iff] at h
 obtain ⟨e1, s1, h1, h2⟩ := h
 have : e1 = .normal := by cases e1 <;> first | rfl | exact h2.elim
 subst this
 rw [hpreQ_normal] at h2
 obtain ⟨h3, h4⟩ := h2
 rw [holds_iff] at h4
 obtain ⟨e2, s2, h5, h6⟩ := h4
 have hq : ∃ q, thrown (some (e2, s2)) = some q /\ zka (exec (zi E) H.code (handSt H (zo s1.fr H.caps) q)) (hendQ st.length R) := by
  cases e2 with
  | normal => exact ⟨_, rfl, h6⟩
  | ret => exact ⟨_, rfl, h6⟩
  | exit i => exact h6.elim
  | pan v => cases v <;> first | exact ⟨_, rfl, h6⟩ | exact h6.elim
 obtain ⟨q, hq1, hq2⟩ := hq
 rw [holds_iff] at hq2
 obtain ⟨e3, s3, h7, h8⟩ := hq2
 have hr : ∃ st', handEnd st.length (some (e3, s3)) = some (.ret (.tup []), st') /\ R (.ret (.tup [])) st' := by
  cases e3 with
  | normal =>
   obtain ⟨w1, w2, w3⟩ := h8
   exact ⟨_, by simp only [handEnd]; rw [if_pos (by rw [w1]; simp [w2])], w3⟩
  | ret =>
   obtain ⟨w1, w2, w3⟩ := h8
   exact ⟨_, by simp only [handEnd]; rw [if_pos (by rw [w1]; simp [w2])], w3⟩
  | exit i => exact h8.elim
  | pan v => exact h8.elim
 obtain ⟨st', hr1, hr2⟩ := hr
 have : zi E f args st = some (.ret (.tup []), st') := by
  refine pcall_hand hx hh ?_
  unfold handF
  rw [if_pos ⟨hl, hv⟩, h1]
  simp only
  rw [if_pos h3, h5, hq1]
  simp only
  rw [h7, hr1]
 rw [this]
 exact hr2
end PE

namespace PE.U
open Go PE
def zEd (r : Rn) : PV := .agg [.int .i64 r.status, .int .i64 r.code, ints r.out, .int .i64 r.cost, .int .i64 r.fuel]
def endO (p : Prog) (q : Rt Int × RS) (v : Int) : Obj := .arr 10 [.agg [zga p.arrays, funcs p.funcs, ints q.2.inp, .mp 0, .int .i64 (runEnd q).status, .int .i64 (runEnd q).code, acc 1 (q.2.out.map (PV.int .i64)), .int .i64 q.2.cost, .int .i64 q.2.fuel, .int .i64 v]]
theorem main_spec {p : Prog} (hP : OkP p) (S : RS) (v : Int) (hS : FitS p S) : PC (zi E 32 [.ptr 1 0 0] (sto p S v [])) (fun res st => res = .ret (.tup []) /\ ∃ v1, FitS p (mainW p S).2 /\ st = (sto p (mainW p S).2 v1 []).set 1 (endO p (mainW p S) v1)) := by
 obtain ⟨f, hf, hfp⟩ := hP.main
 have hpl := zje p zMb [] (by have := hP.sz.2.1; omega)
 rcases zkb (fun f : Func => decide (f.name = zMb)) p.funcs with ⟨a1, a2⟩ | ⟨n, g, a1, a2, a3, a4, a5⟩
 ·have a2 : zSa p zMb = none := a2
  rw [a2] at hf; cases hf
 have a3 : zSa p zMb = some g := a3
 have a1 : zla p zMb = n := a1
 rw [a3, Option.some.injEq] at hf
 subst hf
 rw [a1] at hpl
 have hB := vblock_of (specs hP S.fuel).2
 have hc := vcall_of hP hB (List.mem_of_getElem? a2) (v := v) (T := []) (l := []) hS (Nat.le_refl _) (by rw [hfp]; rfl) rfl
 have hm := callW_mono (zUb p S.fuel) g [] S
 have hmw : mainW p S = callW (evF p S.fuel) g [] S := by unfold mainW; rw [a3]
 rw [hmw]
 generalize callW (evF p S.fuel) g [] S = q at *
 obtain ⟨a, S1⟩ := q
 obtain ⟨v1, hc⟩ := zde hc
 have hS1 := hS.mono hm
 have hlen0 := zsd (v := v) (T := []) hS
 have hlen1 := zsd (v := v1) (T := []) hS1
 have htake : ∀ X, ((sto p S1 v1 []).set 1 X).take (nb p) = (sto p S1 v1 []).set 1 X := by
  intro X
  rw [List.take_of_length_le]
  rw [List.length_set, hlen1]; simp
 have hwf0 : ze.wf (nb p) (sto p S1 v1 []) = true := sto_wf hS1 (Nat.le_refl _) rfl
 have hwf : ∀ c d, ze.wf (nb p) ((sto p S1 v1 []).set 1 (.arr 10 [.agg [zga p.arrays, funcs p.funcs, ints S1.inp, .mp 0, .int .i64 c, .int .i64 d, acc 1 (S1.out.map (PV.int .i64)), .int .i64 S1.cost, .int .i64 S1.fuel, .int .i64 v1]])) = true := by
  intro c d
  refine wf_set hwf0 ?_
  have h0 : 0 < nb p := by unfold nb; omega
  simp [Obj.below, belowL_acc, h0]
 have hr4 : ∀ X, ((sto p S1 v1 []).set 1 X)[1]? = some X := by
  intro X
  rw [List.getElem?_set_self (by rw [hlen1]; unfold nb; omega)]
 simp [zf, funcs, zMb] at hpl
 simp [zm, ints] at hc hlen0 hlen1
 refine hand_wp rfl rfl rfl rfl ?_
 clear hB hP hm hmw hS hwf0 a1 a3 a4 a5 hfp
 have hfw : FitS p S1 := hS1
 cases a with
 | stop j =>
  simp at hc
  simp [*, H32, funcs, endV, zm]
  exact ⟨hwf _ _, v1, rfl⟩
 | ok n =>
  simp at hc
  simp [*, H32, funcs, endV, zm]
  exact ⟨hwf _ _, v1, rfl⟩
theorem mapSet_arr (nm : List UInt8) (u : PV) : ∀ (d : List PArr) (b : Nat), nm ∉ d.map (·.name) -> zHb true (.str nm) u (zrb b d) = some (zrb b d ++ [(.str nm, u)])
 | [], b, _ => rfl
 | y :: d, b, h => by
  simp only [List.map_cons, List.mem_cons, not_or] at h
  have ih := mapSet_arr nm u d (b + 1) h.2
  simp only [zrb, zHb, zWc, if_true, h.1, decide_false]
  rw [ih]; rfl
theorem arrFrom_snoc (x : PArr) : ∀ (d : List PArr) (b : Nat), zrb b (d ++ [x]) = zrb b d ++ [(.str x.name, .mslice (b + d.length) 0 x.size.toNat 1)]
 | [], b => by simp [zrb]
 | y :: d, b => by
  simp only [List.cons_append, zrb, arrFrom_snoc x d, List.length_cons]
  rw [show b + 1 + d.length = b + (d.length + 1) from by omega]
set_option maxHeartbeats 4000000 in
theorem zUd (p : Prog) (hz : PSz p) (inp : List Int) (fu : Int) (hf : fu <= 100000000000) : zi E 17 [zf p, ints inp, .int .i64 fu] [] = some (.ret (zEd (evalM p inp fu)), []) := by
 have hck := check_spec p hz
 refine zd rfl rfl rfl (by simp [zf, ints]) ?_
 unfold evalM
 by_cases h0 : (zse p).1 = 0
 ·rw [if_pos h0]
  have hP := checkT_ok hz h0
  have hS0 : FitS p (run0 p inp fu) := by
   refine ⟨?_, ?_⟩
   ·simp [run0, List.map_map, Function.comp_def]
   ·simp [run0]; omega
  have hms := main_spec hP (run0 p inp fu) 0 hS0
  obtain ⟨r, st, hm, rfl, v1, hS1, rfl⟩ := zYd.1 hms
  generalize mainW p (run0 p inp fu) = q at *
  obtain ⟨a, S1⟩ := q
  have hr4 : ∀ X, ((sto p S1 v1 []).set 1 X)[1]? = some X := by
   intro X
   rw [List.getElem?_set_self (by rw [zsd hS1]; unfold nb; omega)]
  have hmx : (if fu < 0 then 0 else fu) = max fu 0 := by split <;> omega
  generalize zse p = ck at *
  obtain ⟨c0, c1, c2⟩ := ck
  simp only at h0
  subst h0
  simp [zf, zwa, zga] at hck
  unfold sto at hm
  simp [runO, runCells, run0, zEb, zga, ints, endO] at hm
  simp [*, F17, zf, zga, ints]
  refine zI p.arrays K17_0 B17_0 (fun d => [(31, .int .i64 d.length)]) (fun d => .mp (zrb 2 d) :: .arr 10 [.agg [.slice .plain 2 (p.arrays.map zU), funcs p.funcs, .slice .plain 1 (inp.map (PV.int .i64)), .mp 0, .int .i64 0, .int .i64 0, .slice .fit 1 [], .int .i64 0, .int .i64 (max fu 0), .int .i64 0]] :: d.map (fun x => intO (List.replicate x.size.toNat 0))) (fun d => (d.map (·.name)).Nodup) (by have := hz.1; omega) (by simp [zrb]) ?_ ?_
  ·intros d x r s1 hl' hlt hget hget' hwr hp g1 g2 g3 g4
   simp at g1 g3
   have hx : x.name ∉ d.map (·.name) /\ ((d ++ [x]).map (·.name)).Nodup := by
    have h := hP.names
    rw [hl'.eq] at h
    simp only [List.map_append, List.map_cons] at h ⊢
    rw [List.nodup_append] at h
    obtain ⟨h1, h2, h3⟩ := h
    have hx : x.name ∉ d.map (·.name) := fun hm => h3 _ hm _ (by simp) rfl
    refine ⟨hx, ?_⟩
    rw [List.nodup_append]
    exact ⟨h1, by simp, fun a ha b hb => by simp at hb; rintro rfl; exact hx (hb ▸ ha)⟩
   have hsz := hP.size x hl'.mem
   have hms2 := mapSet_arr x.name (.mslice (2 + d.length) 0 x.size.toNat 1) d 2 hx.1
   rw [<- arrFrom_snoc] at hms2
   rw [show 2 + d.length = d.length + 1 + 1 from by omega] at hms2
   have hx2 := hx.2
   simp only [List.map_append, List.map_cons, List.map_nil] at hx2
   have hdec : decide (d.length < p.arrays.length) = true := decide_eq_true hlt
   have hs1 : (x.size < 0) = False := eqn (by omega)
   have hs2 : (0 <= x.size) = True := eqp (by omega)
   have hs3 : (x.size <= 9223372036854775807) = True := eqp (by omega)
   have hs4 : (8 * x.size <= 281474976710656) = True := eqp (by omega)
   have hrow : Obj.arr 1 (List.replicate x.size.toNat (PV.int .i64 0)) = intO (List.replicate x.size.toNat 0) := by simp [intO]
   clear hx hl' hget' hlt hp hsz hP hS0 hm hms hr4 hck hS1
   simp [*, zU]
  ·intros s1 hp g1 g2 g3 g4
   simp at g1 g3
   have hdec : (p.arrays.map (fun x => intO (List.replicate x.size.toNat 0))) = List.map (intO ∘ fun a => List.replicate a.size.toNat 0) p.arrays := rfl
   rw [hdec] at g4
   clear hdec hP hS0 hp hck hms hr4
   have hre : (runEnd (a, S1)).out = S1.out /\ (runEnd (a, S1)).cost = S1.cost /\ (runEnd (a, S1)).fuel = S1.fuel := by cases a <;> exact ⟨rfl, rfl, rfl⟩
   simp [*, zEd, ints]
 ·rw [if_neg h0]
  generalize zse p = ck at *
  obtain ⟨c0, c1, c2⟩ := ck
  simp only at h0
  simp [zf, zwa] at hck
  replace h0 := eqn h0
  simp [*, F17, zf, zEd, ints]
end PE.U

namespace PE.U
open Go PE
theorem rptrs_snoc (x : PArr) : ∀ (d : List PArr) (b : Nat), zLb b (d ++ [x]) = zLb b d ++ [.mslice (b + d.length) 0 x.size.toNat 1]
 | [], b => by simp [zLb]
 | y :: d, b => by
  simp only [List.cons_append, zLb, rptrs_snoc x d, List.length_cons]
  rw [show b + 1 + d.length = b + (d.length + 1) from by omega]
set_option maxHeartbeats 4000000 in
theorem refrun_spec (p : Prog) (hz : PSz p) (inp : List Int) (fu : Int) (hf : fu <= 100000000000) : zi E 19 [zf p, ints inp, .int .i64 fu] [] = some (.ret (zEd (evalM p inp fu)), []) := by
 have hck := rcheckP_spec p hz
 refine zd rfl rfl rfl (by simp [zf, ints]) ?_
 unfold evalM
 by_cases h0 : (zse p).1 = 0
 ·rw [if_pos h0]
  have hP := checkT_ok hz h0
  have hS0 : FitS p (run0 p inp fu) := by
   refine ⟨?_, ?_⟩
   ·simp [run0, List.map_map, Function.comp_def]
   ·simp [run0]; omega
  obtain ⟨f, hf', hfp⟩ := hP.main
  have hpl := zIc p zMb (by have := hP.sz.2.1; omega)
  rcases zkb (fun f : Func => decide (f.name = zMb)) p.funcs with ⟨a1, a2⟩ | ⟨i, g, a1, a2, a3, a4, a5⟩
  ·have a2 : zSa p zMb = none := a2
   rw [a2] at hf'; cases hf'
  have a3 : zSa p zMb = some g := a3
  have a1 : zla p zMb = i := a1
  rw [a3, Option.some.injEq] at hf'
  subst hf'
  rw [a1] at hpl
  have hB := rblock_of (rspecs hP (run0 p inp fu).fuel).2
  have hc := rcall_of hP hB a2 (T := []) (l := []) hS0 (Nat.le_refl _) (by rw [hfp]; rfl) rfl
  have hm := callW_mono (zUb p (run0 p inp fu).fuel) g [] (run0 p inp fu)
  have hmw : mainW p (run0 p inp fu) = callW (evF p (run0 p inp fu).fuel) g [] (run0 p inp fu) := by unfold mainW; rw [a3]
  rw [hmw]
  generalize callW (evF p (run0 p inp fu).fuel) g [] (run0 p inp fu) = q at *
  obtain ⟨a, S1⟩ := q
  obtain ⟨z, hc, hzz⟩ := zfd hc
  have hS1 := hS0.mono hm
  have hov := zob p S1 (goH a) []
  have hr4 : ∀ h X, ((stR p S1 h []).set 0 X)[0]? = some X := by
   intro h X
   rw [List.getElem?_set_self (by rw [stR_len hS1]; unfold nbR; omega)]
  have hmx : (if fu < 0 then 0 else fu) = max fu 0 := by split <;> omega
  generalize zse p = ck at *
  obtain ⟨c0, c1, c2⟩ := ck
  simp only at h0
  subst h0
  simp [zf, zwa, zga] at hck
  simp [zf, zga, zMb] at hpl
  unfold stR at hc
  simp [runR, run0, zEb, zga, ints] at hc
  simp [*, F19, zf, zga, ints]
  refine zI p.arrays K19_0 B19_0 (fun d => [(10, .int .i64 d.length)]) (fun d => .arr 10 [.agg [.slice .plain 2 (p.arrays.map zU), funcs p.funcs, .slice .plain 1 (inp.map (PV.int .i64)), acc 1 (zLb 1 d), .int .i64 0, .int .i64 0, .slice .fit 1 [], .int .i64 0, .int .i64 (max fu 0), .bool false]] :: d.map (fun x => intO (List.replicate x.size.toNat 0))) (fun d => True) (by have := hz.1; omega) (by simp [zLb]) ?_ ?_
  ·intros d x r s1 hl' hlt hget hget' hwr hp g1 g2 g3 g4
   simp at g1 g3
   have hsz := hP.size x hl'.mem
   have hsn := rptrs_snoc x d 1
   rw [show 1 + d.length = d.length + 1 from by omega] at hsn
   have hdec : decide (d.length < p.arrays.length) = true := decide_eq_true hlt
   have hs1 : (x.size < 0) = False := eqn (by omega)
   have hs2 : (0 <= x.size) = True := eqp (by omega)
   have hs3 : (x.size <= 9223372036854775807) = True := eqp (by omega)
   have hs4 : (8 * x.size <= 281474976710656) = True := eqp (by omega)
   have hrow : Obj.arr 1 (List.replicate x.size.toNat (PV.int .i64 0)) = intO (List.replicate x.size.toNat 0) := by simp [intO]
   have hroom : ((zLb 1 d).length + 1) * 24 <= zw := by
    rw [rptrs_len]; have := hz.1; simp only [zw]; omega
   have hao : acc 1 (zLb 1 d ++ [.mslice (d.length + 1) 0 x.size.toNat 1]) = .slice .own 1 (zLb 1 d ++ [.mslice (d.length + 1) 0 x.size.toNat 1]) := acc_ne (by simp)
   have hio : isOwn (acc 1 (zLb 1 d ++ [.mslice (d.length + 1) 0 x.size.toNat 1])) = some (1, zLb 1 d ++ [.mslice (d.length + 1) 0 x.size.toNat 1]) := by
    rw [acc_ne (by simp)]; rfl
   clear hl' hget' hlt hp hsz hP hS0 hm hr4 hck hS1 hc hov hpl hB a2 hzz
   simp [*, zU]
   try rw [hao]
  ·intros s1 hp g1 g2 g3 g4
   simp at g1 g3
   have hdec : (p.arrays.map (fun x => intO (List.replicate x.size.toNat 0))) = List.map (intO ∘ fun a => List.replicate a.size.toNat 0) p.arrays := rfl
   rw [hdec] at g4
   clear hdec hP hS0 hp hck hB hm hS1
   cases a with
   | stop k =>
    simp at hc
    simp [stR, runR, zEb, zga, ints] at hov
    clear hzz
    simp [*, zEd, runEnd, ints]
   | ok n =>
    replace hzz := hzz n rfl
    subst hzz
    simp at hc
    simp [stR, runR, zEb, zga, ints] at hov
    simp [*, zEd, runEnd, ints]
 ·rw [if_neg h0]
  generalize zse p = ck at *
  obtain ⟨c0, c1, c2⟩ := ck
  simp only at h0
  simp [zf, zwa] at hck
  replace h0 := eqn h0
  simp [*, F19, zf, zEd, ints]
end PE.U

namespace PE.U
open Go PE
def u8s (l : List UInt8) : PV := .slice .plain 1 (l.map fun b => .int .u8 b.toNat)
section
variable (l : List UInt8)
@[simp high] theorem isVar_u8s : zE (u8s l) = true := Eq.trans rfl rfl
@[simp high] theorem strip_u8s : strip (u8s l) = u8s l := Eq.trans rfl rfl
@[simp high] theorem stripA_u8s : stripA (u8s l) = u8s l := Eq.trans rfl rfl
@[simp high] theorem bl_u8 (n : Nat) : zX n (l.map fun b => PV.int .u8 b.toNat) = true := zqb _ _ _ (fun _ => rfl)
@[simp high] theorem below_u8s (n : Nat) : zy n (u8s l) = true := by simp [u8s]
end
theorem remNat (a b : Nat) : remK (a : Int) (b : Int) = ((a % b : Nat) : Int) := by rw [remK_eq]; rfl
end PE.U

namespace PE.U
open Go PE
def outSame (a b : List Int) : Bool := decide (a = b)
theorem sameOut_spec (a b : List Int) (ha : a.length < 1099511627776) (hb : b.length < 1099511627776) : zi E 30 [ints a, ints b] [] = some (.ret (.bool (outSame a b)), []) := by
 refine zd rfl rfl rfl (by simp [ints]) ?_
 unfold outSame
 by_cases hl : a.length = b.length
 ·have hl' : ((a.length : Int) = b.length) = True := eqp (by omega)
  simp [*, F30, ints]
  refine zI a K30_0 B30_0 (fun d => [(5, .int .i64 d.length)]) (fun _ => []) (fun d => b.take d.length = d) (by omega) (by simp) ?_ ?_
  ·intros d x r s1 hs hlt hget hget' hwr hp g1 g2 g3 g4
   simp at g1 g3
   obtain ⟨y, hy⟩ : ∃ y, b[d.length]? = some y := ⟨_, List.getElem?_eq_getElem (by omega)⟩
   have hdec : decide (d.length < a.length) = true := decide_eq_true (by omega)
   have htk : b.take (d.length + 1) = d ++ [y] := by rw [List.take_add_one, hy, hp]; rfl
   by_cases hxy : x = y
   ·subst hxy
    clear hs hlt hget' hl hl' hp
    simp [*]
   ·have hne : ¬ a = b := by
     rintro rfl
     rw [hget] at hy
     exact hxy (Option.some.inj hy)
    have h1 : (x = y) = False := eqn hxy
    clear hs hlt hget' hl hl' hp htk
    simp [*]
  ·intros s1 hp g1 g2 g3 g4
   simp at g1 g3
   have : a = b := by rw [<- hp, hl, List.take_length]
   subst this
   clear hp
   simp [*]
 ·have hne : ¬ a = b := by rintro rfl; exact hl rfl
  have hl' : ((a.length : Int) = b.length) = False := eqn (by omega)
  clear hl
  simp [*, F30, ints]
def sameRn (a b : Rn) : Bool := decide (a.status = b.status) && (decide (a.code = b.code) && (outSame a.out b.out && (decide (a.cost = b.cost) && decide (a.fuel = b.fuel))))
theorem sameRn_self (a : Rn) : sameRn a a = true := by simp [sameRn, outSame]
set_option maxHeartbeats 1000000 in
theorem sameR_spec (a b : Rn) (ha : a.out.length < 1099511627776) (hb : b.out.length < 1099511627776) : zi E 16 [zEd a, zEd b] [] = some (.ret (.bool (sameRn a b)), []) := by
 have ho := sameOut_spec a.out b.out ha hb
 refine zd rfl rfl rfl (by simp [zEd]) ?_
 unfold sameRn
 generalize outSame a.out b.out = so at *
 clear ha hb
 (simp [*, F16, zEd]) <;> (repeat' (first | ((first | refine sP _ ?_ ?_ | refine gP _ ?_ ?_ | refine sN _ ?_ ?_ | refine gN _ ?_ ?_) <;> intro hc <;> (first | replace hc := eqn hc | replace hc := eqp hc) <;> simp [*, F16, zEd]) | ((first | refine sM _ ?_ ?_ | refine gM _ ?_ ?_ | refine sB _ ?_ ?_ | refine gB _ ?_ ?_) <;> intro hc <;> simp [*, F16, zEd])))
theorem evalM_out (p : Prog) (inp : List Int) (fu : Int) (h : fu <= 100000000000) : (evalM p inp fu).out.length < 1099511627776 := by
 unfold evalM
 split
 ·have hm : (mainW p (run0 p inp fu)).2.out.length <= fu.toNat := by
   unfold mainW
   split
   ·rename_i f hf
    have := (callW_mono (zUb p (run0 p inp fu).fuel) f [] (run0 p inp fu)).out
    simp only [run0, List.length_nil] at this ⊢
    omega
   ·simp [run0]
  have : (runEnd (mainW p (run0 p inp fu))).out = (mainW p (run0 p inp fu)).2.out := by
   generalize mainW p (run0 p inp fu) = q
   obtain ⟨a, S⟩ := q
   cases a <;> rfl
  rw [this]; omega
 ·simp
theorem ins_spec (l : List Int) (hl : l.length <= 9223372036854775807) : zi E 18 [ints l] [] = some (.ret (ints (l.take 10)), []) := by
 refine zd rfl rfl rfl (by simp) ?_
 by_cases h : 10 < l.length
 ·have h1 : ((10 : Int) < l.length) = True := eqp (by omega)
  have h2 : (10 <= l.length) = True := eqp (by omega)
  clear hl h
  simp [*, F18, ints]
 ·have h1 : ((10 : Int) < l.length) = False := eqn (by omega)
  have h2 : l.take 10 = l := List.take_of_length_le (by omega)
  rw [h2]
  clear hl h h2
  simp [*, F18, ints]
def aw71 : List UInt8 := [105, 110, 116, 32, 109, 97, 105, 110, 40, 41, 32, 123, 32, 112, 114, 105, 110, 116, 40, 54, 32, 42, 32, 55, 41, 59, 32, 114, 101, 116, 117, 114, 110, 32, 49, 32, 47, 32, 48, 59, 32, 125]
def aw72 : List UInt8 := [105, 110, 116, 32, 102, 40, 105, 110, 116, 32, 110, 41, 32, 123, 32, 105, 102, 32, 40, 110, 32, 60, 32, 50, 41, 32, 123, 32, 114, 101, 116, 117, 114, 110, 32, 49, 59, 32, 125, 32, 114, 101, 116, 117, 114, 110, 32, 110, 32, 42, 32, 102, 40, 110, 32, 45, 32, 49, 41, 59, 32, 125, 32, 105, 110, 116, 32, 109, 97, 105, 110, 40, 41, 32, 123, 32, 114, 101, 116, 117, 114, 110, 32, 102, 40, 114, 101, 97, 100, 40, 41, 41, 59, 32, 125]
theorem aw71_ok : (evalM (zRa aw71).1 [] 100).status = 2 /\ (evalM (zRa aw71).1 [] 100).out = [42] /\ (evalM (zRa aw71).1 [] 100).cost = 3 := by decide +kernel
theorem aw72_ok : (evalM (zRa aw72).1 [5] 200).status = 1 /\ (evalM (zRa aw72).1 [5] 200).code = 120 /\ (evalM (zRa aw72).1 [5] 20).status = 0 /\ (evalM (zRa aw72).1 [5] 20).fuel = 0 := by decide +kernel
set_option maxHeartbeats 1000000 in
theorem awake07_spec : zi E 15 [] [] = some (.ret (.bool true), []) := by
 refine zd rfl rfl rfl (by simp) ?_
 have p1 := parse_spec aw71
 have p2 := parse_spec aw72
 have r1 := zUd _ (parse_psz aw71) [] 100 (by omega)
 have r2 := zUd _ (parse_psz aw72) [5] 200 (by omega)
 have r3 := zUd _ (parse_psz aw72) [5] 20 (by omega)
 obtain ⟨a1, a2, a3⟩ := aw71_ok
 obtain ⟨b1, b2, b3, b4⟩ := aw72_ok
 generalize evalM (zRa aw71).1 [] 100 = m1 at *
 generalize evalM (zRa aw72).1 [5] 200 = m2 at *
 generalize evalM (zRa aw72).1 [5] 20 = m3 at *
 generalize zRa aw71 = q1 at *
 generalize zRa aw72 = q2 at *
 obtain ⟨⟨ar1, fs1⟩, e1, n1⟩ := q1
 obtain ⟨⟨ar2, fs2⟩, e2, n2⟩ := q2
 obtain ⟨s1, c1, o1, k1, f1⟩ := m1
 obtain ⟨s2, c2, o2, k2, f2⟩ := m2
 obtain ⟨s3, c3, o3, k3, f3⟩ := m3
 simp only at a1 a2 a3 b1 b2 b3 b4
 subst a1 a2 a3 b1 b2 b3 b4
 simp [zKe, zf, aw71, aw72, zEd, ints] at p1 p2 r1 r2 r3
 simp [*, F15, ints]
theorem both_runs (p : Prog) (hz : PSz p) (inp : List Int) (fu : Int) (hf : fu <= 100000000000) : ∃ r, zi E 17 [zf p, ints inp, .int .i64 fu] [] = some (.ret (zEd r), []) /\ zi E 19 [zf p, ints inp, .int .i64 fu] [] = some (.ret (zEd r), []) /\ zi E 16 [zEd r, zEd r] [] = some (.ret (.bool true), []) := by
 refine ⟨evalM p inp fu, zUd p hz inp fu hf, refrun_spec p hz inp fu hf, ?_⟩
 have h := evalM_out p inp fu hf
 rw [sameR_spec _ _ h h, sameRn_self]
end PE.U

namespace PE.U
open Go PE
def mob (l : List UInt8) (i : Nat) : ze := [.arr 2 [.agg [u8s l, .int .i64 i]]]
def pickM (l : List UInt8) (i n : Nat) : Nat := if l.length < i + 1 \/ 120 < i + 1 then 0 else (l[i]?.getD 0).toNat % n
theorem pick_spec (l : List UInt8) (i n : Nat) (hn : 0 < n /\ n <= 1000) (hi : i <= 1000000000000) (hl : l.length <= 9223372036854775807) :
  zi E 75 [.ptr 0 0 0, .int .i64 n] (mob l i) = some (.ret (.int .i64 (pickM l i n)), mob l (i + 1)) := by
 refine zd rfl rfl rfl (by simp) ?_
 have hw : zB .i64 ((i : Int) + 1) = (i : Int) + 1 := zj (by omega) (by omega)
 by_cases h1 : l.length < i + 1
 ·have k1 : ((l.length : Int) < (i : Int) + 1) = True := eqp (by omega)
  have h2 : pickM l i n = 0 := by simp [pickM, h1]
  clear h1
  simp [*, F75, mob, u8s]
 ·have k1 : ((l.length : Int) < (i : Int) + 1) = False := eqn (by omega)
  by_cases h3 : 120 < i + 1
  ·have k3 : ((120 : Int) < (i : Int) + 1) = True := eqp (by omega)
   have h2 : pickM l i n = 0 := by simp only [pickM, h3, or_true, if_true]
   clear h1 h3
   simp [*, F75, mob, u8s]
  ·have k3 : ((120 : Int) < (i : Int) + 1) = False := eqn (by omega)
   obtain ⟨b, hb⟩ : ∃ b, l[i]? = some b := ⟨_, List.getElem?_eq_getElem (by omega)⟩
   have h2 : pickM l i n = b.toNat % n := by simp only [pickM, h1, h3, or_self, if_false, hb, Option.getD_some]
   have hr : remK (b.toNat : Int) (n : Int) = ((b.toNat % n : Nat) : Int) := remNat _ _
   have hw2 : zB .i64 (i : Int) = (i : Int) := zj (by omega) (by omega)
   have hn0 : (n = 0) = False := eqn (by omega)
   clear h1 h3 hl
   simp [*, F75, mob, u8s]
theorem zzb (l : List UInt8) (i n : Nat) (hn : 0 < n /\ n <= 1000) (hi : i <= 1000000000000) (hl : l.length <= 9223372036854775807) :
  ∃ k : Nat, k < n /\ zi E 75 [.ptr 0 0 0, .int .i64 n] (mob l i) = some (.ret (.int .i64 k), mob l (i + 1)) := by
 refine ⟨_, ?_, pick_spec l i n hn hi hl⟩
 unfold pickM
 split
 ·omega
 ·exact Nat.mod_lt _ hn.1
end PE.U

namespace PE.U
open Go PE
theorem aI {cf : zC} {s0 s : St} {r : List GOp} {Q : Ex -> St -> Prop} {a : _} {b : _} {o : _} {x : _} {c : Prop} [Decidable c] (hc : c) (h : after cf s0 r Q (doOp a b o s (some x))) : after cf s0 r Q (doOp a b o s (if c then some x else none)) := by rw [if_pos hc]; exact h
def BN : Nat -> Nat
 | 0 => 100
 | d + 1 => 2 * BN d + 100
def isStr (l : List UInt8) (i b : Nat) (r : CRes) (st : ze) : Prop := ∃ s i', r = .ret (.str s) /\ st = mob l i' /\ s.length <= b /\ i' <= i + b
@[simp] theorem isStr_str (l : List UInt8) (i b : Nat) (s : List UInt8) (st : ze) : isStr l i b (.ret (.str s)) st = ∃ i', st = mob l i' /\ s.length <= b /\ i' <= i + b := by
 unfold isStr
 apply propext
 constructor
 ·rintro ⟨s', i', h, h2⟩
  cases h
  exact ⟨i', h2⟩
 ·rintro ⟨i', h2⟩
  exact ⟨s, i', rfl, h2⟩
@[simp] theorem mob_inj (l : List UInt8) (i j : Nat) : (mob l i = mob l j) = (i = j) := by
 apply propext
 constructor
 ·intro h; simp [mob] at h; omega
 ·rintro rfl; rfl
structure NT (l : List UInt8) (d : Nat) : Prop where
 num : ∀ i v b, i + BN d <= 900000000000 -> v.length <= 4 -> b.length <= 4 -> PC (zi E 38 [.ptr 0 0 0, .str v, .str b, .int .i64 d] (mob l i)) (isStr l i (BN d))
 truth : ∀ i v b, i + BN d <= 900000000000 -> v.length <= 4 -> b.length <= 4 -> PC (zi E 39 [.ptr 0 0 0, .str v, .str b, .int .i64 d] (mob l i)) (isStr l i (BN d))
theorem NT.num' {l : List UInt8} {d : Nat} (S : NT l d) (i : Nat) (v b : List UInt8) (hi : i + BN d <= 900000000000) (hv : v.length <= 4) (hb : b.length <= 4) :
  ∃ s i', zi E 38 [.ptr 0 0 0, .str v, .str b, .int .i64 d] (mob l i) = some (.ret (.str s), mob l i') /\ s.length <= BN d /\ i' <= i + BN d := by
 obtain ⟨r, st, h, s, i', rfl, rfl, h1, h2⟩ := zYd.1 (S.num i v b hi hv hb)
 exact ⟨s, i', h, h1, h2⟩
theorem NT.truth' {l : List UInt8} {d : Nat} (S : NT l d) (i : Nat) (v b : List UInt8) (hi : i + BN d <= 900000000000) (hv : v.length <= 4) (hb : b.length <= 4) :
  ∃ s i', zi E 39 [.ptr 0 0 0, .str v, .str b, .int .i64 d] (mob l i) = some (.ret (.str s), mob l i') /\ s.length <= BN d /\ i' <= i + BN d := by
 obtain ⟨r, st, h, s, i', rfl, rfl, h1, h2⟩ := zYd.1 (S.truth i v b hi hv hb)
 exact ⟨s, i', h, h1, h2⟩
theorem one_of (ls : List (List UInt8)) (m : Nat) (h : ls.all (fun t => t.length <= m) = true) (j : Nat) (hj : j < ls.length) : ∃ t, t.length <= m /\ (ls.map PV.str)[j]'(by simpa using hj) = PV.str t := by
 refine ⟨ls[j], ?_, by simp⟩
 have := List.all_eq_true.1 h ls[j] (List.getElem_mem hj)
 simpa using this
def numsL : List (List UInt8) := [[48], [49], [50], [55], [50, 53, 53], [54, 52]]
def onesL : List (List UInt8) := [[45], [126], [105, 56], [117, 49, 54], [105, 51, 50]]
def twosL : List (List UInt8) := [[43], [45], [42], [47], [37], [38], [124], [94], [60, 60], [62, 62], [62, 62, 62]]
def trusL : List (List UInt8) := [[116, 114, 117, 101], [102, 97, 108, 115, 101]]
def cmpsL : List (List UInt8) := [[60], [60, 61], [62], [62, 61], [61, 61], [33, 61]]
set_option maxHeartbeats 4000000 in
theorem num0 (l : List UInt8) (hl : l.length <= 9223372036854775807) : ∀ i v b, i + BN 0 <= 900000000000 -> v.length <= 4 -> b.length <= 4 -> PC (zi E 38 [.ptr 0 0 0, .str v, .str b, .int .i64 0] (mob l i)) (isStr l i (BN 0)) := by
 intro i v b hi hv hb
 refine zQ rfl rfl rfl (by simp) ?_
 have hB : BN 0 = 100 := rfl
 rw [hB] at hi
 obtain ⟨k, k1, hk⟩ := zzb l i 14 (by omega) (by omega) hl
 have hr : remK (k : Int) 6 = ((k % 6 : Nat) : Int) := remNat k 6
 simp at hk
 have hm : k % 6 < 6 := Nat.mod_lt _ (by omega)
 generalize k % 6 = z at *
 clear k1
 obtain ⟨j, j1, hj⟩ := zzb l (i + 1) 6 (by omega) (by omega) hl
 obtain ⟨t, t1, ht⟩ := one_of numsL 3 (by decide) j j1
 simp [numsL] at hj ht
 have m1 : v.length + 7 <= 9223372036854775807 := by omega
 have m2 : 2 + v.length <= 9223372036854775807 := by omega
 have : z = 0 \/ z = 1 \/ z = 2 \/ z = 3 \/ z = 4 \/ z = 5 := by omega
 clear hl hm
 rcases this with rfl | rfl | rfl | rfl | rfl | rfl <;> (simp [*, F38]) <;> (repeat' (refine aI (by omega) ?_ <;> simp [*, F38])) <;> (try omega)
set_option maxHeartbeats 4000000 in
theorem numS (l : List UInt8) (hl : l.length <= 9223372036854775807) (d : Nat) (hd : BN d <= 1000000) (hd2 : d <= 100) (S : NT l d) : ∀ i v b, i + BN (d + 1) <= 900000000000 -> v.length <= 4 -> b.length <= 4 -> PC (zi E 38 [.ptr 0 0 0, .str v, .str b, .int .i64 (d + 1 : Nat)] (mob l i)) (isStr l i (BN (d + 1))) := by
 intro i v b hi hv hb
 refine zQ rfl rfl rfl (by simp) ?_
 have hB : BN (d + 1) = 2 * BN d + 100 := rfl
 rw [hB] at hi
 obtain ⟨k, k1, hk⟩ := zzb l i 14 (by omega) (by omega) hl
 simp at hk
 have q1 : ((d : Int) + 1 < 1) = False := eqn (by omega)
 have q2 : ((d : Int) < 0) = False := eqn (by omega)
 have q3 : zB .i64 (d : Int) = d := zj (by omega) (by omega)
 have hkk : k < 2 \/ k = 2 \/ k = 3 \/ k = 4 \/ k = 5 \/ k = 6 \/ k = 7 \/ (8 <= k /\ k < 11) \/ k = 11 \/ k = 12 \/ k = 13 := by omega
 have m1 : v.length + 7 <= 9223372036854775807 := by omega
 have m2 : 2 + v.length <= 9223372036854775807 := by omega
 clear k1
 rcases hkk with hkk | hkk
 ·obtain ⟨j, j1, hj⟩ := zzb l (i + 1) 6 (by omega) (by omega) hl
  obtain ⟨t, t1, ht⟩ := one_of numsL 3 (by decide) j j1
  simp [numsL] at hj ht
  have n1 : ((k : Int) < 2) = True := eqp (by omega)
  clear hl hkk
  (simp [*, F38]) <;> (repeat' (refine aI (by omega) ?_ <;> simp [*, F38])) <;> (try omega)
 have n1 : ((k : Int) < 2) = False := eqn (by omega)
 by_cases hk5 : k < 5
 ·have n2 : ((k : Int) < 5) = True := eqp (by omega)
  clear hl hkk hk5
  (simp [*, F38]) <;> (repeat' (refine aI (by omega) ?_ <;> simp [*, F38])) <;> (try omega)
 have n2 : ((k : Int) < 5) = False := eqn (by omega)
 by_cases hk8 : 8 <= k /\ k < 11
 ·obtain ⟨s1, i1, h1, b1, c1⟩ := S.num' (i + 1) v b (by omega) hv hb
  obtain ⟨j, j1, hj⟩ := zzb l i1 11 (by omega) (by omega) hl
  obtain ⟨t, t1, ht⟩ := one_of twosL 3 (by decide) j j1
  obtain ⟨s2, i2, h2, b2, c2⟩ := S.num' (i1 + 1) v b (by omega) hv hb
  simp [twosL] at hj ht
  have n3 : ((k : Int) < 11) = True := eqp (by omega)
  have n4 : ((k : Int) = 5) = False := eqn (by omega)
  have n5 : ((k : Int) = 6) = False := eqn (by omega)
  have n6 : ((k : Int) = 7) = False := eqn (by omega)
  clear hl hkk hk5 hk8
  (simp [*, F38]) <;> (repeat' (refine aI (by omega) ?_ <;> simp [*, F38])) <;> (try omega)
 have hkk : k = 5 \/ k = 6 \/ k = 7 \/ k = 11 \/ k = 12 \/ k = 13 := by omega
 rcases hkk with rfl | rfl | rfl | rfl | rfl | rfl
 ·clear hl hk5 hk8 n1 n2
  simp at hk
  (simp [*, F38]) <;> (repeat' (refine aI (by omega) ?_ <;> simp [*, F38])) <;> (try omega)
 ·obtain ⟨s1, i1, h1, b1, c1⟩ := S.num' (i + 1) v b (by omega) hv hb
  clear hl hk5 hk8 n1 n2
  simp at hk
  (simp [*, F38]) <;> (repeat' (refine aI (by omega) ?_ <;> simp [*, F38])) <;> (try omega)
 ·obtain ⟨j, j1, hj⟩ := zzb l (i + 1) 5 (by omega) (by omega) hl
  obtain ⟨t, t1, ht⟩ := one_of onesL 3 (by decide) j j1
  obtain ⟨s1, i1, h1, b1, c1⟩ := S.num' (i + 1 + 1) v b (by omega) hv hb
  simp [onesL] at hj ht
  clear hl hk5 hk8 n1 n2
  simp at hk
  (simp [*, F38]) <;> (repeat' (refine aI (by omega) ?_ <;> simp [*, F38])) <;> (try omega)
 ·clear hl hk5 hk8 n1 n2
  simp at hk
  simp [*, F38]
 ·clear hl hk5 hk8 n1 n2
  simp at hk
  (simp [*, F38]) <;> (repeat' (refine aI (by omega) ?_ <;> simp [*, F38])) <;> (try omega)
 ·obtain ⟨s1, i1, h1, b1, c1⟩ := S.num' (i + 1) v b (by omega) hv hb
  obtain ⟨s2, i2, h2, b2, c2⟩ := S.truth' i1 v b (by omega) hv hb
  clear hl hk5 hk8 n1 n2
  simp at hk
  (simp [*, F38]) <;> (repeat' (refine aI (by omega) ?_ <;> simp [*, F38])) <;> (try omega)
end PE.U

namespace PE.U
open Go PE
set_option maxHeartbeats 4000000 in
theorem truth0 (l : List UInt8) (hl : l.length <= 9223372036854775807) : ∀ i v b, i + BN 0 <= 900000000000 -> v.length <= 4 -> b.length <= 4 -> PC (zi E 39 [.ptr 0 0 0, .str v, .str b, .int .i64 0] (mob l i)) (isStr l i (BN 0)) := by
 intro i v b hi hv hb
 refine zQ rfl rfl rfl (by simp) ?_
 have hB : BN 0 = 100 := rfl
 rw [hB] at hi
 obtain ⟨k, k1, hk⟩ := zzb l i 10 (by omega) (by omega) hl
 have hr : remK (k : Int) 3 = ((k % 3 : Nat) : Int) := remNat k 3
 simp at hk
 have hm : k % 3 < 3 := Nat.mod_lt _ (by omega)
 generalize k % 3 = z at *
 clear k1
 obtain ⟨j, j1, hj⟩ := zzb l (i + 1) 2 (by omega) (by omega) hl
 obtain ⟨t, t1, ht⟩ := one_of trusL 5 (by decide) j j1
 simp [trusL] at hj ht
 have : z = 0 \/ z = 1 \/ z = 2 := by omega
 clear hl hm
 rcases this with rfl | rfl | rfl <;> (simp [*, F39]) <;> (repeat' (refine aI (by omega) ?_ <;> simp [*, F39])) <;> (try omega)
set_option maxHeartbeats 4000000 in
theorem truthS (l : List UInt8) (hl : l.length <= 9223372036854775807) (d : Nat) (hd : BN d <= 1000000) (hd2 : d <= 100) (S : NT l d) : ∀ i v b, i + BN (d + 1) <= 900000000000 -> v.length <= 4 -> b.length <= 4 -> PC (zi E 39 [.ptr 0 0 0, .str v, .str b, .int .i64 (d + 1 : Nat)] (mob l i)) (isStr l i (BN (d + 1))) := by
 intro i v b hi hv hb
 refine zQ rfl rfl rfl (by simp) ?_
 have hB : BN (d + 1) = 2 * BN d + 100 := rfl
 rw [hB] at hi
 obtain ⟨k, k1, hk⟩ := zzb l i 10 (by omega) (by omega) hl
 simp at hk
 have q1 : ((d : Int) + 1 < 1) = False := eqn (by omega)
 have q2 : ((d : Int) < 0) = False := eqn (by omega)
 have q3 : zB .i64 (d : Int) = d := zj (by omega) (by omega)
 by_cases hk3 : k < 3
 ·have : k = 0 \/ k = 1 \/ k = 2 := by omega
  obtain ⟨j, j1, hj⟩ := zzb l (i + 1) 2 (by omega) (by omega) hl
  obtain ⟨t, t1, ht⟩ := one_of trusL 5 (by decide) j j1
  simp [trusL] at hj ht
  clear hl k1 hk3
  rcases this with rfl | rfl | rfl <;> simp at hk <;> (simp [*, F39]) <;> (repeat' (refine aI (by omega) ?_ <;> simp [*, F39])) <;> (try omega)
 have n0 : ((k : Int) < 3) = False := eqn (by omega)
 by_cases hk7 : 4 <= k /\ k < 7
 ·obtain ⟨s1, i1, h1, b1, c1⟩ := S.num' (i + 1) v b (by omega) hv hb
  obtain ⟨j, j1, hj⟩ := zzb l i1 6 (by omega) (by omega) hl
  obtain ⟨t, t1, ht⟩ := one_of cmpsL 3 (by decide) j j1
  obtain ⟨s2, i2, h2, b2, c2⟩ := S.num' (i1 + 1) v b (by omega) hv hb
  simp [cmpsL] at hj ht
  have n3 : ((k : Int) < 7) = True := eqp (by omega)
  have n4 : ((k : Int) = 0) = False := eqn (by omega)
  have n5 : ((k : Int) = 3) = False := eqn (by omega)
  have n6 : (k = 0) = False := eqn (by omega)
  clear hl k1 hk3 hk7
  (simp [*, F39]) <;> (repeat' (refine aI (by omega) ?_ <;> simp [*, F39])) <;> (try omega)
 have hkk : k = 3 \/ k = 7 \/ k = 8 \/ k = 9 := by omega
 rcases hkk with rfl | rfl | rfl | rfl
 ·clear hl k1 hk3 hk7 n0
  simp at hk
  (simp [*, F39]) <;> (repeat' (refine aI (by omega) ?_ <;> simp [*, F39])) <;> (try omega)
 ·obtain ⟨s1, i1, h1, b1, c1⟩ := S.truth' (i + 1) v b (by omega) hv hb
  obtain ⟨s2, i2, h2, b2, c2⟩ := S.truth' i1 v b (by omega) hv hb
  clear hl k1 hk3 hk7 n0
  simp at hk
  (simp [*, F39]) <;> (repeat' (refine aI (by omega) ?_ <;> simp [*, F39])) <;> (try omega)
 ·obtain ⟨s1, i1, h1, b1, c1⟩ := S.truth' (i + 1) v b (by omega) hv hb
  obtain ⟨s2, i2, h2, b2, c2⟩ := S.truth' i1 v b (by omega) hv hb
  clear hl k1 hk3 hk7 n0
  simp at hk
  (simp [*, F39]) <;> (repeat' (refine aI (by omega) ?_ <;> simp [*, F39])) <;> (try omega)
 ·obtain ⟨s1, i1, h1, b1, c1⟩ := S.num' (i + 1) v b (by omega) hv hb
  clear hl k1 hk3 hk7 n0
  simp at hk
  (simp [*, F39]) <;> (repeat' (refine aI (by omega) ?_ <;> simp [*, F39])) <;> (try omega)
theorem nt (l : List UInt8) (hl : l.length <= 9223372036854775807) : ∀ d, d <= 3 -> NT l d := by
 intro d
 induction d with
 | zero => intro _; exact ⟨num0 l hl, truth0 l hl⟩
 | succ d ih =>
  intro h
  have hb : BN d <= 1000000 := by
   have : d = 0 \/ d = 1 \/ d = 2 := by omega
   rcases this with rfl | rfl | rfl <;> decide
  exact ⟨numS l hl d hb (by omega) (ih (by omega)), truthS l hl d hb (by omega) (ih (by omega))⟩
end PE.U

namespace PE.U
open Go PE
def SB : Nat -> Nat
 | 0 => 2000
 | d + 1 => 8 * SB d + 3000
structure ST (l : List UInt8) (d : Nat) : Prop where
 stmt : ∀ i v b loop, i + SB d <= 800000000000 -> v.length <= 4 -> b.length <= 4 -> PC (zi E 76 [.ptr 0 0 0, .str v, .str b, .int .i64 d, .bool loop] (mob l i)) (isStr l i (SB d))
theorem ST.to {l : List UInt8} {d : Nat} (S : ST l d) (i : Nat) (v b : List UInt8) (loop : Bool) (hi : i + SB d <= 800000000000) (hv : v.length <= 4) (hb : b.length <= 4) :
  ∃ s i', zi E 76 [.ptr 0 0 0, .str v, .str b, .int .i64 d, .bool loop] (mob l i) = some (.ret (.str s), mob l i') /\ s.length <= SB d /\ i' <= i + SB d := by
 obtain ⟨r, st, h, s, i', rfl, rfl, h1, h2⟩ := zYd.1 (S.stmt i v b loop hi hv hb)
 exact ⟨s, i', h, h1, h2⟩
structure BkS where
 m : Nat
 s : List UInt8
 j : Nat
set_option maxHeartbeats 4000000 in
theorem mblock_of (l : List UInt8) (hl : l.length <= 9223372036854775807) (d : Nat) (hd : SB d <= 10000000) (hd2 : d <= 100) (S : ST l d) (i : Nat) (v b : List UInt8) (loop : Bool) (hi : i + (4 * SB d + 10) <= 800000000000) (hv : v.length <= 4) (hb : b.length <= 4) :
  PC (zi E 37 [.ptr 0 0 0, .str v, .str b, .int .i64 d, .bool loop] (mob l i)) (isStr l i (4 * SB d + 10)) := by
 refine zQ rfl rfl rfl (by simp) ?_
 obtain ⟨k, k1, hk⟩ := zzb l i 5 (by omega) (by omega) hl
 simp at hk
 simp [hk, F37]
 have hkm : k * SB d <= 4 * SB d := Nat.mul_le_mul_right _ (by omega)
 refine zDa K37_0 B37_0 (fun c : BkS => c.m) (fun c => [(11, .str c.s), (12, .int .i64 c.m)]) (fun _ => []) (fun c => mob l c.j) (fun c => c.m <= 4 /\ c.s.length + c.m * SB d <= 4 * SB d /\ c.j + c.m * SB d <= i + 1 + 4 * SB d) ⟨k, [], i + 1⟩ ⟨by simp, by simp, by simp, by simp only [List.length_nil]; omega⟩ ?_
 rintro ⟨m, s, j⟩ s1 ⟨hm, hs, hj⟩ h1 h2 h3 h4 h5
 simp only at hm hs hj
 simp at h1 h3 h5
 clear hk h2 h4 hkm
 cases m with
 | zero =>
  simp at h3 hs hj
  simp [*]
  omega
 | succ m =>
  rw [Nat.succ_mul] at hs hj
  generalize hX : m * SB d = X at *
  obtain ⟨t, j', ht, t1, t2⟩ := S.to j v b loop (by omega) hv hb
  have q1 : ((m : Int) + 1 > 0) = True := eqp (by omega)
  have q2 : ((0 : Int) < (m : Int) + 1) = True := eqp (by omega)
  have q3 : zB .i64 (m : Int) = m := zj (by omega) (by omega)
  have q4 : s.length + t.length <= 9223372036854775807 := by omega
  simp at h3
  clear hl S
  simp [*]
  refine ⟨⟨m, s ++ t, j'⟩, by simp, ?_⟩
  simp only [List.length_append]
  simp [*]
  omega
end PE.U

namespace PE.U
open Go PE
def BkOk (l : List UInt8) (d : Nat) : Prop := ∀ i v b loop, i + (4 * SB d + 10) <= 800000000000 -> v.length <= 4 -> b.length <= 4 →
  ∃ s i', zi E 37 [.ptr 0 0 0, .str v, .str b, .int .i64 d, .bool loop] (mob l i) = some (.ret (.str s), mob l i') /\ s.length <= 4 * SB d + 10 /\ i' <= i + (4 * SB d + 10)
theorem SB_le : ∀ d, 2000 <= SB d
 | 0 => by decide
 | d + 1 => by have := SB_le d; simp only [SB]; omega
set_option maxHeartbeats 8000000 in
theorem stmt_plain (l : List UInt8) (hl : l.length <= 9223372036854775807) (d : Nat) (hd2 : d <= 100) (i : Nat) (v b : List UInt8) (loop : Bool) (hi : i + SB d <= 800000000000) (hv : v.length <= 4) (hb : b.length <= 4) (k : Nat) (k1 : k < 13)
  (hk : zi E 75 [.ptr 0 0 0, .int .i64 13] (mob l i) = some (.ret (.int .i64 k), mob l (i + 1))) (hc : d = 0 \/ k < 6 \/ (k = 6 /\ loop = true) \/ k = 12) :
  PC (zi E 76 [.ptr 0 0 0, .str v, .str b, .int .i64 d, .bool loop] (mob l i)) (isStr l i (SB d)) := by
 refine zQ rfl rfl rfl (by simp) ?_
 have hB := SB_le d
 have hB1 : BN 1 = 300 := rfl
 have hB2 : BN 2 = 700 := rfl
 have S1 := nt l hl 1 (by omega)
 have S2 := nt l hl 2 (by omega)
 have hkk : k = 0 \/ k = 1 \/ k = 2 \/ k = 3 \/ k = 4 \/ k = 5 \/ k = 6 \/ k = 7 \/ k = 8 \/ k = 9 \/ k = 10 \/ k = 11 \/ k = 12 := by omega
 obtain ⟨s1, i1, h1, b1, c1⟩ := S2.num' (i + 1) v b (by omega) hv hb
 obtain ⟨s2, i2, h2, b2, c2⟩ := S2.truth' (i + 1) v b (by omega) hv hb
 obtain ⟨s3, i3, h3, b3, c3⟩ := S1.num' (i + 1) v b (by omega) hv hb
 obtain ⟨s4, i4, h4, b4, c4⟩ := S2.num' i3 v b (by omega) hv hb
 obtain ⟨j, j1, hj⟩ := zzb l (i + 1) 4 (by omega) (by omega) hl
 rw [hB1] at b3 c3
 rw [hB2] at b1 c1 b2 c2 b4 c4
 simp at h1 h2 h3 h4 hj
 clear S1 S2 hl hB1 hB2
 have hz : d = 0 \/ 0 < d := by omega
 rcases hkk with rfl | rfl | rfl | rfl | rfl | rfl | rfl | rfl | rfl | rfl | rfl | rfl | rfl
 case inr.inr.inr.inr.inr.inr.inl =>
  simp at hk
  cases loop
  ·have : d = 0 := by simpa using hc
   subst this
   clear hc hz k1
   (simp [*, F76]) <;> (repeat' (refine aI (by omega) ?_ <;> simp [*, F76])) <;> (try omega)
  ·have : j = 0 \/ j = 1 \/ j = 2 \/ j = 3 := by omega
   clear j1 hc hz k1
   rcases this with rfl | rfl | rfl | rfl <;> simp at hj <;> (simp [*, F76]) <;> (repeat' (refine aI (by omega) ?_ <;> simp [*, F76])) <;> (try omega)
 case inr.inr.inr.inr.inr.inr.inr.inr.inr.inr.inr.inr =>
  have : j = 0 \/ j = 1 \/ j = 2 \/ j = 3 := by omega
  clear hc hz k1 j1
  simp at hk
  by_cases hvz : v = [122]
  ·subst hvz
   (simp [*, F76]) <;> (repeat' (refine aI (by omega) ?_ <;> simp [*, F76])) <;> (try omega)
  ·rcases this with rfl | rfl | rfl | rfl <;> simp at hj <;> (simp [*, F76]) <;> (repeat' (refine aI (by omega) ?_ <;> simp [*, F76])) <;> (try omega)
 case inl | inr.inl | inr.inr.inl | inr.inr.inr.inl | inr.inr.inr.inr.inl | inr.inr.inr.inr.inr.inl =>
  clear hc hz k1 j1 hj
  simp at hk
  (simp [*, F76]) <;> (repeat' (refine aI (by omega) ?_ <;> simp [*, F76])) <;> (try omega)
 all_goals
  have : d = 0 := by omega
  subst this
  clear hc hz k1 j1 hj
  simp at hk
  (simp [*, F76]) <;> (repeat' (refine aI (by omega) ?_ <;> simp [*, F76])) <;> (try omega)
set_option maxHeartbeats 8000000 in
theorem stmt_deep (l : List UInt8) (hl : l.length <= 9223372036854775807) (d : Nat) (hd : SB d <= 10000000) (hd2 : d <= 100) (hbk : BkOk l d) (i : Nat) (v b : List UInt8) (loop : Bool) (hi : i + SB (d + 1) <= 800000000000) (hv : v.length <= 4) (hb : b.length <= 4) (k : Nat) (k1 : k < 13)
  (hk : zi E 75 [.ptr 0 0 0, .int .i64 13] (mob l i) = some (.ret (.int .i64 k), mob l (i + 1))) (hc : (k = 6 /\ loop = false) \/ k = 7 \/ k = 8 \/ k = 9 \/ k = 10 \/ k = 11) :
  PC (zi E 76 [.ptr 0 0 0, .str v, .str b, .int .i64 (d + 1 : Nat), .bool loop] (mob l i)) (isStr l i (SB (d + 1))) := by
 refine zQ rfl rfl rfl (by simp) ?_
 have hB : SB (d + 1) = 8 * SB d + 3000 := rfl
 rw [hB] at hi
 have hB1 : BN 1 = 300 := rfl
 have hB2 : BN 2 = 700 := rfl
 have S1 := nt l hl 1 (by omega)
 have S2 := nt l hl 2 (by omega)
 have q1 : ((d : Int) + 1 > 0) = True := eqp (by omega)
 have q2 : ((0 : Int) < (d : Int) + 1) = True := eqp (by omega)
 have q3 : zB .i64 (d : Int) = d := zj (by omega) (by omega)
 by_cases k7 : k = 7
 ·subst k7
  obtain ⟨s1, i1, h1, b1, c1⟩ := S1.num' (i + 1) v b (by omega) hv hb
  obtain ⟨s2, i2, h2, b2, c2⟩ := S1.truth' i1 [122] b (by omega) (by simp) hb
  obtain ⟨s3, i3, h3, b3, c3⟩ := hbk i2 [122] [119] loop (by omega) (by simp) (by simp)
  rw [hB1] at b1 c1 b2 c2
  simp at h1 h2 hk
  clear S1 S2 hl hB1 hB2 hbk hc k1
  (simp [*, F76]) <;> (repeat' (refine aI (by omega) ?_ <;> simp [*, F76])) <;> (try omega)
 by_cases k9 : k <= 9
 ·obtain ⟨s1, i1, h1, b1, c1⟩ := S2.truth' (i + 1) v b (by omega) hv hb
  obtain ⟨s2, i2, h2, b2, c2⟩ := hbk i1 v b loop (by omega) hv hb
  obtain ⟨j, j1, hj⟩ := zzb l i2 2 (by omega) (by omega) hl
  obtain ⟨s3, i3, h3, b3, c3⟩ := hbk (i2 + 1) v b loop (by omega) hv hb
  have hj2 : j = 0 \/ j = 1 := by omega
  have : k = 6 /\ loop = false \/ k = 8 \/ k = 9 := by
   rcases hc with h | h | h | h | h | h
   ·exact .inl h
   all_goals omega
  rw [hB2] at b1 c1
  simp at h1 hj
  clear S1 S2 hl hB1 hB2 hbk hc k1 k7 k9 j1
  rcases this with ⟨rfl, rfl⟩ | rfl | rfl <;> simp at hk <;> rcases hj2 with rfl | rfl <;> simp at hj <;> (simp [*, F76]) <;> (repeat' (refine aI (by omega) ?_ <;> simp [*, F76])) <;> (try omega)
 obtain ⟨s1, i1, h1, b1, c1⟩ := S1.truth' (i + 1) v b (by omega) hv hb
 obtain ⟨s2, i2, h2, b2, c2⟩ := hbk i1 v b true (by omega) hv hb
 obtain ⟨j, j1, hj⟩ := zzb l i2 3 (by omega) (by omega) hl
 obtain ⟨t, t1, ht⟩ := one_of [[52], [57], [51, 48]] 3 (by decide) j j1
 have : k = 10 \/ k = 11 := by omega
 rw [hB1] at b1 c1
 simp at h1 hj ht
 clear S1 S2 hl hB1 hB2 hbk hc k1 k7 k9
 rcases this with rfl | rfl <;> simp at hk <;> (simp [*, F76]) <;> (repeat' (refine aI (by omega) ?_ <;> simp [*, F76])) <;> (try omega)
theorem st (l : List UInt8) (hl : l.length <= 9223372036854775807) : ∀ d, d <= 3 -> ST l d /\ BkOk l d := by
 intro d
 induction d with
 | zero =>
  intro _
  have S : ST l 0 := ⟨fun i v b loop hi hv hb => by
   obtain ⟨k, k1, hk⟩ := zzb l i 13 (by omega) (by omega) hl
   exact stmt_plain l hl 0 (by omega) i v b loop hi hv hb k k1 hk (.inl rfl)⟩
  refine ⟨S, fun i v b loop hi hv hb => ?_⟩
  obtain ⟨r, st, h, s, i', rfl, rfl, h1, h2⟩ := zYd.1 (mblock_of l hl 0 (by decide) (by omega) S i v b loop hi hv hb)
  exact ⟨s, i', h, h1, h2⟩
 | succ d ih =>
  intro hd
  obtain ⟨_, B⟩ := ih (by omega)
  have hb : SB d <= 10000000 /\ SB (d + 1) <= 10000000 := by
   have : d = 0 \/ d = 1 \/ d = 2 := by omega
   rcases this with rfl | rfl | rfl <;> decide
  have S : ST l (d + 1) := ⟨fun i v b loop hi hv hb' => by
   obtain ⟨k, k1, hk⟩ := zzb l i 13 (by omega) (by omega) hl
   by_cases hc : d + 1 = 0 \/ k < 6 \/ (k = 6 /\ loop = true) \/ k = 12
   ·exact stmt_plain l hl (d + 1) (by omega) i v b loop hi hv hb' k k1 hk hc
   ·exact stmt_deep l hl d hb.1 (by omega) B i v b loop hi hv hb' k k1 hk (by cases loop <;> simp at hc ⊢ <;> omega)⟩
  refine ⟨S, fun i v b loop hi hv hb' => ?_⟩
  obtain ⟨r, st, h, s, i', rfl, rfl, h1, h2⟩ := zYd.1 (mblock_of l hl (d + 1) hb.2 (by omega) S i v b loop hi hv hb')
  exact ⟨s, i', h, h1, h2⟩
end PE.U

namespace PE.U
open Go PE
theorem bad_parse : (zRa [120]).1 = ⟨[], []⟩ := by kernel_rfl
set_option maxHeartbeats 8000000 in
set_option maxRecDepth 20000 in
theorem good_of (l : List UInt8) (hl : l.length <= 9223372036854775807) :
  PC (zi E 20 [u8s l] []) (fun r st => st = [] /\ ∃ s, r = .ret (zf (zRa s).1)) := by
 refine zQ rfl rfl rfl (by simp [u8s]) ?_
 have hB1 : SB 1 = 19000 := rfl
 have hB2 : SB 2 = 155000 := rfl
 have hB3 : SB 3 = 1243000 := rfl
 have hN : BN 2 = 700 := rfl
 have S2 := nt l hl 2 (by omega)
 obtain ⟨s1, i1, h1, b1, c1⟩ := (st l hl 2 (by omega)).2 0 [120] [98] false (by omega) (by simp) (by simp)
 obtain ⟨s2, i2, h2, b2, c2⟩ := S2.num' i1 [120] [98] (by omega) (by simp) (by simp)
 obtain ⟨s3, i3, h3, b3, c3⟩ := (st l hl 1 (by omega)).2 i2 [120] [98] false (by omega) (by simp) (by simp)
 obtain ⟨s4, i4, h4, b4, c4⟩ := S2.truth' i3 [120] [98] (by omega) (by simp) (by simp)
 obtain ⟨s5, i5, h5, b5, c5⟩ := (st l hl 3 (by omega)).2 i4 [120] [98] false (by omega) (by simp) (by simp)
 obtain ⟨s6, i6, h6, b6, c6⟩ := S2.num' i5 [120] [98] (by omega) (by simp) (by simp)
 rw [hB2] at b1 c1
 rw [hN] at b2 c2 b4 c4 b6 c6
 rw [hB1] at b3 c3
 rw [hB3] at b5 c5
 have hp : ∀ s, zi E 13 [.str s] [] = some (.ret (.tup [.agg [zga (zRa s).1.arrays, funcs (zRa s).1.funcs], .int .i64 (zRa s).2.1, .int .i64 (zRa s).2.2]), []) := fun s => by rw [parse_spec]; rfl
 simp only [zga, funcs] at hp
 simp [mob, u8s] at h1 h2 h3 h4 h5 h6
 have hz : (0 : Nat) <= 0 := Nat.le_refl 0
 clear S2 hB1 hB2 hB3 hN hl
 simp [*, F20, u8s]
 repeat' (refine aI (by omega) ?_; simp [*, F20, u8s])
 (first | refine sP _ ?_ ?_ | refine sN _ ?_ ?_ | refine sM _ ?_ ?_ | refine sB _ ?_ ?_) <;> intro hc <;> simp [hc, F20]
 ·exact ⟨[120], by rw [bad_parse]; rfl⟩
 ·exact ⟨_, rfl⟩
end PE.U

namespace PE.U
open Go PE
theorem good_runs (l : List UInt8) (hl : l.length <= 9223372036854775807) (inp : List Int) (fu : Int) (hf : fu <= 100000000000) :
  ∃ ar fs r, zi E 20 [u8s l] [] = some (.ret (.agg [zga ar, funcs fs]), []) /\ zi E 17 [.agg [zga ar, funcs fs], ints inp, .int .i64 fu] [] = some (.ret (zEd r), []) /\ zi E 19 [.agg [zga ar, funcs fs], ints inp, .int .i64 fu] [] = some (.ret (zEd r), []) /\ zi E 16 [zEd r, zEd r] [] = some (.ret (.bool true), []) := by
 obtain ⟨r, st, h, rfl, s, rfl⟩ := zYd.1 (good_of l hl)
 obtain ⟨r, h1, h2, h3⟩ := both_runs (zRa s).1 (parse_psz s) inp fu hf
 exact ⟨(zRa s).1.arrays, (zRa s).1.funcs, r, h, h1, h2, h3⟩
set_option maxHeartbeats 1000000 in
theorem evalGood_spec (l : List UInt8) (inp : List Int) (fu : Int) (hl : l.length <= 9223372036854775807) (hi : inp.length <= 9223372036854775807) (hf : 0 <= fu /\ fu <= 255) : zi E 4 [u8s l, ints inp, .int .u8 fu] [] = some (.ret (.bool true), []) := by
 refine zd rfl rfl rfl (by simp) ?_
 have ha := awake07_spec
 have hin := ins_spec inp hi
 have hw : zB .i64 fu = fu := zj (by omega) (by omega)
 have hw2 : zB .i64 (4 * fu) = 4 * fu := zj (by omega) (by omega)
 obtain ⟨ar, fs, r, h0, h1, h2, h3⟩ := good_runs l hl (inp.take 10) (4 * fu) (by omega)
 generalize inp.take 10 = i10 at *
 clear hl hi hf
 simp [zEd] at h1 h2 h3
 simp [*, F4]
end PE.U

namespace PE
open Go Go.RowKit
def Kept (w w' : World) : Prop := Grown w w' /\ ∀ k, k < w.heap.size -> w'.heap[k]? = w.heap[k]?
theorem kept_of_ext {w w' : World} {G' : Gh} {st' : ze} (h : Ext (gh0 w) [] w G' st' w') : Kept w w' :=
 ⟨grown_of_ext h, fun k hk => (h.prot k (by simp [gh0, hk])).2.2⟩
theorem Kept.same {W w' : World} (h : Kept W w') {p : MemPlace} (hp : p.block < W.heap.size) : W.sameAt w' p := by
 cases p with
 | cell b o => exact World.cell?_of_block (w := W) (h.2 b hp)
 | map b => exact h.2 b hp
theorem Kept.trod {H : Type} {enc : TypeId × Value -> H} {P : Program} {t : TypeId} (hl : laidOutB P = true) (hr : P.readableRec t = true) (hrow : t < P.types.size) {W W' : World} {v : Value} {d : DataW H} {ps : List MemPlace}
  (h : DataW.Trod enc P W 0 (fun _ => true) true t v d ps) (hb : Kept W W') (hlt : ∀ x ∈ ps, x.block < W.heap.size) :
  DataW.Trod enc P W' 0 (fun b => decide (b < W.heap.size)) true t v d ps :=
 WideElems.Trod_stays hl hr hrow h (fun x hx => hb.same (hlt x hx)) (fun x hx => by simpa using hlt x hx)
theorem walk_kept {P : Program} {E : Env} (hE : EnvOk P E) {f : Nat} {args : List PV} {margs : Array Value} {w : World} {st' : ze}
  (h : zi E f args [] = some (.ret (.bool true), st')) (hsz : margs.size = args.length)
  (hv : ∀ (j : Nat) c x, args[j]? = some c -> margs[j]? = some x -> VR ((gh0 w).im w) (fun _ => none) c x) :
  Calls P f margs w fun e w' => e = .returned (.bool true) /\ Kept w w' := by
 obtain ⟨n, hn⟩ := zvd.1 h
 have hloc : zk (gh0 w).lc [] = fun _ => none := by funext l; simp [zk]
 refine ((callF_good hE n _ _ _ _ _ hn (gh0 w) w margs rfl (gh0_sim w) hsz (by rw [hloc]; exact hv)).2).mono ?_
 intro e w' he
 cases e with
 | returned mv =>
  obtain ⟨G', q1, q2, q3⟩ := he
  exact ⟨by rw [VR.bool_inv q3], kept_of_ext q2⟩
 | panicked ch => exact he.elim
 | outgrown => exact he.elim
def IsRow (k : IntKind) (w : World) (a : Option Addr) (len cap : Nat) (zs : List Int) : Prop :=
 (a = none /\ len = 0 /\ cap = 0 /\ zs = []) ∨
 ∃ x, a = some x /\ len <= cap /\ cap <= maxLen /\ zs.length = cap /\ (∀ i, i < zs.length -> w.cell? (x.add i) = some (.int k (zs.getD i 0))) /\ ∀ n ∈ zs, (Lit.int k n).wf = true
theorem row_vr {k : IntKind} {w : World} {a : Option Addr} {len cap : Nat} {zs : List Int} (h : IsRow k w a len cap zs) : VR ((gh0 w).im w) (fun _ => none) (.slice .plain 1 ((zs.take len).map (PV.int k))) (.slice a len cap) := by
 rcases h with ⟨rfl, rfl, rfl, rfl⟩ | ⟨x, rfl, hl, hm, hz, hcell, hwz⟩
 ·exact .slice0 _ _ _ _ (by simp) (by simp)
 ·by_cases h0 : len = 0
  ·subst h0
   exact .slice0 _ _ _ _ (by simp) (by simp)
  ·obtain ⟨b, off, spot⟩ := x
   have hc := hcell 0 (by omega)
   have hspot : spot = none := by simpa [Addr.add] using World.cell?_spot hc
   subst hspot
   have hlen : ((zs.take len).map (PV.int k)).length = len := by simp; omega
   have hget : ∀ (i : Nat) e, ((zs.take len).map (PV.int k))[i]? = some e -> i < len /\ e = .int k (zs.getD i 0) := by
    intro i e he
    rw [List.getElem?_map, Option.map_eq_some_iff] at he
    obtain ⟨n, hn, rfl⟩ := he
    rw [List.getElem?_take] at hn
    split at hn
    ·rename_i hi
     refine ⟨hi, ?_⟩
     rw [List.getD_eq_getElem?_getD, hn]; rfl
    ·cases hn
   have := VR.slice (I := (gh0 w).im w) (L := fun _ => none) (k := .plain) (sz := 1) (l := (zs.take len).map (PV.int k)) (b := b) (o := off) (cap := cap)
    (by simp) (by simp) (by rw [hlen]; exact hl) (fun i _ => .int k (zs.getD i 0)) ?_ ?_ ?_
   ·rw [hlen] at this; exact this
   ·intro i e he
    obtain ⟨_, rfl⟩ := hget i e he
    exact ⟨rfl, rfl⟩
   ·intro i e j c he hc
    obtain ⟨hi, rfl⟩ := hget i e he
    cases j with
    | zero =>
     refine ⟨gh0_im ?_, rfl⟩
     have := hcell i (by omega)
     have e : (⟨b, off, none⟩ : Addr).add i = ⟨b, off + i * 1 + 0, none⟩ := by
      unfold Addr.add
      by_cases hi0 : i = 0 <;> simp [hi0]
     rw [<- e]; exact this
    | succ j => simp [cellsOf] at hc
   ·intro i e j c he hc
    obtain ⟨hi, rfl⟩ := hget i e he
    cases j with
    | zero => simp [cellsOf] at hc; subst hc; exact .int _ _
    | succ j => simp [cellsOf] at hc
theorem row_len {k : IntKind} {w : World} {a : Option Addr} {len cap : Nat} {zs : List Int} (h : IsRow k w a len cap zs) : (zs.take len).length <= maxLen := by
 rcases h with ⟨rfl, rfl, rfl, rfl⟩ | ⟨x, rfl, hl, hm, hz, hcell, hwz⟩
 ·simp
 ·rw [List.length_take]; omega
def bytesOf (zs : List Int) : List UInt8 := zs.map fun n => UInt8.ofNat n.toNat
theorem row_u8 {w : World} {a : Option Addr} {len cap : Nat} {zs : List Int} (h : IsRow .u8 w a len cap zs) : VR ((gh0 w).im w) (fun _ => none) (.slice .plain 1 ((bytesOf (zs.take len)).map fun b => .int .u8 b.toNat)) (.slice a len cap) := by
 have hv := row_vr h
 have : (bytesOf (zs.take len)).map (fun b => PV.int .u8 b.toNat) = (zs.take len).map (PV.int .u8) := by
  unfold bytesOf
  rw [List.map_map]
  apply List.map_congr_left
  intro n hn
  have hwf : (Lit.int .u8 n).wf = true := by
   rcases h with ⟨rfl, rfl, rfl, rfl⟩ | ⟨x, rfl, hl, hm, hz, hcell, hwz⟩
   ·simp at hn
   ·exact hwz n (List.mem_of_mem_take hn)
  have hb : 0 <= n /\ n <= 255 := by
   simp only [Lit.wf, Bool.and_eq_true, decide_eq_true_eq] at hwf
   exact hwf
  simp only [Function.comp_apply, PV.int.injEq, true_and]
  have : (UInt8.ofNat n.toNat).toNat = n.toNat := by
   rw [UInt8.toNat_ofNat']; omega
  omega
 rw [this]; exact hv
theorem bytes_len {w : World} {a : Option Addr} {len cap : Nat} {zs : List Int} (h : IsRow .u8 w a len cap zs) : (bytesOf (zs.take len)).length <= maxLen := by
 unfold bytesOf; rw [List.length_map]; exact row_len h
theorem str_vr (I : Im) (L : Loc) {b : ByteArray} : VR I L (.str b.data.toList) (.string b) := VR.str b.data.toList
theorem str_len {b : ByteArray} (h : b.size <= maxLen) : b.data.toList.length <= maxLen := by
 rw [Array.length_toList]; exact h
theorem maxLen_eq : maxLen = 9223372036854775807 := by decide
end PE

namespace PE
open Go Go.RowKit
def packT (P : Program) (e : TypeId) (l : List PV) : PV := match P.underlying e with
 | some (.struct _) => .agg l
 | _ => l.headD .undef
def CellsT (P : Program) : Nat -> TypeId -> List PV -> Prop
 | 0, _, _ => False
 | n + 1, t, l => match P.underlying t with
  | some (.int k) => ∃ z, l = [.int k z] /\ (Lit.int k z).wf = true
  | some .bool => ∃ b, l = [.bool b]
  | some .string => ∃ s : List UInt8, l = [.str s] /\ s.length <= maxLen
  | some (.struct fs) => l.length = P.cellsOf t /\ ∀ f ∈ fs.toList, CellsT P n f.type ((l.drop f.offset).take (P.cellsOf f.type))
  | some (.slice e) => ∃ es : List (List PV), l = [.slice .plain (P.cellsOf e) (es.map (packT P e))] /\ es.length <= maxLen /\ ∀ c ∈ es, CellsT P n e c
  | _ => False
def layB (P : Program) : List Field -> Nat -> Nat -> Bool
 | [], o, total => o == total
 | f :: r, o, total => f.offset == o && layB P r (o + P.cellsOf f.type) total
def plainB (P : Program) (S : List TypeId) : Bool := S.all fun t => match P.underlying t with
 | some (.int _) => P.cellsOf t == 1
 | some .bool => P.cellsOf t == 1
 | some .string => P.cellsOf t == 1
 | some (.struct fs) => fs.toList.all (fun f => S.contains f.type) && layB P fs.toList 0 (P.cellsOf t)
 | some (.slice e) => S.contains e && decide (0 < P.cellsOf e) && (P.cellsOf t == 1)
 | _ => false
def R1 (w : World) (c : PV) (v : Value) : Prop := VR ((gh0 w).im w) (fun _ => none) c v /\ zSd c = true /\ v.oneCell' = true
def Rs (w : World) (l : List PV) (cs : List Value) : Prop := l.length = cs.length /\ ∀ (j : Nat) c v, l[j]? = some c -> cs[j]? = some v -> R1 w c v
theorem Rs.one {w : World} {c : PV} {v : Value} (h : R1 w c v) : Rs w [c] [v] := by
 refine ⟨rfl, fun j c' v' hc hv => ?_⟩
 cases j with
 | zero => cases hc; cases hv; exact h
 | succ j => simp at hc
theorem Rs.append {w : World} {l l' : List PV} {cs cs' : List Value} (h : Rs w l cs) (h' : Rs w l' cs') : Rs w (l ++ l') (cs ++ cs') := by
 refine ⟨by simp [h.1, h'.1], fun j c v hc hv => ?_⟩
 by_cases hj : j < l.length
 ·rw [List.getElem?_append_left hj] at hc
  rw [List.getElem?_append_left (by rw [<- h.1]; exact hj)] at hv
  exact h.2 j c v hc hv
 ·rw [List.getElem?_append_right (by omega)] at hc
  rw [List.getElem?_append_right (by rw [<- h.1]; omega)] at hv
  rw [<- h.1] at hv
  exact h'.2 _ c v hc hv
theorem lay_join {P : Program} {w : World} {n : Nat} {cs : List Value} : ∀ (fs : List Field) (o total : Nat), layB P fs o total = true -> total = cs.length →
  (∀ f ∈ fs, ∃ l, Rs w l ((cs.drop f.offset).take (P.cellsOf f.type)) /\ CellsT P n f.type l) →
  ∃ l, Rs w l (cs.drop o) /\ ∀ f ∈ fs, o <= f.offset /\ CellsT P n f.type ((l.drop (f.offset - o)).take (P.cellsOf f.type)) := by
 intro fs
 induction fs with
 | nil =>
  intro o total hl ht _
  simp only [layB, beq_iff_eq] at hl
  refine ⟨[], ⟨?_, fun j c v hc => by simp at hc⟩, fun f hf => by simp at hf⟩
  simp; omega
 | cons f r ih =>
  intro o total hl ht hf
  simp only [layB, Bool.and_eq_true, beq_iff_eq] at hl
  obtain ⟨ho, hl⟩ := hl
  obtain ⟨l1, h1, c1⟩ := hf f (by simp)
  obtain ⟨l2, h2, c2⟩ := ih _ _ hl ht (fun g hg => hf g (by simp [hg]))
  have hle : ∀ (fs : List Field) (o total : Nat), layB P fs o total = true -> o <= total := by
   intro fs
   induction fs with
   | nil => intro o total h; simp only [layB, beq_iff_eq] at h; omega
   | cons g s ihs =>
    intro o total h
    simp only [layB, Bool.and_eq_true, beq_iff_eq] at h
    have := ihs _ _ h.2; omega
  have hn := hle _ _ _ hl
  have hlen1 : l1.length = P.cellsOf f.type := by
   rw [h1.1, List.length_take, List.length_drop, ho]; omega
  refine ⟨l1 ++ l2, ?_, ?_⟩
  ·have : cs.drop o = (cs.drop f.offset).take (P.cellsOf f.type) ++ cs.drop (o + P.cellsOf f.type) := by
    rw [ho, <- List.drop_drop, List.take_append_drop]
   rw [this]
   exact h1.append h2
  ·intro g hg
   rcases List.mem_cons.1 hg with rfl | hg
   ·refine ⟨by omega, ?_⟩
    rw [ho, Nat.sub_self, List.drop_zero, List.take_append_of_le_length (by omega), <- hlen1, List.take_length]
    exact c1
   ·obtain ⟨h3, h4⟩ := c2 g hg
    refine ⟨by omega, ?_⟩
    have : (l1 ++ l2).drop (g.offset - o) = l2.drop (g.offset - (o + P.cellsOf f.type)) := by
     rw [List.drop_append, List.drop_of_length_le (by omega), List.nil_append]
     congr 1; omega
    rw [this]; exact h4
theorem cells_packed {P : Program} {n : Nat} {e : TypeId} {l : List PV} {w : World} {cs : List Value} (hr : Rs w l cs) (h : CellsT P n e l) (hsz : cs.length = P.cellsOf e) : cellsOf (packT P e l) = l /\ zE (packT P e l) = true := by
 cases n with
 | zero => exact h.elim
 | succ n =>
  unfold CellsT at h
  unfold packT
  split at h
  ·rename_i hu; rw [hu]; obtain ⟨z, rfl, _⟩ := h; exact ⟨rfl, rfl⟩
  ·rename_i hu; rw [hu]; obtain ⟨z, rfl⟩ := h; exact ⟨rfl, rfl⟩
  ·rename_i hu; rw [hu]; obtain ⟨z, rfl, _⟩ := h; exact ⟨rfl, rfl⟩
  ·rename_i hu; rw [hu]; exact ⟨rfl, rfl⟩
  ·rename_i hu; rw [hu]; obtain ⟨z, rfl, _⟩ := h; exact ⟨rfl, rfl⟩
  ·exact h.elim
theorem cells?_get {w : World} {a : Addr} {n : Nat} {cs : List Value} (h : w.cells? 0 a n = some cs) : cs.length = n /\ ∀ (j : Nat) v, cs[j]? = some v -> w.cell? (a.add j) = some v := by
 unfold World.cells? at h
 rw [if_pos (Nat.zero_le _)] at h
 have hl := mapM_some_length h
 rw [List.length_range] at hl
 refine ⟨hl, fun j v hv => ?_⟩
 have hj : j < n := by rw [<- hl]; exact (List.getElem?_eq_some_iff.1 hv).1
 have := mapM_some_get h j j (by rw [List.getElem?_range hj])
 rw [this, hv]
theorem add_add (a : Addr) (ha : a.spot = none) (x : Nat) : a.add x = ⟨a.block, a.off + x, none⟩ := by
 obtain ⟨b, o, s⟩ := a
 simp only at ha
 subst ha
 unfold Addr.add
 by_cases h : x = 0 <;> simp [h]
theorem read_cells {P : Program} {S : List TypeId} (hp : plainB P S = true) {H : Type} {enc : TypeId × Value -> H} {w : World} {sp : Nat -> Bool} : ∀ (n : Nat) (t : TypeId) (cs : List Value) (x : DataW H × List MemPlace), t ∈ S →
  DataW.trod enc P w 0 sp true n t cs = some x -> ∃ l, Rs w l cs /\ CellsT P n t l /\ cs.length = P.cellsOf t := by
 intro n
 induction n with
 | zero => intro t cs x _ h; simp [DataW.trod] at h
 | succ n ih =>
  intro t cs x ht h
  have hp' := List.all_eq_true.1 hp t ht
  split at hp'
  ·rename_i k hu
   obtain ⟨z, rfl, _, hw⟩ := DataW.trod_int hu h
   simp only [beq_iff_eq] at hp'
   exact ⟨[.int k z], Rs.one ⟨.int _ _, rfl, rfl⟩, by unfold CellsT; rw [hu]; exact ⟨z, rfl, hw⟩, by simp [hp']⟩
  ·rename_i hu
   obtain ⟨z, rfl, _⟩ := DataW.trod_bool hu h
   simp only [beq_iff_eq] at hp'
   exact ⟨[.bool z], Rs.one ⟨.bool _, rfl, rfl⟩, by unfold CellsT; rw [hu]; exact ⟨z, rfl⟩, by simp [hp']⟩
  ·rename_i hu
   obtain ⟨s, rfl, _, hm⟩ := DataW.trod_string hu h
   simp only [beq_iff_eq] at hp'
   exact ⟨[.str s.data.toList], Rs.one ⟨str_vr _ _, rfl, rfl⟩, by unfold CellsT; rw [hu]; exact ⟨_, rfl, str_len hm⟩, by simp [hp']⟩
  ·rename_i fs hu
   simp only [Bool.and_eq_true, List.all_eq_true, List.contains_iff_mem] at hp'
   obtain ⟨hS, hlay⟩ := hp'
   obtain ⟨xs, m, hm, _, hlen, hxs, hget⟩ := DataW.trod_struct hu h
   cases hm
   obtain ⟨l, hl, hc⟩ := lay_join (w := w) (n := n) (cs := cs) fs.toList 0 _ hlay hlen.symm (by
    intro f hf
    obtain ⟨i, hi⟩ := List.getElem?_of_mem hf
    have hi' : fs[i]? = some f := by simpa using hi
    have hg := hget i f hi'
    have hlt : i < xs.length := by rw [hxs]; simpa using (List.getElem?_eq_some_iff.1 hi).1
    rw [List.getElem?_eq_getElem hlt] at hg
    obtain ⟨l, h1, h2, _⟩ := ih _ _ _ (hS f hf) hg
    exact ⟨l, h1, h2⟩)
   rw [List.drop_zero] at hl
   refine ⟨l, hl, ?_, hlen⟩
   unfold CellsT
   rw [hu]
   exact ⟨by rw [hl.1, hlen], fun f hf => by have := (hc f hf).2; rwa [Nat.sub_zero] at this⟩
  ·rename_i e hu
   simp only [Bool.and_eq_true, List.contains_iff_mem, decide_eq_true_eq, beq_iff_eq] at hp'
   obtain ⟨⟨hS, hpos⟩, h1⟩ := hp'
   rcases DataW.trod_slice hu h with ⟨rfl, _⟩ | ⟨a, len, cap, elems, rest, m, hm, rfl, _, _, hle, hcap, hel, hget, _, _⟩
   ·exact ⟨[.slice .plain (P.cellsOf e) []], Rs.one ⟨.slice0 _ _ _ _ (by simp) (by simp), rfl, rfl⟩, by unfold CellsT; rw [hu]; exact ⟨[], rfl, by simp, by simp⟩, by simp [h1]⟩
   ·cases hm
    have key : ∀ i, i < len -> ∃ l : List PV, l.length = P.cellsOf e /\ CellsT P n e l /\ cellsOf (packT P e l) = l /\ zE (packT P e l) = true /\ ∀ (j : Nat) c, l[j]? = some c -> ∃ v, w.cell? ((a.add (i * P.cellsOf e)).add j) = some v /\ R1 w c v := by
     intro i hi
     have hg := hget i hi
     have hlt : i < elems.length := by omega
     rw [List.getElem?_eq_getElem hlt, Option.bind_eq_some_iff] at hg
     obtain ⟨cs', h2, h3⟩ := hg
     obtain ⟨l, h4, h5, h6⟩ := ih _ _ _ hS h3
     obtain ⟨h7, h8⟩ := cells?_get h2
     obtain ⟨h9, h10⟩ := cells_packed h4 h5 h6
     refine ⟨l, by rw [h4.1, h6], h5, h9, h10, fun j c hc => ?_⟩
     have hj : j < cs'.length := by rw [<- h4.1]; exact (List.getElem?_eq_some_iff.1 hc).1
     exact ⟨cs'[j], h8 j _ (List.getElem?_eq_getElem hj), h4.2 j c _ hc (List.getElem?_eq_getElem hj)⟩
    let g : Nat -> List PV := fun i => if hi : i < len then (key i hi).choose else []
    have hg : ∀ i, i < len -> (g i).length = P.cellsOf e /\ CellsT P n e (g i) /\ cellsOf (packT P e (g i)) = g i /\ zE (packT P e (g i)) = true /\ ∀ (j : Nat) c, (g i)[j]? = some c -> ∃ v, w.cell? ((a.add (i * P.cellsOf e)).add j) = some v /\ R1 w c v := by
     intro i hi
     have := (key i hi).choose_spec
     simp only [g, dif_pos hi]
     exact this
    have hel' : ∀ (i : Nat) x, (((List.range len).map g).map (packT P e))[i]? = some x -> i < len /\ x = packT P e (g i) := by
     intro i x hx
     rw [List.map_map, List.getElem?_map, Option.map_eq_some_iff] at hx
     obtain ⟨k, hk, rfl⟩ := hx
     obtain ⟨hk1, hk2⟩ := List.getElem?_eq_some_iff.1 hk
     rw [List.length_range] at hk1
     rw [List.getElem_range] at hk2
     subst hk2
     exact ⟨hk1, rfl⟩
    refine ⟨[.slice .plain (P.cellsOf e) (((List.range len).map g).map (packT P e))], Rs.one ⟨?_, rfl, rfl⟩, ?_, by simp [h1]⟩
    ·by_cases h0 : len = 0
     ·subst h0
      exact .slice0 _ _ _ _ (by simp) (by simp)
     ·obtain ⟨q1, q2, q3, q4, q5⟩ := hg 0 (by omega)
      have hspot : a.spot = none := by
       have hlt : 0 < (g 0).length := by omega
       obtain ⟨v, hv, _⟩ := q5 0 _ (List.getElem?_eq_getElem hlt)
       have hsp := World.cell?_spot hv
       obtain ⟨b, o, s⟩ := a
       simpa [Addr.add] using hsp
      obtain ⟨b, o, s⟩ := a
      simp only at hspot
      subst hspot
      have hcell : ∀ (i : Nat) x (j : Nat) c, (((List.range len).map g).map (packT P e))[i]? = some x -> (cellsOf x)[j]? = some c -> ∃ v, (gh0 w).im w b (o + i * P.cellsOf e + j) = some v /\ R1 w c v := by
       intro i x j c hx hc
       obtain ⟨hi, rfl⟩ := hel' i x hx
       obtain ⟨r1, r2, r3, r4, r5⟩ := hg i hi
       rw [r3] at hc
       obtain ⟨v, hv, hr⟩ := r5 j c hc
       refine ⟨v, gh0_im ?_, hr⟩
       rw [add_add ⟨b, o, none⟩ rfl, add_add ⟨b, o + i * P.cellsOf e, none⟩ rfl] at hv
       exact hv
      have hlen : (((List.range len).map g).map (packT P e)).length = len := by simp
      have := VR.slice (I := (gh0 w).im w) (L := fun _ => none) (k := .plain) (sz := P.cellsOf e) (l := ((List.range len).map g).map (packT P e)) (b := b) (o := o) (cap := cap)
       (by simp) (by simp) (by rw [hlen]; exact hle) (fun i j => ((gh0 w).im w b (o + i * P.cellsOf e + j)).getD (.bool false)) ?_ ?_ ?_
      ·rw [hlen] at this; exact this
      ·intro i x hx
       obtain ⟨hi, rfl⟩ := hel' i x hx
       obtain ⟨r1, r2, r3, r4, r5⟩ := hg i hi
       exact ⟨by rw [r3, r1], r4⟩
      ·intro i x j c hx hc
       obtain ⟨v, hv, hr⟩ := hcell i x j c hx hc
       simp only [hv, Option.getD_some]
       exact ⟨trivial, hr.2.2⟩
      ·intro i x j c hx hc
       obtain ⟨v, hv, hr⟩ := hcell i x j c hx hc
       simp only [hv, Option.getD_some]
       exact hr.1
    ·unfold CellsT
     rw [hu]
     refine ⟨(List.range len).map g, rfl, by simp; omega, ?_⟩
     intro c hc
     rw [List.mem_map] at hc
     obtain ⟨i, hi, rfl⟩ := hc
     exact (hg i (List.mem_range.1 hi)).2.1
  ·cases hp'
theorem packT_struct {P : Program} {e : TypeId} {fs : Array Field} (hu : P.underlying e = some (.struct fs)) (l : List PV) : packT P e l = .agg l := by
 unfold packT; rw [hu]
theorem le_max {n : Nat} (h : n <= maxLen) : n <= 9223372036854775807 := by rw [maxLen_eq] at h; exact h
theorem read_row {P : Program} {S : List TypeId} (hp : plainB P S = true) {H : Type} {enc : TypeId × Value -> H} {w : World} {sp : Nat -> Bool} {t e : TypeId} (hu : P.underlying t = some (.slice e)) (ht : t ∈ S) {v : Value} {d : DataW H} {ps : List MemPlace} (h : DataW.Trod enc P w 0 sp true t v d ps) {a : Option Addr} {len cap : Nat} (hv : v = .slice a len cap) :
  ∃ (n : Nat) (es : List (List PV)), VR ((gh0 w).im w) (fun _ => none) (.slice .plain (P.cellsOf e) (es.map (packT P e))) v /\ es.length <= maxLen /\ ∀ c ∈ es, CellsT P n e c := by
 subst hv
 obtain ⟨n, hf⟩ := h
 obtain ⟨l, h1, h2, h3⟩ := read_cells hp n t _ _ ht hf
 cases n with
 | zero => exact h2.elim
 | succ n =>
  unfold CellsT at h2
  rw [hu] at h2
  obtain ⟨es, rfl, hm, hc⟩ := h2
  exact ⟨n, es, (h1.2 0 _ _ rfl (by simp [Value.cells])).1, hm, hc⟩
end PE
