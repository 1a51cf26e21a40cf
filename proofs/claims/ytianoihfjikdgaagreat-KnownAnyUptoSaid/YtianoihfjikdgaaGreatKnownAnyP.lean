/-
  Proved: the statement KnownAnyUpto of the given rows: any unit is refused as the document says, or what comes out may be and has its heads. Conditions: none beyond the statement.
-/
import Derived.Test.YtianoihfjikdgaaGreatRows
import Derived.Test.YtianoihfjikdgaaGreatK05
import Derived.WalkKit
import Derived.ProofKit
import Derived.OpenShut
import Derived.ShutString
import Derived.ChangeOld
import Derived.Below
import Derived.JoinedCond
namespace Go.Proofs.YtianoihfjikdgaaGreat.knownAny
open Go.ChangeShapes Go.WideShapes Go.ChangeAt Go.RowKit
set_option linter.unusedVariables false

theorem own : ownKnob Tryz.prog.godebug = none := by kernel_rfl
theorem laidOut : laidOutB Tryz.prog = true := by kernel_rfl

theorem bulk_sum {H : Type} : ∀ l : List (DataW H), Rows.uptoBulkAll l = (l.map Rows.uptoBulk).sum
  | [] => by simp [Rows.uptoBulkAll]
  | d :: r => by rw [Rows.uptoBulkAll, bulk_sum r, List.map_cons, List.sum_cons]
theorem bulkOk {H : Type} : PE.U.Bulk (Rows.uptoBulk (H := H)) := by
  refine ⟨fun d => ?_, fun ds => ?_, fun ds sp => ?_, fun s => ?_⟩
  · cases d with
    | lit l => cases l <;> simp [Rows.uptoBulk]
    | nil => simp [Rows.uptoBulk]
    | ptr d => simp [Rows.uptoBulk]
    | slice elems spare => simp [Rows.uptoBulk]
    | agg parts => simp [Rows.uptoBulk]
    | iface t d => simp [Rows.uptoBulk]
    | map entries => simp [Rows.uptoBulk]
    | held h => simp [Rows.uptoBulk]
  · rw [Rows.uptoBulk, bulk_sum]
  · rw [Rows.uptoBulk, bulk_sum]; omega
  · simp [Rows.uptoBulk]

/-- The walk: the call returns true, and nothing that was there turns. -/
theorem walk (c0 : Array Value) (u0 : PE.U.Unt) (w : World) (w0 : PE.VR ((PE.gh0 w).im w) (fun _ => none) (PE.U.encUnt u0) (.agg c0)) (y0 : PE.U.USz u0) (b0 : ∀ f ∈ u0.flows, PE.U.wtL f.body < 100000000) (m0 : PE.U.weightM u0 < 1099511627776) :
    Calls Tryz.prog 5 #[.agg c0] w fun e w' => e = .returned (.bool true) ∧ PE.Kept w w' := by
  refine PE.walk_kept PE.U.envOk (by intro x hx; cases hx) (PE.U.knownAny_spec u0 y0 b0 m0) rfl ?_
  intro j c x hc hx
  match j with
  | 0 => cases hc; cases hx; exact w0
  | n + 1 => simp at hc

set_option maxRecDepth 100000 in
theorem contract (H : Type) (enc : TypeId × Value → H) (W : World) (base : Nat) (args : Array Value) (ds gs : List (DataW H)) (before : List MemPlace)
    (hval0 : ∀ (j : Nat) t v, Tryz.f5.params[j]? = some t → args[j]? = some v → Value.okWide Tryz.prog W .any base t v)
    (hW : DataW.Whole enc Tryz.prog Tryz.f5.params.toList Rows.knownAnySpec.vars false W args.toList ds gs before) (hsm : Rows.uptoSmall H (ds ++ gs) = true) :
    Calls Tryz.prog 5 args W fun e W' => ∃ v, e = .returned v ∧ Rows.knownAnySpec.post enc Tryz.prog Tryz.f5 false true false false W args v W' := by
  have hval : ∀ (j : Nat) t v, Tryz.f5.params[j]? = some t → args[j]? = some v → Value.okWide Tryz.prog W .any base t v := hval0
  have hW' := hW
  obtain ⟨p, q, hA0, hV, rfl, hfz, hnd⟩ := hW
  have hA : DataW.TrodAll enc Tryz.prog W 0 (fun _ => true) true Tryz.f5.params.toList args.toList ds p := hA0
  rw [Tryz.params5] at hA hval
  obtain ⟨v0, vs0, d0, ds0, p0, q0, hargs, rfl, rfl, h0, r0⟩ := trodAll_cons hA
  obtain ⟨rfl, rfl, rfl⟩ := trodAll_nil r0
  obtain rfl : args = #[v0] := by cases args; simp_all
  obtain ⟨rfl, rfl⟩ := trodVars_none hV
  have hbulk := of_decide_eq_true hsm
  simp only [List.append_nil, Rows.uptoBulkAll] at hbulk
  obtain ⟨c0, rfl, _⟩ := okWide_struct Tryz.underlying25 (hval 0 25 v0 rfl rfl)
  have k0 := h0
  have lt0 : ∀ x ∈ p0, x.block < W.heap.size := by obtain ⟨m, hm⟩ := k0; exact DataW.trod_lt m _ _ _ hm
  obtain ⟨n0, l0, x0, e0⟩ := PE.read_rec (S := [25, 22, 46, 9, 3, 23, 49, 26, 47, 53, 51]) (by kernel_rfl) (by simp) h0
  obtain ⟨u0, g0, y0, b0, m0⟩ := PE.U.unit_read bulkOk e0 (by omega)
  rw [g0] at x0
  clear hA0 hval0
  refine (walk c0 u0 W x0 y0 b0 m0).mono fun e W' ⟨he, hk⟩ => ?_
  subst he
  exact ⟨_, rfl, _, _, _, [], _, [], hW', trodAll_mk1 (shut_bool Tryz.underlying4 _), (trodAll_cons_mk (PE.Kept.trod laidOut (by kernel_rfl) (of_decide_eq_true (by kernel_rfl)) k0 hk lt0) trodAll_mk0), rfl, hk.frame _, fun h => by cases h⟩

set_option maxRecDepth 100000 in
theorem lifted (os : Os) (started : os.Started) (H : Type) (enc : TypeId × Value → H) (F : Stop.Interp) :
    ReturnsInHanded {} Tryz.checked os 5 .any ((Rows.OpenSpec.upto Rows.knownAnySpec).pre6 enc Tryz.prog Tryz.f5 Rows.knownAnyUptoRow.domain false) (((Rows.OpenSpec.upto Rows.knownAnySpec).at F).post enc Tryz.prog Tryz.f5 false true false false) := by
  refine returnsInHanded_of_cond (C := Tryz.checked) (s := Rows.OpenSpec.upto Rows.knownAnySpec) (k := Rows.uptoSmall) rfl own started (by kernel_rfl) Tryz.func5
    (OpenSpec.witness (enc := enc) (C := Tryz.checked) (s := Rows.OpenSpec.upto Rows.knownAnySpec) (k := Rows.uptoSmall) rfl false ⟨#[], #[.agg #[.slice none 0 0, .slice none 0 0]], []⟩ 8 (by kernel_rfl) (by kernel_rfl) (by kernel_rfl)
      (x := ([.agg [.nil, .nil]], [], [])) (by kernel_rfl) rfl (by kernel_rfl)) ?_
  intro W base args ds gs before hval hW _ hsm _
  exact contract H enc W base args ds gs before hval hW hsm

theorem over : Rows.knownAnyUptoRow.holds Tryz.pinned (Rows.OpenSpec.upto Rows.knownAnySpec) :=
  OpenClaim.holds_of_cond 5 Tryz.f5 rfl rfl rfl rfl rfl rfl rfl ⟨rfl, rfl, rfl, rfl, rfl⟩ rfl rfl rfl rfl rfl (by kernel_rfl) Tryz.func5 (by kernel_rfl)
    (of_decide_eq_true (by kernel_rfl)) (by unfold Func.isWrapper; first | (rw [if_pos (by decide +kernel)]; kernel_rfl) | (rw [if_neg (by decide +kernel)]; exact ⟨rfl, rfl⟩))
    (fun os started H enc _ F => lifted os started H enc F)

/-- The statement. -/
theorem proved : Rows.KnownAnyUptoSaid := over
#print axioms proved
end Go.Proofs.YtianoihfjikdgaaGreat.knownAny
