/-
  Proved: the statement TypesTypes of the given rows: TypesTypes. Conditions: none beyond the statement.
-/
import Derived.Test.YtgackhdkmnbbfaaGreatRows
import Derived.Test.YtgackhdkmnbbfaaGreatB06
import Derived.WalkKit
import Derived.ProofKit
import Derived.OpenShut
import Derived.ShutString
import Derived.ChangeOld
import Derived.Below
namespace Go.Proofs.YtgackhdkmnbbfaaGreat.typesTypes
open Go.ChangeShapes Go.WideShapes Go.ChangeAt Go.RowKit
set_option linter.unusedVariables false

theorem own : ownKnob Tryz.prog.godebug = none := by kernel_rfl
theorem laidOut : laidOutB Tryz.prog = true := by kernel_rfl
theorem rng_i64 {n : Int} (h : (Lit.int .i64 n).wf = true) : -9223372036854775808 ≤ n ∧ n ≤ 9223372036854775807 := by
  simp only [Lit.wf, Bool.and_eq_true, decide_eq_true_eq] at h
  exact h
theorem rng_u8 {n : Int} (h : (Lit.int .u8 n).wf = true) : 0 ≤ n ∧ n ≤ 255 := by
  simp only [Lit.wf, Bool.and_eq_true, decide_eq_true_eq] at h
  exact h
theorem rng_u16 {n : Int} (h : (Lit.int .u16 n).wf = true) : 0 ≤ n ∧ n ≤ 65535 := by
  simp only [Lit.wf, Bool.and_eq_true, decide_eq_true_eq] at h
  exact h

theorem par_of {n : Nat} {l : List PE.PV} (h : PE.CellsT Tryz.prog n 45 l) : ∃ (s : List UInt8) (z : Int), l = [.str s, .int .i64 z] := by
  obtain ⟨m, _, hl, hf⟩ := h.struct Tryz.underlying45
  rw [show Tryz.prog.cellsOf 45 = 2 from by kernel_rfl] at hl
  have h0 := hf ⟨_, 9, 0, _, _, _, _⟩ (List.Mem.head _)
  have h1 := hf ⟨_, 3, 1, _, _, _, _⟩ (List.Mem.tail _ (List.Mem.head _))
  obtain ⟨s, hs, _⟩ := h0.string Tryz.underlying9
  obtain ⟨z, hz, _⟩ := h1.int Tryz.underlying3
  rw [show Tryz.prog.cellsOf 9 = 1 from by kernel_rfl] at hs
  rw [show Tryz.prog.cellsOf 3 = 1 from by kernel_rfl] at hz
  exact ⟨s, z, PE.two_cells hl hs hz⟩

theorem pars_of {n : Nat} : ∀ (es : List (List PE.PV)), (∀ c ∈ es, PE.CellsT Tryz.prog n 45 c) → ∃ ps : List PE.U.Par, es.map (PE.packT Tryz.prog 45) = ps.map PE.U.encPar := by
  intro es
  induction es with
  | nil => intro _; exact ⟨[], rfl⟩
  | cons c r ih =>
    intro h
    obtain ⟨ps, hps⟩ := ih (fun c hc => h c (by simp [hc]))
    obtain ⟨s, z, rfl⟩ := par_of (h c (by simp))
    refine ⟨⟨s, z⟩ :: ps, ?_⟩
    rw [List.map_cons, List.map_cons, hps, PE.packT_struct Tryz.underlying45]
    rfl

/-- The walk: the call returns true, and nothing that was there turns. -/
theorem walk (a0 : ByteArray) (a1 : Option Addr) (len1 cap1 : Nat) (z1 : List Int) (a2 : Option Addr) (len2 cap2 : Nat) (ps2 : List PE.U.Par) (w : World) (w0 : a0.size ≤ maxLen) (w1 : PE.IsRow .u8 w a1 len1 cap1 z1) (w2 : PE.VR ((PE.gh0 w).im w) (fun _ => none) (PE.U.parsV ps2) (.slice a2 len2 cap2)) (m2 : ps2.length ≤ maxLen) :
    Calls Tryz.prog 5 #[.string a0, .slice a1 len1 cap1, .slice a2 len2 cap2] w fun e w' => e = .returned (.bool true) ∧ PE.Kept w w' := by
  refine PE.walk_kept PE.U.envOk (PE.U.typesTypes_spec a0.data.toList (PE.bytesOf (z1.take len1)) ps2 (PE.str_len w0) (PE.bytes_len w1) (PE.le_max m2)) rfl ?_
  intro j c x hc hx
  match j with
  | 0 => cases hc; cases hx; exact PE.str_vr _ _
  | 1 => cases hc; cases hx; exact PE.row_u8 w1
  | 2 => cases hc; cases hx; exact w2
  | n + 3 => simp at hc

set_option maxRecDepth 100000 in
theorem lifted (os : Os) (started : os.Started) (H : Type) (enc : TypeId × Value → H) :
    ReturnsInHanded {} Tryz.checked os 5 .any (Rows.typesTypesSpec.pre6 enc Tryz.prog Tryz.f5 Rows.typesTypesRow.domain false) (Rows.typesTypesSpec.post enc Tryz.prog Tryz.f5 false true false false) := by
  refine returnsInHanded_of_change (C := Tryz.checked) own started (by kernel_rfl) Tryz.func5
    (ChangeSpec.witness6 (enc := enc) (C := Tryz.checked) false ⟨#[], #[.string ⟨#[]⟩, .slice none 0 0, .slice none 0 0], []⟩ 8 (by kernel_rfl) (by kernel_rfl) (by kernel_rfl) (by kernel_rfl)) ?_
  intro W base args ds gs before hval0 hW hcnd _
  have hval : ∀ (j : Nat) t v, Tryz.f5.params[j]? = some t → args[j]? = some v → Value.okWide Tryz.prog W .any base t v := hval0
  have hW' := hW
  obtain ⟨p, q, hA0, hV, rfl, hfz, hnd⟩ := hW
  have hA : DataW.TrodAll enc Tryz.prog W 0 (fun _ => true) true Tryz.f5.params.toList args.toList ds p := hA0
  rw [Tryz.params5] at hA hval
  obtain ⟨v0, vs0, d0, ds0, p0, q0, hargs, rfl, rfl, h0, r0⟩ := trodAll_cons hA
  obtain ⟨v1, vs1, d1, ds1, p1, q1, rfl, rfl, rfl, h1, r1⟩ := trodAll_cons r0
  obtain ⟨v2, vs2, d2, ds2, p2, q2, rfl, rfl, rfl, h2, r2⟩ := trodAll_cons r1
  obtain ⟨rfl, rfl, rfl⟩ := trodAll_nil r2
  obtain rfl : args = #[v0, v1, v2] := by cases args; simp_all
  obtain ⟨rfl, rfl⟩ := trodVars_none hV
  obtain ⟨a0, rfl, rfl, rfl, w0⟩ := Go.ChangeMaps.open_string Tryz.underlying9 (hval 0 9 v0 rfl rfl) h0
  obtain ⟨a1, len1, cap1, rfl⟩ := okWide_slice Tryz.underlying22 (hval 1 22 v1 rfl rfl)
  have k1 := h1
  have lt1 : ∀ x ∈ p1, x.block < W.heap.size := by obtain ⟨m, hm⟩ := k1; exact DataW.trod_lt m _ _ _ hm
  obtain ⟨z1, w1⟩ : ∃ zs, PE.IsRow .u8 W a1 len1 cap1 zs := by
    obtain ⟨fuel, hf⟩ := h1
    rcases open_ints Tryz.underlying22 Tryz.underlying5 (by kernel_rfl) hf with ⟨hcs, _⟩ | ⟨x, l, c, zs, hcs, _, hl, hm, hz, _, hcell, hwz⟩
    · simp [Value.cells] at hcs
      obtain ⟨rfl, rfl, rfl⟩ := hcs
      exact ⟨[], .inl ⟨rfl, rfl, rfl, rfl⟩⟩
    · simp [Value.cells] at hcs
      obtain ⟨rfl, rfl, rfl⟩ := hcs
      exact ⟨zs, .inr ⟨_, rfl, hl, hm, by simpa using hz, hcell, hwz⟩⟩
  obtain ⟨a2, len2, cap2, rfl⟩ := okWide_slice Tryz.underlying36 (hval 2 36 v2 rfl rfl)
  have k2 := h2
  have lt2 : ∀ x ∈ p2, x.block < W.heap.size := by obtain ⟨m, hm⟩ := k2; exact DataW.trod_lt m _ _ _ hm
  obtain ⟨ps2, w2, m2⟩ : ∃ ps : List PE.U.Par, PE.VR ((PE.gh0 W).im W) (fun _ => none) (PE.U.parsV ps) (.slice a2 len2 cap2) ∧ ps.length ≤ maxLen := by
    obtain ⟨n, es, hv, hm, hc⟩ := PE.read_row (S := [36, 45, 9, 3]) (by kernel_rfl) Tryz.underlying36 (by simp) h2 rfl
    obtain ⟨ps, hps⟩ := pars_of es hc
    have hl := congrArg List.length hps
    rw [List.length_map, List.length_map] at hl
    rw [hps] at hv
    exact ⟨ps, hv, by omega⟩
  clear hA0 hval0
  refine (walk a0 a1 len1 cap1 z1 a2 len2 cap2 ps2 W w0 w1 w2 m2).mono fun e W' ⟨he, hk⟩ => ?_
  subst he
  exact ⟨_, rfl, _, _, _, [], _, [], hW', trodAll_mk1 (shut_bool Tryz.underlying4 _), (trodAll_cons_mk (Go.ChangeMaps.shut_string Tryz.underlying9 w0) (trodAll_cons_mk (PE.Kept.trod laidOut (by kernel_rfl) (of_decide_eq_true (by kernel_rfl)) k1 hk lt1) (trodAll_cons_mk (PE.Kept.trod laidOut (by kernel_rfl) (of_decide_eq_true (by kernel_rfl)) k2 hk lt2) trodAll_mk0))), rfl, hk.1.frame _, fun h => by cases h⟩

theorem over : Rows.typesTypesRow.holds Tryz.pinned (OpenSpec.ofChange Rows.typesTypesSpec) :=
  OpenClaim.holds_of_wide 5 Tryz.f5 rfl rfl rfl rfl rfl rfl rfl ⟨rfl, rfl, rfl, rfl, rfl⟩ rfl rfl rfl rfl rfl (by kernel_rfl) Tryz.func5 (by kernel_rfl)
    (of_decide_eq_true (by kernel_rfl)) (by unfold Func.isWrapper; first | (rw [if_pos (by decide +kernel)]; kernel_rfl) | (rw [if_neg (by decide +kernel)]; exact ⟨rfl, rfl⟩))
    (fun os started H enc _ => lifted os started H enc)

/-- The statement. -/
theorem proved : Rows.TypesTypesSaid := over
#print axioms proved
end Go.Proofs.YtgackhdkmnbbfaaGreat.typesTypes
