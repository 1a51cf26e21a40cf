/-
  What the evaluator's parts come to, as rewriting.
-/
import Derived.Test.YtpjbeahllepfmaaPeCall
set_option linter.unusedVariables false
set_option linter.unusedSimpArgs false
namespace PE
open Go

theorem upd_at {α : Type} (f : Nat → α) (k : Nat) (v : α) (j : Nat) : upd f k v j = if j = k then v else f j := Eq.trans rfl rfl

/-- A step, and the rest. -/
noncomputable def thenStep (k : St → Option SR) : Option SR → Option SR
  | some (.ok s') => k s'
  | x => x

@[simp] theorem thenStep_ok (k : St → Option SR) (s : St) : thenStep k (some (.ok s)) = k s := Eq.trans rfl rfl
@[simp] theorem thenStep_pan (k : St → Option SR) (v : PV) (st : Store) : thenStep k (some (.pan v st)) = some (.pan v st) := Eq.trans rfl rfl
@[simp] theorem steps_nil (cf : CallF) (s : St) : steps cf [] s = some (.ok s) := Eq.trans rfl rfl
@[simp] theorem steps_cons (cf : CallF) (o : GOp) (r : List GOp) (s : St) : steps cf (o :: r) s = thenStep (steps cf r) (step cf o s) := by
  simp only [steps]
  cases step cf o s with
  | none => rfl
  | some q => cases q <;> rfl


attribute [simp] exec_seq exec_region exec_cond exec_block

attribute [simp] upd_at frOf gate step runOp IOp.sem Arg.val argVals setDst stripAll getBx setBx IOp.box? IOp.takes Where.box? strip isVar isCell cellsOf optNat asNat scalarEq eqCells
  regionEnd thenSeq ofCond leaveBlock leave finish getAll IRes.get resVal readCells stripA fillParts fillElems setAt lenOf lenSem slcSem keyOk keyEq mapFind mapSet avoids keepFr dropBx

noncomputable abbrev xor64 (a b : Int) : Int := xorK .i64 a b
noncomputable abbrev and64 (a b : Int) : Int := andK .i64 a b
noncomputable abbrev or64 (a b : Int) : Int := orK .i64 a b
noncomputable abbrev W (n : Int) : Int := wrapK .i64 n

section
variable (tk : Nat) (ks : List Nat) (k : IntKind) (a b : Int)
@[simp] theorem binSem_and : binSem tk ks .and (.int k a) (.int k b) = some (.int k (andK k a b)) := by simp [binSem]
@[simp] theorem binSem_or : binSem tk ks .or (.int k a) (.int k b) = some (.int k (orK k a b)) := by simp [binSem]
@[simp] theorem binSem_xor : binSem tk ks .xor (.int k a) (.int k b) = some (.int k (xorK k a b)) := by simp [binSem]
@[simp] theorem unSem_xor64 : unSem .xor (.int .i64 a) = some (.int .i64 (xorK .i64 (-1) a)) := by simp [unSem, IntKind.signed]
@[simp] theorem unSem_neg : unSem .neg (.int k a) = some (.int k (wrapK k (0 - a))) := Eq.trans rfl rfl
@[simp] theorem unSem_not (x : Bool) : unSem .not (.bool x) = some (.bool !x) := Eq.trans rfl rfl
@[simp] theorem binSem_add : binSem tk ks .add (.int k a) (.int k b) = some (.int k (wrapK k (a + b))) := by simp [binSem]
@[simp] theorem binSem_sub : binSem tk ks .sub (.int k a) (.int k b) = some (.int k (wrapK k (a - b))) := by simp [binSem]
@[simp] theorem binSem_mul : binSem tk ks .mul (.int k a) (.int k b) = some (.int k (wrapK k (a * b))) := by simp [binSem]
@[simp] theorem binSem_quo : binSem tk ks .quo (.int k a) (.int k b) = if b = 0 then none else some (.int k (wrapK k (a.tdiv b))) := by simp [binSem]
@[simp] theorem binSem_rem : binSem tk ks .rem (.int k a) (.int k b) = if b = 0 then none else some (.int k (remK a b)) := by simp [binSem]
@[simp] theorem binSem_shl (k' : IntKind) : binSem tk ks .shl (.int k a) (.int k' b) = if b < 0 then none else some (.int k (wrapK k (a * 2 ^ (min b.toNat k.bits)))) := Eq.trans rfl rfl
@[simp] theorem binSem_shr (k' : IntKind) : binSem tk ks .shr (.int k a) (.int k' b) = if b < 0 then none else some (.int k (shrK a (min b.toNat k.bits))) := Eq.trans rfl rfl
@[simp] theorem binSem_eql : binSem tk ks .eql (.int k a) (.int k b) = some (.bool (decide (a = b))) := by simp [binSem]
@[simp] theorem binSem_neq : binSem tk ks .neq (.int k a) (.int k b) = some (.bool (!decide (a = b))) := by simp [binSem]
@[simp] theorem binSem_lss : binSem tk ks .lss (.int k a) (.int k b) = some (.bool (decide (a < b))) := by simp [binSem]
@[simp] theorem binSem_leq : binSem tk ks .leq (.int k a) (.int k b) = some (.bool (decide (a ≤ b))) := by simp [binSem]
@[simp] theorem binSem_gtr : binSem tk ks .gtr (.int k a) (.int k b) = some (.bool (decide (b < a))) := by simp [binSem]
@[simp] theorem binSem_geq : binSem tk ks .geq (.int k a) (.int k b) = some (.bool (decide (b ≤ a))) := by simp [binSem]
@[simp] theorem binSem_sadd (x y : List UInt8) : binSem tk ks .add (.str x) (.str y) = if x.length + y.length ≤ 9223372036854775807 then some (.str (x ++ y)) else none := Eq.trans rfl rfl
@[simp] theorem binSem_seql (x y : List UInt8) : binSem tk ks .eql (.str x) (.str y) = some (.bool (decide (x = y))) := Eq.trans rfl rfl
@[simp] theorem binSem_sneq (x y : List UInt8) : binSem tk ks .neq (.str x) (.str y) = some (.bool (!decide (x = y))) := Eq.trans rfl rfl
@[simp] theorem binSem_beql (x y : Bool) : binSem 1 ks .eql (.bool x) (.bool y) = some (.bool (x == y)) := Eq.trans rfl rfl
@[simp] theorem binSem_bneq (x y : Bool) : binSem 1 ks .neq (.bool x) (.bool y) = some (.bool (!(x == y))) := Eq.trans rfl rfl
@[simp] theorem binSem_peql : binSem 3 ks .eql .nilp .nilp = some (.bool true) := Eq.trans rfl rfl
@[simp] theorem binSem_pneq : binSem 3 ks .neq .nilp .nilp = some (.bool false) := Eq.trans rfl rfl
@[simp] theorem binSem_ieql (cs : List PV) (o : Nat) : binSem 3 ks .eql (.iptr cs o) .nilp = some (.bool false) := Eq.trans rfl rfl
@[simp] theorem binSem_ineq (cs : List PV) (o : Nat) : binSem 3 ks .neq (.iptr cs o) .nilp = some (.bool true) := Eq.trans rfl rfl
@[simp] theorem binSem_oeql (l i o : Nat) : binSem 3 ks .eql (.ptr l i o) .nilp = some (.bool false) := Eq.trans rfl rfl
@[simp] theorem binSem_oneq (l i o : Nat) : binSem 3 ks .neq (.ptr l i o) .nilp = some (.bool true) := Eq.trans rfl rfl
@[simp] theorem binSem_aeql (x y : List PV) : binSem 4 ks .eql (.agg x) (.agg y) = (eqCells ks x y).map .bool := Eq.trans rfl rfl
@[simp] theorem binSem_aneq (x y : List PV) : binSem 4 ks .neq (.agg x) (.agg y) = (eqCells ks x y).map fun b => .bool (!b) := Eq.trans rfl rfl
end

end PE
