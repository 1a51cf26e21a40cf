import Derived.Test.YtpjbeahllepfmaaPeSimp
import Derived.Test.YtpjbeahllepfmaaT01Fns
set_option linter.unusedVariables false
set_option linter.unusedSimpArgs false
namespace PE.T01
open Go PE

def E : Env := { fn := fns, ext := fun _ => none }

theorem envOk : EnvOk Go.Proofs.Try.prog E := ⟨fnsOk, fun f g h => by cases h⟩

theorem truth_spec (b : Bool) (σ : Store) : pcall E 21 [.bool b] σ = some (.ret (.int .i64 (if b then 1 else 0)), σ) := by
  refine pcall_body rfl rfl rfl rfl ?_
  cases b <;> simp [F21]

theorem flag_spec (b : Bool) (σ : Store) : pcall E 22 [.bool b] σ = some (.ret (.int .i64 (if b then 1 else 0)), σ) := by
  refine pcall_body rfl rfl rfl rfl ?_
  cases b <;> simp [F22]

end PE.T01
