import Derived.Test.YtpjbeahllepfmaaT01d
set_option linter.unusedVariables false
set_option linter.unusedSimpArgs false
namespace PE.T01
open Go PE

theorem sign_spec (op : Int) (σ : Store) : pcall E 16 [.int .i64 op] σ = some (.ret (.str (sgn op)), σ) := by
  refine pcall_body rfl rfl rfl rfl ?_
  simp [F16, rowOf_spec]

theorem level_spec (op : Int) (σ : Store) : pcall E 18 [.int .i64 op] σ = some (.ret (.int .i64 (lvl op)), σ) := by
  refine pcall_body rfl rfl rfl rfl ?_
  simp [F18, rowOf_spec]

theorem signs_spec (σ : Store) : pcall E 24 [] σ = some (.ret (.slice .fit 1 (signList.tail.map .str)), σ) := by
  refine pcall_body rfl rfl rfl rfl ?_
  simp [F24, signList]

end PE.T01
