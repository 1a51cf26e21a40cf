import Derived.Test.YtpjbeahllepfmaaT01c
set_option linter.unusedVariables false
set_option linter.unusedSimpArgs false
namespace PE.T01
open Go PE

theorem rowCells : ∀ n : Nat, n < 29 → List.take 2 (List.drop (n * 2) [.str [], .int .i64 0, .str [43], .int .i64 9, .str [45], .int .i64 9, .str [42], .int .i64 10, .str [47], .int .i64 10, .str [37], .int .i64 10, .str [38], .int .i64 5, .str [124], .int .i64 3, .str [94], .int .i64 4, .str [60, 60], .int .i64 8, .str [62, 62], .int .i64 8, .str [62, 62, 62], .int .i64 8, .str [60], .int .i64 7, .str [60, 61], .int .i64 7, .str [62], .int .i64 7, .str [62, 61], .int .i64 7, .str [61, 61], .int .i64 6, .str [33, 61], .int .i64 6, .str [38, 38], .int .i64 2, .str [124, 124], .int .i64 1, .str [45], .int .i64 0, .str [126], .int .i64 0, .str [33], .int .i64 0, .str [105, 56], .int .i64 0, .str [105, 49, 54], .int .i64 0, .str [105, 51, 50], .int .i64 0, .str [117, 56], .int .i64 0, .str [117, 49, 54], .int .i64 0, .str [117, 51, 50], .int .i64 0]) = [PV.str ((signList[n]?).getD []), PV.int .i64 ((levelList[n]?).getD 0)]
  | 0, _ => rfl
  | 1, _ => rfl
  | 2, _ => rfl
  | 3, _ => rfl
  | 4, _ => rfl
  | 5, _ => rfl
  | 6, _ => rfl
  | 7, _ => rfl
  | 8, _ => rfl
  | 9, _ => rfl
  | 10, _ => rfl
  | 11, _ => rfl
  | 12, _ => rfl
  | 13, _ => rfl
  | 14, _ => rfl
  | 15, _ => rfl
  | 16, _ => rfl
  | 17, _ => rfl
  | 18, _ => rfl
  | 19, _ => rfl
  | 20, _ => rfl
  | 21, _ => rfl
  | 22, _ => rfl
  | 23, _ => rfl
  | 24, _ => rfl
  | 25, _ => rfl
  | 26, _ => rfl
  | 27, _ => rfl
  | 28, _ => rfl
  | n + 29, h => by omega

set_option maxHeartbeats 4000000 in
theorem rowOf_spec (op : Int) (σ : Store) : pcall E 23 [.int .i64 op] σ = some (.ret (.agg [.str (sgn op), .int .i64 (lvl op)]), σ) := by
  refine pcall_body rfl rfl rfl rfl ?_
  by_cases h0 : op < 0
  · simp [F23, h0, sgn, lvl]
  by_cases h1 : 29 ≤ op
  · have : 29 ≤ op.toNat := by omega
    simp [F23, h0, h1, sgn, lvl, signList, levelList, List.getElem?_eq_none, this]
  have h2 : op.toNat < 29 := by omega
  have h3 : 0 ≤ op := by omega
  have h4 : op.toNat * 2 ≤ 56 := by omega
  have e1 : sgn op = ((signList[op.toNat]?).getD []) := by simp [sgn, h0]
  have e2 : lvl op = ((levelList[op.toNat]?).getD 0) := by simp [lvl, h0]
  rw [e1, e2]
  have e3 := rowCells op.toNat h2
  generalize ((signList[op.toNat]?).getD []) = s at *
  generalize ((levelList[op.toNat]?).getD 0) = l at *
  simp [F23, h0, h1, h2, h3, h4, e3]

end PE.T01
