import Derived.Test.YtpjbeahllepfmaaT01b
set_option linter.unusedVariables false
set_option linter.unusedSimpArgs false
namespace PE.T01
open Go PE

noncomputable def rone (op a : Int) : Int :=
  if op = 20 then W (0 - a) else if op = 21 then W (-1 - a) else if op = 22 then (if a = 0 then 1 else 0)
  else if op = 26 then and64 a 255 else if op = 27 then and64 a 65535 else if op = 28 then and64 a 4294967295
  else if op = 23 then W (xor64 (and64 a 255) 128 - 128) else if op = 24 then W (xor64 (and64 a 65535) 32768 - 32768) else if op = 25 then W (xor64 (and64 a 4294967295) 2147483648 - 2147483648) else 0

theorem rone_spec (op a : Int) (σ : Store) : pcall E 15 [.int .i64 op, .int .i64 a] σ = some (.ret (.int .i64 (rone op a)), σ) := by
  refine pcall_body rfl rfl rfl rfl ?_
  by_cases h20 : op = 20
  · subst h20; simp [F15, rone, flag_spec]
  by_cases h21 : op = 21
  · subst h21; simp [F15, rone, flag_spec]
  by_cases h22 : op = 22
  · subst h22; simp [F15, rone, flag_spec]
  by_cases h23 : op = 23
  · subst h23; simp [F15, rone, flag_spec]
  by_cases h24 : op = 24
  · subst h24; simp [F15, rone, flag_spec]
  by_cases h25 : op = 25
  · subst h25; simp [F15, rone, flag_spec]
  by_cases h26 : op = 26
  · subst h26; simp [F15, rone, flag_spec]
  by_cases h27 : op = 27
  · subst h27; simp [F15, rone, flag_spec]
  by_cases h28 : op = 28
  · subst h28; simp [F15, rone, flag_spec]
  simp [F15, rone, h20, h21, h22, h23, h24, h25, h26, h27, h28]

def signList : List (List UInt8) := [[], [43], [45], [42], [47], [37], [38], [124], [94], [60, 60], [62, 62], [62, 62, 62], [60], [60, 61], [62], [62, 61], [61, 61], [33, 61], [38, 38], [124, 124], [45], [126], [33], [105, 56], [105, 49, 54], [105, 51, 50], [117, 56], [117, 49, 54], [117, 51, 50]]
def levelList : List Int := [0, 9, 9, 10, 10, 10, 5, 3, 4, 8, 8, 8, 7, 7, 7, 7, 6, 6, 2, 1, 0, 0, 0, 0, 0, 0, 0, 0, 0]
def sgn (op : Int) : List UInt8 := if op < 0 then [] else (signList[op.toNat]?).getD []
def lvl (op : Int) : Int := if op < 0 then 0 else (levelList[op.toNat]?).getD 0

theorem sgnList_get (n : Nat) (h : n < 29) : signList[n]? = some ((signList[n]?).getD []) ∧ levelList[n]? = some ((levelList[n]?).getD 0) := by
  have h1 : n < signList.length := h
  have h2 : n < levelList.length := h
  simp [h1, h2]

end PE.T01
