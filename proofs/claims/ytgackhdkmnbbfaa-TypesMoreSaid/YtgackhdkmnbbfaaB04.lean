/-
  Texts joined by program: T05Fns, A5U1, A5U1b.
-/
import Derived.Test.YtgackhdkmnbbfaaB03
import Derived.Test.YtgackhdkmnbbfaaProg
import Derived.Laws.RangeAny
import Derived.Laws.RangeString
set_option linter.unusedVariables false
set_option linter.unusedSectionVars false
set_option linter.unusedSimpArgs false
/-
  The plain reading of the functions, printed by program off their region code; and the look that holds each against the other.
-/
namespace PE.U
open Go PE Go.Proofs

/-- boxhedge/boxhedgeref02.letter -/
def F28 : IFn where
  ntmps := 21
  nargs := 1
  res := [.tmp 2]
  freeze := false
  body :=
 (.seq
 (.region [
 ⟨none, some 2, .mv (.c (.bool false))⟩])
 (.seq
 (.region [
 ⟨none, some 3, .mv (.t 0)⟩,
 ⟨none, some 4, .bin 0 [] .geq (.t 3) (.c (.int .u8 97))⟩,
 ⟨none, some 5, .mv (.t 4)⟩,
 ⟨some (5, true), some 6, .mv (.t 0)⟩,
 ⟨some (5, true), some 7, .bin 0 [] .leq (.t 6) (.c (.int .u8 122))⟩,
 ⟨none, some 8, .pick (.t 5) (.t 7) (.c (.bool false))⟩,
 ⟨none, some 9, .mv (.t 8)⟩,
 ⟨some (9, false), some 10, .mv (.t 0)⟩,
 ⟨some (9, false), some 11, .bin 0 [] .geq (.t 10) (.c (.int .u8 65))⟩,
 ⟨some (9, false), some 12, .mv (.t 11)⟩,
 ⟨some (12, true), some 13, .mv (.t 0)⟩,
 ⟨some (12, true), some 14, .bin 0 [] .leq (.t 13) (.c (.int .u8 90))⟩,
 ⟨some (9, false), some 15, .pick (.t 12) (.t 14) (.c (.bool false))⟩,
 ⟨none, some 16, .pick (.t 9) (.c (.bool true)) (.t 15)⟩,
 ⟨none, some 17, .mv (.t 16)⟩,
 ⟨some (17, false), some 18, .mv (.t 0)⟩,
 ⟨some (17, false), some 19, .bin 0 [] .eql (.t 18) (.c (.int .u8 95))⟩,
 ⟨none, some 20, .pick (.t 17) (.c (.bool true)) (.t 19)⟩,
 ⟨none, some 2, .mv (.t 20)⟩])
 .ret))

/-- boxhedge/boxhedgeref02.digit -/
def F29 : IFn where
  ntmps := 9
  nargs := 1
  res := [.tmp 2]
  freeze := false
  body :=
 (.seq
 (.region [
 ⟨none, some 2, .mv (.c (.bool false))⟩])
 (.seq
 (.region [
 ⟨none, some 3, .mv (.t 0)⟩,
 ⟨none, some 4, .bin 0 [] .geq (.t 3) (.c (.int .u8 48))⟩,
 ⟨none, some 5, .mv (.t 4)⟩,
 ⟨some (5, true), some 6, .mv (.t 0)⟩,
 ⟨some (5, true), some 7, .bin 0 [] .leq (.t 6) (.c (.int .u8 57))⟩,
 ⟨none, some 8, .pick (.t 5) (.t 7) (.c (.bool false))⟩,
 ⟨none, some 2, .mv (.t 8)⟩])
 .ret))

/-- boxhedge/boxhedgeref02.Word -/
def F30 : IFn where
  ntmps := 23
  nargs := 1
  res := [.tmp 2]
  freeze := false
  body :=
 (.seq
 (.region [
 ⟨none, some 2, .mv (.c (.bool false))⟩])
 (.seq
 (.seq
 (.region [
 ⟨none, some 3, .mv (.t 0)⟩])
 (.block 0
 (.seq
 (.seq
 (.region [
 ⟨none, some 5, .bin 0 [] .eql (.t 3) (.c (.str [105, 110, 116]))⟩,
 ⟨none, some 4, .mv (.t 5)⟩])
 (.cond (.t 4)
 .skip
 (.seq
 (.region [
 ⟨none, some 6, .bin 0 [] .eql (.t 3) (.c (.str [98, 111, 111, 108]))⟩,
 ⟨none, some 4, .mv (.t 6)⟩])
 (.cond (.t 4)
 .skip
 (.seq
 (.region [
 ⟨none, some 7, .bin 0 [] .eql (.t 3) (.c (.str [105, 102]))⟩,
 ⟨none, some 4, .mv (.t 7)⟩])
 (.cond (.t 4)
 .skip
 (.seq
 (.region [
 ⟨none, some 8, .bin 0 [] .eql (.t 3) (.c (.str [101, 108, 115, 101]))⟩,
 ⟨none, some 4, .mv (.t 8)⟩])
 (.cond (.t 4)
 .skip
 (.seq
 (.region [
 ⟨none, some 9, .bin 0 [] .eql (.t 3) (.c (.str [119, 104, 105, 108, 101]))⟩,
 ⟨none, some 4, .mv (.t 9)⟩])
 (.cond (.t 4)
 .skip
 (.seq
 (.region [
 ⟨none, some 10, .bin 0 [] .eql (.t 3) (.c (.str [98, 114, 101, 97, 107]))⟩,
 ⟨none, some 4, .mv (.t 10)⟩])
 (.cond (.t 4)
 .skip
 (.seq
 (.region [
 ⟨none, some 11, .bin 0 [] .eql (.t 3) (.c (.str [99, 111, 110, 116, 105, 110, 117, 101]))⟩,
 ⟨none, some 4, .mv (.t 11)⟩])
 (.cond (.t 4)
 .skip
 (.seq
 (.region [
 ⟨none, some 12, .bin 0 [] .eql (.t 3) (.c (.str [114, 101, 116, 117, 114, 110]))⟩,
 ⟨none, some 4, .mv (.t 12)⟩])
 (.cond (.t 4)
 .skip
 (.seq
 (.region [
 ⟨none, some 13, .bin 0 [] .eql (.t 3) (.c (.str [112, 114, 105, 110, 116]))⟩,
 ⟨none, some 4, .mv (.t 13)⟩])
 (.cond (.t 4)
 .skip
 (.seq
 (.region [
 ⟨none, some 14, .bin 0 [] .eql (.t 3) (.c (.str [114, 101, 97, 100]))⟩,
 ⟨none, some 4, .mv (.t 14)⟩])
 (.cond (.t 4)
 .skip
 (.seq
 (.region [
 ⟨none, some 15, .bin 0 [] .eql (.t 3) (.c (.str [116, 114, 117, 101]))⟩,
 ⟨none, some 4, .mv (.t 15)⟩])
 (.cond (.t 4)
 .skip
 (.seq
 (.region [
 ⟨none, some 16, .bin 0 [] .eql (.t 3) (.c (.str [102, 97, 108, 115, 101]))⟩,
 ⟨none, some 4, .mv (.t 16)⟩])
 (.cond (.t 4)
 .skip
 (.seq
 (.region [
 ⟨none, some 17, .bin 0 [] .eql (.t 3) (.c (.str [105, 56]))⟩,
 ⟨none, some 4, .mv (.t 17)⟩])
 (.cond (.t 4)
 .skip
 (.seq
 (.region [
 ⟨none, some 18, .bin 0 [] .eql (.t 3) (.c (.str [105, 49, 54]))⟩,
 ⟨none, some 4, .mv (.t 18)⟩])
 (.cond (.t 4)
 .skip
 (.seq
 (.region [
 ⟨none, some 19, .bin 0 [] .eql (.t 3) (.c (.str [105, 51, 50]))⟩,
 ⟨none, some 4, .mv (.t 19)⟩])
 (.cond (.t 4)
 .skip
 (.seq
 (.region [
 ⟨none, some 20, .bin 0 [] .eql (.t 3) (.c (.str [117, 56]))⟩,
 ⟨none, some 4, .mv (.t 20)⟩])
 (.cond (.t 4)
 .skip
 (.seq
 (.region [
 ⟨none, some 21, .bin 0 [] .eql (.t 3) (.c (.str [117, 49, 54]))⟩,
 ⟨none, some 4, .mv (.t 21)⟩])
 (.cond (.t 4)
 .skip
 (.region [
 ⟨none, some 22, .bin 0 [] .eql (.t 3) (.c (.str [117, 51, 50]))⟩,
 ⟨none, some 4, .mv (.t 22)⟩])))))))))))))))))))))))))))))))))))
 (.cond (.t 4)
 (.seq
 (.region [
 ⟨none, some 2, .mv (.c (.bool true))⟩])
 .ret)
 .skip))))
 (.seq
 (.region [
 ⟨none, some 2, .mv (.c (.bool false))⟩])
 .ret)))

def L31_0 : ICode := .loop [0, 3] []
 (.seq
 (.seq
 (.region [
 ⟨none, some 21, .mv (.t 3)⟩,
 ⟨none, some 22, .mv (.t 0)⟩,
 ⟨none, some 23, .len 0 (.t 22)⟩,
 ⟨none, some 24, .bin 0 [] .lss (.t 21) (.t 23)⟩])
 (.cond (.t 24)
 .skip
 (.exit 0)))
 (.seq
 (.block 1
 (.seq
 (.region [
 ⟨none, some 27, .mv (.t 0)⟩,
 ⟨none, some 28, .mv (.t 3)⟩,
 ⟨none, some 29, .idxS (.t 27) (.t 28)⟩,
 ⟨none, some 30, .callP false (.c (.fn 28 [] [])) [(.t 29)]⟩,
 ⟨none, some 31, .un .not (.t 30)⟩,
 ⟨none, some 32, .mv (.t 31)⟩,
 ⟨some (32, true), some 33, .mv (.t 0)⟩,
 ⟨some (32, true), some 34, .mv (.t 3)⟩,
 ⟨some (32, true), some 35, .idxS (.t 33) (.t 34)⟩,
 ⟨some (32, true), some 36, .callP false (.c (.fn 29 [] [])) [(.t 35)]⟩,
 ⟨some (32, true), some 37, .un .not (.t 36)⟩,
 ⟨none, some 38, .pick (.t 32) (.t 37) (.c (.bool false))⟩])
 (.cond (.t 38)
 (.seq
 (.region [
 ⟨none, some 2, .mv (.c (.bool false))⟩])
 .ret)
 .skip)))
 (.region [
 ⟨none, some 25, .mv (.t 3)⟩,
 ⟨none, some 26, .bin 0 [] .add (.t 25) (.c (.int .i64 1))⟩,
 ⟨none, some 3, .mv (.t 26)⟩])))
abbrev K31_0 : List Nat := [0]
abbrev B31_0 : List Nat := []
/-- boxhedge/boxhedgeref02.Name -/
def F31 : IFn where
  ntmps := 39
  nargs := 1
  res := [.tmp 2]
  freeze := false
  body :=
 (.seq
 (.region [
 ⟨none, some 2, .mv (.c (.bool false))⟩])
 (.seq
 (.seq
 (.region [
 ⟨none, some 4, .mv (.t 0)⟩,
 ⟨none, some 5, .bin 0 [] .eql (.t 4) (.c (.str []))⟩,
 ⟨none, some 6, .mv (.t 5)⟩,
 ⟨some (6, false), some 7, .mv (.t 0)⟩,
 ⟨some (6, false), some 8, .len 0 (.t 7)⟩,
 ⟨some (6, false), some 9, .bin 0 [] .gtr (.t 8) (.c (.int .i64 20))⟩,
 ⟨none, some 10, .pick (.t 6) (.c (.bool true)) (.t 9)⟩,
 ⟨none, some 11, .mv (.t 10)⟩,
 ⟨some (11, false), some 12, .mv (.t 0)⟩,
 ⟨some (11, false), some 13, .idxS (.t 12) (.c (.int .i64 0))⟩,
 ⟨some (11, false), some 14, .callP false (.c (.fn 28 [] [])) [(.t 13)]⟩,
 ⟨some (11, false), some 15, .un .not (.t 14)⟩,
 ⟨none, some 16, .pick (.t 11) (.c (.bool true)) (.t 15)⟩,
 ⟨none, some 17, .mv (.t 16)⟩,
 ⟨some (17, false), some 18, .mv (.t 0)⟩,
 ⟨some (17, false), some 19, .callP false (.c (.fn 30 [] [])) [(.t 18)]⟩,
 ⟨none, some 20, .pick (.t 17) (.c (.bool true)) (.t 19)⟩])
 (.cond (.t 20)
 (.seq
 (.region [
 ⟨none, some 2, .mv (.c (.bool false))⟩])
 .ret)
 .skip))
 (.seq
 (.seq
 (.region [
 ⟨none, some 3, .mv (.c (.int .i64 0))⟩])
 (.block 0
 L31_0))
 (.seq
 (.region [
 ⟨none, some 2, .mv (.c (.bool true))⟩])
 .ret))))

def L38_0 : ICode := .loop [0, 3, 4] []
 (.seq
 (.seq
 (.region [
 ⟨none, some 6, .mv (.t 4)⟩,
 ⟨none, some 7, .mv (.t 0)⟩,
 ⟨none, some 8, .len 0 (.t 7)⟩,
 ⟨none, some 9, .bin 0 [] .lss (.t 6) (.t 8)⟩])
 (.cond (.t 9)
 .skip
 (.exit 0)))
 (.seq
 (.block 1
 (.seq
 (.region [
 ⟨none, some 12, .mv (.t 0)⟩,
 ⟨none, some 13, .mv (.t 4)⟩,
 ⟨none, some 14, .idxS (.t 12) (.t 13)⟩,
 ⟨none, some 15, .conv .i64 (.t 14)⟩,
 ⟨none, some 16, .bin 0 [] .sub (.t 15) (.c (.int .i64 48))⟩,
 ⟨none, some 5, .mv (.t 16)⟩])
 (.seq
 (.seq
 (.region [
 ⟨none, some 17, .mv (.t 3)⟩,
 ⟨none, some 18, .mv (.t 5)⟩,
 ⟨none, some 19, .bin 0 [] .sub (.c (.int .i64 9223372036854775807)) (.t 18)⟩,
 ⟨none, some 20, .bin 0 [] .quo (.t 19) (.c (.int .i64 10))⟩,
 ⟨none, some 21, .bin 0 [] .gtr (.t 17) (.t 20)⟩])
 (.cond (.t 21)
 (.seq
 (.region [
 ⟨none, some 2, .mv (.c (.int .i64 (-1)))⟩])
 .ret)
 .skip))
 (.region [
 ⟨none, some 22, .mv (.t 3)⟩,
 ⟨none, some 23, .bin 0 [] .mul (.t 22) (.c (.int .i64 10))⟩,
 ⟨none, some 24, .mv (.t 5)⟩,
 ⟨none, some 25, .bin 0 [] .add (.t 23) (.t 24)⟩,
 ⟨none, some 3, .mv (.t 25)⟩]))))
 (.region [
 ⟨none, some 10, .mv (.t 4)⟩,
 ⟨none, some 11, .bin 0 [] .add (.t 10) (.c (.int .i64 1))⟩,
 ⟨none, some 4, .mv (.t 11)⟩])))
abbrev K38_0 : List Nat := [0]
abbrev B38_0 : List Nat := []
/-- boxhedge/boxhedgeref02.Value -/
def F38 : IFn where
  ntmps := 39
  nargs := 1
  res := [.tmp 2]
  freeze := false
  body :=
 (.seq
 (.region [
 ⟨none, some 2, .mv (.c (.int .i64 0))⟩])
 (.seq
 (.region [
 ⟨none, some 3, .mv (.c (.int .i64 0))⟩])
 (.seq
 (.seq
 (.region [
 ⟨none, some 4, .mv (.c (.int .i64 0))⟩])
 (.block 0
 L38_0))
 (.seq
 (.seq
 (.region [
 ⟨none, some 26, .mv (.t 0)⟩,
 ⟨none, some 27, .bin 0 [] .eql (.t 26) (.c (.str []))⟩,
 ⟨none, some 28, .mv (.t 27)⟩,
 ⟨some (28, false), some 29, .mv (.t 0)⟩,
 ⟨some (28, false), some 30, .len 0 (.t 29)⟩,
 ⟨some (28, false), some 31, .bin 0 [] .gtr (.t 30) (.c (.int .i64 1))⟩,
 ⟨some (28, false), some 32, .mv (.t 31)⟩,
 ⟨some (32, true), some 33, .mv (.t 0)⟩,
 ⟨some (32, true), some 34, .idxS (.t 33) (.c (.int .i64 0))⟩,
 ⟨some (32, true), some 35, .bin 0 [] .eql (.t 34) (.c (.int .u8 48))⟩,
 ⟨some (28, false), some 36, .pick (.t 32) (.t 35) (.c (.bool false))⟩,
 ⟨none, some 37, .pick (.t 28) (.c (.bool true)) (.t 36)⟩])
 (.cond (.t 37)
 (.seq
 (.region [
 ⟨none, some 2, .mv (.c (.int .i64 (-1)))⟩])
 .ret)
 .skip))
 (.seq
 (.region [
 ⟨none, some 38, .mv (.t 3)⟩,
 ⟨none, some 2, .mv (.t 38)⟩])
 .ret)))))

def L32_0 : ICode := .loop [0, 3] []
 (.seq
 (.seq
 (.region [
 ⟨none, some 4, .mv (.t 3)⟩,
 ⟨none, some 5, .mv (.t 0)⟩,
 ⟨none, some 6, .len 0 (.t 5)⟩,
 ⟨none, some 7, .bin 0 [] .lss (.t 4) (.t 6)⟩])
 (.cond (.t 7)
 .skip
 (.exit 0)))
 (.seq
 (.block 1
 (.seq
 (.region [
 ⟨none, some 10, .mv (.t 0)⟩,
 ⟨none, some 11, .mv (.t 3)⟩,
 ⟨none, some 12, .idxS (.t 10) (.t 11)⟩,
 ⟨none, some 13, .callP false (.c (.fn 29 [] [])) [(.t 12)]⟩,
 ⟨none, some 14, .un .not (.t 13)⟩])
 (.cond (.t 14)
 (.seq
 (.region [
 ⟨none, some 2, .mv (.c (.bool false))⟩])
 .ret)
 .skip)))
 (.region [
 ⟨none, some 8, .mv (.t 3)⟩,
 ⟨none, some 9, .bin 0 [] .add (.t 8) (.c (.int .i64 1))⟩,
 ⟨none, some 3, .mv (.t 9)⟩])))
abbrev K32_0 : List Nat := [0]
abbrev B32_0 : List Nat := []
/-- boxhedge/boxhedgeref02.number -/
def F32 : IFn where
  ntmps := 18
  nargs := 1
  res := [.tmp 2]
  freeze := false
  body :=
 (.seq
 (.region [
 ⟨none, some 2, .mv (.c (.bool false))⟩])
 (.seq
 (.seq
 (.region [
 ⟨none, some 3, .mv (.c (.int .i64 0))⟩])
 (.block 0
 L32_0))
 (.seq
 (.region [
 ⟨none, some 15, .mv (.t 0)⟩,
 ⟨none, some 16, .callP false (.c (.fn 38 [] [])) [(.t 15)]⟩,
 ⟨none, some 17, .bin 0 [] .geq (.t 16) (.c (.int .i64 0))⟩,
 ⟨none, some 2, .mv (.t 17)⟩])
 .ret)))

def L33_0 : ICode := .loop [0, 3, 4] []
 (.seq
 (.seq
 (.region [
 ⟨none, some 6, .mv (.t 4)⟩,
 ⟨none, some 7, .mv (.t 3)⟩,
 ⟨none, some 8, .len 1 (.t 7)⟩,
 ⟨none, some 9, .bin 0 [] .lss (.t 6) (.t 8)⟩])
 (.cond (.t 9)
 .skip
 (.exit 0)))
 (.seq
 (.block 1
 (.seq
 (.region [
 ⟨none, some 12, .mv (.t 3)⟩,
 ⟨none, some 13, .mv (.t 4)⟩,
 ⟨none, some 14, .iaddr 1 (.t 12) (.t 13)⟩,
 ⟨none, some 15, .load .imm false 1 (.t 14)⟩,
 ⟨none, some 16, .len 0 (.t 15)⟩,
 ⟨none, some 17, .mv (.t 0)⟩,
 ⟨none, some 18, .len 0 (.t 17)⟩,
 ⟨none, some 19, .bin 0 [] .leq (.t 16) (.t 18)⟩,
 ⟨none, some 20, .mv (.t 19)⟩,
 ⟨some (20, true), some 21, .mv (.t 0)⟩,
 ⟨some (20, true), some 22, .mv (.t 3)⟩,
 ⟨some (20, true), some 23, .mv (.t 4)⟩,
 ⟨some (20, true), some 24, .iaddr 1 (.t 22) (.t 23)⟩,
 ⟨some (20, true), some 25, .load .imm false 1 (.t 24)⟩,
 ⟨some (20, true), some 26, .len 0 (.t 25)⟩,
 ⟨some (20, true), some 27, .slc true 0 (.t 21) none (some (.t 26)) none⟩,
 ⟨some (20, true), some 28, .mv (.t 3)⟩,
 ⟨some (20, true), some 29, .mv (.t 4)⟩,
 ⟨some (20, true), some 30, .iaddr 1 (.t 28) (.t 29)⟩,
 ⟨some (20, true), some 31, .load .imm false 1 (.t 30)⟩,
 ⟨some (20, true), some 32, .bin 0 [] .eql (.t 27) (.t 31)⟩,
 ⟨none, some 33, .pick (.t 20) (.t 32) (.c (.bool false))⟩])
 (.cond (.t 33)
 (.seq
 (.region [
 ⟨none, some 34, .take 3⟩,
 ⟨none, some 35, .mv (.t 4)⟩,
 ⟨none, some 36, .iaddr 1 (.t 34) (.t 35)⟩,
 ⟨none, some 37, .load .any false 1 (.t 36)⟩,
 ⟨none, some 2, .mv (.t 37)⟩])
 .ret)
 .skip)))
 (.region [
 ⟨none, some 10, .mv (.t 4)⟩,
 ⟨none, some 11, .bin 0 [] .add (.t 10) (.c (.int .i64 1))⟩,
 ⟨none, some 4, .mv (.t 11)⟩])))
abbrev K33_0 : List Nat := [0, 3]
abbrev B33_0 : List Nat := []
/-- boxhedge/boxhedgeref02.sign -/
def F33 : IFn where
  ntmps := 38
  nargs := 1
  res := [.tmp 2]
  freeze := false
  body :=
 (.seq
 (.region [
 ⟨none, some 2, .mv (.c (.str []))⟩])
 (.seq
 (.region [
 ⟨none, some 5, .bslice 1 (.str []) 30 [(0, (.c (.str [62, 62, 62]))), (1, (.c (.str [60, 60]))), (2, (.c (.str [62, 62]))), (3, (.c (.str [60, 61]))), (4, (.c (.str [62, 61]))), (5, (.c (.str [61, 61]))), (6, (.c (.str [33, 61]))), (7, (.c (.str [38, 38]))), (8, (.c (.str [124, 124]))), (9, (.c (.str [40]))), (10, (.c (.str [41]))), (11, (.c (.str [123]))), (12, (.c (.str [125]))), (13, (.c (.str [91]))), (14, (.c (.str [93]))), (15, (.c (.str [44]))), (16, (.c (.str [59]))), (17, (.c (.str [61]))), (18, (.c (.str [60]))), (19, (.c (.str [62]))), (20, (.c (.str [43]))), (21, (.c (.str [45]))), (22, (.c (.str [42]))), (23, (.c (.str [47]))), (24, (.c (.str [37]))), (25, (.c (.str [38]))), (26, (.c (.str [124]))), (27, (.c (.str [94]))), (28, (.c (.str [126]))), (29, (.c (.str [33])))]⟩,
 ⟨none, some 3, .take 5⟩])
 (.seq
 (.seq
 (.region [
 ⟨none, some 4, .mv (.c (.int .i64 0))⟩])
 (.block 0
 L33_0))
 (.seq
 (.region [
 ⟨none, some 2, .mv (.c (.str []))⟩])
 .ret))))

def L12_0 : ICode := .loop [0, 5, 6, 7, 8, 9] []
 (.seq
 (.seq
 (.region [
 ⟨none, some 19, .mv (.t 7)⟩,
 ⟨none, some 20, .mv (.t 9)⟩,
 ⟨none, some 21, .bin 0 [] .add (.t 19) (.t 20)⟩,
 ⟨none, some 22, .mv (.t 0)⟩,
 ⟨none, some 23, .len 0 (.t 22)⟩,
 ⟨none, some 24, .bin 0 [] .lss (.t 21) (.t 23)⟩,
 ⟨none, some 25, .mv (.t 24)⟩,
 ⟨some (25, true), some 26, .mv (.t 0)⟩,
 ⟨some (25, true), some 27, .mv (.t 7)⟩,
 ⟨some (25, true), some 28, .mv (.t 9)⟩,
 ⟨some (25, true), some 29, .bin 0 [] .add (.t 27) (.t 28)⟩,
 ⟨some (25, true), some 30, .idxS (.t 26) (.t 29)⟩,
 ⟨some (25, true), some 31, .callP false (.c (.fn 28 [] [])) [(.t 30)]⟩,
 ⟨some (25, true), some 32, .mv (.t 31)⟩,
 ⟨some (32, false), some 33, .mv (.t 0)⟩,
 ⟨some (32, false), some 34, .mv (.t 7)⟩,
 ⟨some (32, false), some 35, .mv (.t 9)⟩,
 ⟨some (32, false), some 36, .bin 0 [] .add (.t 34) (.t 35)⟩,
 ⟨some (32, false), some 37, .idxS (.t 33) (.t 36)⟩,
 ⟨some (32, false), some 38, .callP false (.c (.fn 29 [] [])) [(.t 37)]⟩,
 ⟨some (25, true), some 39, .pick (.t 32) (.c (.bool true)) (.t 38)⟩,
 ⟨none, some 40, .pick (.t 25) (.t 39) (.c (.bool false))⟩])
 (.cond (.t 40)
 .skip
 (.exit 2)))
 (.block 3
 (.region [
 ⟨none, some 41, .mv (.t 9)⟩,
 ⟨none, some 42, .bin 0 [] .add (.t 41) (.c (.int .i64 1))⟩,
 ⟨none, some 9, .mv (.t 42)⟩])))
def L12_1 : ICode := .loop [0, 5, 6, 7] []
 (.seq
 (.seq
 (.region [
 ⟨none, some 100, .mv (.t 7)⟩,
 ⟨none, some 101, .mv (.t 0)⟩,
 ⟨none, some 102, .len 0 (.t 101)⟩,
 ⟨none, some 103, .bin 0 [] .lss (.t 100) (.t 102)⟩,
 ⟨none, some 104, .mv (.t 103)⟩,
 ⟨some (104, true), some 105, .mv (.t 0)⟩,
 ⟨some (104, true), some 106, .mv (.t 7)⟩,
 ⟨some (104, true), some 107, .idxS (.t 105) (.t 106)⟩,
 ⟨some (104, true), some 108, .bin 0 [] .neq (.t 107) (.c (.int .u8 10))⟩,
 ⟨none, some 109, .pick (.t 104) (.t 108) (.c (.bool false))⟩])
 (.cond (.t 109)
 .skip
 (.exit 5)))
 (.block 6
 (.region [
 ⟨none, some 110, .mv (.t 7)⟩,
 ⟨none, some 111, .bin 0 [] .add (.t 110) (.c (.int .i64 1))⟩,
 ⟨none, some 7, .mv (.t 111)⟩])))
def L12_2 : ICode := .loop [0, 5, 6, 7] [8]
 (.seq
 (.seq
 (.region [
 ⟨none, some 13, .mv (.t 7)⟩,
 ⟨none, some 14, .mv (.t 0)⟩,
 ⟨none, some 15, .len 0 (.t 14)⟩,
 ⟨none, some 16, .bin 0 [] .lss (.t 13) (.t 15)⟩])
 (.cond (.t 16)
 .skip
 (.exit 0)))
 (.block 1
 (.seq
 (.region [
 ⟨none, some 17, .mv (.t 6)⟩,
 ⟨none, some 18, .build [.int .i64 0, .str [], .int .i64 0] [(2, 1, (.t 17))]⟩,
 ⟨none, some 8, .boxL 8 (.c (.agg [.int .i64 0, .str [], .int .i64 0]))⟩,
 ⟨none, none, .store (.box 8) 3 (.t 8) (.t 18)⟩])
 (.seq
 (.region [
 ⟨none, some 9, .mv (.c (.int .i64 0))⟩])
 (.seq
 (.block 2
 L12_0)
 (.seq
 (.block 4
 (.seq
 (.region [
 ⟨none, some 54, .mv (.t 0)⟩,
 ⟨none, some 55, .mv (.t 7)⟩,
 ⟨none, some 56, .idxS (.t 54) (.t 55)⟩,
 ⟨none, some 57, .bin 0 [] .eql (.t 56) (.c (.int .u8 10))⟩,
 ⟨none, some 53, .mv (.t 57)⟩])
 (.cond (.t 53)
 (.seq
 (.region [
 ⟨none, some 58, .mv (.t 6)⟩,
 ⟨none, some 59, .bin 0 [] .add (.t 58) (.c (.int .i64 1))⟩,
 ⟨none, some 6, .mv (.t 59)⟩])
 (.seq
 (.region [
 ⟨none, some 60, .mv (.t 7)⟩,
 ⟨none, some 61, .bin 0 [] .add (.t 60) (.c (.int .i64 1))⟩,
 ⟨none, some 7, .mv (.t 61)⟩])
 (.exit 1)))
 (.seq
 (.region [
 ⟨none, some 63, .mv (.t 0)⟩,
 ⟨none, some 64, .mv (.t 7)⟩,
 ⟨none, some 65, .idxS (.t 63) (.t 64)⟩,
 ⟨none, some 66, .bin 0 [] .eql (.t 65) (.c (.int .u8 32))⟩,
 ⟨none, some 67, .mv (.t 66)⟩,
 ⟨some (67, false), some 68, .mv (.t 0)⟩,
 ⟨some (67, false), some 69, .mv (.t 7)⟩,
 ⟨some (67, false), some 70, .idxS (.t 68) (.t 69)⟩,
 ⟨some (67, false), some 71, .bin 0 [] .eql (.t 70) (.c (.int .u8 9))⟩,
 ⟨none, some 72, .pick (.t 67) (.c (.bool true)) (.t 71)⟩,
 ⟨none, some 73, .mv (.t 72)⟩,
 ⟨some (73, false), some 74, .mv (.t 0)⟩,
 ⟨some (73, false), some 75, .mv (.t 7)⟩,
 ⟨some (73, false), some 76, .idxS (.t 74) (.t 75)⟩,
 ⟨some (73, false), some 77, .bin 0 [] .eql (.t 76) (.c (.int .u8 13))⟩,
 ⟨none, some 78, .pick (.t 73) (.c (.bool true)) (.t 77)⟩,
 ⟨none, some 62, .mv (.t 78)⟩])
 (.cond (.t 62)
 (.seq
 (.region [
 ⟨none, some 79, .mv (.t 7)⟩,
 ⟨none, some 80, .bin 0 [] .add (.t 79) (.c (.int .i64 1))⟩,
 ⟨none, some 7, .mv (.t 80)⟩])
 (.exit 1))
 (.seq
 (.region [
 ⟨none, some 82, .mv (.t 0)⟩,
 ⟨none, some 83, .mv (.t 7)⟩,
 ⟨none, some 84, .idxS (.t 82) (.t 83)⟩,
 ⟨none, some 85, .bin 0 [] .eql (.t 84) (.c (.int .u8 47))⟩,
 ⟨none, some 86, .mv (.t 85)⟩,
 ⟨some (86, true), some 87, .mv (.t 7)⟩,
 ⟨some (86, true), some 88, .bin 0 [] .add (.t 87) (.c (.int .i64 1))⟩,
 ⟨some (86, true), some 89, .mv (.t 0)⟩,
 ⟨some (86, true), some 90, .len 0 (.t 89)⟩,
 ⟨some (86, true), some 91, .bin 0 [] .lss (.t 88) (.t 90)⟩,
 ⟨none, some 92, .pick (.t 86) (.t 91) (.c (.bool false))⟩,
 ⟨none, some 93, .mv (.t 92)⟩,
 ⟨some (93, true), some 94, .mv (.t 0)⟩,
 ⟨some (93, true), some 95, .mv (.t 7)⟩,
 ⟨some (93, true), some 96, .bin 0 [] .add (.t 95) (.c (.int .i64 1))⟩,
 ⟨some (93, true), some 97, .idxS (.t 94) (.t 96)⟩,
 ⟨some (93, true), some 98, .bin 0 [] .eql (.t 97) (.c (.int .u8 47))⟩,
 ⟨none, some 99, .pick (.t 93) (.t 98) (.c (.bool false))⟩,
 ⟨none, some 81, .mv (.t 99)⟩])
 (.cond (.t 81)
 (.seq
 (.block 5
 L12_1)
 (.exit 1))
 (.seq
 (.region [
 ⟨none, some 113, .mv (.t 9)⟩,
 ⟨none, some 114, .bin 0 [] .gtr (.t 113) (.c (.int .i64 0))⟩,
 ⟨none, some 112, .mv (.t 114)⟩])
 (.cond (.t 112)
 (.seq
 (.region [
 ⟨none, some 115, .mv (.t 0)⟩,
 ⟨none, some 116, .mv (.t 7)⟩,
 ⟨none, some 117, .mv (.t 7)⟩,
 ⟨none, some 118, .mv (.t 9)⟩,
 ⟨none, some 119, .bin 0 [] .add (.t 117) (.t 118)⟩,
 ⟨none, some 120, .slc true 0 (.t 115) (some (.t 116)) (some (.t 119)) none⟩,
 ⟨none, some 121, .faddr 1 (.t 8)⟩,
 ⟨none, none, .store (.box 8) 1 (.t 121) (.t 120)⟩])
 (.seq
 (.region [
 ⟨none, some 122, .faddr 0 (.t 8)⟩,
 ⟨none, none, .store (.box 8) 1 (.t 122) (.c (.int .i64 0))⟩])
 (.seq
 (.seq
 (.region [
 ⟨none, some 123, .mv (.t 0)⟩,
 ⟨none, some 124, .mv (.t 7)⟩,
 ⟨none, some 125, .idxS (.t 123) (.t 124)⟩,
 ⟨none, some 126, .callP false (.c (.fn 28 [] [])) [(.t 125)]⟩])
 (.cond (.t 126)
 (.region [
 ⟨none, some 127, .faddr 0 (.t 8)⟩,
 ⟨none, none, .store (.box 8) 1 (.t 127) (.c (.int .i64 1))⟩])
 .skip))
 (.seq
 (.seq
 (.region [
 ⟨none, some 128, .faddr 1 (.t 8)⟩,
 ⟨none, some 129, .load (.box 8) false 1 (.t 128)⟩,
 ⟨none, some 130, .callP false (.c (.fn 30 [] [])) [(.t 129)]⟩])
 (.cond (.t 130)
 (.region [
 ⟨none, some 131, .faddr 0 (.t 8)⟩,
 ⟨none, none, .store (.box 8) 1 (.t 131) (.c (.int .i64 2))⟩])
 .skip))
 (.seq
 (.region [
 ⟨none, some 132, .faddr 0 (.t 8)⟩,
 ⟨none, some 133, .load (.box 8) false 1 (.t 132)⟩,
 ⟨none, some 134, .bin 0 [] .eql (.t 133) (.c (.int .i64 1))⟩,
 ⟨none, some 135, .mv (.t 134)⟩,
 ⟨some (135, true), some 136, .faddr 1 (.t 8)⟩,
 ⟨some (135, true), some 137, .load (.box 8) false 1 (.t 136)⟩,
 ⟨some (135, true), some 138, .callP false (.c (.fn 31 [] [])) [(.t 137)]⟩,
 ⟨some (135, true), some 139, .un .not (.t 138)⟩,
 ⟨none, some 140, .pick (.t 135) (.t 139) (.c (.bool false))⟩,
 ⟨none, some 141, .mv (.t 140)⟩,
 ⟨some (141, false), some 142, .faddr 0 (.t 8)⟩,
 ⟨some (141, false), some 143, .load (.box 8) false 1 (.t 142)⟩,
 ⟨some (141, false), some 144, .bin 0 [] .eql (.t 143) (.c (.int .i64 0))⟩,
 ⟨some (141, false), some 145, .mv (.t 144)⟩,
 ⟨some (145, true), some 146, .faddr 1 (.t 8)⟩,
 ⟨some (145, true), some 147, .load (.box 8) false 1 (.t 146)⟩,
 ⟨some (145, true), some 148, .callP false (.c (.fn 32 [] [])) [(.t 147)]⟩,
 ⟨some (145, true), some 149, .un .not (.t 148)⟩,
 ⟨some (141, false), some 150, .pick (.t 145) (.t 149) (.c (.bool false))⟩,
 ⟨none, some 151, .pick (.t 141) (.c (.bool true)) (.t 150)⟩])
 (.cond (.t 151)
 (.seq
 (.region [
 ⟨none, some 152, .mv (.t 6)⟩,
 ⟨none, some 2, .mv (.c (.slice .fit 3 []))⟩,
 ⟨none, some 3, .mv (.c (.int .i64 20))⟩,
 ⟨none, some 4, .mv (.t 152)⟩])
 .ret)
 .skip))))))
 (.seq
 (.region [
 ⟨none, some 43, .mv (.t 0)⟩,
 ⟨none, some 44, .mv (.t 7)⟩,
 ⟨none, some 45, .slc true 0 (.t 43) (some (.t 44)) none none⟩,
 ⟨none, some 46, .callP false (.c (.fn 33 [] [])) [(.t 45)]⟩,
 ⟨none, some 47, .faddr 0 (.t 8)⟩,
 ⟨none, none, .store (.box 8) 1 (.t 47) (.c (.int .i64 2))⟩,
 ⟨none, some 48, .faddr 1 (.t 8)⟩,
 ⟨none, none, .store (.box 8) 1 (.t 48) (.t 46)⟩])
 (.seq
 (.region [
 ⟨none, some 49, .faddr 1 (.t 8)⟩,
 ⟨none, some 50, .load (.box 8) false 1 (.t 49)⟩,
 ⟨none, some 51, .bin 0 [] .eql (.t 50) (.c (.str []))⟩])
 (.cond (.t 51)
 (.seq
 (.region [
 ⟨none, some 52, .mv (.t 6)⟩,
 ⟨none, some 2, .mv (.c (.slice .fit 3 []))⟩,
 ⟨none, some 3, .mv (.c (.int .i64 20))⟩,
 ⟨none, some 4, .mv (.t 52)⟩])
 .ret)
 .skip))))))))))))
 (.seq
 (.region [
 ⟨none, some 153, .mv (.t 7)⟩,
 ⟨none, some 154, .faddr 1 (.t 8)⟩,
 ⟨none, some 155, .load (.box 8) false 1 (.t 154)⟩,
 ⟨none, some 156, .len 0 (.t 155)⟩,
 ⟨none, some 157, .bin 0 [] .add (.t 153) (.t 156)⟩,
 ⟨none, some 7, .mv (.t 157)⟩])
 (.region [
 ⟨none, some 158, .take 5⟩,
 ⟨none, some 159, .load (.box 8) true 3 (.t 8)⟩,
 ⟨none, some 160, .bslice 3 (.agg [.int .i64 0, .str [], .int .i64 0]) 1 [(0, (.t 159))]⟩,
 ⟨none, some 161, .append 3 32 (.t 158) (.t 160)⟩,
 ⟨none, some 5, .take 161⟩]))))))))
abbrev K12_0 : List Nat := [0, 5, 6, 7, 8]
abbrev B12_0 : List Nat := [8]
abbrev K12_1 : List Nat := [0, 5, 6]
abbrev B12_1 : List Nat := []
abbrev K12_2 : List Nat := [0]
abbrev B12_2 : List Nat := []
/-- boxhedge/boxhedgeref02.Tokens -/
def F12 : IFn where
  ntmps := 167
  nargs := 1
  res := [.tmp 2, .tmp 3, .tmp 4]
  freeze := false
  body :=
 (.seq
 (.region [
 ⟨none, some 2, .mv (.c (.slice .fit 3 []))⟩,
 ⟨none, some 3, .mv (.c (.int .i64 0))⟩,
 ⟨none, some 4, .mv (.c (.int .i64 0))⟩])
 (.seq
 (.seq
 (.region [
 ⟨none, some 10, .mv (.t 0)⟩,
 ⟨none, some 11, .len 0 (.t 10)⟩,
 ⟨none, some 12, .bin 0 [] .gtr (.t 11) (.c (.int .i64 100000))⟩])
 (.cond (.t 12)
 (.seq
 (.region [
 ⟨none, some 2, .mv (.c (.slice .fit 3 []))⟩,
 ⟨none, some 3, .mv (.c (.int .i64 2))⟩,
 ⟨none, some 4, .mv (.c (.int .i64 0))⟩])
 .ret)
 .skip))
 (.seq
 (.region [
 ⟨none, some 5, .mv (.c (.slice .fit 3 []))⟩])
 (.seq
 (.region [
 ⟨none, some 6, .mv (.c (.int .i64 1))⟩,
 ⟨none, some 7, .mv (.c (.int .i64 0))⟩])
 (.seq
 (.block 0
 L12_2)
 (.seq
 (.region [
 ⟨none, some 162, .take 5⟩,
 ⟨none, some 163, .mv (.t 6)⟩,
 ⟨none, some 164, .build [.int .i64 0, .str [], .int .i64 0] [(0, 1, (.c (.int .i64 3))), (2, 1, (.t 163))]⟩,
 ⟨none, some 165, .bslice 3 (.agg [.int .i64 0, .str [], .int .i64 0]) 1 [(0, (.t 164))]⟩,
 ⟨none, some 166, .append 3 32 (.t 162) (.t 165)⟩,
 ⟨none, some 2, .take 166⟩,
 ⟨none, some 3, .mv (.c (.int .i64 0))⟩,
 ⟨none, some 4, .mv (.c (.int .i64 0))⟩])
 .ret))))))

/-- (*boxhedge/boxhedgeref04.parser).over -/
def F34 : IFn where
  ntmps := 13
  nargs := 1
  res := [.tmp 2]
  freeze := false
  body :=
 (.seq
 (.region [
 ⟨none, some 2, .mv (.c (.bool false))⟩])
 (.seq
 (.region [
 ⟨none, some 3, .mv (.t 0)⟩,
 ⟨none, some 4, .nilck (.t 3)⟩,
 ⟨none, some 5, .faddr 2 (.t 4)⟩,
 ⟨none, some 6, .load .any false 1 (.t 5)⟩,
 ⟨none, some 7, .mv (.t 6)⟩,
 ⟨some (7, false), some 8, .mv (.t 0)⟩,
 ⟨some (7, false), some 9, .nilck (.t 8)⟩,
 ⟨some (7, false), some 10, .faddr 3 (.t 9)⟩,
 ⟨some (7, false), some 11, .load .any false 1 (.t 10)⟩,
 ⟨none, some 12, .pick (.t 7) (.c (.bool true)) (.t 11)⟩,
 ⟨none, some 2, .mv (.t 12)⟩])
 .ret))

/-- (*boxhedge/boxhedgeref04.parser).is -/
def F53 : IFn where
  ntmps := 37
  nargs := 2
  res := [.tmp 4]
  freeze := false
  body :=
 (.seq
 (.region [
 ⟨none, some 4, .mv (.c (.bool false))⟩])
 (.seq
 (.region [
 ⟨none, some 5, .mv (.t 0)⟩,
 ⟨none, some 6, .call false (.c (.fn 34 [] [])) [(.t 5)]⟩,
 ⟨none, some 7, .un .not (.t 6)⟩,
 ⟨none, some 8, .mv (.t 7)⟩,
 ⟨some (8, true), some 9, .mv (.t 0)⟩,
 ⟨some (8, true), some 10, .nilck (.t 9)⟩,
 ⟨some (8, true), some 11, .faddr 0 (.t 10)⟩,
 ⟨some (8, true), some 12, .load .any false 1 (.t 11)⟩,
 ⟨some (8, true), some 13, .mv (.t 0)⟩,
 ⟨some (8, true), some 14, .nilck (.t 13)⟩,
 ⟨some (8, true), some 15, .faddr 1 (.t 14)⟩,
 ⟨some (8, true), some 16, .load .any false 1 (.t 15)⟩,
 ⟨some (8, true), some 17, .iaddr 3 (.t 12) (.t 16)⟩,
 ⟨some (8, true), some 18, .faddr 0 (.t 17)⟩,
 ⟨some (8, true), some 19, .load .imm false 1 (.t 18)⟩,
 ⟨some (8, true), some 20, .bin 0 [] .eql (.t 19) (.c (.int .i64 2))⟩,
 ⟨none, some 21, .pick (.t 8) (.t 20) (.c (.bool false))⟩,
 ⟨none, some 22, .mv (.t 21)⟩,
 ⟨some (22, true), some 23, .mv (.t 0)⟩,
 ⟨some (22, true), some 24, .nilck (.t 23)⟩,
 ⟨some (22, true), some 25, .faddr 0 (.t 24)⟩,
 ⟨some (22, true), some 26, .load .any false 1 (.t 25)⟩,
 ⟨some (22, true), some 27, .mv (.t 0)⟩,
 ⟨some (22, true), some 28, .nilck (.t 27)⟩,
 ⟨some (22, true), some 29, .faddr 1 (.t 28)⟩,
 ⟨some (22, true), some 30, .load .any false 1 (.t 29)⟩,
 ⟨some (22, true), some 31, .iaddr 3 (.t 26) (.t 30)⟩,
 ⟨some (22, true), some 32, .faddr 1 (.t 31)⟩,
 ⟨some (22, true), some 33, .load .imm false 1 (.t 32)⟩,
 ⟨some (22, true), some 34, .mv (.t 1)⟩,
 ⟨some (22, true), some 35, .bin 0 [] .eql (.t 33) (.t 34)⟩,
 ⟨none, some 36, .pick (.t 22) (.t 35) (.c (.bool false))⟩,
 ⟨none, some 4, .mv (.t 36)⟩])
 .ret))

/-- (*boxhedge/boxhedgeref04.parser).take -/
def F37 : IFn where
  ntmps := 18
  nargs := 2
  res := [.tmp 4]
  freeze := false
  body :=
 (.seq
 (.region [
 ⟨none, some 4, .mv (.c (.bool false))⟩])
 (.seq
 (.region [
 ⟨none, some 6, .mv (.t 0)⟩,
 ⟨none, some 7, .mv (.t 1)⟩,
 ⟨none, some 8, .call false (.c (.fn 53 [] [])) [(.t 6), (.t 7)]⟩,
 ⟨none, some 5, .mv (.t 8)⟩])
 (.seq
 (.seq
 (.region [
 ⟨none, some 9, .mv (.t 5)⟩])
 (.cond (.t 9)
 (.region [
 ⟨none, some 10, .mv (.t 0)⟩,
 ⟨none, some 11, .nilck (.t 10)⟩,
 ⟨none, some 12, .faddr 1 (.t 11)⟩,
 ⟨none, some 13, .load .any false 1 (.t 12)⟩,
 ⟨none, some 14, .bin 0 [] .add (.t 13) (.c (.int .i64 1))⟩,
 ⟨none, some 15, .nilck (.t 10)⟩,
 ⟨none, some 16, .faddr 1 (.t 15)⟩,
 ⟨none, none, .store .any 1 (.t 16) (.t 14)⟩])
 .skip))
 (.seq
 (.region [
 ⟨none, some 17, .mv (.t 5)⟩,
 ⟨none, some 4, .mv (.t 17)⟩])
 .ret))))

/-- (*boxhedge/boxhedgeref04.parser).must -/
def F39 : IFn where
  ntmps := 18
  nargs := 2
  res := []
  freeze := false
  body :=
 (.seq
 (.region [
 ⟨none, some 4, .mv (.t 0)⟩,
 ⟨none, some 5, .mv (.t 1)⟩,
 ⟨none, some 6, .call false (.c (.fn 37 [] [])) [(.t 4), (.t 5)]⟩,
 ⟨none, some 7, .un .not (.t 6)⟩,
 ⟨none, some 8, .mv (.t 7)⟩,
 ⟨some (8, true), some 9, .mv (.t 0)⟩,
 ⟨some (8, true), some 10, .nilck (.t 9)⟩,
 ⟨some (8, true), some 11, .faddr 3 (.t 10)⟩,
 ⟨some (8, true), some 12, .load .any false 1 (.t 11)⟩,
 ⟨some (8, true), some 13, .un .not (.t 12)⟩,
 ⟨none, some 14, .pick (.t 8) (.t 13) (.c (.bool false))⟩])
 (.cond (.t 14)
 (.region [
 ⟨none, some 15, .mv (.t 0)⟩,
 ⟨none, some 16, .nilck (.t 15)⟩,
 ⟨none, some 17, .faddr 2 (.t 16)⟩,
 ⟨none, none, .store .any 1 (.t 17) (.c (.bool true))⟩])
 .skip))

/-- (*boxhedge/boxhedgeref04.parser).typed -/
def F35 : IFn where
  ntmps := 7
  nargs := 1
  res := [.tmp 2]
  freeze := false
  body :=
 (.seq
 (.region [
 ⟨none, some 2, .mv (.c (.int .i64 0))⟩])
 (.seq
 (.seq
 (.region [
 ⟨none, some 3, .mv (.t 0)⟩,
 ⟨none, some 4, .call false (.c (.fn 37 [] [])) [(.t 3), (.c (.str [105, 110, 116]))]⟩])
 (.cond (.t 4)
 (.seq
 (.region [
 ⟨none, some 2, .mv (.c (.int .i64 1))⟩])
 .ret)
 .skip))
 (.seq
 (.region [
 ⟨none, some 5, .mv (.t 0)⟩,
 ⟨none, some 6, .call false (.c (.fn 39 [] [])) [(.t 5), (.c (.str [98, 111, 111, 108]))]⟩])
 (.seq
 (.region [
 ⟨none, some 2, .mv (.c (.int .i64 2))⟩])
 .ret))))

/-- (*boxhedge/boxhedgeref04.parser).text -/
def F36 : IFn where
  ntmps := 34
  nargs := 2
  res := [.tmp 4]
  freeze := false
  body :=
 (.seq
 (.region [
 ⟨none, some 4, .mv (.c (.str []))⟩])
 (.seq
 (.seq
 (.region [
 ⟨none, some 6, .mv (.t 0)⟩,
 ⟨none, some 7, .call false (.c (.fn 34 [] [])) [(.t 6)]⟩])
 (.cond (.t 7)
 (.seq
 (.region [
 ⟨none, some 4, .mv (.c (.str []))⟩])
 .ret)
 .skip))
 (.seq
 (.region [
 ⟨none, some 8, .mv (.t 0)⟩,
 ⟨none, some 9, .nilck (.t 8)⟩,
 ⟨none, some 10, .faddr 0 (.t 9)⟩,
 ⟨none, some 11, .load .any false 1 (.t 10)⟩,
 ⟨none, some 12, .mv (.t 0)⟩,
 ⟨none, some 13, .nilck (.t 12)⟩,
 ⟨none, some 14, .faddr 1 (.t 13)⟩,
 ⟨none, some 15, .load .any false 1 (.t 14)⟩,
 ⟨none, some 16, .iaddr 3 (.t 11) (.t 15)⟩,
 ⟨none, some 17, .load .imm true 3 (.t 16)⟩,
 ⟨none, some 5, .boxL 5 (.c (.agg [.int .i64 0, .str [], .int .i64 0]))⟩,
 ⟨none, none, .store (.box 5) 3 (.t 5) (.t 17)⟩])
 (.seq
 (.seq
 (.region [
 ⟨none, some 18, .faddr 0 (.t 5)⟩,
 ⟨none, some 19, .load (.box 5) false 1 (.t 18)⟩,
 ⟨none, some 20, .mv (.t 1)⟩,
 ⟨none, some 21, .bin 0 [] .neq (.t 19) (.t 20)⟩])
 (.cond (.t 21)
 (.seq
 (.region [
 ⟨none, some 22, .mv (.t 0)⟩,
 ⟨none, some 23, .nilck (.t 22)⟩,
 ⟨none, some 24, .faddr 2 (.t 23)⟩,
 ⟨none, none, .store .any 1 (.t 24) (.c (.bool true))⟩])
 (.seq
 (.region [
 ⟨none, some 4, .mv (.c (.str []))⟩])
 .ret))
 .skip))
 (.seq
 (.region [
 ⟨none, some 25, .mv (.t 0)⟩,
 ⟨none, some 26, .nilck (.t 25)⟩,
 ⟨none, some 27, .faddr 1 (.t 26)⟩,
 ⟨none, some 28, .load .any false 1 (.t 27)⟩,
 ⟨none, some 29, .bin 0 [] .add (.t 28) (.c (.int .i64 1))⟩,
 ⟨none, some 30, .nilck (.t 25)⟩,
 ⟨none, some 31, .faddr 1 (.t 30)⟩,
 ⟨none, none, .store .any 1 (.t 31) (.t 29)⟩])
 (.seq
 (.region [
 ⟨none, some 32, .faddr 1 (.t 5)⟩,
 ⟨none, some 33, .load (.box 5) false 1 (.t 32)⟩,
 ⟨none, some 4, .mv (.t 33)⟩])
 .ret))))))

/-- boxhedge/boxhedgeref01.signs -/
def F99 : IFn where
  ntmps := 2
  nargs := 0
  res := [.tmp 0]
  freeze := false
  body :=
 (.seq
 (.region [
 ⟨none, some 0, .mv (.c (.slice .fit 1 []))⟩])
 (.seq
 (.region [
 ⟨none, some 1, .bslice 1 (.str []) 28 [(0, (.c (.str [43]))), (1, (.c (.str [45]))), (2, (.c (.str [42]))), (3, (.c (.str [47]))), (4, (.c (.str [37]))), (5, (.c (.str [38]))), (6, (.c (.str [124]))), (7, (.c (.str [94]))), (8, (.c (.str [60, 60]))), (9, (.c (.str [62, 62]))), (10, (.c (.str [62, 62, 62]))), (11, (.c (.str [60]))), (12, (.c (.str [60, 61]))), (13, (.c (.str [62]))), (14, (.c (.str [62, 61]))), (15, (.c (.str [61, 61]))), (16, (.c (.str [33, 61]))), (17, (.c (.str [38, 38]))), (18, (.c (.str [124, 124]))), (19, (.c (.str [45]))), (20, (.c (.str [126]))), (21, (.c (.str [33]))), (22, (.c (.str [105, 56]))), (23, (.c (.str [105, 49, 54]))), (24, (.c (.str [105, 51, 50]))), (25, (.c (.str [117, 56]))), (26, (.c (.str [117, 49, 54]))), (27, (.c (.str [117, 51, 50])))]⟩,
 ⟨none, some 0, .take 1⟩])
 .ret))

/-- boxhedge/boxhedgeref01.Sign -/
def F95 : IFn where
  ntmps := 14
  nargs := 1
  res := [.tmp 2]
  freeze := false
  body :=
 (.seq
 (.region [
 ⟨none, some 2, .mv (.c (.str []))⟩])
 (.seq
 (.seq
 (.region [
 ⟨none, some 3, .mv (.t 0)⟩,
 ⟨none, some 4, .bin 0 [] .lss (.t 3) (.c (.int .i64 1))⟩,
 ⟨none, some 5, .mv (.t 4)⟩,
 ⟨some (5, false), some 6, .mv (.t 0)⟩,
 ⟨some (5, false), some 7, .bin 0 [] .gtr (.t 6) (.c (.int .i64 28))⟩,
 ⟨none, some 8, .pick (.t 5) (.c (.bool true)) (.t 7)⟩])
 (.cond (.t 8)
 (.seq
 (.region [
 ⟨none, some 2, .mv (.c (.str []))⟩])
 .ret)
 .skip))
 (.seq
 (.region [
 ⟨none, some 9, .callP false (.c (.fn 99 [] [])) []⟩,
 ⟨none, some 10, .mv (.t 0)⟩,
 ⟨none, some 11, .bin 0 [] .sub (.t 10) (.c (.int .i64 1))⟩,
 ⟨none, some 12, .iaddr 1 (.t 9) (.t 11)⟩,
 ⟨none, some 13, .load .any false 1 (.t 12)⟩,
 ⟨none, some 2, .mv (.t 13)⟩])
 .ret)))

def L91_0 : ICode := .loop [0, 1, 5, 6] []
 (.seq
 (.seq
 (.region [
 ⟨none, some 9, .mv (.t 6)⟩,
 ⟨none, some 10, .mv (.t 9)⟩,
 ⟨some (10, false), some 11, .mv (.t 0)⟩,
 ⟨some (10, false), some 12, .call false (.c (.fn 37 [] [])) [(.t 11), (.c (.str [44]))]⟩,
 ⟨none, some 13, .pick (.t 10) (.c (.bool true)) (.t 12)⟩,
 ⟨none, some 14, .mv (.t 13)⟩,
 ⟨some (14, true), some 15, .mv (.t 0)⟩,
 ⟨some (14, true), some 16, .call false (.c (.fn 34 [] [])) [(.t 15)]⟩,
 ⟨some (14, true), some 17, .un .not (.t 16)⟩,
 ⟨none, some 18, .pick (.t 14) (.t 17) (.c (.bool false))⟩])
 (.cond (.t 18)
 .skip
 (.exit 0)))
 (.seq
 (.block 1
 (.region [
 ⟨none, some 19, .take 5⟩,
 ⟨none, some 20, .mv (.t 0)⟩,
 ⟨none, some 21, .mv (.t 1)⟩,
 ⟨none, some 22, .call false (.c (.fn 79 [] [])) [(.t 20), (.c (.int .i64 1)), (.t 21)]⟩,
 ⟨none, some 23, .bslice 5 (.agg [.int .i64 0, .int .i64 0, .int .i64 0, .str [], .slice .fit 5 []]) 1 [(0, (.t 22))]⟩,
 ⟨none, some 24, .append 5 64 (.t 19) (.t 23)⟩,
 ⟨none, some 5, .take 24⟩]))
 (.region [
 ⟨none, some 6, .mv (.c (.bool false))⟩])))
abbrev K91_0 : List Nat := [0, 1]
abbrev B91_0 : List Nat := []
/-- (*boxhedge/boxhedgeref04.parser).args -/
def F91 : IFn where
  ntmps := 28
  nargs := 2
  res := [.tmp 4]
  freeze := false
  body :=
 (.seq
 (.region [
 ⟨none, some 4, .mv (.c (.slice .fit 5 []))⟩])
 (.seq
 (.region [
 ⟨none, some 5, .mv (.c (.slice .fit 5 []))⟩])
 (.seq
 (.seq
 (.region [
 ⟨none, some 7, .mv (.t 0)⟩,
 ⟨none, some 8, .call false (.c (.fn 37 [] [])) [(.t 7), (.c (.str [41]))]⟩])
 (.cond (.t 8)
 (.seq
 (.region [
 ⟨none, some 4, .mv (.c (.slice .fit 5 []))⟩])
 .ret)
 .skip))
 (.seq
 (.seq
 (.region [
 ⟨none, some 6, .mv (.c (.bool true))⟩])
 (.block 0
 L91_0))
 (.seq
 (.region [
 ⟨none, some 25, .mv (.t 0)⟩,
 ⟨none, some 26, .call false (.c (.fn 39 [] [])) [(.t 25), (.c (.str [41]))]⟩])
 (.seq
 (.region [
 ⟨none, some 27, .take 5⟩,
 ⟨none, some 4, .take 27⟩])
 .ret))))))

/-- (*boxhedge/boxhedgeref04.parser).primary -/
def F96 : IFn where
  ntmps := 79
  nargs := 2
  res := [.cell 4 true 5]
  freeze := false
  body :=
 (.seq
 (.region [
 ⟨none, some 4, .boxL 4 (.c (.agg [.int .i64 0, .int .i64 0, .int .i64 0, .str [], .slice .fit 5 []]))⟩])
 (.seq
 (.block 0
 (.seq
 (.region [
 ⟨none, some 9, .mv (.t 0)⟩,
 ⟨none, some 10, .call false (.c (.fn 34 [] [])) [(.t 9)]⟩,
 ⟨none, some 8, .mv (.t 10)⟩])
 (.cond (.t 8)
 (.seq
 (.region [
 ⟨none, some 11, .build [.int .i64 0, .int .i64 0, .int .i64 0, .str [], .slice .fit 5 []] []⟩,
 ⟨none, none, .store (.box 4) 5 (.t 4) (.t 11)⟩])
 .ret)
 (.seq
 (.region [
 ⟨none, some 13, .mv (.t 0)⟩,
 ⟨none, some 14, .call false (.c (.fn 37 [] [])) [(.t 13), (.c (.str [40]))]⟩,
 ⟨none, some 12, .mv (.t 14)⟩])
 (.cond (.t 12)
 (.seq
 (.region [
 ⟨none, some 15, .mv (.t 0)⟩,
 ⟨none, some 16, .mv (.t 1)⟩,
 ⟨none, some 17, .bin 0 [] .add (.t 16) (.c (.int .i64 1))⟩,
 ⟨none, some 18, .call false (.c (.fn 79 [] [])) [(.t 15), (.c (.int .i64 1)), (.t 17)]⟩,
 ⟨none, some 5, .boxL 5 (.c (.agg [.int .i64 0, .int .i64 0, .int .i64 0, .str [], .slice .fit 5 []]))⟩,
 ⟨none, none, .store (.box 5) 5 (.t 5) (.t 18)⟩])
 (.seq
 (.region [
 ⟨none, some 19, .mv (.t 0)⟩,
 ⟨none, some 20, .call false (.c (.fn 39 [] [])) [(.t 19), (.c (.str [41]))]⟩])
 (.seq
 (.region [
 ⟨none, some 21, .load (.box 5) true 5 (.t 5)⟩,
 ⟨none, none, .store (.box 4) 5 (.t 4) (.t 21)⟩])
 .ret)))
 (.seq
 (.region [
 ⟨none, some 23, .mv (.t 0)⟩,
 ⟨none, some 24, .call false (.c (.fn 37 [] [])) [(.t 23), (.c (.str [116, 114, 117, 101]))]⟩,
 ⟨none, some 22, .mv (.t 24)⟩])
 (.cond (.t 22)
 (.seq
 (.region [
 ⟨none, some 25, .build [.int .i64 0, .int .i64 0, .int .i64 0, .str [], .slice .fit 5 []] [(0, 1, (.c (.int .i64 2))), (2, 1, (.c (.int .i64 1)))]⟩,
 ⟨none, none, .store (.box 4) 5 (.t 4) (.t 25)⟩])
 .ret)
 (.seq
 (.region [
 ⟨none, some 27, .mv (.t 0)⟩,
 ⟨none, some 28, .call false (.c (.fn 37 [] [])) [(.t 27), (.c (.str [102, 97, 108, 115, 101]))]⟩,
 ⟨none, some 26, .mv (.t 28)⟩])
 (.cond (.t 26)
 (.seq
 (.region [
 ⟨none, some 29, .build [.int .i64 0, .int .i64 0, .int .i64 0, .str [], .slice .fit 5 []] [(0, 1, (.c (.int .i64 2)))]⟩,
 ⟨none, none, .store (.box 4) 5 (.t 4) (.t 29)⟩])
 .ret)
 (.seq
 (.region [
 ⟨none, some 31, .mv (.t 0)⟩,
 ⟨none, some 32, .call false (.c (.fn 37 [] [])) [(.t 31), (.c (.str [114, 101, 97, 100]))]⟩,
 ⟨none, some 30, .mv (.t 32)⟩])
 (.cond (.t 30)
 (.seq
 (.region [
 ⟨none, some 33, .mv (.t 0)⟩,
 ⟨none, some 34, .call false (.c (.fn 39 [] [])) [(.t 33), (.c (.str [40]))]⟩])
 (.seq
 (.region [
 ⟨none, some 35, .mv (.t 0)⟩,
 ⟨none, some 36, .call false (.c (.fn 39 [] [])) [(.t 35), (.c (.str [41]))]⟩])
 (.seq
 (.region [
 ⟨none, some 37, .build [.int .i64 0, .int .i64 0, .int .i64 0, .str [], .slice .fit 5 []] [(0, 1, (.c (.int .i64 8)))]⟩,
 ⟨none, none, .store (.box 4) 5 (.t 4) (.t 37)⟩])
 .ret)))
 (.seq
 (.region [
 ⟨none, some 39, .mv (.t 0)⟩,
 ⟨none, some 40, .nilck (.t 39)⟩,
 ⟨none, some 41, .faddr 0 (.t 40)⟩,
 ⟨none, some 42, .load .any false 1 (.t 41)⟩,
 ⟨none, some 43, .mv (.t 0)⟩,
 ⟨none, some 44, .nilck (.t 43)⟩,
 ⟨none, some 45, .faddr 1 (.t 44)⟩,
 ⟨none, some 46, .load .any false 1 (.t 45)⟩,
 ⟨none, some 47, .iaddr 3 (.t 42) (.t 46)⟩,
 ⟨none, some 48, .faddr 0 (.t 47)⟩,
 ⟨none, some 49, .load .imm false 1 (.t 48)⟩,
 ⟨none, some 50, .bin 0 [] .eql (.t 49) (.c (.int .i64 0))⟩,
 ⟨none, some 38, .mv (.t 50)⟩])
 (.cond (.t 38)
 (.seq
 (.region [
 ⟨none, some 51, .mv (.t 0)⟩,
 ⟨none, some 52, .call false (.c (.fn 36 [] [])) [(.t 51), (.c (.int .i64 0))]⟩,
 ⟨none, some 53, .callP false (.c (.fn 38 [] [])) [(.t 52)]⟩,
 ⟨none, some 54, .build [.int .i64 0, .int .i64 0, .int .i64 0, .str [], .slice .fit 5 []] [(0, 1, (.c (.int .i64 1))), (2, 1, (.t 53))]⟩,
 ⟨none, none, .store (.box 4) 5 (.t 4) (.t 54)⟩])
 .ret)
 .skip)))))))))))))
 (.seq
 (.region [
 ⟨none, some 55, .mv (.t 0)⟩,
 ⟨none, some 56, .call false (.c (.fn 36 [] [])) [(.t 55), (.c (.int .i64 1))]⟩,
 ⟨none, some 6, .mv (.t 56)⟩])
 (.seq
 (.seq
 (.region [
 ⟨none, some 57, .mv (.t 0)⟩,
 ⟨none, some 58, .call false (.c (.fn 37 [] [])) [(.t 57), (.c (.str [40]))]⟩])
 (.cond (.t 58)
 (.seq
 (.region [
 ⟨none, some 59, .mv (.t 6)⟩,
 ⟨none, some 60, .mv (.t 0)⟩,
 ⟨none, some 61, .mv (.t 1)⟩,
 ⟨none, some 62, .bin 0 [] .add (.t 61) (.c (.int .i64 1))⟩,
 ⟨none, some 63, .call false (.c (.fn 91 [] [])) [(.t 60), (.t 62)]⟩,
 ⟨none, some 64, .build [.int .i64 0, .int .i64 0, .int .i64 0, .str [], .slice .fit 5 []] [(0, 1, (.c (.int .i64 7))), (3, 1, (.t 59)), (4, 1, (.t 63))]⟩,
 ⟨none, none, .store (.box 4) 5 (.t 4) (.t 64)⟩])
 .ret)
 .skip))
 (.seq
 (.seq
 (.region [
 ⟨none, some 65, .mv (.t 0)⟩,
 ⟨none, some 66, .call false (.c (.fn 37 [] [])) [(.t 65), (.c (.str [91]))]⟩])
 (.cond (.t 66)
 (.seq
 (.region [
 ⟨none, some 67, .mv (.t 0)⟩,
 ⟨none, some 68, .mv (.t 1)⟩,
 ⟨none, some 69, .bin 0 [] .add (.t 68) (.c (.int .i64 1))⟩,
 ⟨none, some 70, .call false (.c (.fn 79 [] [])) [(.t 67), (.c (.int .i64 1)), (.t 69)]⟩,
 ⟨none, some 7, .boxL 7 (.c (.agg [.int .i64 0, .int .i64 0, .int .i64 0, .str [], .slice .fit 5 []]))⟩,
 ⟨none, none, .store (.box 7) 5 (.t 7) (.t 70)⟩])
 (.seq
 (.region [
 ⟨none, some 71, .mv (.t 0)⟩,
 ⟨none, some 72, .call false (.c (.fn 39 [] [])) [(.t 71), (.c (.str [93]))]⟩])
 (.seq
 (.region [
 ⟨none, some 73, .mv (.t 6)⟩,
 ⟨none, some 74, .load (.box 7) true 5 (.t 7)⟩,
 ⟨none, some 75, .bslice 5 (.agg [.int .i64 0, .int .i64 0, .int .i64 0, .str [], .slice .fit 5 []]) 1 [(0, (.t 74))]⟩,
 ⟨none, some 76, .build [.int .i64 0, .int .i64 0, .int .i64 0, .str [], .slice .fit 5 []] [(0, 1, (.c (.int .i64 6))), (3, 1, (.t 73)), (4, 1, (.t 75))]⟩,
 ⟨none, none, .store (.box 4) 5 (.t 4) (.t 76)⟩])
 .ret)))
 .skip))
 (.seq
 (.region [
 ⟨none, some 77, .mv (.t 6)⟩,
 ⟨none, some 78, .build [.int .i64 0, .int .i64 0, .int .i64 0, .str [], .slice .fit 5 []] [(0, 1, (.c (.int .i64 3))), (3, 1, (.t 77))]⟩,
 ⟨none, none, .store (.box 4) 5 (.t 4) (.t 78)⟩])
 .ret))))))

def L89_0 : ICode := .loop [0, 1, 4, 5] [7]
 (.seq
 (.seq
 (.region [
 ⟨none, some 20, .mv (.t 5)⟩,
 ⟨none, some 21, .bin 0 [] .leq (.t 20) (.c (.int .i64 28))⟩])
 (.cond (.t 21)
 .skip
 (.exit 0)))
 (.seq
 (.block 1
 (.seq
 (.region [
 ⟨none, some 24, .mv (.t 5)⟩,
 ⟨none, some 25, .callP false (.c (.fn 95 [] [])) [(.t 24)]⟩,
 ⟨none, some 6, .mv (.t 25)⟩])
 (.seq
 (.seq
 (.region [
 ⟨none, some 26, .mv (.t 0)⟩,
 ⟨none, some 27, .mv (.t 6)⟩,
 ⟨none, some 28, .call false (.c (.fn 37 [] [])) [(.t 26), (.t 27)]⟩,
 ⟨none, some 29, .un .not (.t 28)⟩])
 (.cond (.t 29)
 (.exit 1)
 .skip))
 (.seq
 (.seq
 (.region [
 ⟨none, some 30, .mv (.t 5)⟩,
 ⟨none, some 31, .bin 0 [] .geq (.t 30) (.c (.int .i64 23))⟩])
 (.cond (.t 31)
 (.region [
 ⟨none, some 32, .mv (.t 0)⟩,
 ⟨none, some 33, .call false (.c (.fn 39 [] [])) [(.t 32), (.c (.str [40]))]⟩])
 .skip))
 (.seq
 (.region [
 ⟨none, some 7, .boxL 7 (.c (.agg [.int .i64 0, .int .i64 0, .int .i64 0, .str [], .slice .fit 5 []]))⟩])
 (.seq
 (.seq
 (.region [
 ⟨none, some 34, .mv (.t 5)⟩,
 ⟨none, some 35, .bin 0 [] .geq (.t 34) (.c (.int .i64 23))⟩])
 (.cond (.t 35)
 (.seq
 (.region [
 ⟨none, some 36, .mv (.t 0)⟩,
 ⟨none, some 37, .mv (.t 1)⟩,
 ⟨none, some 38, .bin 0 [] .add (.t 37) (.c (.int .i64 1))⟩,
 ⟨none, some 39, .call false (.c (.fn 79 [] [])) [(.t 36), (.c (.int .i64 1)), (.t 38)]⟩,
 ⟨none, none, .store (.box 7) 5 (.t 7) (.t 39)⟩])
 (.region [
 ⟨none, some 40, .mv (.t 0)⟩,
 ⟨none, some 41, .call false (.c (.fn 39 [] [])) [(.t 40), (.c (.str [41]))]⟩]))
 (.region [
 ⟨none, some 42, .mv (.t 0)⟩,
 ⟨none, some 43, .mv (.t 1)⟩,
 ⟨none, some 44, .bin 0 [] .add (.t 43) (.c (.int .i64 1))⟩,
 ⟨none, some 45, .call false (.c (.fn 89 [] [])) [(.t 42), (.t 44)]⟩,
 ⟨none, none, .store (.box 7) 5 (.t 7) (.t 45)⟩])))
 (.seq
 (.region [
 ⟨none, some 46, .mv (.t 5)⟩,
 ⟨none, some 47, .load (.box 7) true 5 (.t 7)⟩,
 ⟨none, some 48, .bslice 5 (.agg [.int .i64 0, .int .i64 0, .int .i64 0, .str [], .slice .fit 5 []]) 1 [(0, (.t 47))]⟩,
 ⟨none, some 49, .build [.int .i64 0, .int .i64 0, .int .i64 0, .str [], .slice .fit 5 []] [(0, 1, (.c (.int .i64 4))), (1, 1, (.t 46)), (4, 1, (.t 48))]⟩,
 ⟨none, none, .store (.box 4) 5 (.t 4) (.t 49)⟩])
 .ret)))))))
 (.region [
 ⟨none, some 22, .mv (.t 5)⟩,
 ⟨none, some 23, .bin 0 [] .add (.t 22) (.c (.int .i64 1))⟩,
 ⟨none, some 5, .mv (.t 23)⟩])))
abbrev K89_0 : List Nat := [0, 1, 4]
abbrev B89_0 : List Nat := []
/-- (*boxhedge/boxhedgeref04.parser).unary -/
def F89 : IFn where
  ntmps := 53
  nargs := 2
  res := [.cell 4 true 5]
  freeze := false
  body :=
 (.seq
 (.region [
 ⟨none, some 4, .boxL 4 (.c (.agg [.int .i64 0, .int .i64 0, .int .i64 0, .str [], .slice .fit 5 []]))⟩])
 (.seq
 (.seq
 (.region [
 ⟨none, some 8, .mv (.t 1)⟩,
 ⟨none, some 9, .bin 0 [] .gtr (.t 8) (.c (.int .i64 100))⟩,
 ⟨none, some 10, .mv (.t 9)⟩,
 ⟨some (10, true), some 11, .mv (.t 0)⟩,
 ⟨some (10, true), some 12, .nilck (.t 11)⟩,
 ⟨some (10, true), some 13, .faddr 2 (.t 12)⟩,
 ⟨some (10, true), some 14, .load .any false 1 (.t 13)⟩,
 ⟨some (10, true), some 15, .un .not (.t 14)⟩,
 ⟨none, some 16, .pick (.t 10) (.t 15) (.c (.bool false))⟩])
 (.cond (.t 16)
 (.region [
 ⟨none, some 17, .mv (.t 0)⟩,
 ⟨none, some 18, .nilck (.t 17)⟩,
 ⟨none, some 19, .faddr 3 (.t 18)⟩,
 ⟨none, none, .store .any 1 (.t 19) (.c (.bool true))⟩])
 .skip))
 (.seq
 (.seq
 (.region [
 ⟨none, some 5, .mv (.c (.int .i64 20))⟩])
 (.block 0
 L89_0))
 (.seq
 (.region [
 ⟨none, some 50, .mv (.t 0)⟩,
 ⟨none, some 51, .mv (.t 1)⟩,
 ⟨none, some 52, .call false (.c (.fn 96 [] [])) [(.t 50), (.t 51)]⟩,
 ⟨none, none, .store (.box 4) 5 (.t 4) (.t 52)⟩])
 .ret))))

/-- boxhedge/boxhedgeref01.Level -/
def F70 : IFn where
  ntmps := 33
  nargs := 1
  res := [.tmp 2]
  freeze := false
  body :=
 (.seq
 (.region [
 ⟨none, some 2, .mv (.c (.int .i64 0))⟩])
 (.seq
 (.seq
 (.region [
 ⟨none, some 3, .mv (.t 0)⟩])
 (.block 0
 (.seq
 (.region [
 ⟨none, some 5, .bin 0 [] .eql (.t 3) (.c (.int .i64 19))⟩,
 ⟨none, some 4, .mv (.t 5)⟩])
 (.cond (.t 4)
 (.seq
 (.region [
 ⟨none, some 2, .mv (.c (.int .i64 1))⟩])
 .ret)
 (.seq
 (.region [
 ⟨none, some 7, .bin 0 [] .eql (.t 3) (.c (.int .i64 18))⟩,
 ⟨none, some 6, .mv (.t 7)⟩])
 (.cond (.t 6)
 (.seq
 (.region [
 ⟨none, some 2, .mv (.c (.int .i64 2))⟩])
 .ret)
 (.seq
 (.region [
 ⟨none, some 9, .bin 0 [] .eql (.t 3) (.c (.int .i64 7))⟩,
 ⟨none, some 8, .mv (.t 9)⟩])
 (.cond (.t 8)
 (.seq
 (.region [
 ⟨none, some 2, .mv (.c (.int .i64 3))⟩])
 .ret)
 (.seq
 (.region [
 ⟨none, some 11, .bin 0 [] .eql (.t 3) (.c (.int .i64 8))⟩,
 ⟨none, some 10, .mv (.t 11)⟩])
 (.cond (.t 10)
 (.seq
 (.region [
 ⟨none, some 2, .mv (.c (.int .i64 4))⟩])
 .ret)
 (.seq
 (.region [
 ⟨none, some 13, .bin 0 [] .eql (.t 3) (.c (.int .i64 6))⟩,
 ⟨none, some 12, .mv (.t 13)⟩])
 (.cond (.t 12)
 (.seq
 (.region [
 ⟨none, some 2, .mv (.c (.int .i64 5))⟩])
 .ret)
 (.seq
 (.seq
 (.region [
 ⟨none, some 15, .bin 0 [] .eql (.t 3) (.c (.int .i64 16))⟩,
 ⟨none, some 14, .mv (.t 15)⟩])
 (.cond (.t 14)
 .skip
 (.region [
 ⟨none, some 16, .bin 0 [] .eql (.t 3) (.c (.int .i64 17))⟩,
 ⟨none, some 14, .mv (.t 16)⟩])))
 (.cond (.t 14)
 (.seq
 (.region [
 ⟨none, some 2, .mv (.c (.int .i64 6))⟩])
 .ret)
 (.seq
 (.seq
 (.region [
 ⟨none, some 18, .bin 0 [] .eql (.t 3) (.c (.int .i64 12))⟩,
 ⟨none, some 17, .mv (.t 18)⟩])
 (.cond (.t 17)
 .skip
 (.seq
 (.region [
 ⟨none, some 19, .bin 0 [] .eql (.t 3) (.c (.int .i64 13))⟩,
 ⟨none, some 17, .mv (.t 19)⟩])
 (.cond (.t 17)
 .skip
 (.seq
 (.region [
 ⟨none, some 20, .bin 0 [] .eql (.t 3) (.c (.int .i64 14))⟩,
 ⟨none, some 17, .mv (.t 20)⟩])
 (.cond (.t 17)
 .skip
 (.region [
 ⟨none, some 21, .bin 0 [] .eql (.t 3) (.c (.int .i64 15))⟩,
 ⟨none, some 17, .mv (.t 21)⟩])))))))
 (.cond (.t 17)
 (.seq
 (.region [
 ⟨none, some 2, .mv (.c (.int .i64 7))⟩])
 .ret)
 (.seq
 (.seq
 (.region [
 ⟨none, some 23, .bin 0 [] .eql (.t 3) (.c (.int .i64 9))⟩,
 ⟨none, some 22, .mv (.t 23)⟩])
 (.cond (.t 22)
 .skip
 (.seq
 (.region [
 ⟨none, some 24, .bin 0 [] .eql (.t 3) (.c (.int .i64 10))⟩,
 ⟨none, some 22, .mv (.t 24)⟩])
 (.cond (.t 22)
 .skip
 (.region [
 ⟨none, some 25, .bin 0 [] .eql (.t 3) (.c (.int .i64 11))⟩,
 ⟨none, some 22, .mv (.t 25)⟩])))))
 (.cond (.t 22)
 (.seq
 (.region [
 ⟨none, some 2, .mv (.c (.int .i64 8))⟩])
 .ret)
 (.seq
 (.seq
 (.region [
 ⟨none, some 27, .bin 0 [] .eql (.t 3) (.c (.int .i64 1))⟩,
 ⟨none, some 26, .mv (.t 27)⟩])
 (.cond (.t 26)
 .skip
 (.region [
 ⟨none, some 28, .bin 0 [] .eql (.t 3) (.c (.int .i64 2))⟩,
 ⟨none, some 26, .mv (.t 28)⟩])))
 (.cond (.t 26)
 (.seq
 (.region [
 ⟨none, some 2, .mv (.c (.int .i64 9))⟩])
 .ret)
 (.seq
 (.seq
 (.region [
 ⟨none, some 30, .bin 0 [] .eql (.t 3) (.c (.int .i64 3))⟩,
 ⟨none, some 29, .mv (.t 30)⟩])
 (.cond (.t 29)
 .skip
 (.seq
 (.region [
 ⟨none, some 31, .bin 0 [] .eql (.t 3) (.c (.int .i64 4))⟩,
 ⟨none, some 29, .mv (.t 31)⟩])
 (.cond (.t 29)
 .skip
 (.region [
 ⟨none, some 32, .bin 0 [] .eql (.t 3) (.c (.int .i64 5))⟩,
 ⟨none, some 29, .mv (.t 32)⟩])))))
 (.cond (.t 29)
 (.seq
 (.region [
 ⟨none, some 2, .mv (.c (.int .i64 10))⟩])
 .ret)
 .skip))))))))))))))))))))))
 (.seq
 (.region [
 ⟨none, some 2, .mv (.c (.int .i64 0))⟩])
 .ret)))

def L90_0 : ICode := .loop [0, 1, 5] []
 (.seq
 (.seq
 (.region [
 ⟨none, some 6, .mv (.t 5)⟩,
 ⟨none, some 7, .bin 0 [] .leq (.t 6) (.c (.int .i64 19))⟩])
 (.cond (.t 7)
 .skip
 (.exit 0)))
 (.seq
 (.block 1
 (.seq
 (.region [
 ⟨none, some 10, .mv (.t 5)⟩,
 ⟨none, some 11, .callP false (.c (.fn 70 [] [])) [(.t 10)]⟩,
 ⟨none, some 12, .mv (.t 1)⟩,
 ⟨none, some 13, .bin 0 [] .eql (.t 11) (.t 12)⟩,
 ⟨none, some 14, .mv (.t 13)⟩,
 ⟨some (14, true), some 15, .mv (.t 0)⟩,
 ⟨some (14, true), some 16, .mv (.t 5)⟩,
 ⟨some (14, true), some 17, .callP false (.c (.fn 95 [] [])) [(.t 16)]⟩,
 ⟨some (14, true), some 18, .call false (.c (.fn 53 [] [])) [(.t 15), (.t 17)]⟩,
 ⟨none, some 19, .pick (.t 14) (.t 18) (.c (.bool false))⟩])
 (.cond (.t 19)
 (.seq
 (.region [
 ⟨none, some 20, .mv (.t 5)⟩,
 ⟨none, some 4, .mv (.t 20)⟩])
 .ret)
 .skip)))
 (.region [
 ⟨none, some 8, .mv (.t 5)⟩,
 ⟨none, some 9, .bin 0 [] .add (.t 8) (.c (.int .i64 1))⟩,
 ⟨none, some 5, .mv (.t 9)⟩])))
abbrev K90_0 : List Nat := [0, 1]
abbrev B90_0 : List Nat := []
/-- (*boxhedge/boxhedgeref04.parser).op -/
def F90 : IFn where
  ntmps := 21
  nargs := 2
  res := [.tmp 4]
  freeze := false
  body :=
 (.seq
 (.region [
 ⟨none, some 4, .mv (.c (.int .i64 0))⟩])
 (.seq
 (.seq
 (.region [
 ⟨none, some 5, .mv (.c (.int .i64 1))⟩])
 (.block 0
 L90_0))
 (.seq
 (.region [
 ⟨none, some 4, .mv (.c (.int .i64 0))⟩])
 .ret)))

def L79_0 : ICode := .loop [0, 1, 2, 6, 7] [9]
 (.block 1
 (.seq
 (.region [
 ⟨none, some 20, .mv (.t 0)⟩,
 ⟨none, some 21, .mv (.t 1)⟩,
 ⟨none, some 22, .call false (.c (.fn 90 [] [])) [(.t 20), (.t 21)]⟩,
 ⟨none, some 8, .mv (.t 22)⟩])
 (.seq
 (.seq
 (.region [
 ⟨none, some 23, .mv (.t 8)⟩,
 ⟨none, some 24, .bin 0 [] .eql (.t 23) (.c (.int .i64 0))⟩])
 (.cond (.t 24)
 (.seq
 (.region [
 ⟨none, some 25, .load (.box 7) true 5 (.t 7)⟩,
 ⟨none, none, .store (.box 6) 5 (.t 6) (.t 25)⟩])
 .ret)
 .skip))
 (.seq
 (.region [
 ⟨none, some 26, .mv (.t 0)⟩,
 ⟨none, some 27, .nilck (.t 26)⟩,
 ⟨none, some 28, .faddr 1 (.t 27)⟩,
 ⟨none, some 29, .load .any false 1 (.t 28)⟩,
 ⟨none, some 30, .bin 0 [] .add (.t 29) (.c (.int .i64 1))⟩,
 ⟨none, some 31, .nilck (.t 26)⟩,
 ⟨none, some 32, .faddr 1 (.t 31)⟩,
 ⟨none, none, .store .any 1 (.t 32) (.t 30)⟩])
 (.seq
 (.region [
 ⟨none, some 33, .mv (.t 0)⟩,
 ⟨none, some 34, .mv (.t 1)⟩,
 ⟨none, some 35, .bin 0 [] .add (.t 34) (.c (.int .i64 1))⟩,
 ⟨none, some 36, .mv (.t 2)⟩,
 ⟨none, some 37, .call false (.c (.fn 79 [] [])) [(.t 33), (.t 35), (.t 36)]⟩,
 ⟨none, some 9, .boxL 9 (.c (.agg [.int .i64 0, .int .i64 0, .int .i64 0, .str [], .slice .fit 5 []]))⟩,
 ⟨none, none, .store (.box 9) 5 (.t 9) (.t 37)⟩])
 (.region [
 ⟨none, some 38, .mv (.t 8)⟩,
 ⟨none, some 39, .load (.box 7) true 5 (.t 7)⟩,
 ⟨none, some 40, .load (.box 9) true 5 (.t 9)⟩,
 ⟨none, some 41, .bslice 5 (.agg [.int .i64 0, .int .i64 0, .int .i64 0, .str [], .slice .fit 5 []]) 2 [(0, (.t 39)), (1, (.t 40))]⟩,
 ⟨none, some 42, .build [.int .i64 0, .int .i64 0, .int .i64 0, .str [], .slice .fit 5 []] [(0, 1, (.c (.int .i64 5))), (1, 1, (.t 38)), (4, 1, (.t 41))]⟩,
 ⟨none, none, .store (.box 7) 5 (.t 7) (.t 42)⟩]))))))
abbrev K79_0 : List Nat := [0, 1, 2, 6, 7]
abbrev B79_0 : List Nat := []
/-- (*boxhedge/boxhedgeref04.parser).expr -/
def F79 : IFn where
  ntmps := 43
  nargs := 3
  res := [.cell 6 true 5]
  freeze := false
  body :=
 (.seq
 (.region [
 ⟨none, some 6, .boxL 6 (.c (.agg [.int .i64 0, .int .i64 0, .int .i64 0, .str [], .slice .fit 5 []]))⟩])
 (.seq
 (.seq
 (.region [
 ⟨none, some 10, .mv (.t 1)⟩,
 ⟨none, some 11, .bin 0 [] .gtr (.t 10) (.c (.int .i64 10))⟩])
 (.cond (.t 11)
 (.seq
 (.region [
 ⟨none, some 12, .mv (.t 0)⟩,
 ⟨none, some 13, .mv (.t 2)⟩,
 ⟨none, some 14, .call false (.c (.fn 89 [] [])) [(.t 12), (.t 13)]⟩,
 ⟨none, none, .store (.box 6) 5 (.t 6) (.t 14)⟩])
 .ret)
 .skip))
 (.seq
 (.region [
 ⟨none, some 15, .mv (.t 0)⟩,
 ⟨none, some 16, .mv (.t 1)⟩,
 ⟨none, some 17, .bin 0 [] .add (.t 16) (.c (.int .i64 1))⟩,
 ⟨none, some 18, .mv (.t 2)⟩,
 ⟨none, some 19, .call false (.c (.fn 79 [] [])) [(.t 15), (.t 17), (.t 18)]⟩,
 ⟨none, some 7, .boxL 7 (.c (.agg [.int .i64 0, .int .i64 0, .int .i64 0, .str [], .slice .fit 5 []]))⟩,
 ⟨none, none, .store (.box 7) 5 (.t 7) (.t 19)⟩])
 (.block 0
 L79_0))))

/-- (*boxhedge/boxhedgeref04.parser).inside -/
def F80 : IFn where
  ntmps := 12
  nargs := 1
  res := [.tmp 2]
  freeze := false
  body :=
 (.seq
 (.region [
 ⟨none, some 2, .mv (.c (.slice .fit 5 []))⟩])
 (.seq
 (.region [
 ⟨none, some 4, .mv (.t 0)⟩,
 ⟨none, some 5, .call false (.c (.fn 39 [] [])) [(.t 4), (.c (.str [40]))]⟩])
 (.seq
 (.region [
 ⟨none, some 6, .mv (.t 0)⟩,
 ⟨none, some 7, .call false (.c (.fn 79 [] [])) [(.t 6), (.c (.int .i64 1)), (.c (.int .i64 1))]⟩,
 ⟨none, some 3, .boxL 3 (.c (.agg [.int .i64 0, .int .i64 0, .int .i64 0, .str [], .slice .fit 5 []]))⟩,
 ⟨none, none, .store (.box 3) 5 (.t 3) (.t 7)⟩])
 (.seq
 (.region [
 ⟨none, some 8, .mv (.t 0)⟩,
 ⟨none, some 9, .call false (.c (.fn 39 [] [])) [(.t 8), (.c (.str [41]))]⟩])
 (.seq
 (.region [
 ⟨none, some 10, .load (.box 3) true 5 (.t 3)⟩,
 ⟨none, some 11, .bslice 5 (.agg [.int .i64 0, .int .i64 0, .int .i64 0, .str [], .slice .fit 5 []]) 1 [(0, (.t 10))]⟩,
 ⟨none, some 2, .take 11⟩])
 .ret)))))

/-- (*boxhedge/boxhedgeref04.parser).named -/
def F81 : IFn where
  ntmps := 38
  nargs := 1
  res := [.cell 2 true 6]
  freeze := false
  body :=
 (.seq
 (.region [
 ⟨none, some 2, .boxL 2 (.c (.agg [.int .i64 0, .int .i64 0, .str [], .slice .fit 5 [], .slice .fit 6 [], .slice .fit 6 []]))⟩])
 (.seq
 (.region [
 ⟨none, some 5, .mv (.t 0)⟩,
 ⟨none, some 6, .call false (.c (.fn 36 [] [])) [(.t 5), (.c (.int .i64 1))]⟩,
 ⟨none, some 3, .mv (.t 6)⟩])
 (.seq
 (.block 0
 (.seq
 (.region [
 ⟨none, some 8, .mv (.t 0)⟩,
 ⟨none, some 9, .call false (.c (.fn 37 [] [])) [(.t 8), (.c (.str [40]))]⟩,
 ⟨none, some 7, .mv (.t 9)⟩])
 (.cond (.t 7)
 (.seq
 (.region [
 ⟨none, some 10, .mv (.t 3)⟩,
 ⟨none, some 11, .mv (.t 0)⟩,
 ⟨none, some 12, .call false (.c (.fn 91 [] [])) [(.t 11), (.c (.int .i64 2))]⟩,
 ⟨none, some 13, .build [.int .i64 0, .int .i64 0, .int .i64 0, .str [], .slice .fit 5 []] [(0, 1, (.c (.int .i64 7))), (3, 1, (.t 10)), (4, 1, (.t 12))]⟩,
 ⟨none, some 14, .bslice 5 (.agg [.int .i64 0, .int .i64 0, .int .i64 0, .str [], .slice .fit 5 []]) 1 [(0, (.t 13))]⟩,
 ⟨none, some 15, .build [.int .i64 0, .int .i64 0, .str [], .slice .fit 5 [], .slice .fit 6 [], .slice .fit 6 []] [(0, 1, (.c (.int .i64 10))), (3, 1, (.t 14))]⟩,
 ⟨none, none, .store (.box 2) 6 (.t 2) (.t 15)⟩])
 .ret)
 (.seq
 (.region [
 ⟨none, some 17, .mv (.t 0)⟩,
 ⟨none, some 18, .call false (.c (.fn 37 [] [])) [(.t 17), (.c (.str [91]))]⟩,
 ⟨none, some 16, .mv (.t 18)⟩])
 (.cond (.t 16)
 (.seq
 (.region [
 ⟨none, some 19, .mv (.t 0)⟩,
 ⟨none, some 20, .call false (.c (.fn 79 [] [])) [(.t 19), (.c (.int .i64 1)), (.c (.int .i64 1))]⟩,
 ⟨none, some 4, .boxL 4 (.c (.agg [.int .i64 0, .int .i64 0, .int .i64 0, .str [], .slice .fit 5 []]))⟩,
 ⟨none, none, .store (.box 4) 5 (.t 4) (.t 20)⟩])
 (.seq
 (.region [
 ⟨none, some 21, .mv (.t 0)⟩,
 ⟨none, some 22, .call false (.c (.fn 39 [] [])) [(.t 21), (.c (.str [93]))]⟩])
 (.seq
 (.region [
 ⟨none, some 23, .mv (.t 0)⟩,
 ⟨none, some 24, .call false (.c (.fn 39 [] [])) [(.t 23), (.c (.str [61]))]⟩])
 (.seq
 (.region [
 ⟨none, some 25, .mv (.t 3)⟩,
 ⟨none, some 26, .load (.box 4) true 5 (.t 4)⟩,
 ⟨none, some 27, .mv (.t 0)⟩,
 ⟨none, some 28, .call false (.c (.fn 79 [] [])) [(.t 27), (.c (.int .i64 1)), (.c (.int .i64 1))]⟩,
 ⟨none, some 29, .bslice 5 (.agg [.int .i64 0, .int .i64 0, .int .i64 0, .str [], .slice .fit 5 []]) 2 [(0, (.t 26)), (1, (.t 28))]⟩,
 ⟨none, some 30, .build [.int .i64 0, .int .i64 0, .str [], .slice .fit 5 [], .slice .fit 6 [], .slice .fit 6 []] [(0, 1, (.c (.int .i64 3))), (2, 1, (.t 25)), (3, 1, (.t 29))]⟩,
 ⟨none, none, .store (.box 2) 6 (.t 2) (.t 30)⟩])
 .ret))))
 .skip)))))
 (.seq
 (.region [
 ⟨none, some 31, .mv (.t 0)⟩,
 ⟨none, some 32, .call false (.c (.fn 39 [] [])) [(.t 31), (.c (.str [61]))]⟩])
 (.seq
 (.region [
 ⟨none, some 33, .mv (.t 3)⟩,
 ⟨none, some 34, .mv (.t 0)⟩,
 ⟨none, some 35, .call false (.c (.fn 79 [] [])) [(.t 34), (.c (.int .i64 1)), (.c (.int .i64 1))]⟩,
 ⟨none, some 36, .bslice 5 (.agg [.int .i64 0, .int .i64 0, .int .i64 0, .str [], .slice .fit 5 []]) 1 [(0, (.t 35))]⟩,
 ⟨none, some 37, .build [.int .i64 0, .int .i64 0, .str [], .slice .fit 5 [], .slice .fit 6 [], .slice .fit 6 []] [(0, 1, (.c (.int .i64 2))), (2, 1, (.t 33)), (3, 1, (.t 36))]⟩,
 ⟨none, none, .store (.box 2) 6 (.t 2) (.t 37)⟩])
 .ret)))))

/-- (*boxhedge/boxhedgeref04.parser).stmt -/
def F68 : IFn where
  ntmps := 92
  nargs := 2
  res := [.cell 4 true 6]
  freeze := false
  body :=
 (.seq
 (.region [
 ⟨none, some 4, .boxL 4 (.c (.agg [.int .i64 0, .int .i64 0, .str [], .slice .fit 5 [], .slice .fit 6 [], .slice .fit 6 []]))⟩])
 (.seq
 (.seq
 (.region [
 ⟨none, some 6, .mv (.t 1)⟩,
 ⟨none, some 7, .bin 0 [] .gtr (.t 6) (.c (.int .i64 100))⟩])
 (.cond (.t 7)
 (.region [
 ⟨none, some 8, .mv (.t 0)⟩,
 ⟨none, some 9, .nilck (.t 8)⟩,
 ⟨none, some 10, .faddr 3 (.t 9)⟩,
 ⟨none, none, .store .any 1 (.t 10) (.c (.bool true))⟩])
 .skip))
 (.seq
 (.region [
 ⟨none, some 5, .boxL 5 (.c (.agg [.int .i64 0, .int .i64 0, .str [], .slice .fit 5 [], .slice .fit 6 [], .slice .fit 6 []]))⟩])
 (.seq
 (.block 0
 (.seq
 (.region [
 ⟨none, some 14, .mv (.t 0)⟩,
 ⟨none, some 15, .call false (.c (.fn 53 [] [])) [(.t 14), (.c (.str [105, 110, 116]))]⟩,
 ⟨none, some 16, .mv (.t 15)⟩,
 ⟨some (16, false), some 17, .mv (.t 0)⟩,
 ⟨some (16, false), some 18, .call false (.c (.fn 53 [] [])) [(.t 17), (.c (.str [98, 111, 111, 108]))]⟩,
 ⟨none, some 19, .pick (.t 16) (.c (.bool true)) (.t 18)⟩,
 ⟨none, some 13, .mv (.t 19)⟩])
 (.cond (.t 13)
 (.seq
 (.region [
 ⟨none, some 20, .mv (.t 0)⟩,
 ⟨none, some 21, .call false (.c (.fn 35 [] [])) [(.t 20)]⟩,
 ⟨none, some 22, .faddr 0 (.t 5)⟩,
 ⟨none, none, .store (.box 5) 1 (.t 22) (.c (.int .i64 1))⟩,
 ⟨none, some 23, .faddr 1 (.t 5)⟩,
 ⟨none, none, .store (.box 5) 1 (.t 23) (.t 21)⟩])
 (.seq
 (.region [
 ⟨none, some 24, .mv (.t 0)⟩,
 ⟨none, some 25, .call false (.c (.fn 36 [] [])) [(.t 24), (.c (.int .i64 1))]⟩,
 ⟨none, some 26, .faddr 2 (.t 5)⟩,
 ⟨none, none, .store (.box 5) 1 (.t 26) (.t 25)⟩])
 (.seq
 (.region [
 ⟨none, some 27, .mv (.t 0)⟩,
 ⟨none, some 28, .call false (.c (.fn 39 [] [])) [(.t 27), (.c (.str [61]))]⟩])
 (.region [
 ⟨none, some 29, .mv (.t 0)⟩,
 ⟨none, some 30, .call false (.c (.fn 79 [] [])) [(.t 29), (.c (.int .i64 1)), (.c (.int .i64 1))]⟩,
 ⟨none, some 31, .bslice 5 (.agg [.int .i64 0, .int .i64 0, .int .i64 0, .str [], .slice .fit 5 []]) 1 [(0, (.t 30))]⟩,
 ⟨none, some 32, .faddr 3 (.t 5)⟩,
 ⟨none, none, .store (.box 5) 1 (.t 32) (.t 31)⟩]))))
 (.seq
 (.region [
 ⟨none, some 34, .mv (.t 0)⟩,
 ⟨none, some 35, .call false (.c (.fn 37 [] [])) [(.t 34), (.c (.str [105, 102]))]⟩,
 ⟨none, some 33, .mv (.t 35)⟩])
 (.cond (.t 33)
 (.seq
 (.region [
 ⟨none, some 36, .mv (.t 0)⟩,
 ⟨none, some 37, .call false (.c (.fn 80 [] [])) [(.t 36)]⟩,
 ⟨none, some 38, .faddr 0 (.t 5)⟩,
 ⟨none, none, .store (.box 5) 1 (.t 38) (.c (.int .i64 4))⟩,
 ⟨none, some 39, .faddr 3 (.t 5)⟩,
 ⟨none, none, .store (.box 5) 1 (.t 39) (.t 37)⟩])
 (.seq
 (.region [
 ⟨none, some 40, .mv (.t 0)⟩,
 ⟨none, some 41, .mv (.t 1)⟩,
 ⟨none, some 42, .bin 0 [] .add (.t 41) (.c (.int .i64 1))⟩,
 ⟨none, some 43, .call false (.c (.fn 54 [] [])) [(.t 40), (.t 42)]⟩,
 ⟨none, some 44, .faddr 4 (.t 5)⟩,
 ⟨none, none, .store (.box 5) 1 (.t 44) (.t 43)⟩])
 (.seq
 (.seq
 (.region [
 ⟨none, some 45, .mv (.t 0)⟩,
 ⟨none, some 46, .call false (.c (.fn 37 [] [])) [(.t 45), (.c (.str [101, 108, 115, 101]))]⟩])
 (.cond (.t 46)
 (.region [
 ⟨none, some 47, .mv (.t 0)⟩,
 ⟨none, some 48, .mv (.t 1)⟩,
 ⟨none, some 49, .bin 0 [] .add (.t 48) (.c (.int .i64 1))⟩,
 ⟨none, some 50, .call false (.c (.fn 54 [] [])) [(.t 47), (.t 49)]⟩,
 ⟨none, some 51, .faddr 5 (.t 5)⟩,
 ⟨none, none, .store (.box 5) 1 (.t 51) (.t 50)⟩])
 .skip))
 (.seq
 (.region [
 ⟨none, some 52, .load (.box 5) true 6 (.t 5)⟩,
 ⟨none, none, .store (.box 4) 6 (.t 4) (.t 52)⟩])
 .ret))))
 (.seq
 (.region [
 ⟨none, some 54, .mv (.t 0)⟩,
 ⟨none, some 55, .call false (.c (.fn 37 [] [])) [(.t 54), (.c (.str [119, 104, 105, 108, 101]))]⟩,
 ⟨none, some 53, .mv (.t 55)⟩])
 (.cond (.t 53)
 (.seq
 (.region [
 ⟨none, some 56, .mv (.t 0)⟩,
 ⟨none, some 57, .call false (.c (.fn 80 [] [])) [(.t 56)]⟩,
 ⟨none, some 58, .faddr 0 (.t 5)⟩,
 ⟨none, none, .store (.box 5) 1 (.t 58) (.c (.int .i64 5))⟩,
 ⟨none, some 59, .faddr 3 (.t 5)⟩,
 ⟨none, none, .store (.box 5) 1 (.t 59) (.t 57)⟩])
 (.seq
 (.region [
 ⟨none, some 60, .mv (.t 0)⟩,
 ⟨none, some 61, .mv (.t 1)⟩,
 ⟨none, some 62, .bin 0 [] .add (.t 61) (.c (.int .i64 1))⟩,
 ⟨none, some 63, .call false (.c (.fn 54 [] [])) [(.t 60), (.t 62)]⟩,
 ⟨none, some 64, .faddr 4 (.t 5)⟩,
 ⟨none, none, .store (.box 5) 1 (.t 64) (.t 63)⟩])
 (.seq
 (.region [
 ⟨none, some 65, .load (.box 5) true 6 (.t 5)⟩,
 ⟨none, none, .store (.box 4) 6 (.t 4) (.t 65)⟩])
 .ret)))
 (.seq
 (.region [
 ⟨none, some 67, .mv (.t 0)⟩,
 ⟨none, some 68, .call false (.c (.fn 37 [] [])) [(.t 67), (.c (.str [98, 114, 101, 97, 107]))]⟩,
 ⟨none, some 66, .mv (.t 68)⟩])
 (.cond (.t 66)
 (.region [
 ⟨none, some 69, .faddr 0 (.t 5)⟩,
 ⟨none, none, .store (.box 5) 1 (.t 69) (.c (.int .i64 6))⟩])
 (.seq
 (.region [
 ⟨none, some 71, .mv (.t 0)⟩,
 ⟨none, some 72, .call false (.c (.fn 37 [] [])) [(.t 71), (.c (.str [99, 111, 110, 116, 105, 110, 117, 101]))]⟩,
 ⟨none, some 70, .mv (.t 72)⟩])
 (.cond (.t 70)
 (.region [
 ⟨none, some 73, .faddr 0 (.t 5)⟩,
 ⟨none, none, .store (.box 5) 1 (.t 73) (.c (.int .i64 7))⟩])
 (.seq
 (.region [
 ⟨none, some 75, .mv (.t 0)⟩,
 ⟨none, some 76, .call false (.c (.fn 37 [] [])) [(.t 75), (.c (.str [114, 101, 116, 117, 114, 110]))]⟩,
 ⟨none, some 74, .mv (.t 76)⟩])
 (.cond (.t 74)
 (.region [
 ⟨none, some 77, .mv (.t 0)⟩,
 ⟨none, some 78, .call false (.c (.fn 79 [] [])) [(.t 77), (.c (.int .i64 1)), (.c (.int .i64 1))]⟩,
 ⟨none, some 79, .bslice 5 (.agg [.int .i64 0, .int .i64 0, .int .i64 0, .str [], .slice .fit 5 []]) 1 [(0, (.t 78))]⟩,
 ⟨none, some 80, .faddr 0 (.t 5)⟩,
 ⟨none, none, .store (.box 5) 1 (.t 80) (.c (.int .i64 8))⟩,
 ⟨none, some 81, .faddr 3 (.t 5)⟩,
 ⟨none, none, .store (.box 5) 1 (.t 81) (.t 79)⟩])
 (.seq
 (.region [
 ⟨none, some 83, .mv (.t 0)⟩,
 ⟨none, some 84, .call false (.c (.fn 37 [] [])) [(.t 83), (.c (.str [112, 114, 105, 110, 116]))]⟩,
 ⟨none, some 82, .mv (.t 84)⟩])
 (.cond (.t 82)
 (.region [
 ⟨none, some 85, .mv (.t 0)⟩,
 ⟨none, some 86, .call false (.c (.fn 80 [] [])) [(.t 85)]⟩,
 ⟨none, some 87, .faddr 0 (.t 5)⟩,
 ⟨none, none, .store (.box 5) 1 (.t 87) (.c (.int .i64 9))⟩,
 ⟨none, some 88, .faddr 3 (.t 5)⟩,
 ⟨none, none, .store (.box 5) 1 (.t 88) (.t 86)⟩])
 (.region [
 ⟨none, some 11, .mv (.t 0)⟩,
 ⟨none, some 12, .call false (.c (.fn 81 [] [])) [(.t 11)]⟩,
 ⟨none, none, .store (.box 5) 6 (.t 5) (.t 12)⟩]))))))))))))))))
 (.seq
 (.region [
 ⟨none, some 89, .mv (.t 0)⟩,
 ⟨none, some 90, .call false (.c (.fn 39 [] [])) [(.t 89), (.c (.str [59]))]⟩])
 (.seq
 (.region [
 ⟨none, some 91, .load (.box 5) true 6 (.t 5)⟩,
 ⟨none, none, .store (.box 4) 6 (.t 4) (.t 91)⟩])
 .ret))))))

def L54_0 : ICode := .loop [0, 1, 5] []
 (.seq
 (.seq
 (.region [
 ⟨none, some 8, .mv (.t 0)⟩,
 ⟨none, some 9, .call false (.c (.fn 34 [] [])) [(.t 8)]⟩,
 ⟨none, some 10, .un .not (.t 9)⟩,
 ⟨none, some 11, .mv (.t 10)⟩,
 ⟨some (11, true), some 12, .mv (.t 0)⟩,
 ⟨some (11, true), some 13, .call false (.c (.fn 37 [] [])) [(.t 12), (.c (.str [125]))]⟩,
 ⟨some (11, true), some 14, .un .not (.t 13)⟩,
 ⟨none, some 15, .pick (.t 11) (.t 14) (.c (.bool false))⟩])
 (.cond (.t 15)
 .skip
 (.exit 0)))
 (.block 1
 (.region [
 ⟨none, some 16, .take 5⟩,
 ⟨none, some 17, .mv (.t 0)⟩,
 ⟨none, some 18, .mv (.t 1)⟩,
 ⟨none, some 19, .call false (.c (.fn 68 [] [])) [(.t 17), (.t 18)]⟩,
 ⟨none, some 20, .bslice 6 (.agg [.int .i64 0, .int .i64 0, .str [], .slice .fit 5 [], .slice .fit 6 [], .slice .fit 6 []]) 1 [(0, (.t 19))]⟩,
 ⟨none, some 21, .append 6 104 (.t 16) (.t 20)⟩,
 ⟨none, some 5, .take 21⟩])))
abbrev K54_0 : List Nat := [0, 1]
abbrev B54_0 : List Nat := []
/-- (*boxhedge/boxhedgeref04.parser).block -/
def F54 : IFn where
  ntmps := 23
  nargs := 2
  res := [.tmp 4]
  freeze := false
  body :=
 (.seq
 (.region [
 ⟨none, some 4, .mv (.c (.slice .fit 6 []))⟩])
 (.seq
 (.region [
 ⟨none, some 5, .mv (.c (.slice .fit 6 []))⟩])
 (.seq
 (.region [
 ⟨none, some 6, .mv (.t 0)⟩,
 ⟨none, some 7, .call false (.c (.fn 39 [] [])) [(.t 6), (.c (.str [123]))]⟩])
 (.seq
 (.block 0
 L54_0)
 (.seq
 (.region [
 ⟨none, some 22, .take 5⟩,
 ⟨none, some 4, .take 22⟩])
 .ret)))))

def L40_0 : ICode := .loop [0, 6, 7, 8] []
 (.seq
 (.seq
 (.region [
 ⟨none, some 18, .mv (.t 8)⟩,
 ⟨none, some 19, .mv (.t 18)⟩,
 ⟨some (19, false), some 20, .mv (.t 0)⟩,
 ⟨some (19, false), some 21, .call false (.c (.fn 37 [] [])) [(.t 20), (.c (.str [44]))]⟩,
 ⟨none, some 22, .pick (.t 19) (.c (.bool true)) (.t 21)⟩,
 ⟨none, some 23, .mv (.t 22)⟩,
 ⟨some (23, true), some 24, .mv (.t 0)⟩,
 ⟨some (23, true), some 25, .call false (.c (.fn 34 [] [])) [(.t 24)]⟩,
 ⟨some (23, true), some 26, .un .not (.t 25)⟩,
 ⟨none, some 27, .pick (.t 23) (.t 26) (.c (.bool false))⟩])
 (.cond (.t 27)
 .skip
 (.exit 0)))
 (.seq
 (.block 1
 (.seq
 (.region [
 ⟨none, some 28, .mv (.t 0)⟩,
 ⟨none, some 29, .call false (.c (.fn 35 [] [])) [(.t 28)]⟩,
 ⟨none, some 9, .mv (.t 29)⟩])
 (.region [
 ⟨none, some 30, .faddr 2 (.t 7)⟩,
 ⟨none, some 31, .loadT (.box 7) (.t 30)⟩,
 ⟨none, some 32, .mv (.t 0)⟩,
 ⟨none, some 33, .call false (.c (.fn 36 [] [])) [(.t 32), (.c (.int .i64 1))]⟩,
 ⟨none, some 34, .mv (.t 9)⟩,
 ⟨none, some 35, .build [.str [], .int .i64 0] [(0, 1, (.t 33)), (1, 1, (.t 34))]⟩,
 ⟨none, some 36, .bslice 2 (.agg [.str [], .int .i64 0]) 1 [(0, (.t 35))]⟩,
 ⟨none, some 37, .append 2 24 (.t 31) (.t 36)⟩,
 ⟨none, some 38, .faddr 2 (.t 7)⟩,
 ⟨none, none, .storeT (.box 7) (.t 38) 37⟩])))
 (.region [
 ⟨none, some 8, .mv (.c (.bool false))⟩])))
abbrev K40_0 : List Nat := [0, 6, 7]
abbrev B40_0 : List Nat := [6]
/-- (*boxhedge/boxhedgeref04.parser).function -/
def F40 : IFn where
  ntmps := 45
  nargs := 3
  res := [.cell 6 true 4]
  freeze := false
  body :=
 (.seq
 (.region [
 ⟨none, some 6, .boxL 6 (.c (.agg [.str [], .int .i64 0, .slice .fit 2 [], .slice .fit 6 []]))⟩])
 (.seq
 (.region [
 ⟨none, some 10, .mv (.t 2)⟩,
 ⟨none, some 11, .mv (.t 1)⟩,
 ⟨none, some 12, .build [.str [], .int .i64 0, .slice .fit 2 [], .slice .fit 6 []] [(0, 1, (.t 10)), (1, 1, (.t 11))]⟩,
 ⟨none, some 7, .boxL 7 (.c (.agg [.str [], .int .i64 0, .slice .fit 2 [], .slice .fit 6 []]))⟩,
 ⟨none, none, .store (.box 7) 4 (.t 7) (.t 12)⟩])
 (.seq
 (.region [
 ⟨none, some 13, .mv (.t 0)⟩,
 ⟨none, some 14, .call false (.c (.fn 39 [] [])) [(.t 13), (.c (.str [40]))]⟩])
 (.seq
 (.seq
 (.region [
 ⟨none, some 15, .mv (.t 0)⟩,
 ⟨none, some 16, .call false (.c (.fn 37 [] [])) [(.t 15), (.c (.str [41]))]⟩,
 ⟨none, some 17, .un .not (.t 16)⟩])
 (.cond (.t 17)
 (.seq
 (.seq
 (.region [
 ⟨none, some 8, .mv (.c (.bool true))⟩])
 (.block 0
 L40_0))
 (.region [
 ⟨none, some 39, .mv (.t 0)⟩,
 ⟨none, some 40, .call false (.c (.fn 39 [] [])) [(.t 39), (.c (.str [41]))]⟩]))
 .skip))
 (.seq
 (.region [
 ⟨none, some 41, .mv (.t 0)⟩,
 ⟨none, some 42, .call false (.c (.fn 54 [] [])) [(.t 41), (.c (.int .i64 1))]⟩,
 ⟨none, some 43, .faddr 3 (.t 7)⟩,
 ⟨none, none, .store (.box 7) 1 (.t 43) (.t 42)⟩])
 (.seq
 (.region [
 ⟨none, some 44, .load (.box 7) true 4 (.t 7)⟩,
 ⟨none, none, .store (.box 6) 4 (.t 6) (.t 44)⟩])
 .ret))))))

def L13_0 : ICode := .loop [0, 2, 3] []
 (.seq
 (.seq
 (.region [
 ⟨none, some 7, .mv (.t 0)⟩,
 ⟨none, some 8, .call false (.c (.fn 34 [] [])) [(.t 7)]⟩,
 ⟨none, some 9, .un .not (.t 8)⟩,
 ⟨none, some 10, .mv (.t 9)⟩,
 ⟨some (10, true), some 11, .mv (.t 0)⟩,
 ⟨some (10, true), some 12, .nilck (.t 11)⟩,
 ⟨some (10, true), some 13, .faddr 0 (.t 12)⟩,
 ⟨some (10, true), some 14, .load .any false 1 (.t 13)⟩,
 ⟨some (10, true), some 15, .mv (.t 0)⟩,
 ⟨some (10, true), some 16, .nilck (.t 15)⟩,
 ⟨some (10, true), some 17, .faddr 1 (.t 16)⟩,
 ⟨some (10, true), some 18, .load .any false 1 (.t 17)⟩,
 ⟨some (10, true), some 19, .iaddr 3 (.t 14) (.t 18)⟩,
 ⟨some (10, true), some 20, .faddr 0 (.t 19)⟩,
 ⟨some (10, true), some 21, .load .imm false 1 (.t 20)⟩,
 ⟨some (10, true), some 22, .bin 0 [] .neq (.t 21) (.c (.int .i64 3))⟩,
 ⟨none, some 23, .pick (.t 10) (.t 22) (.c (.bool false))⟩])
 (.cond (.t 23)
 .skip
 (.exit 0)))
 (.block 1
 (.seq
 (.region [
 ⟨none, some 24, .mv (.t 0)⟩,
 ⟨none, some 25, .call false (.c (.fn 35 [] [])) [(.t 24)]⟩,
 ⟨none, some 4, .mv (.t 25)⟩])
 (.seq
 (.region [
 ⟨none, some 26, .mv (.t 0)⟩,
 ⟨none, some 27, .call false (.c (.fn 36 [] [])) [(.t 26), (.c (.int .i64 1))]⟩,
 ⟨none, some 5, .mv (.t 27)⟩])
 (.seq
 (.seq
 (.region [
 ⟨none, some 28, .mv (.t 4)⟩,
 ⟨none, some 29, .bin 0 [] .eql (.t 28) (.c (.int .i64 1))⟩,
 ⟨none, some 30, .mv (.t 29)⟩,
 ⟨some (30, true), some 31, .faddr 1 (.t 3)⟩,
 ⟨some (30, true), some 32, .load (.box 3) false 1 (.t 31)⟩,
 ⟨some (30, true), some 33, .len 1 (.t 32)⟩,
 ⟨some (30, true), some 34, .bin 0 [] .eql (.t 33) (.c (.int .i64 0))⟩,
 ⟨none, some 35, .pick (.t 30) (.t 34) (.c (.bool false))⟩,
 ⟨none, some 36, .mv (.t 35)⟩,
 ⟨some (36, true), some 37, .mv (.t 0)⟩,
 ⟨some (36, true), some 38, .call false (.c (.fn 37 [] [])) [(.t 37), (.c (.str [91]))]⟩,
 ⟨none, some 39, .pick (.t 36) (.t 38) (.c (.bool false))⟩])
 (.cond (.t 39)
 (.seq
 (.region [
 ⟨none, some 40, .mv (.t 0)⟩,
 ⟨none, some 41, .call false (.c (.fn 36 [] [])) [(.t 40), (.c (.int .i64 0))]⟩,
 ⟨none, some 42, .callP false (.c (.fn 38 [] [])) [(.t 41)]⟩,
 ⟨none, some 6, .mv (.t 42)⟩])
 (.seq
 (.region [
 ⟨none, some 43, .mv (.t 0)⟩,
 ⟨none, some 44, .call false (.c (.fn 39 [] [])) [(.t 43), (.c (.str [93]))]⟩])
 (.seq
 (.region [
 ⟨none, some 45, .mv (.t 0)⟩,
 ⟨none, some 46, .call false (.c (.fn 39 [] [])) [(.t 45), (.c (.str [59]))]⟩])
 (.seq
 (.region [
 ⟨none, some 47, .faddr 0 (.t 3)⟩,
 ⟨none, some 48, .loadT (.box 3) (.t 47)⟩,
 ⟨none, some 49, .mv (.t 5)⟩,
 ⟨none, some 50, .mv (.t 6)⟩,
 ⟨none, some 51, .build [.str [], .int .i64 0] [(0, 1, (.t 49)), (1, 1, (.t 50))]⟩,
 ⟨none, some 52, .bslice 2 (.agg [.str [], .int .i64 0]) 1 [(0, (.t 51))]⟩,
 ⟨none, some 53, .append 2 24 (.t 48) (.t 52)⟩,
 ⟨none, some 54, .faddr 0 (.t 3)⟩,
 ⟨none, none, .storeT (.box 3) (.t 54) 53⟩])
 (.exit 1)))))
 .skip))
 (.region [
 ⟨none, some 55, .faddr 1 (.t 3)⟩,
 ⟨none, some 56, .loadT (.box 3) (.t 55)⟩,
 ⟨none, some 57, .mv (.t 0)⟩,
 ⟨none, some 58, .mv (.t 4)⟩,
 ⟨none, some 59, .mv (.t 5)⟩,
 ⟨none, some 60, .call false (.c (.fn 40 [] [])) [(.t 57), (.t 58), (.t 59)]⟩,
 ⟨none, some 61, .bslice 4 (.agg [.str [], .int .i64 0, .slice .fit 2 [], .slice .fit 6 []]) 1 [(0, (.t 60))]⟩,
 ⟨none, some 62, .append 4 72 (.t 56) (.t 61)⟩,
 ⟨none, some 63, .faddr 1 (.t 3)⟩,
 ⟨none, none, .storeT (.box 3) (.t 63) 62⟩]))))))
abbrev K13_0 : List Nat := [0, 2, 3]
abbrev B13_0 : List Nat := [2]
/-- (*boxhedge/boxhedgeref04.parser).prog -/
def F13 : IFn where
  ntmps := 65
  nargs := 1
  res := [.cell 2 true 2]
  freeze := false
  body :=
 (.seq
 (.region [
 ⟨none, some 2, .boxL 2 (.c (.agg [.slice .fit 2 [], .slice .fit 4 []]))⟩])
 (.seq
 (.region [
 ⟨none, some 3, .boxL 3 (.c (.agg [.slice .fit 2 [], .slice .fit 4 []]))⟩])
 (.seq
 (.block 0
 L13_0)
 (.seq
 (.region [
 ⟨none, some 64, .load (.box 3) true 2 (.t 3)⟩,
 ⟨none, none, .store (.box 2) 2 (.t 2) (.t 64)⟩])
 .ret))))

/-- boxhedge/boxhedgeref03.isType -/
def F41 : IFn where
  ntmps := 9
  nargs := 1
  res := [.tmp 2]
  freeze := false
  body :=
 (.seq
 (.region [
 ⟨none, some 2, .mv (.c (.bool false))⟩])
 (.seq
 (.region [
 ⟨none, some 3, .mv (.t 0)⟩,
 ⟨none, some 4, .bin 0 [] .eql (.t 3) (.c (.int .i64 1))⟩,
 ⟨none, some 5, .mv (.t 4)⟩,
 ⟨some (5, false), some 6, .mv (.t 0)⟩,
 ⟨some (5, false), some 7, .bin 0 [] .eql (.t 6) (.c (.int .i64 2))⟩,
 ⟨none, some 8, .pick (.t 5) (.c (.bool true)) (.t 7)⟩,
 ⟨none, some 2, .mv (.t 8)⟩])
 .ret))

/-- boxhedge/boxhedgeref03.shape -/
def F55 : IFn where
  ntmps := 25
  nargs := 1
  res := [.tmp 2, .tmp 3, .tmp 4, .tmp 5, .tmp 6]
  freeze := false
  body :=
 (.seq
 (.region [
 ⟨none, some 2, .mv (.c (.bool false))⟩,
 ⟨none, some 3, .mv (.c (.bool false))⟩,
 ⟨none, some 4, .mv (.c (.int .i64 0))⟩,
 ⟨none, some 5, .mv (.c (.bool false))⟩,
 ⟨none, some 6, .mv (.c (.bool false))⟩])
 (.seq
 (.seq
 (.region [
 ⟨none, some 7, .mv (.t 0)⟩])
 (.block 0
 (.seq
 (.region [
 ⟨none, some 9, .bin 0 [] .eql (.t 7) (.c (.int .i64 1))⟩,
 ⟨none, some 8, .mv (.t 9)⟩])
 (.cond (.t 8)
 (.seq
 (.region [
 ⟨none, some 2, .mv (.c (.bool true))⟩,
 ⟨none, some 3, .mv (.c (.bool true))⟩,
 ⟨none, some 4, .mv (.c (.int .i64 1))⟩,
 ⟨none, some 5, .mv (.c (.bool false))⟩,
 ⟨none, some 6, .mv (.c (.bool false))⟩])
 .ret)
 (.seq
 (.region [
 ⟨none, some 11, .bin 0 [] .eql (.t 7) (.c (.int .i64 2))⟩,
 ⟨none, some 10, .mv (.t 11)⟩])
 (.cond (.t 10)
 (.seq
 (.region [
 ⟨none, some 2, .mv (.c (.bool false))⟩,
 ⟨none, some 3, .mv (.c (.bool true))⟩,
 ⟨none, some 4, .mv (.c (.int .i64 1))⟩,
 ⟨none, some 5, .mv (.c (.bool false))⟩,
 ⟨none, some 6, .mv (.c (.bool false))⟩])
 .ret)
 (.seq
 (.region [
 ⟨none, some 13, .bin 0 [] .eql (.t 7) (.c (.int .i64 3))⟩,
 ⟨none, some 12, .mv (.t 13)⟩])
 (.cond (.t 12)
 (.seq
 (.region [
 ⟨none, some 2, .mv (.c (.bool false))⟩,
 ⟨none, some 3, .mv (.c (.bool true))⟩,
 ⟨none, some 4, .mv (.c (.int .i64 2))⟩,
 ⟨none, some 5, .mv (.c (.bool false))⟩,
 ⟨none, some 6, .mv (.c (.bool false))⟩])
 .ret)
 (.seq
 (.region [
 ⟨none, some 15, .bin 0 [] .eql (.t 7) (.c (.int .i64 4))⟩,
 ⟨none, some 14, .mv (.t 15)⟩])
 (.cond (.t 14)
 (.seq
 (.region [
 ⟨none, some 2, .mv (.c (.bool false))⟩,
 ⟨none, some 3, .mv (.c (.bool false))⟩,
 ⟨none, some 4, .mv (.c (.int .i64 1))⟩,
 ⟨none, some 5, .mv (.c (.bool true))⟩,
 ⟨none, some 6, .mv (.c (.bool true))⟩])
 .ret)
 (.seq
 (.region [
 ⟨none, some 17, .bin 0 [] .eql (.t 7) (.c (.int .i64 5))⟩,
 ⟨none, some 16, .mv (.t 17)⟩])
 (.cond (.t 16)
 (.seq
 (.region [
 ⟨none, some 2, .mv (.c (.bool false))⟩,
 ⟨none, some 3, .mv (.c (.bool false))⟩,
 ⟨none, some 4, .mv (.c (.int .i64 1))⟩,
 ⟨none, some 5, .mv (.c (.bool true))⟩,
 ⟨none, some 6, .mv (.c (.bool false))⟩])
 .ret)
 (.seq
 (.seq
 (.region [
 ⟨none, some 19, .bin 0 [] .eql (.t 7) (.c (.int .i64 6))⟩,
 ⟨none, some 18, .mv (.t 19)⟩])
 (.cond (.t 18)
 .skip
 (.region [
 ⟨none, some 20, .bin 0 [] .eql (.t 7) (.c (.int .i64 7))⟩,
 ⟨none, some 18, .mv (.t 20)⟩])))
 (.cond (.t 18)
 (.seq
 (.region [
 ⟨none, some 2, .mv (.c (.bool false))⟩,
 ⟨none, some 3, .mv (.c (.bool false))⟩,
 ⟨none, some 4, .mv (.c (.int .i64 0))⟩,
 ⟨none, some 5, .mv (.c (.bool false))⟩,
 ⟨none, some 6, .mv (.c (.bool false))⟩])
 .ret)
 (.seq
 (.seq
 (.region [
 ⟨none, some 22, .bin 0 [] .eql (.t 7) (.c (.int .i64 8))⟩,
 ⟨none, some 21, .mv (.t 22)⟩])
 (.cond (.t 21)
 .skip
 (.seq
 (.region [
 ⟨none, some 23, .bin 0 [] .eql (.t 7) (.c (.int .i64 9))⟩,
 ⟨none, some 21, .mv (.t 23)⟩])
 (.cond (.t 21)
 .skip
 (.region [
 ⟨none, some 24, .bin 0 [] .eql (.t 7) (.c (.int .i64 10))⟩,
 ⟨none, some 21, .mv (.t 24)⟩])))))
 (.cond (.t 21)
 (.seq
 (.region [
 ⟨none, some 2, .mv (.c (.bool false))⟩,
 ⟨none, some 3, .mv (.c (.bool false))⟩,
 ⟨none, some 4, .mv (.c (.int .i64 1))⟩,
 ⟨none, some 5, .mv (.c (.bool false))⟩,
 ⟨none, some 6, .mv (.c (.bool false))⟩])
 .ret)
 .skip))))))))))))))))
 (.seq
 (.region [
 ⟨none, some 2, .mv (.c (.bool false))⟩,
 ⟨none, some 3, .mv (.c (.bool false))⟩,
 ⟨none, some 4, .mv (.c (.int .i64 (-1)))⟩,
 ⟨none, some 5, .mv (.c (.bool false))⟩,
 ⟨none, some 6, .mv (.c (.bool false))⟩])
 .ret)))

/-- boxhedge/boxhedgeref01.IsOne -/
def F69 : IFn where
  ntmps := 9
  nargs := 1
  res := [.tmp 2]
  freeze := false
  body :=
 (.seq
 (.region [
 ⟨none, some 2, .mv (.c (.bool false))⟩])
 (.seq
 (.region [
 ⟨none, some 3, .mv (.t 0)⟩,
 ⟨none, some 4, .bin 0 [] .geq (.t 3) (.c (.int .i64 20))⟩,
 ⟨none, some 5, .mv (.t 4)⟩,
 ⟨some (5, true), some 6, .mv (.t 0)⟩,
 ⟨some (5, true), some 7, .bin 0 [] .leq (.t 6) (.c (.int .i64 28))⟩,
 ⟨none, some 8, .pick (.t 5) (.t 7) (.c (.bool false))⟩,
 ⟨none, some 2, .mv (.t 8)⟩])
 .ret))

def L56_0 : ICode := .loop [1, 2, 5] []
 (.seq
 (.seq
 (.region [
 ⟨none, some 9, .mv (.t 5)⟩,
 ⟨none, some 10, .faddr 4 (.t 2)⟩,
 ⟨none, some 11, .load (.box 2) false 1 (.t 10)⟩,
 ⟨none, some 12, .len 1 (.t 11)⟩,
 ⟨none, some 13, .bin 0 [] .lss (.t 9) (.t 12)⟩])
 (.cond (.t 13)
 .skip
 (.exit 0)))
 (.seq
 (.block 1
 (.seq
 (.region [
 ⟨none, some 16, .mv (.t 1)⟩,
 ⟨none, some 17, .bin 0 [] .lss (.t 16) (.c (.int .i64 2))⟩,
 ⟨none, some 18, .mv (.t 17)⟩,
 ⟨some (18, false), some 19, .faddr 4 (.t 2)⟩,
 ⟨some (18, false), some 20, .load (.box 2) false 1 (.t 19)⟩,
 ⟨some (18, false), some 21, .mv (.t 5)⟩,
 ⟨some (18, false), some 22, .iaddr 5 (.t 20) (.t 21)⟩,
 ⟨some (18, false), some 23, .load .any true 5 (.t 22)⟩,
 ⟨some (18, false), some 24, .mv (.t 1)⟩,
 ⟨some (18, false), some 25, .bin 0 [] .sub (.t 24) (.c (.int .i64 1))⟩,
 ⟨some (18, false), some 26, .callP false (.c (.fn 56 [] [])) [(.t 23), (.t 25)]⟩,
 ⟨some (18, false), some 27, .un .not (.t 26)⟩,
 ⟨none, some 28, .pick (.t 18) (.c (.bool true)) (.t 27)⟩])
 (.cond (.t 28)
 (.seq
 (.region [
 ⟨none, some 4, .mv (.c (.bool false))⟩])
 .ret)
 .skip)))
 (.region [
 ⟨none, some 14, .mv (.t 5)⟩,
 ⟨none, some 15, .bin 0 [] .add (.t 14) (.c (.int .i64 1))⟩,
 ⟨none, some 5, .mv (.t 15)⟩])))
abbrev K56_0 : List Nat := [1, 2]
abbrev B56_0 : List Nat := [2]
/-- boxhedge/boxhedgeref03.expr -/
def F56 : IFn where
  ntmps := 169
  nargs := 2
  res := [.tmp 4]
  freeze := false
  body :=
 (.seq
 (.region [
 ⟨none, some 2, .boxL 2 (.t 0)⟩,
 ⟨none, some 4, .mv (.c (.bool false))⟩])
 (.seq
 (.seq
 (.region [
 ⟨none, some 5, .mv (.c (.int .i64 0))⟩])
 (.block 0
 L56_0))
 (.seq
 (.region [
 ⟨none, some 29, .faddr 1 (.t 2)⟩,
 ⟨none, some 30, .load (.box 2) false 1 (.t 29)⟩,
 ⟨none, some 31, .bin 0 [] .eql (.t 30) (.c (.int .i64 0))⟩,
 ⟨none, some 32, .mv (.t 31)⟩,
 ⟨some (32, true), some 33, .faddr 2 (.t 2)⟩,
 ⟨some (32, true), some 34, .load (.box 2) false 1 (.t 33)⟩,
 ⟨some (32, true), some 35, .bin 0 [] .eql (.t 34) (.c (.int .i64 0))⟩,
 ⟨none, some 36, .pick (.t 32) (.t 35) (.c (.bool false))⟩,
 ⟨none, some 6, .mv (.t 36)⟩])
 (.seq
 (.region [
 ⟨none, some 37, .faddr 3 (.t 2)⟩,
 ⟨none, some 38, .load (.box 2) false 1 (.t 37)⟩,
 ⟨none, some 39, .callP false (.c (.fn 31 [] [])) [(.t 38)]⟩,
 ⟨none, some 7, .mv (.t 39)⟩])
 (.seq
 (.region [
 ⟨none, some 40, .faddr 4 (.t 2)⟩,
 ⟨none, some 41, .load (.box 2) false 1 (.t 40)⟩,
 ⟨none, some 42, .len 1 (.t 41)⟩,
 ⟨none, some 8, .mv (.t 42)⟩])
 (.seq
 (.seq
 (.region [
 ⟨none, some 43, .faddr 0 (.t 2)⟩,
 ⟨none, some 44, .load (.box 2) false 1 (.t 43)⟩])
 (.block 2
 (.seq
 (.region [
 ⟨none, some 46, .bin 0 [] .eql (.t 44) (.c (.int .i64 1))⟩,
 ⟨none, some 45, .mv (.t 46)⟩])
 (.cond (.t 45)
 (.seq
 (.region [
 ⟨none, some 47, .faddr 1 (.t 2)⟩,
 ⟨none, some 48, .load (.box 2) false 1 (.t 47)⟩,
 ⟨none, some 49, .bin 0 [] .eql (.t 48) (.c (.int .i64 0))⟩,
 ⟨none, some 50, .mv (.t 49)⟩,
 ⟨some (50, true), some 51, .faddr 2 (.t 2)⟩,
 ⟨some (50, true), some 52, .load (.box 2) false 1 (.t 51)⟩,
 ⟨some (50, true), some 53, .bin 0 [] .geq (.t 52) (.c (.int .i64 0))⟩,
 ⟨none, some 54, .pick (.t 50) (.t 53) (.c (.bool false))⟩,
 ⟨none, some 55, .mv (.t 54)⟩,
 ⟨some (55, true), some 56, .faddr 3 (.t 2)⟩,
 ⟨some (55, true), some 57, .load (.box 2) false 1 (.t 56)⟩,
 ⟨some (55, true), some 58, .bin 0 [] .eql (.t 57) (.c (.str []))⟩,
 ⟨none, some 59, .pick (.t 55) (.t 58) (.c (.bool false))⟩,
 ⟨none, some 60, .mv (.t 59)⟩,
 ⟨some (60, true), some 61, .mv (.t 8)⟩,
 ⟨some (60, true), some 62, .bin 0 [] .eql (.t 61) (.c (.int .i64 0))⟩,
 ⟨none, some 63, .pick (.t 60) (.t 62) (.c (.bool false))⟩,
 ⟨none, some 4, .mv (.t 63)⟩])
 .ret)
 (.seq
 (.region [
 ⟨none, some 65, .bin 0 [] .eql (.t 44) (.c (.int .i64 2))⟩,
 ⟨none, some 64, .mv (.t 65)⟩])
 (.cond (.t 64)
 (.seq
 (.region [
 ⟨none, some 66, .faddr 1 (.t 2)⟩,
 ⟨none, some 67, .load (.box 2) false 1 (.t 66)⟩,
 ⟨none, some 68, .bin 0 [] .eql (.t 67) (.c (.int .i64 0))⟩,
 ⟨none, some 69, .mv (.t 68)⟩,
 ⟨some (69, true), some 70, .faddr 2 (.t 2)⟩,
 ⟨some (69, true), some 71, .load (.box 2) false 1 (.t 70)⟩,
 ⟨some (69, true), some 72, .bin 0 [] .eql (.t 71) (.c (.int .i64 0))⟩,
 ⟨some (69, true), some 73, .mv (.t 72)⟩,
 ⟨some (73, false), some 74, .faddr 2 (.t 2)⟩,
 ⟨some (73, false), some 75, .load (.box 2) false 1 (.t 74)⟩,
 ⟨some (73, false), some 76, .bin 0 [] .eql (.t 75) (.c (.int .i64 1))⟩,
 ⟨some (69, true), some 77, .pick (.t 73) (.c (.bool true)) (.t 76)⟩,
 ⟨none, some 78, .pick (.t 69) (.t 77) (.c (.bool false))⟩,
 ⟨none, some 79, .mv (.t 78)⟩,
 ⟨some (79, true), some 80, .faddr 3 (.t 2)⟩,
 ⟨some (79, true), some 81, .load (.box 2) false 1 (.t 80)⟩,
 ⟨some (79, true), some 82, .bin 0 [] .eql (.t 81) (.c (.str []))⟩,
 ⟨none, some 83, .pick (.t 79) (.t 82) (.c (.bool false))⟩,
 ⟨none, some 84, .mv (.t 83)⟩,
 ⟨some (84, true), some 85, .mv (.t 8)⟩,
 ⟨some (84, true), some 86, .bin 0 [] .eql (.t 85) (.c (.int .i64 0))⟩,
 ⟨none, some 87, .pick (.t 84) (.t 86) (.c (.bool false))⟩,
 ⟨none, some 4, .mv (.t 87)⟩])
 .ret)
 (.seq
 (.region [
 ⟨none, some 89, .bin 0 [] .eql (.t 44) (.c (.int .i64 3))⟩,
 ⟨none, some 88, .mv (.t 89)⟩])
 (.cond (.t 88)
 (.seq
 (.region [
 ⟨none, some 90, .mv (.t 6)⟩,
 ⟨none, some 91, .mv (.t 90)⟩,
 ⟨some (91, true), some 92, .mv (.t 7)⟩,
 ⟨none, some 93, .pick (.t 91) (.t 92) (.c (.bool false))⟩,
 ⟨none, some 94, .mv (.t 93)⟩,
 ⟨some (94, true), some 95, .mv (.t 8)⟩,
 ⟨some (94, true), some 96, .bin 0 [] .eql (.t 95) (.c (.int .i64 0))⟩,
 ⟨none, some 97, .pick (.t 94) (.t 96) (.c (.bool false))⟩,
 ⟨none, some 4, .mv (.t 97)⟩])
 .ret)
 (.seq
 (.region [
 ⟨none, some 99, .bin 0 [] .eql (.t 44) (.c (.int .i64 4))⟩,
 ⟨none, some 98, .mv (.t 99)⟩])
 (.cond (.t 98)
 (.seq
 (.region [
 ⟨none, some 100, .faddr 1 (.t 2)⟩,
 ⟨none, some 101, .load (.box 2) false 1 (.t 100)⟩,
 ⟨none, some 102, .callP false (.c (.fn 69 [] [])) [(.t 101)]⟩,
 ⟨none, some 103, .mv (.t 102)⟩,
 ⟨some (103, true), some 104, .faddr 2 (.t 2)⟩,
 ⟨some (103, true), some 105, .load (.box 2) false 1 (.t 104)⟩,
 ⟨some (103, true), some 106, .bin 0 [] .eql (.t 105) (.c (.int .i64 0))⟩,
 ⟨none, some 107, .pick (.t 103) (.t 106) (.c (.bool false))⟩,
 ⟨none, some 108, .mv (.t 107)⟩,
 ⟨some (108, true), some 109, .faddr 3 (.t 2)⟩,
 ⟨some (108, true), some 110, .load (.box 2) false 1 (.t 109)⟩,
 ⟨some (108, true), some 111, .bin 0 [] .eql (.t 110) (.c (.str []))⟩,
 ⟨none, some 112, .pick (.t 108) (.t 111) (.c (.bool false))⟩,
 ⟨none, some 113, .mv (.t 112)⟩,
 ⟨some (113, true), some 114, .mv (.t 8)⟩,
 ⟨some (113, true), some 115, .bin 0 [] .eql (.t 114) (.c (.int .i64 1))⟩,
 ⟨none, some 116, .pick (.t 113) (.t 115) (.c (.bool false))⟩,
 ⟨none, some 4, .mv (.t 116)⟩])
 .ret)
 (.seq
 (.region [
 ⟨none, some 118, .bin 0 [] .eql (.t 44) (.c (.int .i64 5))⟩,
 ⟨none, some 117, .mv (.t 118)⟩])
 (.cond (.t 117)
 (.seq
 (.region [
 ⟨none, some 119, .faddr 1 (.t 2)⟩,
 ⟨none, some 120, .load (.box 2) false 1 (.t 119)⟩,
 ⟨none, some 121, .callP false (.c (.fn 70 [] [])) [(.t 120)]⟩,
 ⟨none, some 122, .bin 0 [] .gtr (.t 121) (.c (.int .i64 0))⟩,
 ⟨none, some 123, .mv (.t 122)⟩,
 ⟨some (123, true), some 124, .faddr 2 (.t 2)⟩,
 ⟨some (123, true), some 125, .load (.box 2) false 1 (.t 124)⟩,
 ⟨some (123, true), some 126, .bin 0 [] .eql (.t 125) (.c (.int .i64 0))⟩,
 ⟨none, some 127, .pick (.t 123) (.t 126) (.c (.bool false))⟩,
 ⟨none, some 128, .mv (.t 127)⟩,
 ⟨some (128, true), some 129, .faddr 3 (.t 2)⟩,
 ⟨some (128, true), some 130, .load (.box 2) false 1 (.t 129)⟩,
 ⟨some (128, true), some 131, .bin 0 [] .eql (.t 130) (.c (.str []))⟩,
 ⟨none, some 132, .pick (.t 128) (.t 131) (.c (.bool false))⟩,
 ⟨none, some 133, .mv (.t 132)⟩,
 ⟨some (133, true), some 134, .mv (.t 8)⟩,
 ⟨some (133, true), some 135, .bin 0 [] .eql (.t 134) (.c (.int .i64 2))⟩,
 ⟨none, some 136, .pick (.t 133) (.t 135) (.c (.bool false))⟩,
 ⟨none, some 4, .mv (.t 136)⟩])
 .ret)
 (.seq
 (.region [
 ⟨none, some 138, .bin 0 [] .eql (.t 44) (.c (.int .i64 6))⟩,
 ⟨none, some 137, .mv (.t 138)⟩])
 (.cond (.t 137)
 (.seq
 (.region [
 ⟨none, some 139, .mv (.t 6)⟩,
 ⟨none, some 140, .mv (.t 139)⟩,
 ⟨some (140, true), some 141, .mv (.t 7)⟩,
 ⟨none, some 142, .pick (.t 140) (.t 141) (.c (.bool false))⟩,
 ⟨none, some 143, .mv (.t 142)⟩,
 ⟨some (143, true), some 144, .mv (.t 8)⟩,
 ⟨some (143, true), some 145, .bin 0 [] .eql (.t 144) (.c (.int .i64 1))⟩,
 ⟨none, some 146, .pick (.t 143) (.t 145) (.c (.bool false))⟩,
 ⟨none, some 4, .mv (.t 146)⟩])
 .ret)
 (.seq
 (.region [
 ⟨none, some 148, .bin 0 [] .eql (.t 44) (.c (.int .i64 7))⟩,
 ⟨none, some 147, .mv (.t 148)⟩])
 (.cond (.t 147)
 (.seq
 (.region [
 ⟨none, some 149, .mv (.t 6)⟩,
 ⟨none, some 150, .mv (.t 149)⟩,
 ⟨some (150, true), some 151, .mv (.t 7)⟩,
 ⟨none, some 152, .pick (.t 150) (.t 151) (.c (.bool false))⟩,
 ⟨none, some 153, .mv (.t 152)⟩,
 ⟨some (153, true), some 154, .mv (.t 8)⟩,
 ⟨some (153, true), some 155, .bin 0 [] .leq (.t 154) (.c (.int .i64 8))⟩,
 ⟨none, some 156, .pick (.t 153) (.t 155) (.c (.bool false))⟩,
 ⟨none, some 4, .mv (.t 156)⟩])
 .ret)
 (.seq
 (.region [
 ⟨none, some 158, .bin 0 [] .eql (.t 44) (.c (.int .i64 8))⟩,
 ⟨none, some 157, .mv (.t 158)⟩])
 (.cond (.t 157)
 (.seq
 (.region [
 ⟨none, some 159, .mv (.t 6)⟩,
 ⟨none, some 160, .mv (.t 159)⟩,
 ⟨some (160, true), some 161, .faddr 3 (.t 2)⟩,
 ⟨some (160, true), some 162, .load (.box 2) false 1 (.t 161)⟩,
 ⟨some (160, true), some 163, .bin 0 [] .eql (.t 162) (.c (.str []))⟩,
 ⟨none, some 164, .pick (.t 160) (.t 163) (.c (.bool false))⟩,
 ⟨none, some 165, .mv (.t 164)⟩,
 ⟨some (165, true), some 166, .mv (.t 8)⟩,
 ⟨some (165, true), some 167, .bin 0 [] .eql (.t 166) (.c (.int .i64 0))⟩,
 ⟨none, some 168, .pick (.t 165) (.t 167) (.c (.bool false))⟩,
 ⟨none, some 4, .mv (.t 168)⟩])
 .ret)
 .skip))))))))))))))))))
 (.seq
 (.region [
 ⟨none, some 4, .mv (.c (.bool false))⟩])
 .ret)))))))

def L42_0 : ICode := .loop [0, 1, 5, 6, 9, 10, 11, 12] []
 (.seq
 (.seq
 (.region [
 ⟨none, some 78, .mv (.t 12)⟩,
 ⟨none, some 79, .mv (.t 9)⟩,
 ⟨none, some 80, .bin 0 [] .lss (.t 78) (.t 79)⟩])
 (.cond (.t 80)
 .skip
 (.exit 2)))
 (.seq
 (.block 3
 (.seq
 (.region [
 ⟨none, some 83, .faddr 3 (.t 6)⟩,
 ⟨none, some 84, .load (.box 6) false 1 (.t 83)⟩,
 ⟨none, some 85, .mv (.t 12)⟩,
 ⟨none, some 86, .iaddr 5 (.t 84) (.t 85)⟩,
 ⟨none, some 87, .load .any true 5 (.t 86)⟩,
 ⟨none, some 88, .callP false (.c (.fn 56 [] [])) [(.t 87), (.c (.int .i64 100))]⟩,
 ⟨none, some 89, .un .not (.t 88)⟩])
 (.cond (.t 89)
 (.seq
 (.region [
 ⟨none, some 4, .mv (.c (.bool false))⟩])
 .ret)
 .skip)))
 (.region [
 ⟨none, some 81, .mv (.t 12)⟩,
 ⟨none, some 82, .bin 0 [] .add (.t 81) (.c (.int .i64 1))⟩,
 ⟨none, some 12, .mv (.t 82)⟩])))
def L42_1 : ICode := .loop [0, 1, 5] [6]
 (.seq
 (.seq
 (.region [
 ⟨none, some 13, .mv (.t 5)⟩,
 ⟨none, some 14, .mv (.t 0)⟩,
 ⟨none, some 15, .len 1 (.t 14)⟩,
 ⟨none, some 16, .bin 0 [] .lss (.t 13) (.t 15)⟩])
 (.cond (.t 16)
 .skip
 (.exit 0)))
 (.seq
 (.block 1
 (.seq
 (.region [
 ⟨none, some 19, .mv (.t 0)⟩,
 ⟨none, some 20, .mv (.t 5)⟩,
 ⟨none, some 21, .iaddr 6 (.t 19) (.t 20)⟩,
 ⟨none, some 22, .load .any true 6 (.t 21)⟩,
 ⟨none, some 6, .boxL 6 (.c (.agg [.int .i64 0, .int .i64 0, .str [], .slice .fit 5 [], .slice .fit 6 [], .slice .fit 6 []]))⟩,
 ⟨none, none, .store (.box 6) 6 (.t 6) (.t 22)⟩])
 (.seq
 (.region [
 ⟨none, some 24, .faddr 0 (.t 6)⟩,
 ⟨none, some 25, .load (.box 6) false 1 (.t 24)⟩,
 ⟨none, some 26, .callP false (.c (.fn 55 [] [])) [(.t 25)]⟩,
 ⟨none, some 23, .mv (.t 26)⟩,
 ⟨none, some 27, .ext (.t 23) 0⟩,
 ⟨none, some 28, .ext (.t 23) 1⟩,
 ⟨none, some 29, .ext (.t 23) 2⟩,
 ⟨none, some 30, .ext (.t 23) 3⟩,
 ⟨none, some 31, .ext (.t 23) 4⟩,
 ⟨none, some 7, .mv (.t 27)⟩,
 ⟨none, some 8, .mv (.t 28)⟩,
 ⟨none, some 9, .mv (.t 29)⟩,
 ⟨none, some 10, .mv (.t 30)⟩,
 ⟨none, some 11, .mv (.t 31)⟩])
 (.seq
 (.seq
 (.region [
 ⟨none, some 32, .mv (.t 1)⟩,
 ⟨none, some 33, .bin 0 [] .lss (.t 32) (.c (.int .i64 1))⟩,
 ⟨none, some 34, .mv (.t 33)⟩,
 ⟨some (34, false), some 35, .faddr 3 (.t 6)⟩,
 ⟨some (34, false), some 36, .load (.box 6) false 1 (.t 35)⟩,
 ⟨some (34, false), some 37, .len 1 (.t 36)⟩,
 ⟨some (34, false), some 38, .mv (.t 9)⟩,
 ⟨some (34, false), some 39, .bin 0 [] .neq (.t 37) (.t 38)⟩,
 ⟨none, some 40, .pick (.t 34) (.c (.bool true)) (.t 39)⟩,
 ⟨none, some 41, .mv (.t 40)⟩,
 ⟨some (41, false), some 42, .mv (.t 7)⟩,
 ⟨some (41, false), some 43, .faddr 1 (.t 6)⟩,
 ⟨some (41, false), some 44, .load (.box 6) false 1 (.t 43)⟩,
 ⟨some (41, false), some 45, .bin 0 [] .eql (.t 44) (.c (.int .i64 1))⟩,
 ⟨some (41, false), some 46, .mv (.t 45)⟩,
 ⟨some (46, false), some 47, .faddr 1 (.t 6)⟩,
 ⟨some (46, false), some 48, .load (.box 6) false 1 (.t 47)⟩,
 ⟨some (46, false), some 49, .bin 0 [] .eql (.t 48) (.c (.int .i64 2))⟩,
 ⟨some (41, false), some 50, .pick (.t 46) (.c (.bool true)) (.t 49)⟩,
 ⟨some (41, false), some 51, .bin 1 [] .neq (.t 42) (.t 50)⟩,
 ⟨none, some 52, .pick (.t 41) (.c (.bool true)) (.t 51)⟩,
 ⟨none, some 53, .mv (.t 52)⟩,
 ⟨some (53, false), some 54, .mv (.t 7)⟩,
 ⟨some (53, false), some 55, .un .not (.t 54)⟩,
 ⟨some (53, false), some 56, .mv (.t 55)⟩,
 ⟨some (56, true), some 57, .faddr 1 (.t 6)⟩,
 ⟨some (56, true), some 58, .load (.box 6) false 1 (.t 57)⟩,
 ⟨some (56, true), some 59, .bin 0 [] .neq (.t 58) (.c (.int .i64 0))⟩,
 ⟨some (53, false), some 60, .pick (.t 56) (.t 59) (.c (.bool false))⟩,
 ⟨none, some 61, .pick (.t 53) (.c (.bool true)) (.t 60)⟩,
 ⟨none, some 62, .mv (.t 61)⟩,
 ⟨some (62, false), some 63, .mv (.t 8)⟩,
 ⟨some (62, false), some 64, .faddr 2 (.t 6)⟩,
 ⟨some (62, false), some 65, .load (.box 6) false 1 (.t 64)⟩,
 ⟨some (62, false), some 66, .callP false (.c (.fn 31 [] [])) [(.t 65)]⟩,
 ⟨some (62, false), some 67, .bin 1 [] .neq (.t 63) (.t 66)⟩,
 ⟨none, some 68, .pick (.t 62) (.c (.bool true)) (.t 67)⟩,
 ⟨none, some 69, .mv (.t 68)⟩,
 ⟨some (69, false), some 70, .mv (.t 8)⟩,
 ⟨some (69, false), some 71, .un .not (.t 70)⟩,
 ⟨some (69, false), some 72, .mv (.t 71)⟩,
 ⟨some (72, true), some 73, .faddr 2 (.t 6)⟩,
 ⟨some (72, true), some 74, .load (.box 6) false 1 (.t 73)⟩,
 ⟨some (72, true), some 75, .bin 0 [] .neq (.t 74) (.c (.str []))⟩,
 ⟨some (69, false), some 76, .pick (.t 72) (.t 75) (.c (.bool false))⟩,
 ⟨none, some 77, .pick (.t 69) (.c (.bool true)) (.t 76)⟩])
 (.cond (.t 77)
 (.seq
 (.region [
 ⟨none, some 4, .mv (.c (.bool false))⟩])
 .ret)
 .skip))
 (.seq
 (.seq
 (.region [
 ⟨none, some 12, .mv (.c (.int .i64 0))⟩])
 (.block 2
 L42_0))
 (.seq
 (.region [
 ⟨none, some 90, .faddr 0 (.t 6)⟩,
 ⟨none, some 91, .load (.box 6) false 1 (.t 90)⟩,
 ⟨none, some 92, .bin 0 [] .eql (.t 91) (.c (.int .i64 10))⟩,
 ⟨none, some 93, .mv (.t 92)⟩,
 ⟨some (93, true), some 94, .faddr 3 (.t 6)⟩,
 ⟨some (93, true), some 95, .load (.box 6) false 1 (.t 94)⟩,
 ⟨some (93, true), some 96, .iaddr 5 (.t 95) (.c (.int .i64 0))⟩,
 ⟨some (93, true), some 97, .faddr 0 (.t 96)⟩,
 ⟨some (93, true), some 98, .load .any false 1 (.t 97)⟩,
 ⟨some (93, true), some 99, .bin 0 [] .neq (.t 98) (.c (.int .i64 7))⟩,
 ⟨none, some 100, .pick (.t 93) (.t 99) (.c (.bool false))⟩,
 ⟨none, some 101, .mv (.t 100)⟩,
 ⟨some (101, false), some 102, .mv (.t 10)⟩,
 ⟨some (101, false), some 103, .un .not (.t 102)⟩,
 ⟨some (101, false), some 104, .mv (.t 103)⟩,
 ⟨some (104, true), some 105, .faddr 4 (.t 6)⟩,
 ⟨some (104, true), some 106, .load (.box 6) false 1 (.t 105)⟩,
 ⟨some (104, true), some 107, .len 1 (.t 106)⟩,
 ⟨some (104, true), some 108, .bin 0 [] .gtr (.t 107) (.c (.int .i64 0))⟩,
 ⟨some (101, false), some 109, .pick (.t 104) (.t 108) (.c (.bool false))⟩,
 ⟨none, some 110, .pick (.t 101) (.c (.bool true)) (.t 109)⟩,
 ⟨none, some 111, .mv (.t 110)⟩,
 ⟨some (111, false), some 112, .mv (.t 11)⟩,
 ⟨some (111, false), some 113, .un .not (.t 112)⟩,
 ⟨some (111, false), some 114, .mv (.t 113)⟩,
 ⟨some (114, true), some 115, .faddr 5 (.t 6)⟩,
 ⟨some (114, true), some 116, .load (.box 6) false 1 (.t 115)⟩,
 ⟨some (114, true), some 117, .len 1 (.t 116)⟩,
 ⟨some (114, true), some 118, .bin 0 [] .gtr (.t 117) (.c (.int .i64 0))⟩,
 ⟨some (111, false), some 119, .pick (.t 114) (.t 118) (.c (.bool false))⟩,
 ⟨none, some 120, .pick (.t 111) (.c (.bool true)) (.t 119)⟩,
 ⟨none, some 121, .mv (.t 120)⟩,
 ⟨some (121, false), some 122, .faddr 4 (.t 6)⟩,
 ⟨some (121, false), some 123, .load (.box 6) false 1 (.t 122)⟩,
 ⟨some (121, false), some 124, .mv (.t 1)⟩,
 ⟨some (121, false), some 125, .bin 0 [] .sub (.t 124) (.c (.int .i64 1))⟩,
 ⟨some (121, false), some 126, .callP false (.c (.fn 42 [] [])) [(.t 123), (.t 125)]⟩,
 ⟨some (121, false), some 127, .un .not (.t 126)⟩,
 ⟨none, some 128, .pick (.t 121) (.c (.bool true)) (.t 127)⟩,
 ⟨none, some 129, .mv (.t 128)⟩,
 ⟨some (129, false), some 130, .faddr 5 (.t 6)⟩,
 ⟨some (129, false), some 131, .load (.box 6) false 1 (.t 130)⟩,
 ⟨some (129, false), some 132, .mv (.t 1)⟩,
 ⟨some (129, false), some 133, .bin 0 [] .sub (.t 132) (.c (.int .i64 1))⟩,
 ⟨some (129, false), some 134, .callP false (.c (.fn 42 [] [])) [(.t 131), (.t 133)]⟩,
 ⟨some (129, false), some 135, .un .not (.t 134)⟩,
 ⟨none, some 136, .pick (.t 129) (.c (.bool true)) (.t 135)⟩])
 (.cond (.t 136)
 (.seq
 (.region [
 ⟨none, some 4, .mv (.c (.bool false))⟩])
 .ret)
 .skip)))))))
 (.region [
 ⟨none, some 17, .mv (.t 5)⟩,
 ⟨none, some 18, .bin 0 [] .add (.t 17) (.c (.int .i64 1))⟩,
 ⟨none, some 5, .mv (.t 18)⟩])))
abbrev K42_0 : List Nat := [0, 1, 5, 6, 9, 10, 11]
abbrev B42_0 : List Nat := [6]
abbrev K42_1 : List Nat := [0, 1]
abbrev B42_1 : List Nat := []
/-- boxhedge/boxhedgeref03.stmts -/
def F42 : IFn where
  ntmps := 137
  nargs := 2
  res := [.tmp 4]
  freeze := false
  body :=
 (.seq
 (.region [
 ⟨none, some 4, .mv (.c (.bool false))⟩])
 (.seq
 (.seq
 (.region [
 ⟨none, some 5, .mv (.c (.int .i64 0))⟩])
 (.block 0
 L42_1))
 (.seq
 (.region [
 ⟨none, some 4, .mv (.c (.bool true))⟩])
 .ret)))

def L14_0 : ICode := .loop [1, 3] []
 (.seq
 (.seq
 (.region [
 ⟨none, some 7, .mv (.t 3)⟩,
 ⟨none, some 8, .faddr 0 (.t 1)⟩,
 ⟨none, some 9, .load (.box 1) false 1 (.t 8)⟩,
 ⟨none, some 10, .len 1 (.t 9)⟩,
 ⟨none, some 11, .bin 0 [] .lss (.t 7) (.t 10)⟩])
 (.cond (.t 11)
 .skip
 (.exit 0)))
 (.seq
 (.block 1
 (.seq
 (.region [
 ⟨none, some 14, .faddr 0 (.t 1)⟩,
 ⟨none, some 15, .load (.box 1) false 1 (.t 14)⟩,
 ⟨none, some 16, .mv (.t 3)⟩,
 ⟨none, some 17, .iaddr 2 (.t 15) (.t 16)⟩,
 ⟨none, some 18, .faddr 0 (.t 17)⟩,
 ⟨none, some 19, .load .any false 1 (.t 18)⟩,
 ⟨none, some 20, .callP false (.c (.fn 31 [] [])) [(.t 19)]⟩,
 ⟨none, some 21, .un .not (.t 20)⟩,
 ⟨none, some 22, .mv (.t 21)⟩,
 ⟨some (22, false), some 23, .faddr 0 (.t 1)⟩,
 ⟨some (22, false), some 24, .load (.box 1) false 1 (.t 23)⟩,
 ⟨some (22, false), some 25, .mv (.t 3)⟩,
 ⟨some (22, false), some 26, .iaddr 2 (.t 24) (.t 25)⟩,
 ⟨some (22, false), some 27, .faddr 1 (.t 26)⟩,
 ⟨some (22, false), some 28, .load .any false 1 (.t 27)⟩,
 ⟨some (22, false), some 29, .bin 0 [] .lss (.t 28) (.c (.int .i64 1))⟩,
 ⟨none, some 30, .pick (.t 22) (.c (.bool true)) (.t 29)⟩,
 ⟨none, some 31, .mv (.t 30)⟩,
 ⟨some (31, false), some 32, .faddr 0 (.t 1)⟩,
 ⟨some (31, false), some 33, .load (.box 1) false 1 (.t 32)⟩,
 ⟨some (31, false), some 34, .mv (.t 3)⟩,
 ⟨some (31, false), some 35, .iaddr 2 (.t 33) (.t 34)⟩,
 ⟨some (31, false), some 36, .faddr 1 (.t 35)⟩,
 ⟨some (31, false), some 37, .load .any false 1 (.t 36)⟩,
 ⟨some (31, false), some 38, .bin 0 [] .gtr (.t 37) (.c (.int .i64 1000))⟩,
 ⟨none, some 39, .pick (.t 31) (.c (.bool true)) (.t 38)⟩])
 (.cond (.t 39)
 (.seq
 (.region [
 ⟨none, some 2, .mv (.c (.bool false))⟩])
 .ret)
 .skip)))
 (.region [
 ⟨none, some 12, .mv (.t 3)⟩,
 ⟨none, some 13, .bin 0 [] .add (.t 12) (.c (.int .i64 1))⟩,
 ⟨none, some 3, .mv (.t 13)⟩])))
def L14_1 : ICode := .loop [1, 4, 5, 6] []
 (.seq
 (.seq
 (.region [
 ⟨none, some 74, .mv (.t 6)⟩,
 ⟨none, some 75, .faddr 2 (.t 5)⟩,
 ⟨none, some 76, .load (.box 5) false 1 (.t 75)⟩,
 ⟨none, some 77, .len 1 (.t 76)⟩,
 ⟨none, some 78, .bin 0 [] .lss (.t 74) (.t 77)⟩])
 (.cond (.t 78)
 .skip
 (.exit 4)))
 (.seq
 (.block 5
 (.seq
 (.region [
 ⟨none, some 81, .faddr 2 (.t 5)⟩,
 ⟨none, some 82, .load (.box 5) false 1 (.t 81)⟩,
 ⟨none, some 83, .mv (.t 6)⟩,
 ⟨none, some 84, .iaddr 2 (.t 82) (.t 83)⟩,
 ⟨none, some 85, .faddr 0 (.t 84)⟩,
 ⟨none, some 86, .load .any false 1 (.t 85)⟩,
 ⟨none, some 87, .callP false (.c (.fn 31 [] [])) [(.t 86)]⟩,
 ⟨none, some 88, .un .not (.t 87)⟩,
 ⟨none, some 89, .mv (.t 88)⟩,
 ⟨some (89, false), some 90, .faddr 2 (.t 5)⟩,
 ⟨some (89, false), some 91, .load (.box 5) false 1 (.t 90)⟩,
 ⟨some (89, false), some 92, .mv (.t 6)⟩,
 ⟨some (89, false), some 93, .iaddr 2 (.t 91) (.t 92)⟩,
 ⟨some (89, false), some 94, .faddr 1 (.t 93)⟩,
 ⟨some (89, false), some 95, .load .any false 1 (.t 94)⟩,
 ⟨some (89, false), some 96, .callP false (.c (.fn 41 [] [])) [(.t 95)]⟩,
 ⟨some (89, false), some 97, .un .not (.t 96)⟩,
 ⟨none, some 98, .pick (.t 89) (.c (.bool true)) (.t 97)⟩])
 (.cond (.t 98)
 (.seq
 (.region [
 ⟨none, some 2, .mv (.c (.bool false))⟩])
 .ret)
 .skip)))
 (.region [
 ⟨none, some 79, .mv (.t 6)⟩,
 ⟨none, some 80, .bin 0 [] .add (.t 79) (.c (.int .i64 1))⟩,
 ⟨none, some 6, .mv (.t 80)⟩])))
def L14_2 : ICode := .loop [1, 4] [5]
 (.seq
 (.seq
 (.region [
 ⟨none, some 40, .mv (.t 4)⟩,
 ⟨none, some 41, .faddr 1 (.t 1)⟩,
 ⟨none, some 42, .load (.box 1) false 1 (.t 41)⟩,
 ⟨none, some 43, .len 1 (.t 42)⟩,
 ⟨none, some 44, .bin 0 [] .lss (.t 40) (.t 43)⟩])
 (.cond (.t 44)
 .skip
 (.exit 2)))
 (.seq
 (.block 3
 (.seq
 (.region [
 ⟨none, some 47, .faddr 1 (.t 1)⟩,
 ⟨none, some 48, .load (.box 1) false 1 (.t 47)⟩,
 ⟨none, some 49, .mv (.t 4)⟩,
 ⟨none, some 50, .iaddr 4 (.t 48) (.t 49)⟩,
 ⟨none, some 51, .load .any true 4 (.t 50)⟩,
 ⟨none, some 5, .boxL 5 (.c (.agg [.str [], .int .i64 0, .slice .fit 2 [], .slice .fit 6 []]))⟩,
 ⟨none, none, .store (.box 5) 4 (.t 5) (.t 51)⟩])
 (.seq
 (.seq
 (.region [
 ⟨none, some 52, .faddr 0 (.t 5)⟩,
 ⟨none, some 53, .load (.box 5) false 1 (.t 52)⟩,
 ⟨none, some 54, .callP false (.c (.fn 31 [] [])) [(.t 53)]⟩,
 ⟨none, some 55, .un .not (.t 54)⟩,
 ⟨none, some 56, .mv (.t 55)⟩,
 ⟨some (56, false), some 57, .faddr 1 (.t 5)⟩,
 ⟨some (56, false), some 58, .load (.box 5) false 1 (.t 57)⟩,
 ⟨some (56, false), some 59, .callP false (.c (.fn 41 [] [])) [(.t 58)]⟩,
 ⟨some (56, false), some 60, .un .not (.t 59)⟩,
 ⟨none, some 61, .pick (.t 56) (.c (.bool true)) (.t 60)⟩,
 ⟨none, some 62, .mv (.t 61)⟩,
 ⟨some (62, false), some 63, .faddr 2 (.t 5)⟩,
 ⟨some (62, false), some 64, .load (.box 5) false 1 (.t 63)⟩,
 ⟨some (62, false), some 65, .len 1 (.t 64)⟩,
 ⟨some (62, false), some 66, .bin 0 [] .gtr (.t 65) (.c (.int .i64 8))⟩,
 ⟨none, some 67, .pick (.t 62) (.c (.bool true)) (.t 66)⟩,
 ⟨none, some 68, .mv (.t 67)⟩,
 ⟨some (68, false), some 69, .faddr 3 (.t 5)⟩,
 ⟨some (68, false), some 70, .load (.box 5) false 1 (.t 69)⟩,
 ⟨some (68, false), some 71, .callP false (.c (.fn 42 [] [])) [(.t 70), (.c (.int .i64 100))]⟩,
 ⟨some (68, false), some 72, .un .not (.t 71)⟩,
 ⟨none, some 73, .pick (.t 68) (.c (.bool true)) (.t 72)⟩])
 (.cond (.t 73)
 (.seq
 (.region [
 ⟨none, some 2, .mv (.c (.bool false))⟩])
 .ret)
 .skip))
 (.seq
 (.region [
 ⟨none, some 6, .mv (.c (.int .i64 0))⟩])
 (.block 4
 L14_1)))))
 (.region [
 ⟨none, some 45, .mv (.t 4)⟩,
 ⟨none, some 46, .bin 0 [] .add (.t 45) (.c (.int .i64 1))⟩,
 ⟨none, some 4, .mv (.t 46)⟩])))
abbrev K14_0 : List Nat := [1]
abbrev B14_0 : List Nat := [1]
abbrev K14_1 : List Nat := [1, 4, 5]
abbrev B14_1 : List Nat := [1, 5]
abbrev K14_2 : List Nat := [1]
abbrev B14_2 : List Nat := [1]
/-- boxhedge/boxhedgeref03.Right -/
def F14 : IFn where
  ntmps := 99
  nargs := 1
  res := [.tmp 2]
  freeze := false
  body :=
 (.seq
 (.region [
 ⟨none, some 1, .boxL 1 (.t 0)⟩,
 ⟨none, some 2, .mv (.c (.bool false))⟩])
 (.seq
 (.seq
 (.region [
 ⟨none, some 3, .mv (.c (.int .i64 0))⟩])
 (.block 0
 L14_0))
 (.seq
 (.seq
 (.region [
 ⟨none, some 4, .mv (.c (.int .i64 0))⟩])
 (.block 2
 L14_2))
 (.seq
 (.region [
 ⟨none, some 2, .mv (.c (.bool true))⟩])
 .ret))))

/-- boxhedge/boxhedgeref04.Parse -/
def F6 : IFn where
  ntmps := 60
  nargs := 1
  res := [.cell 2 true 2, .tmp 3, .tmp 4]
  freeze := true
  body :=
 (.seq
 (.region [
 ⟨none, some 2, .boxL 2 (.c (.agg [.slice .fit 2 [], .slice .fit 4 []]))⟩,
 ⟨none, some 3, .mv (.c (.int .i64 0))⟩,
 ⟨none, some 4, .mv (.c (.int .i64 0))⟩])
 (.seq
 (.region [
 ⟨none, some 11, .mv (.t 0)⟩,
 ⟨none, some 12, .callP false (.c (.fn 12 [] [])) [(.t 11)]⟩,
 ⟨none, some 10, .mv (.t 12)⟩,
 ⟨none, some 13, .ext (.t 10) 0⟩,
 ⟨none, some 14, .ext (.t 10) 1⟩,
 ⟨none, some 15, .ext (.t 10) 2⟩,
 ⟨none, some 5, .take 13⟩,
 ⟨none, some 6, .mv (.t 14)⟩,
 ⟨none, some 7, .mv (.t 15)⟩])
 (.seq
 (.seq
 (.region [
 ⟨none, some 16, .mv (.t 6)⟩,
 ⟨none, some 17, .bin 0 [] .neq (.t 16) (.c (.int .i64 0))⟩])
 (.cond (.t 17)
 (.seq
 (.region [
 ⟨none, some 18, .build [.slice .fit 2 [], .slice .fit 4 []] []⟩,
 ⟨none, some 19, .mv (.t 6)⟩,
 ⟨none, some 20, .mv (.t 7)⟩,
 ⟨none, none, .store (.box 2) 2 (.t 2) (.t 18)⟩,
 ⟨none, some 3, .mv (.t 19)⟩,
 ⟨none, some 4, .mv (.t 20)⟩])
 .ret)
 .skip))
 (.seq
 (.region [
 ⟨none, some 21, .mv (.t 5)⟩,
 ⟨none, some 22, .build [.slice .fit 3 [], .int .i64 0, .bool false, .bool false] [(0, 1, (.t 21))]⟩,
 ⟨none, some 23, .boxS 4 (.t 22)⟩,
 ⟨none, some 8, .mv (.t 23)⟩])
 (.seq
 (.region [
 ⟨none, some 24, .mv (.t 8)⟩,
 ⟨none, some 25, .call false (.c (.fn 13 [] [])) [(.t 24)]⟩,
 ⟨none, some 9, .boxL 9 (.c (.agg [.slice .fit 2 [], .slice .fit 4 []]))⟩,
 ⟨none, none, .store (.box 9) 2 (.t 9) (.t 25)⟩])
 (.seq
 (.block 0
 (.seq
 (.region [
 ⟨none, some 27, .mv (.t 8)⟩,
 ⟨none, some 28, .nilck (.t 27)⟩,
 ⟨none, some 29, .faddr 3 (.t 28)⟩,
 ⟨none, some 30, .load .any false 1 (.t 29)⟩,
 ⟨none, some 26, .mv (.t 30)⟩])
 (.cond (.t 26)
 (.seq
 (.region [
 ⟨none, some 31, .build [.slice .fit 2 [], .slice .fit 4 []] []⟩,
 ⟨none, some 32, .take 5⟩,
 ⟨none, some 33, .mv (.t 8)⟩,
 ⟨none, some 34, .nilck (.t 33)⟩,
 ⟨none, some 35, .faddr 1 (.t 34)⟩,
 ⟨none, some 36, .load .any false 1 (.t 35)⟩,
 ⟨none, some 37, .iaddr 3 (.t 32) (.t 36)⟩,
 ⟨none, some 38, .faddr 2 (.t 37)⟩,
 ⟨none, some 39, .load .imm false 1 (.t 38)⟩,
 ⟨none, none, .store (.box 2) 2 (.t 2) (.t 31)⟩,
 ⟨none, some 3, .mv (.c (.int .i64 2))⟩,
 ⟨none, some 4, .mv (.t 39)⟩])
 .ret)
 (.seq
 (.region [
 ⟨none, some 41, .mv (.t 8)⟩,
 ⟨none, some 42, .nilck (.t 41)⟩,
 ⟨none, some 43, .faddr 2 (.t 42)⟩,
 ⟨none, some 44, .load .any false 1 (.t 43)⟩,
 ⟨none, some 40, .mv (.t 44)⟩])
 (.cond (.t 40)
 (.seq
 (.region [
 ⟨none, some 45, .build [.slice .fit 2 [], .slice .fit 4 []] []⟩,
 ⟨none, some 46, .take 5⟩,
 ⟨none, some 47, .mv (.t 8)⟩,
 ⟨none, some 48, .nilck (.t 47)⟩,
 ⟨none, some 49, .faddr 1 (.t 48)⟩,
 ⟨none, some 50, .load .any false 1 (.t 49)⟩,
 ⟨none, some 51, .iaddr 3 (.t 46) (.t 50)⟩,
 ⟨none, some 52, .faddr 2 (.t 51)⟩,
 ⟨none, some 53, .load .imm false 1 (.t 52)⟩,
 ⟨none, none, .store (.box 2) 2 (.t 2) (.t 45)⟩,
 ⟨none, some 3, .mv (.c (.int .i64 20))⟩,
 ⟨none, some 4, .mv (.t 53)⟩])
 .ret)
 (.seq
 (.region [
 ⟨none, some 55, .load (.box 9) true 2 (.t 9)⟩,
 ⟨none, some 56, .callP false (.c (.fn 14 [] [])) [(.t 55)]⟩,
 ⟨none, some 57, .un .not (.t 56)⟩,
 ⟨none, some 54, .mv (.t 57)⟩])
 (.cond (.t 54)
 (.seq
 (.region [
 ⟨none, some 58, .build [.slice .fit 2 [], .slice .fit 4 []] []⟩,
 ⟨none, none, .store (.box 2) 2 (.t 2) (.t 58)⟩,
 ⟨none, some 3, .mv (.c (.int .i64 2))⟩,
 ⟨none, some 4, .mv (.c (.int .i64 0))⟩])
 .ret)
 .skip)))))))
 (.seq
 (.region [
 ⟨none, some 59, .load (.box 9) true 2 (.t 9)⟩,
 ⟨none, none, .store (.box 2) 2 (.t 2) (.t 59)⟩,
 ⟨none, some 3, .mv (.c (.int .i64 0))⟩,
 ⟨none, some 4, .mv (.c (.int .i64 0))⟩])
 .ret)))))))

def L51_0 : ICode := .loop [0, 1, 7, 8] []
 (.seq
 (.region [
 ⟨none, some 9, .bin 0 [] .lss (.t 8) (.t 7)⟩])
 (.seq
 (.cond (.t 9)
 .skip
 (.exit 0))
 (.seq
 (.block 1
 (.seq
 (.region [
 ⟨none, some 10, .mv (.t 8)⟩,
 ⟨none, some 5, .mv (.t 10)⟩])
 (.seq
 (.region [
 ⟨none, some 11, .mv (.t 1)⟩,
 ⟨none, some 12, .mv (.t 0)⟩,
 ⟨none, some 13, .mv (.t 5)⟩,
 ⟨none, some 14, .iaddr 6 (.t 12) (.t 13)⟩,
 ⟨none, some 15, .load .any true 6 (.t 14)⟩,
 ⟨none, some 16, .call false (.t 11) [(.t 15)]⟩])
 (.cond (.t 16)
 (.seq
 (.region [
 ⟨none, some 17, .mv (.t 5)⟩,
 ⟨none, some 4, .mv (.t 17)⟩])
 .ret)
 .skip))))
 (.region [
 ⟨none, some 18, .bin 0 [] .add (.t 8) (.c (.int .i64 1))⟩,
 ⟨none, some 8, .mv (.t 18)⟩]))))
abbrev K51_0 : List Nat := [0, 1, 7]
abbrev B51_0 : List Nat := []
/-- slices.IndexFunc[[]boxhedge/api.Stmt,boxhedge/api.Stmt] -/
def F51 : IFn where
  ntmps := 19
  nargs := 2
  res := [.tmp 4]
  freeze := false
  body :=
 (.seq
 (.region [
 ⟨none, some 4, .mv (.c (.int .i64 0))⟩])
 (.seq
 (.seq
 (.region [
 ⟨none, some 6, .mv (.t 0)⟩,
 ⟨none, some 7, .len 1 (.t 6)⟩,
 ⟨none, some 8, .mv (.c (.int .i64 0))⟩])
 (.block 0
 L51_0))
 (.seq
 (.region [
 ⟨none, some 4, .mv (.c (.int .i64 (-1)))⟩])
 .ret)))

/-- slices.ContainsFunc[[]boxhedge/api.Stmt,boxhedge/api.Stmt] -/
def F21 : IFn where
  ntmps := 9
  nargs := 2
  res := [.tmp 4]
  freeze := false
  body :=
 (.seq
 (.region [
 ⟨none, some 4, .mv (.c (.bool false))⟩])
 (.seq
 (.region [
 ⟨none, some 5, .take 0⟩,
 ⟨none, some 6, .mv (.t 1)⟩,
 ⟨none, some 7, .call false (.c (.fn 51 [] [])) [(.t 5), (.t 6)]⟩,
 ⟨none, some 8, .bin 0 [] .geq (.t 7) (.c (.int .i64 0))⟩,
 ⟨none, some 4, .mv (.t 8)⟩])
 .ret))

/-- boxhedge/types.leaves$1 -/
def F52 : IFn where
  ntmps := 21
  nargs := 1
  res := [.tmp 2]
  freeze := false
  body :=
 (.seq
 (.region [
 ⟨none, some 1, .boxL 1 (.t 0)⟩,
 ⟨none, some 2, .mv (.c (.bool false))⟩])
 (.seq
 (.region [
 ⟨none, some 3, .faddr 0 (.t 1)⟩,
 ⟨none, some 4, .load (.box 1) false 1 (.t 3)⟩,
 ⟨none, some 5, .bin 0 [] .eql (.t 4) (.c (.int .i64 6))⟩,
 ⟨none, some 6, .mv (.t 5)⟩,
 ⟨some (6, false), some 7, .faddr 0 (.t 1)⟩,
 ⟨some (6, false), some 8, .load (.box 1) false 1 (.t 7)⟩,
 ⟨some (6, false), some 9, .bin 0 [] .eql (.t 8) (.c (.int .i64 4))⟩,
 ⟨some (6, false), some 10, .mv (.t 9)⟩,
 ⟨some (10, true), some 11, .faddr 4 (.t 1)⟩,
 ⟨some (10, true), some 12, .load (.box 1) false 1 (.t 11)⟩,
 ⟨some (10, true), some 13, .callP false (.c (.fn 23 [] [])) [(.t 12)]⟩,
 ⟨some (10, true), some 14, .mv (.t 13)⟩,
 ⟨some (14, false), some 15, .faddr 5 (.t 1)⟩,
 ⟨some (14, false), some 16, .load (.box 1) false 1 (.t 15)⟩,
 ⟨some (14, false), some 17, .callP false (.c (.fn 23 [] [])) [(.t 16)]⟩,
 ⟨some (10, true), some 18, .pick (.t 14) (.c (.bool true)) (.t 17)⟩,
 ⟨some (6, false), some 19, .pick (.t 10) (.t 18) (.c (.bool false))⟩,
 ⟨none, some 20, .pick (.t 6) (.c (.bool true)) (.t 19)⟩,
 ⟨none, some 2, .mv (.t 20)⟩])
 .ret))

/-- boxhedge/types.leaves -/
def F23 : IFn where
  ntmps := 5
  nargs := 1
  res := [.tmp 2]
  freeze := false
  body :=
 (.seq
 (.region [
 ⟨none, some 2, .mv (.c (.bool false))⟩])
 (.seq
 (.region [
 ⟨none, some 3, .take 0⟩,
 ⟨none, some 4, .call false (.c (.fn 21 [] [])) [(.t 3), (.c (.fn 52 [] []))]⟩,
 ⟨none, some 2, .mv (.t 4)⟩])
 .ret))

/-- boxhedge/types.Ends$1 -/
def F22 : IFn where
  ntmps := 39
  nargs := 1
  res := [.tmp 2]
  freeze := false
  body :=
 (.seq
 (.region [
 ⟨none, some 1, .boxL 1 (.t 0)⟩,
 ⟨none, some 2, .mv (.c (.bool false))⟩])
 (.seq
 (.seq
 (.region [
 ⟨none, some 3, .faddr 0 (.t 1)⟩,
 ⟨none, some 4, .load (.box 1) false 1 (.t 3)⟩])
 (.block 0
 (.seq
 (.region [
 ⟨none, some 6, .bin 0 [] .eql (.t 4) (.c (.int .i64 8))⟩,
 ⟨none, some 5, .mv (.t 6)⟩])
 (.cond (.t 5)
 (.seq
 (.region [
 ⟨none, some 2, .mv (.c (.bool true))⟩])
 .ret)
 (.seq
 (.region [
 ⟨none, some 8, .bin 0 [] .eql (.t 4) (.c (.int .i64 4))⟩,
 ⟨none, some 7, .mv (.t 8)⟩])
 (.cond (.t 7)
 (.seq
 (.region [
 ⟨none, some 9, .faddr 4 (.t 1)⟩,
 ⟨none, some 10, .load (.box 1) false 1 (.t 9)⟩,
 ⟨none, some 11, .callP false (.c (.fn 9 [] [])) [(.t 10)]⟩,
 ⟨none, some 12, .mv (.t 11)⟩,
 ⟨some (12, true), some 13, .faddr 5 (.t 1)⟩,
 ⟨some (12, true), some 14, .load (.box 1) false 1 (.t 13)⟩,
 ⟨some (12, true), some 15, .callP false (.c (.fn 9 [] [])) [(.t 14)]⟩,
 ⟨none, some 16, .pick (.t 12) (.t 15) (.c (.bool false))⟩,
 ⟨none, some 2, .mv (.t 16)⟩])
 .ret)
 (.seq
 (.region [
 ⟨none, some 18, .bin 0 [] .eql (.t 4) (.c (.int .i64 5))⟩,
 ⟨none, some 17, .mv (.t 18)⟩])
 (.cond (.t 17)
 (.seq
 (.region [
 ⟨none, some 19, .faddr 3 (.t 1)⟩,
 ⟨none, some 20, .load (.box 1) false 1 (.t 19)⟩,
 ⟨none, some 21, .iaddr 5 (.t 20) (.c (.int .i64 0))⟩,
 ⟨none, some 22, .faddr 0 (.t 21)⟩,
 ⟨none, some 23, .load .any false 1 (.t 22)⟩,
 ⟨none, some 24, .bin 0 [] .eql (.t 23) (.c (.int .i64 2))⟩,
 ⟨none, some 25, .mv (.t 24)⟩,
 ⟨some (25, true), some 26, .faddr 3 (.t 1)⟩,
 ⟨some (25, true), some 27, .load (.box 1) false 1 (.t 26)⟩,
 ⟨some (25, true), some 28, .iaddr 5 (.t 27) (.c (.int .i64 0))⟩,
 ⟨some (25, true), some 29, .faddr 2 (.t 28)⟩,
 ⟨some (25, true), some 30, .load .any false 1 (.t 29)⟩,
 ⟨some (25, true), some 31, .bin 0 [] .eql (.t 30) (.c (.int .i64 1))⟩,
 ⟨none, some 32, .pick (.t 25) (.t 31) (.c (.bool false))⟩,
 ⟨none, some 33, .mv (.t 32)⟩,
 ⟨some (33, true), some 34, .faddr 4 (.t 1)⟩,
 ⟨some (33, true), some 35, .load (.box 1) false 1 (.t 34)⟩,
 ⟨some (33, true), some 36, .callP false (.c (.fn 23 [] [])) [(.t 35)]⟩,
 ⟨some (33, true), some 37, .un .not (.t 36)⟩,
 ⟨none, some 38, .pick (.t 33) (.t 37) (.c (.bool false))⟩,
 ⟨none, some 2, .mv (.t 38)⟩])
 .ret)
 .skip))))))))
 (.seq
 (.region [
 ⟨none, some 2, .mv (.c (.bool false))⟩])
 .ret)))

/-- boxhedge/types.Ends -/
def F9 : IFn where
  ntmps := 5
  nargs := 1
  res := [.tmp 2]
  freeze := false
  body :=
 (.seq
 (.region [
 ⟨none, some 2, .mv (.c (.bool false))⟩])
 (.seq
 (.region [
 ⟨none, some 3, .take 0⟩,
 ⟨none, some 4, .call false (.c (.fn 21 [] [])) [(.t 3), (.c (.fn 22 [] []))]⟩,
 ⟨none, some 2, .mv (.t 4)⟩])
 .ret))

/-- boxhedge/token.letter -/
def F57 : IFn where
  ntmps := 21
  nargs := 1
  res := [.tmp 2]
  freeze := false
  body :=
 (.seq
 (.region [
 ⟨none, some 2, .mv (.c (.bool false))⟩])
 (.seq
 (.region [
 ⟨none, some 3, .mv (.t 0)⟩,
 ⟨none, some 4, .bin 0 [] .geq (.t 3) (.c (.int .i32 97))⟩,
 ⟨none, some 5, .mv (.t 4)⟩,
 ⟨some (5, true), some 6, .mv (.t 0)⟩,
 ⟨some (5, true), some 7, .bin 0 [] .leq (.t 6) (.c (.int .i32 122))⟩,
 ⟨none, some 8, .pick (.t 5) (.t 7) (.c (.bool false))⟩,
 ⟨none, some 9, .mv (.t 8)⟩,
 ⟨some (9, false), some 10, .mv (.t 0)⟩,
 ⟨some (9, false), some 11, .bin 0 [] .geq (.t 10) (.c (.int .i32 65))⟩,
 ⟨some (9, false), some 12, .mv (.t 11)⟩,
 ⟨some (12, true), some 13, .mv (.t 0)⟩,
 ⟨some (12, true), some 14, .bin 0 [] .leq (.t 13) (.c (.int .i32 90))⟩,
 ⟨some (9, false), some 15, .pick (.t 12) (.t 14) (.c (.bool false))⟩,
 ⟨none, some 16, .pick (.t 9) (.c (.bool true)) (.t 15)⟩,
 ⟨none, some 17, .mv (.t 16)⟩,
 ⟨some (17, false), some 18, .mv (.t 0)⟩,
 ⟨some (17, false), some 19, .bin 0 [] .eql (.t 18) (.c (.int .i32 95))⟩,
 ⟨none, some 20, .pick (.t 17) (.c (.bool true)) (.t 19)⟩,
 ⟨none, some 2, .mv (.t 20)⟩])
 .ret))

/-- boxhedge/token.digit -/
def F71 : IFn where
  ntmps := 9
  nargs := 1
  res := [.tmp 2]
  freeze := false
  body :=
 (.seq
 (.region [
 ⟨none, some 2, .mv (.c (.bool false))⟩])
 (.seq
 (.region [
 ⟨none, some 3, .mv (.t 0)⟩,
 ⟨none, some 4, .bin 0 [] .geq (.t 3) (.c (.int .i32 48))⟩,
 ⟨none, some 5, .mv (.t 4)⟩,
 ⟨some (5, true), some 6, .mv (.t 0)⟩,
 ⟨some (5, true), some 7, .bin 0 [] .leq (.t 6) (.c (.int .i32 57))⟩,
 ⟨none, some 8, .pick (.t 5) (.t 7) (.c (.bool false))⟩,
 ⟨none, some 2, .mv (.t 8)⟩])
 .ret))

def L58_0 : ICode := .loop [0, 6] []
 (.seq
 (.region [
 ⟨none, some 7, .next 6 (.t 6)⟩,
 ⟨none, some 8, .ext (.t 7) 0⟩])
 (.seq
 (.cond (.t 8)
 .skip
 (.exit 0))
 (.block 1
 (.seq
 (.region [
 ⟨none, some 9, .ext (.t 7) 1⟩,
 ⟨none, some 10, .ext (.t 7) 2⟩,
 ⟨none, some 3, .mv (.t 9)⟩,
 ⟨none, some 4, .mv (.t 10)⟩])
 (.seq
 (.region [
 ⟨none, some 11, .mv (.t 4)⟩,
 ⟨none, some 12, .callP false (.c (.fn 57 [] [])) [(.t 11)]⟩,
 ⟨none, some 13, .un .not (.t 12)⟩,
 ⟨none, some 14, .mv (.t 13)⟩,
 ⟨some (14, true), some 15, .mv (.t 4)⟩,
 ⟨some (14, true), some 16, .callP false (.c (.fn 71 [] [])) [(.t 15)]⟩,
 ⟨some (14, true), some 17, .un .not (.t 16)⟩,
 ⟨none, some 18, .pick (.t 14) (.t 17) (.c (.bool false))⟩])
 (.cond (.t 18)
 (.seq
 (.region [
 ⟨none, some 19, .mv (.t 0)⟩,
 ⟨none, some 20, .mv (.t 3)⟩,
 ⟨none, some 21, .slc true 0 (.t 19) none (some (.t 20)) none⟩,
 ⟨none, some 2, .mv (.t 21)⟩])
 .ret)
 .skip))))))
abbrev K58_0 : List Nat := [0, 6]
abbrev B58_0 : List Nat := []
/-- boxhedge/token.run -/
def F58 : IFn where
  ntmps := 23
  nargs := 1
  res := [.tmp 2]
  freeze := false
  body :=
 (.seq
 (.region [
 ⟨none, some 2, .mv (.c (.str []))⟩])
 (.seq
 (.seq
 (.region [
 ⟨none, some 5, .mv (.t 0)⟩,
 ⟨none, some 6, .rng 6 (.t 5)⟩])
 (.block 0
 L58_0))
 (.seq
 (.region [
 ⟨none, some 22, .mv (.t 0)⟩,
 ⟨none, some 2, .mv (.t 22)⟩])
 .ret)))

/-- boxhedge/token.Word -/
def F59 : IFn where
  ntmps := 23
  nargs := 1
  res := [.tmp 2]
  freeze := false
  body :=
 (.seq
 (.region [
 ⟨none, some 2, .mv (.c (.bool false))⟩])
 (.seq
 (.seq
 (.region [
 ⟨none, some 3, .mv (.t 0)⟩])
 (.block 0
 (.seq
 (.seq
 (.region [
 ⟨none, some 5, .bin 0 [] .eql (.t 3) (.c (.str [105, 110, 116]))⟩,
 ⟨none, some 4, .mv (.t 5)⟩])
 (.cond (.t 4)
 .skip
 (.seq
 (.region [
 ⟨none, some 6, .bin 0 [] .eql (.t 3) (.c (.str [98, 111, 111, 108]))⟩,
 ⟨none, some 4, .mv (.t 6)⟩])
 (.cond (.t 4)
 .skip
 (.seq
 (.region [
 ⟨none, some 7, .bin 0 [] .eql (.t 3) (.c (.str [105, 102]))⟩,
 ⟨none, some 4, .mv (.t 7)⟩])
 (.cond (.t 4)
 .skip
 (.seq
 (.region [
 ⟨none, some 8, .bin 0 [] .eql (.t 3) (.c (.str [101, 108, 115, 101]))⟩,
 ⟨none, some 4, .mv (.t 8)⟩])
 (.cond (.t 4)
 .skip
 (.seq
 (.region [
 ⟨none, some 9, .bin 0 [] .eql (.t 3) (.c (.str [119, 104, 105, 108, 101]))⟩,
 ⟨none, some 4, .mv (.t 9)⟩])
 (.cond (.t 4)
 .skip
 (.seq
 (.region [
 ⟨none, some 10, .bin 0 [] .eql (.t 3) (.c (.str [98, 114, 101, 97, 107]))⟩,
 ⟨none, some 4, .mv (.t 10)⟩])
 (.cond (.t 4)
 .skip
 (.seq
 (.region [
 ⟨none, some 11, .bin 0 [] .eql (.t 3) (.c (.str [99, 111, 110, 116, 105, 110, 117, 101]))⟩,
 ⟨none, some 4, .mv (.t 11)⟩])
 (.cond (.t 4)
 .skip
 (.seq
 (.region [
 ⟨none, some 12, .bin 0 [] .eql (.t 3) (.c (.str [114, 101, 116, 117, 114, 110]))⟩,
 ⟨none, some 4, .mv (.t 12)⟩])
 (.cond (.t 4)
 .skip
 (.seq
 (.region [
 ⟨none, some 13, .bin 0 [] .eql (.t 3) (.c (.str [112, 114, 105, 110, 116]))⟩,
 ⟨none, some 4, .mv (.t 13)⟩])
 (.cond (.t 4)
 .skip
 (.seq
 (.region [
 ⟨none, some 14, .bin 0 [] .eql (.t 3) (.c (.str [114, 101, 97, 100]))⟩,
 ⟨none, some 4, .mv (.t 14)⟩])
 (.cond (.t 4)
 .skip
 (.seq
 (.region [
 ⟨none, some 15, .bin 0 [] .eql (.t 3) (.c (.str [116, 114, 117, 101]))⟩,
 ⟨none, some 4, .mv (.t 15)⟩])
 (.cond (.t 4)
 .skip
 (.seq
 (.region [
 ⟨none, some 16, .bin 0 [] .eql (.t 3) (.c (.str [102, 97, 108, 115, 101]))⟩,
 ⟨none, some 4, .mv (.t 16)⟩])
 (.cond (.t 4)
 .skip
 (.seq
 (.region [
 ⟨none, some 17, .bin 0 [] .eql (.t 3) (.c (.str [105, 56]))⟩,
 ⟨none, some 4, .mv (.t 17)⟩])
 (.cond (.t 4)
 .skip
 (.seq
 (.region [
 ⟨none, some 18, .bin 0 [] .eql (.t 3) (.c (.str [105, 49, 54]))⟩,
 ⟨none, some 4, .mv (.t 18)⟩])
 (.cond (.t 4)
 .skip
 (.seq
 (.region [
 ⟨none, some 19, .bin 0 [] .eql (.t 3) (.c (.str [105, 51, 50]))⟩,
 ⟨none, some 4, .mv (.t 19)⟩])
 (.cond (.t 4)
 .skip
 (.seq
 (.region [
 ⟨none, some 20, .bin 0 [] .eql (.t 3) (.c (.str [117, 56]))⟩,
 ⟨none, some 4, .mv (.t 20)⟩])
 (.cond (.t 4)
 .skip
 (.seq
 (.region [
 ⟨none, some 21, .bin 0 [] .eql (.t 3) (.c (.str [117, 49, 54]))⟩,
 ⟨none, some 4, .mv (.t 21)⟩])
 (.cond (.t 4)
 .skip
 (.region [
 ⟨none, some 22, .bin 0 [] .eql (.t 3) (.c (.str [117, 51, 50]))⟩,
 ⟨none, some 4, .mv (.t 22)⟩])))))))))))))))))))))))))))))))))))
 (.cond (.t 4)
 (.seq
 (.region [
 ⟨none, some 2, .mv (.c (.bool true))⟩])
 .ret)
 .skip))))
 (.seq
 (.region [
 ⟨none, some 2, .mv (.c (.bool false))⟩])
 .ret)))

/-- boxhedge/token.Name -/
def F44 : IFn where
  ntmps := 27
  nargs := 1
  res := [.tmp 2]
  freeze := false
  body :=
 (.seq
 (.region [
 ⟨none, some 2, .mv (.c (.bool false))⟩])
 (.seq
 (.region [
 ⟨none, some 3, .mv (.t 0)⟩,
 ⟨none, some 4, .bin 0 [] .neq (.t 3) (.c (.str []))⟩,
 ⟨none, some 5, .mv (.t 4)⟩,
 ⟨some (5, true), some 6, .mv (.t 0)⟩,
 ⟨some (5, true), some 7, .idxS (.t 6) (.c (.int .i64 0))⟩,
 ⟨some (5, true), some 8, .conv .i32 (.t 7)⟩,
 ⟨some (5, true), some 9, .callP false (.c (.fn 57 [] [])) [(.t 8)]⟩,
 ⟨none, some 10, .pick (.t 5) (.t 9) (.c (.bool false))⟩,
 ⟨none, some 11, .mv (.t 10)⟩,
 ⟨some (11, true), some 12, .mv (.t 0)⟩,
 ⟨some (11, true), some 13, .callP false (.c (.fn 58 [] [])) [(.t 12)]⟩,
 ⟨some (11, true), some 14, .mv (.t 0)⟩,
 ⟨some (11, true), some 15, .bin 0 [] .eql (.t 13) (.t 14)⟩,
 ⟨none, some 16, .pick (.t 11) (.t 15) (.c (.bool false))⟩,
 ⟨none, some 17, .mv (.t 16)⟩,
 ⟨some (17, true), some 18, .mv (.t 0)⟩,
 ⟨some (17, true), some 19, .len 0 (.t 18)⟩,
 ⟨some (17, true), some 20, .bin 0 [] .leq (.t 19) (.c (.int .i64 20))⟩,
 ⟨none, some 21, .pick (.t 17) (.t 20) (.c (.bool false))⟩,
 ⟨none, some 22, .mv (.t 21)⟩,
 ⟨some (22, true), some 23, .mv (.t 0)⟩,
 ⟨some (22, true), some 24, .callP false (.c (.fn 59 [] [])) [(.t 23)]⟩,
 ⟨some (22, true), some 25, .un .not (.t 24)⟩,
 ⟨none, some 26, .pick (.t 22) (.t 25) (.c (.bool false))⟩,
 ⟨none, some 2, .mv (.t 26)⟩])
 .ret))

/-- boxhedge/tree.Right$1 -/
def F43 : IFn where
  ntmps := 17
  nargs := 1
  res := [.tmp 2]
  freeze := false
  body :=
 (.seq
 (.region [
 ⟨none, some 1, .boxL 1 (.t 0)⟩,
 ⟨none, some 2, .mv (.c (.bool false))⟩])
 (.seq
 (.region [
 ⟨none, some 3, .faddr 0 (.t 1)⟩,
 ⟨none, some 4, .load (.box 1) false 1 (.t 3)⟩,
 ⟨none, some 5, .callP false (.c (.fn 44 [] [])) [(.t 4)]⟩,
 ⟨none, some 6, .un .not (.t 5)⟩,
 ⟨none, some 7, .mv (.t 6)⟩,
 ⟨some (7, false), some 8, .faddr 1 (.t 1)⟩,
 ⟨some (7, false), some 9, .load (.box 1) false 1 (.t 8)⟩,
 ⟨some (7, false), some 10, .bin 0 [] .lss (.t 9) (.c (.int .i64 1))⟩,
 ⟨none, some 11, .pick (.t 7) (.c (.bool true)) (.t 10)⟩,
 ⟨none, some 12, .mv (.t 11)⟩,
 ⟨some (12, false), some 13, .faddr 1 (.t 1)⟩,
 ⟨some (12, false), some 14, .load (.box 1) false 1 (.t 13)⟩,
 ⟨some (12, false), some 15, .bin 0 [] .gtr (.t 14) (.c (.int .i64 1000))⟩,
 ⟨none, some 16, .pick (.t 12) (.c (.bool true)) (.t 15)⟩,
 ⟨none, some 2, .mv (.t 16)⟩])
 .ret))

def L26_0 : ICode := .loop [0, 1, 7, 8] []
 (.seq
 (.region [
 ⟨none, some 9, .bin 0 [] .lss (.t 8) (.t 7)⟩])
 (.seq
 (.cond (.t 9)
 .skip
 (.exit 0))
 (.seq
 (.block 1
 (.seq
 (.region [
 ⟨none, some 10, .mv (.t 8)⟩,
 ⟨none, some 5, .mv (.t 10)⟩])
 (.seq
 (.region [
 ⟨none, some 11, .mv (.t 1)⟩,
 ⟨none, some 12, .mv (.t 0)⟩,
 ⟨none, some 13, .mv (.t 5)⟩,
 ⟨none, some 14, .iaddr 2 (.t 12) (.t 13)⟩,
 ⟨none, some 15, .load .any true 2 (.t 14)⟩,
 ⟨none, some 16, .call false (.t 11) [(.t 15)]⟩])
 (.cond (.t 16)
 (.seq
 (.region [
 ⟨none, some 17, .mv (.t 5)⟩,
 ⟨none, some 4, .mv (.t 17)⟩])
 .ret)
 .skip))))
 (.region [
 ⟨none, some 18, .bin 0 [] .add (.t 8) (.c (.int .i64 1))⟩,
 ⟨none, some 8, .mv (.t 18)⟩]))))
abbrev K26_0 : List Nat := [0, 1, 7]
abbrev B26_0 : List Nat := []
/-- slices.IndexFunc[[]boxhedge/api.Array,boxhedge/api.Array] -/
def F26 : IFn where
  ntmps := 19
  nargs := 2
  res := [.tmp 4]
  freeze := false
  body :=
 (.seq
 (.region [
 ⟨none, some 4, .mv (.c (.int .i64 0))⟩])
 (.seq
 (.seq
 (.region [
 ⟨none, some 6, .mv (.t 0)⟩,
 ⟨none, some 7, .len 1 (.t 6)⟩,
 ⟨none, some 8, .mv (.c (.int .i64 0))⟩])
 (.block 0
 L26_0))
 (.seq
 (.region [
 ⟨none, some 4, .mv (.c (.int .i64 (-1)))⟩])
 .ret)))

/-- slices.ContainsFunc[[]boxhedge/api.Array,boxhedge/api.Array] -/
def F45 : IFn where
  ntmps := 9
  nargs := 2
  res := [.tmp 4]
  freeze := false
  body :=
 (.seq
 (.region [
 ⟨none, some 4, .mv (.c (.bool false))⟩])
 (.seq
 (.region [
 ⟨none, some 5, .take 0⟩,
 ⟨none, some 6, .mv (.t 1)⟩,
 ⟨none, some 7, .call false (.c (.fn 26 [] [])) [(.t 5), (.t 6)]⟩,
 ⟨none, some 8, .bin 0 [] .geq (.t 7) (.c (.int .i64 0))⟩,
 ⟨none, some 4, .mv (.t 8)⟩])
 .ret))

def L24_0 : ICode := .loop [0, 1, 7, 8] []
 (.seq
 (.region [
 ⟨none, some 9, .bin 0 [] .lss (.t 8) (.t 7)⟩])
 (.seq
 (.cond (.t 9)
 .skip
 (.exit 0))
 (.seq
 (.block 1
 (.seq
 (.region [
 ⟨none, some 10, .mv (.t 8)⟩,
 ⟨none, some 5, .mv (.t 10)⟩])
 (.seq
 (.region [
 ⟨none, some 11, .mv (.t 1)⟩,
 ⟨none, some 12, .mv (.t 0)⟩,
 ⟨none, some 13, .mv (.t 5)⟩,
 ⟨none, some 14, .iaddr 4 (.t 12) (.t 13)⟩,
 ⟨none, some 15, .load .any true 4 (.t 14)⟩,
 ⟨none, some 16, .call false (.t 11) [(.t 15)]⟩])
 (.cond (.t 16)
 (.seq
 (.region [
 ⟨none, some 17, .mv (.t 5)⟩,
 ⟨none, some 4, .mv (.t 17)⟩])
 .ret)
 .skip))))
 (.region [
 ⟨none, some 18, .bin 0 [] .add (.t 8) (.c (.int .i64 1))⟩,
 ⟨none, some 8, .mv (.t 18)⟩]))))
abbrev K24_0 : List Nat := [0, 1, 7]
abbrev B24_0 : List Nat := []
/-- slices.IndexFunc[[]boxhedge/api.Func,boxhedge/api.Func] -/
def F24 : IFn where
  ntmps := 19
  nargs := 2
  res := [.tmp 4]
  freeze := false
  body :=
 (.seq
 (.region [
 ⟨none, some 4, .mv (.c (.int .i64 0))⟩])
 (.seq
 (.seq
 (.region [
 ⟨none, some 6, .mv (.t 0)⟩,
 ⟨none, some 7, .len 1 (.t 6)⟩,
 ⟨none, some 8, .mv (.c (.int .i64 0))⟩])
 (.block 0
 L24_0))
 (.seq
 (.region [
 ⟨none, some 4, .mv (.c (.int .i64 (-1)))⟩])
 .ret)))

/-- slices.ContainsFunc[[]boxhedge/api.Func,boxhedge/api.Func] -/
def F46 : IFn where
  ntmps := 9
  nargs := 2
  res := [.tmp 4]
  freeze := false
  body :=
 (.seq
 (.region [
 ⟨none, some 4, .mv (.c (.bool false))⟩])
 (.seq
 (.region [
 ⟨none, some 5, .take 0⟩,
 ⟨none, some 6, .mv (.t 1)⟩,
 ⟨none, some 7, .call false (.c (.fn 24 [] [])) [(.t 5), (.t 6)]⟩,
 ⟨none, some 8, .bin 0 [] .geq (.t 7) (.c (.int .i64 0))⟩,
 ⟨none, some 4, .mv (.t 8)⟩])
 .ret))

/-- boxhedge/tree.isType -/
def F61 : IFn where
  ntmps := 9
  nargs := 1
  res := [.tmp 2]
  freeze := false
  body :=
 (.seq
 (.region [
 ⟨none, some 2, .mv (.c (.bool false))⟩])
 (.seq
 (.region [
 ⟨none, some 3, .mv (.t 0)⟩,
 ⟨none, some 4, .bin 0 [] .eql (.t 3) (.c (.int .i64 1))⟩,
 ⟨none, some 5, .mv (.t 4)⟩,
 ⟨some (5, false), some 6, .mv (.t 0)⟩,
 ⟨some (5, false), some 7, .bin 0 [] .eql (.t 6) (.c (.int .i64 2))⟩,
 ⟨none, some 8, .pick (.t 5) (.c (.bool true)) (.t 7)⟩,
 ⟨none, some 2, .mv (.t 8)⟩])
 .ret))

/-- boxhedge/tree.function$1 -/
def F60 : IFn where
  ntmps := 13
  nargs := 1
  res := [.tmp 2]
  freeze := false
  body :=
 (.seq
 (.region [
 ⟨none, some 1, .boxL 1 (.t 0)⟩,
 ⟨none, some 2, .mv (.c (.bool false))⟩])
 (.seq
 (.region [
 ⟨none, some 3, .faddr 0 (.t 1)⟩,
 ⟨none, some 4, .load (.box 1) false 1 (.t 3)⟩,
 ⟨none, some 5, .callP false (.c (.fn 44 [] [])) [(.t 4)]⟩,
 ⟨none, some 6, .un .not (.t 5)⟩,
 ⟨none, some 7, .mv (.t 6)⟩,
 ⟨some (7, false), some 8, .faddr 1 (.t 1)⟩,
 ⟨some (7, false), some 9, .load (.box 1) false 1 (.t 8)⟩,
 ⟨some (7, false), some 10, .callP false (.c (.fn 61 [] [])) [(.t 9)]⟩,
 ⟨some (7, false), some 11, .un .not (.t 10)⟩,
 ⟨none, some 12, .pick (.t 7) (.c (.bool true)) (.t 11)⟩,
 ⟨none, some 2, .mv (.t 12)⟩])
 .ret))

def L72_0 : ICode := .loop [0, 1, 7, 8] []
 (.seq
 (.region [
 ⟨none, some 9, .bin 0 [] .lss (.t 8) (.t 7)⟩])
 (.seq
 (.cond (.t 9)
 .skip
 (.exit 0))
 (.seq
 (.block 1
 (.seq
 (.region [
 ⟨none, some 10, .mv (.t 8)⟩,
 ⟨none, some 5, .mv (.t 10)⟩])
 (.seq
 (.region [
 ⟨none, some 11, .mv (.t 1)⟩,
 ⟨none, some 12, .mv (.t 0)⟩,
 ⟨none, some 13, .mv (.t 5)⟩,
 ⟨none, some 14, .iaddr 2 (.t 12) (.t 13)⟩,
 ⟨none, some 15, .load .any true 2 (.t 14)⟩,
 ⟨none, some 16, .call false (.t 11) [(.t 15)]⟩])
 (.cond (.t 16)
 (.seq
 (.region [
 ⟨none, some 17, .mv (.t 5)⟩,
 ⟨none, some 4, .mv (.t 17)⟩])
 .ret)
 .skip))))
 (.region [
 ⟨none, some 18, .bin 0 [] .add (.t 8) (.c (.int .i64 1))⟩,
 ⟨none, some 8, .mv (.t 18)⟩]))))
abbrev K72_0 : List Nat := [0, 1, 7]
abbrev B72_0 : List Nat := []
/-- slices.IndexFunc[[]boxhedge/api.Param,boxhedge/api.Param] -/
def F72 : IFn where
  ntmps := 19
  nargs := 2
  res := [.tmp 4]
  freeze := false
  body :=
 (.seq
 (.region [
 ⟨none, some 4, .mv (.c (.int .i64 0))⟩])
 (.seq
 (.seq
 (.region [
 ⟨none, some 6, .mv (.t 0)⟩,
 ⟨none, some 7, .len 1 (.t 6)⟩,
 ⟨none, some 8, .mv (.c (.int .i64 0))⟩])
 (.block 0
 L72_0))
 (.seq
 (.region [
 ⟨none, some 4, .mv (.c (.int .i64 (-1)))⟩])
 .ret)))

/-- slices.ContainsFunc[[]boxhedge/api.Param,boxhedge/api.Param] -/
def F62 : IFn where
  ntmps := 9
  nargs := 2
  res := [.tmp 4]
  freeze := false
  body :=
 (.seq
 (.region [
 ⟨none, some 4, .mv (.c (.bool false))⟩])
 (.seq
 (.region [
 ⟨none, some 5, .take 0⟩,
 ⟨none, some 6, .mv (.t 1)⟩,
 ⟨none, some 7, .call false (.c (.fn 72 [] [])) [(.t 5), (.t 6)]⟩,
 ⟨none, some 8, .bin 0 [] .geq (.t 7) (.c (.int .i64 0))⟩,
 ⟨none, some 4, .mv (.t 8)⟩])
 .ret))

/-- boxhedge/tree.shapes -/
def F82 : IFn where
  ntmps := 15
  nargs := 0
  res := [.tmp 0]
  freeze := false
  body :=
 (.seq
 (.region [
 ⟨none, some 0, .mv (.c (.nilmap))⟩])
 (.seq
 (.region [
 ⟨none, some 2, .build [.bool false, .bool false, .int .i64 0, .bool false, .bool false] [(2, 1, (.c (.int .i64 1)))]⟩,
 ⟨none, some 1, .boxL 1 (.c (.agg [.bool false, .bool false, .int .i64 0, .bool false, .bool false]))⟩,
 ⟨none, none, .store (.box 1) 5 (.t 1) (.t 2)⟩])
 (.seq
 (.region [
 ⟨none, some 3, .mkmap⟩,
 ⟨none, some 4, .build [.bool false, .bool false, .int .i64 0, .bool false, .bool false] [(0, 1, (.c (.bool true))), (1, 1, (.c (.bool true))), (2, 1, (.c (.int .i64 1)))]⟩,
 ⟨none, none, .mapset false (.t 3) (.c (.int .i64 1)) (.t 4)⟩,
 ⟨none, some 5, .build [.bool false, .bool false, .int .i64 0, .bool false, .bool false] [(1, 1, (.c (.bool true))), (2, 1, (.c (.int .i64 1)))]⟩,
 ⟨none, none, .mapset false (.t 3) (.c (.int .i64 2)) (.t 5)⟩,
 ⟨none, some 6, .build [.bool false, .bool false, .int .i64 0, .bool false, .bool false] [(1, 1, (.c (.bool true))), (2, 1, (.c (.int .i64 2)))]⟩,
 ⟨none, none, .mapset false (.t 3) (.c (.int .i64 3)) (.t 6)⟩,
 ⟨none, some 7, .build [.bool false, .bool false, .int .i64 0, .bool false, .bool false] [(2, 1, (.c (.int .i64 1))), (3, 1, (.c (.bool true))), (4, 1, (.c (.bool true)))]⟩,
 ⟨none, none, .mapset false (.t 3) (.c (.int .i64 4)) (.t 7)⟩,
 ⟨none, some 8, .build [.bool false, .bool false, .int .i64 0, .bool false, .bool false] [(2, 1, (.c (.int .i64 1))), (3, 1, (.c (.bool true)))]⟩,
 ⟨none, none, .mapset false (.t 3) (.c (.int .i64 5)) (.t 8)⟩,
 ⟨none, some 9, .build [.bool false, .bool false, .int .i64 0, .bool false, .bool false] []⟩,
 ⟨none, none, .mapset false (.t 3) (.c (.int .i64 6)) (.t 9)⟩,
 ⟨none, some 10, .build [.bool false, .bool false, .int .i64 0, .bool false, .bool false] []⟩,
 ⟨none, none, .mapset false (.t 3) (.c (.int .i64 7)) (.t 10)⟩,
 ⟨none, some 11, .load (.box 1) true 5 (.t 1)⟩,
 ⟨none, none, .mapset false (.t 3) (.c (.int .i64 8)) (.t 11)⟩,
 ⟨none, some 12, .load (.box 1) true 5 (.t 1)⟩,
 ⟨none, none, .mapset false (.t 3) (.c (.int .i64 9)) (.t 12)⟩,
 ⟨none, some 13, .load (.box 1) true 5 (.t 1)⟩,
 ⟨none, none, .mapset false (.t 3) (.c (.int .i64 10)) (.t 13)⟩,
 ⟨none, some 14, .mv (.t 3)⟩,
 ⟨none, some 0, .mv (.t 14)⟩])
 .ret)))

def L92_0 : ICode := .loop [0, 1, 7, 8] []
 (.seq
 (.region [
 ⟨none, some 9, .bin 0 [] .lss (.t 8) (.t 7)⟩])
 (.seq
 (.cond (.t 9)
 .skip
 (.exit 0))
 (.seq
 (.block 1
 (.seq
 (.region [
 ⟨none, some 10, .mv (.t 8)⟩,
 ⟨none, some 5, .mv (.t 10)⟩])
 (.seq
 (.region [
 ⟨none, some 11, .mv (.t 1)⟩,
 ⟨none, some 12, .mv (.t 0)⟩,
 ⟨none, some 13, .mv (.t 5)⟩,
 ⟨none, some 14, .iaddr 5 (.t 12) (.t 13)⟩,
 ⟨none, some 15, .load .any true 5 (.t 14)⟩,
 ⟨none, some 16, .call false (.t 11) [(.t 15)]⟩])
 (.cond (.t 16)
 (.seq
 (.region [
 ⟨none, some 17, .mv (.t 5)⟩,
 ⟨none, some 4, .mv (.t 17)⟩])
 .ret)
 .skip))))
 (.region [
 ⟨none, some 18, .bin 0 [] .add (.t 8) (.c (.int .i64 1))⟩,
 ⟨none, some 8, .mv (.t 18)⟩]))))
abbrev K92_0 : List Nat := [0, 1, 7]
abbrev B92_0 : List Nat := []
/-- slices.IndexFunc[[]boxhedge/api.Expr,boxhedge/api.Expr] -/
def F92 : IFn where
  ntmps := 19
  nargs := 2
  res := [.tmp 4]
  freeze := false
  body :=
 (.seq
 (.region [
 ⟨none, some 4, .mv (.c (.int .i64 0))⟩])
 (.seq
 (.seq
 (.region [
 ⟨none, some 6, .mv (.t 0)⟩,
 ⟨none, some 7, .len 1 (.t 6)⟩,
 ⟨none, some 8, .mv (.c (.int .i64 0))⟩])
 (.block 0
 L92_0))
 (.seq
 (.region [
 ⟨none, some 4, .mv (.c (.int .i64 (-1)))⟩])
 .ret)))

/-- slices.ContainsFunc[[]boxhedge/api.Expr,boxhedge/api.Expr] -/
def F83 : IFn where
  ntmps := 9
  nargs := 2
  res := [.tmp 4]
  freeze := false
  body :=
 (.seq
 (.region [
 ⟨none, some 4, .mv (.c (.bool false))⟩])
 (.seq
 (.region [
 ⟨none, some 5, .take 0⟩,
 ⟨none, some 6, .mv (.t 1)⟩,
 ⟨none, some 7, .call false (.c (.fn 92 [] [])) [(.t 5), (.t 6)]⟩,
 ⟨none, some 8, .bin 0 [] .geq (.t 7) (.c (.int .i64 0))⟩,
 ⟨none, some 4, .mv (.t 8)⟩])
 .ret))

/-- boxhedge/tree.blank -/
def F97 : IFn where
  ntmps := 22
  nargs := 1
  res := [.tmp 2]
  freeze := false
  body :=
 (.seq
 (.region [
 ⟨none, some 1, .boxL 1 (.t 0)⟩,
 ⟨none, some 2, .mv (.c (.bool false))⟩])
 (.seq
 (.region [
 ⟨none, some 3, .faddr 1 (.t 1)⟩,
 ⟨none, some 4, .load (.box 1) false 1 (.t 3)⟩,
 ⟨none, some 5, .bin 0 [] .eql (.t 4) (.c (.int .i64 0))⟩,
 ⟨none, some 6, .mv (.t 5)⟩,
 ⟨some (6, true), some 7, .faddr 2 (.t 1)⟩,
 ⟨some (6, true), some 8, .load (.box 1) false 1 (.t 7)⟩,
 ⟨some (6, true), some 9, .bin 0 [] .eql (.t 8) (.c (.int .i64 0))⟩,
 ⟨none, some 10, .pick (.t 6) (.t 9) (.c (.bool false))⟩,
 ⟨none, some 11, .mv (.t 10)⟩,
 ⟨some (11, true), some 12, .faddr 3 (.t 1)⟩,
 ⟨some (11, true), some 13, .load (.box 1) false 1 (.t 12)⟩,
 ⟨some (11, true), some 14, .bin 0 [] .eql (.t 13) (.c (.str []))⟩,
 ⟨none, some 15, .pick (.t 11) (.t 14) (.c (.bool false))⟩,
 ⟨none, some 16, .mv (.t 15)⟩,
 ⟨some (16, true), some 17, .faddr 4 (.t 1)⟩,
 ⟨some (16, true), some 18, .load (.box 1) false 1 (.t 17)⟩,
 ⟨some (16, true), some 19, .len 1 (.t 18)⟩,
 ⟨some (16, true), some 20, .bin 0 [] .eql (.t 19) (.c (.int .i64 0))⟩,
 ⟨none, some 21, .pick (.t 16) (.t 20) (.c (.bool false))⟩,
 ⟨none, some 2, .mv (.t 21)⟩])
 .ret))

/-- boxhedge/wrap.rowOf -/
def F100 : IFn where
  ntmps := 43
  nargs := 1
  res := [.cell 2 true 2]
  freeze := false
  body :=
 (.seq
 (.region [
 ⟨none, some 2, .boxL 2 (.c (.agg [.str [], .int .i64 0]))⟩])
 (.seq
 (.region [
 ⟨none, some 4, .build [.str [], .int .i64 0] [(0, 1, (.c (.str [43]))), (1, 1, (.c (.int .i64 9)))]⟩,
 ⟨none, some 5, .build [.str [], .int .i64 0] [(0, 1, (.c (.str [45]))), (1, 1, (.c (.int .i64 9)))]⟩,
 ⟨none, some 6, .build [.str [], .int .i64 0] [(0, 1, (.c (.str [42]))), (1, 1, (.c (.int .i64 10)))]⟩,
 ⟨none, some 7, .build [.str [], .int .i64 0] [(0, 1, (.c (.str [47]))), (1, 1, (.c (.int .i64 10)))]⟩,
 ⟨none, some 8, .build [.str [], .int .i64 0] [(0, 1, (.c (.str [37]))), (1, 1, (.c (.int .i64 10)))]⟩,
 ⟨none, some 9, .build [.str [], .int .i64 0] [(0, 1, (.c (.str [38]))), (1, 1, (.c (.int .i64 5)))]⟩,
 ⟨none, some 10, .build [.str [], .int .i64 0] [(0, 1, (.c (.str [124]))), (1, 1, (.c (.int .i64 3)))]⟩,
 ⟨none, some 11, .build [.str [], .int .i64 0] [(0, 1, (.c (.str [94]))), (1, 1, (.c (.int .i64 4)))]⟩,
 ⟨none, some 12, .build [.str [], .int .i64 0] [(0, 1, (.c (.str [60, 60]))), (1, 1, (.c (.int .i64 8)))]⟩,
 ⟨none, some 13, .build [.str [], .int .i64 0] [(0, 1, (.c (.str [62, 62]))), (1, 1, (.c (.int .i64 8)))]⟩,
 ⟨none, some 14, .build [.str [], .int .i64 0] [(0, 1, (.c (.str [62, 62, 62]))), (1, 1, (.c (.int .i64 8)))]⟩,
 ⟨none, some 15, .build [.str [], .int .i64 0] [(0, 1, (.c (.str [60]))), (1, 1, (.c (.int .i64 7)))]⟩,
 ⟨none, some 16, .build [.str [], .int .i64 0] [(0, 1, (.c (.str [60, 61]))), (1, 1, (.c (.int .i64 7)))]⟩,
 ⟨none, some 17, .build [.str [], .int .i64 0] [(0, 1, (.c (.str [62]))), (1, 1, (.c (.int .i64 7)))]⟩,
 ⟨none, some 18, .build [.str [], .int .i64 0] [(0, 1, (.c (.str [62, 61]))), (1, 1, (.c (.int .i64 7)))]⟩,
 ⟨none, some 19, .build [.str [], .int .i64 0] [(0, 1, (.c (.str [61, 61]))), (1, 1, (.c (.int .i64 6)))]⟩,
 ⟨none, some 20, .build [.str [], .int .i64 0] [(0, 1, (.c (.str [33, 61]))), (1, 1, (.c (.int .i64 6)))]⟩,
 ⟨none, some 21, .build [.str [], .int .i64 0] [(0, 1, (.c (.str [38, 38]))), (1, 1, (.c (.int .i64 2)))]⟩,
 ⟨none, some 22, .build [.str [], .int .i64 0] [(0, 1, (.c (.str [124, 124]))), (1, 1, (.c (.int .i64 1)))]⟩,
 ⟨none, some 23, .build [.str [], .int .i64 0] [(0, 1, (.c (.str [45]))), (1, 1, (.c (.int .i64 0)))]⟩,
 ⟨none, some 24, .build [.str [], .int .i64 0] [(0, 1, (.c (.str [126]))), (1, 1, (.c (.int .i64 0)))]⟩,
 ⟨none, some 25, .build [.str [], .int .i64 0] [(0, 1, (.c (.str [33]))), (1, 1, (.c (.int .i64 0)))]⟩,
 ⟨none, some 26, .build [.str [], .int .i64 0] [(0, 1, (.c (.str [105, 56]))), (1, 1, (.c (.int .i64 0)))]⟩,
 ⟨none, some 27, .build [.str [], .int .i64 0] [(0, 1, (.c (.str [105, 49, 54]))), (1, 1, (.c (.int .i64 0)))]⟩,
 ⟨none, some 28, .build [.str [], .int .i64 0] [(0, 1, (.c (.str [105, 51, 50]))), (1, 1, (.c (.int .i64 0)))]⟩,
 ⟨none, some 29, .build [.str [], .int .i64 0] [(0, 1, (.c (.str [117, 56]))), (1, 1, (.c (.int .i64 0)))]⟩,
 ⟨none, some 30, .build [.str [], .int .i64 0] [(0, 1, (.c (.str [117, 49, 54]))), (1, 1, (.c (.int .i64 0)))]⟩,
 ⟨none, some 31, .build [.str [], .int .i64 0] [(0, 1, (.c (.str [117, 51, 50]))), (1, 1, (.c (.int .i64 0)))]⟩,
 ⟨none, some 32, .build [.str [], .int .i64 0, .str [], .int .i64 0, .str [], .int .i64 0, .str [], .int .i64 0, .str [], .int .i64 0, .str [], .int .i64 0, .str [], .int .i64 0, .str [], .int .i64 0, .str [], .int .i64 0, .str [], .int .i64 0, .str [], .int .i64 0, .str [], .int .i64 0, .str [], .int .i64 0, .str [], .int .i64 0, .str [], .int .i64 0, .str [], .int .i64 0, .str [], .int .i64 0, .str [], .int .i64 0, .str [], .int .i64 0, .str [], .int .i64 0, .str [], .int .i64 0, .str [], .int .i64 0, .str [], .int .i64 0, .str [], .int .i64 0, .str [], .int .i64 0, .str [], .int .i64 0, .str [], .int .i64 0, .str [], .int .i64 0, .str [], .int .i64 0] [(2, 2, (.t 4)), (4, 2, (.t 5)), (6, 2, (.t 6)), (8, 2, (.t 7)), (10, 2, (.t 8)), (12, 2, (.t 9)), (14, 2, (.t 10)), (16, 2, (.t 11)), (18, 2, (.t 12)), (20, 2, (.t 13)), (22, 2, (.t 14)), (24, 2, (.t 15)), (26, 2, (.t 16)), (28, 2, (.t 17)), (30, 2, (.t 18)), (32, 2, (.t 19)), (34, 2, (.t 20)), (36, 2, (.t 21)), (38, 2, (.t 22)), (40, 2, (.t 23)), (42, 2, (.t 24)), (44, 2, (.t 25)), (46, 2, (.t 26)), (48, 2, (.t 27)), (50, 2, (.t 28)), (52, 2, (.t 29)), (54, 2, (.t 30)), (56, 2, (.t 31))]⟩,
 ⟨none, some 3, .boxL 3 (.c (.agg [.str [], .int .i64 0, .str [], .int .i64 0, .str [], .int .i64 0, .str [], .int .i64 0, .str [], .int .i64 0, .str [], .int .i64 0, .str [], .int .i64 0, .str [], .int .i64 0, .str [], .int .i64 0, .str [], .int .i64 0, .str [], .int .i64 0, .str [], .int .i64 0, .str [], .int .i64 0, .str [], .int .i64 0, .str [], .int .i64 0, .str [], .int .i64 0, .str [], .int .i64 0, .str [], .int .i64 0, .str [], .int .i64 0, .str [], .int .i64 0, .str [], .int .i64 0, .str [], .int .i64 0, .str [], .int .i64 0, .str [], .int .i64 0, .str [], .int .i64 0, .str [], .int .i64 0, .str [], .int .i64 0, .str [], .int .i64 0, .str [], .int .i64 0]))⟩,
 ⟨none, none, .store (.box 3) 58 (.t 3) (.t 32)⟩])
 (.seq
 (.seq
 (.region [
 ⟨none, some 33, .mv (.t 0)⟩,
 ⟨none, some 34, .bin 0 [] .lss (.t 33) (.c (.int .i64 0))⟩,
 ⟨none, some 35, .mv (.t 34)⟩,
 ⟨some (35, false), some 36, .mv (.t 0)⟩,
 ⟨some (35, false), some 37, .bin 0 [] .geq (.t 36) (.c (.int .i64 29))⟩,
 ⟨none, some 38, .pick (.t 35) (.c (.bool true)) (.t 37)⟩])
 (.cond (.t 38)
 (.seq
 (.region [
 ⟨none, some 39, .build [.str [], .int .i64 0] []⟩,
 ⟨none, none, .store (.box 2) 2 (.t 2) (.t 39)⟩])
 .ret)
 .skip))
 (.seq
 (.region [
 ⟨none, some 40, .mv (.t 0)⟩,
 ⟨none, some 41, .iaddrA 29 2 (.t 3) (.t 40)⟩,
 ⟨none, some 42, .load (.box 3) true 2 (.t 41)⟩,
 ⟨none, none, .store (.box 2) 2 (.t 2) (.t 42)⟩])
 .ret))))

/-- boxhedge/wrap.Level -/
def F98 : IFn where
  ntmps := 6
  nargs := 1
  res := [.tmp 2]
  freeze := false
  body :=
 (.seq
 (.region [
 ⟨none, some 2, .mv (.c (.int .i64 0))⟩])
 (.seq
 (.region [
 ⟨none, some 3, .mv (.t 0)⟩,
 ⟨none, some 4, .callP false (.c (.fn 100 [] [])) [(.t 3)]⟩,
 ⟨none, some 5, .fld false 1 1 (.t 4)⟩,
 ⟨none, some 2, .mv (.t 5)⟩])
 .ret))

/-- boxhedge/tree.own -/
def F93 : IFn where
  ntmps := 92
  nargs := 1
  res := [.tmp 2, .tmp 3]
  freeze := false
  body :=
 (.seq
 (.region [
 ⟨none, some 1, .boxL 1 (.t 0)⟩,
 ⟨none, some 2, .mv (.c (.int .i64 0))⟩,
 ⟨none, some 3, .mv (.c (.bool false))⟩])
 (.seq
 (.region [
 ⟨none, some 5, .load (.box 1) true 5 (.t 1)⟩,
 ⟨none, some 4, .boxL 4 (.c (.agg [.int .i64 0, .int .i64 0, .int .i64 0, .str [], .slice .fit 5 []]))⟩,
 ⟨none, none, .store (.box 4) 5 (.t 4) (.t 5)⟩])
 (.seq
 (.region [
 ⟨none, some 6, .faddr 4 (.t 4)⟩,
 ⟨none, none, .store (.box 4) 1 (.t 6) (.c (.slice .fit 5 []))⟩])
 (.seq
 (.seq
 (.region [
 ⟨none, some 7, .faddr 0 (.t 1)⟩,
 ⟨none, some 8, .load (.box 1) false 1 (.t 7)⟩])
 (.block 0
 (.seq
 (.region [
 ⟨none, some 10, .bin 0 [] .eql (.t 8) (.c (.int .i64 1))⟩,
 ⟨none, some 9, .mv (.t 10)⟩])
 (.cond (.t 9)
 (.seq
 (.region [
 ⟨none, some 11, .faddr 2 (.t 4)⟩,
 ⟨none, none, .store (.box 4) 1 (.t 11) (.c (.int .i64 0))⟩])
 (.seq
 (.region [
 ⟨none, some 12, .faddr 2 (.t 1)⟩,
 ⟨none, some 13, .load (.box 1) false 1 (.t 12)⟩,
 ⟨none, some 14, .bin 0 [] .geq (.t 13) (.c (.int .i64 0))⟩,
 ⟨none, some 15, .mv (.t 14)⟩,
 ⟨some (15, true), some 16, .load (.box 4) true 5 (.t 4)⟩,
 ⟨some (15, true), some 17, .callP false (.c (.fn 97 [] [])) [(.t 16)]⟩,
 ⟨none, some 18, .pick (.t 15) (.t 17) (.c (.bool false))⟩,
 ⟨none, some 2, .mv (.c (.int .i64 0))⟩,
 ⟨none, some 3, .mv (.t 18)⟩])
 .ret))
 (.seq
 (.region [
 ⟨none, some 20, .bin 0 [] .eql (.t 8) (.c (.int .i64 2))⟩,
 ⟨none, some 19, .mv (.t 20)⟩])
 (.cond (.t 19)
 (.seq
 (.region [
 ⟨none, some 21, .faddr 2 (.t 4)⟩,
 ⟨none, none, .store (.box 4) 1 (.t 21) (.c (.int .i64 0))⟩])
 (.seq
 (.region [
 ⟨none, some 22, .faddr 2 (.t 1)⟩,
 ⟨none, some 23, .load (.box 1) false 1 (.t 22)⟩,
 ⟨none, some 24, .bin 0 [] .eql (.t 23) (.c (.int .i64 0))⟩,
 ⟨none, some 25, .mv (.t 24)⟩,
 ⟨some (25, false), some 26, .faddr 2 (.t 1)⟩,
 ⟨some (25, false), some 27, .load (.box 1) false 1 (.t 26)⟩,
 ⟨some (25, false), some 28, .bin 0 [] .eql (.t 27) (.c (.int .i64 1))⟩,
 ⟨none, some 29, .pick (.t 25) (.c (.bool true)) (.t 28)⟩,
 ⟨none, some 30, .mv (.t 29)⟩,
 ⟨some (30, true), some 31, .load (.box 4) true 5 (.t 4)⟩,
 ⟨some (30, true), some 32, .callP false (.c (.fn 97 [] [])) [(.t 31)]⟩,
 ⟨none, some 33, .pick (.t 30) (.t 32) (.c (.bool false))⟩,
 ⟨none, some 2, .mv (.c (.int .i64 0))⟩,
 ⟨none, some 3, .mv (.t 33)⟩])
 .ret))
 (.seq
 (.region [
 ⟨none, some 35, .bin 0 [] .eql (.t 8) (.c (.int .i64 4))⟩,
 ⟨none, some 34, .mv (.t 35)⟩])
 (.cond (.t 34)
 (.seq
 (.region [
 ⟨none, some 36, .faddr 1 (.t 4)⟩,
 ⟨none, none, .store (.box 4) 1 (.t 36) (.c (.int .i64 0))⟩])
 (.seq
 (.region [
 ⟨none, some 37, .faddr 1 (.t 1)⟩,
 ⟨none, some 38, .load (.box 1) false 1 (.t 37)⟩,
 ⟨none, some 39, .bin 0 [] .geq (.t 38) (.c (.int .i64 20))⟩,
 ⟨none, some 40, .mv (.t 39)⟩,
 ⟨some (40, true), some 41, .faddr 1 (.t 1)⟩,
 ⟨some (40, true), some 42, .load (.box 1) false 1 (.t 41)⟩,
 ⟨some (40, true), some 43, .bin 0 [] .leq (.t 42) (.c (.int .i64 28))⟩,
 ⟨none, some 44, .pick (.t 40) (.t 43) (.c (.bool false))⟩,
 ⟨none, some 45, .mv (.t 44)⟩,
 ⟨some (45, true), some 46, .load (.box 4) true 5 (.t 4)⟩,
 ⟨some (45, true), some 47, .callP false (.c (.fn 97 [] [])) [(.t 46)]⟩,
 ⟨none, some 48, .pick (.t 45) (.t 47) (.c (.bool false))⟩,
 ⟨none, some 2, .mv (.c (.int .i64 1))⟩,
 ⟨none, some 3, .mv (.t 48)⟩])
 .ret))
 (.seq
 (.region [
 ⟨none, some 50, .bin 0 [] .eql (.t 8) (.c (.int .i64 5))⟩,
 ⟨none, some 49, .mv (.t 50)⟩])
 (.cond (.t 49)
 (.seq
 (.region [
 ⟨none, some 51, .faddr 1 (.t 4)⟩,
 ⟨none, none, .store (.box 4) 1 (.t 51) (.c (.int .i64 0))⟩])
 (.seq
 (.region [
 ⟨none, some 52, .faddr 1 (.t 1)⟩,
 ⟨none, some 53, .load (.box 1) false 1 (.t 52)⟩,
 ⟨none, some 54, .callP false (.c (.fn 98 [] [])) [(.t 53)]⟩,
 ⟨none, some 55, .bin 0 [] .gtr (.t 54) (.c (.int .i64 0))⟩,
 ⟨none, some 56, .mv (.t 55)⟩,
 ⟨some (56, true), some 57, .load (.box 4) true 5 (.t 4)⟩,
 ⟨some (56, true), some 58, .callP false (.c (.fn 97 [] [])) [(.t 57)]⟩,
 ⟨none, some 59, .pick (.t 56) (.t 58) (.c (.bool false))⟩,
 ⟨none, some 2, .mv (.c (.int .i64 2))⟩,
 ⟨none, some 3, .mv (.t 59)⟩])
 .ret))
 (.seq
 (.region [
 ⟨none, some 61, .bin 0 [] .eql (.t 8) (.c (.int .i64 8))⟩,
 ⟨none, some 60, .mv (.t 61)⟩])
 (.cond (.t 60)
 (.seq
 (.region [
 ⟨none, some 62, .load (.box 4) true 5 (.t 4)⟩,
 ⟨none, some 63, .callP false (.c (.fn 97 [] [])) [(.t 62)]⟩,
 ⟨none, some 2, .mv (.c (.int .i64 0))⟩,
 ⟨none, some 3, .mv (.t 63)⟩])
 .ret)
 .skip))))))))))))
 (.seq
 (.region [
 ⟨none, some 64, .faddr 3 (.t 4)⟩,
 ⟨none, none, .store (.box 4) 1 (.t 64) (.c (.str []))⟩])
 (.seq
 (.region [
 ⟨none, some 65, .faddr 3 (.t 1)⟩,
 ⟨none, some 66, .load (.box 1) false 1 (.t 65)⟩,
 ⟨none, some 67, .callP false (.c (.fn 44 [] [])) [(.t 66)]⟩,
 ⟨none, some 68, .mv (.t 67)⟩,
 ⟨some (68, true), some 69, .load (.box 4) true 5 (.t 4)⟩,
 ⟨some (68, true), some 70, .callP false (.c (.fn 97 [] [])) [(.t 69)]⟩,
 ⟨none, some 71, .pick (.t 68) (.t 70) (.c (.bool false))⟩,
 ⟨none, some 3, .mv (.t 71)⟩])
 (.seq
 (.seq
 (.region [
 ⟨none, some 72, .faddr 0 (.t 1)⟩,
 ⟨none, some 73, .load (.box 1) false 1 (.t 72)⟩])
 (.block 1
 (.seq
 (.region [
 ⟨none, some 75, .bin 0 [] .eql (.t 73) (.c (.int .i64 3))⟩,
 ⟨none, some 74, .mv (.t 75)⟩])
 (.cond (.t 74)
 (.seq
 (.region [
 ⟨none, some 76, .mv (.t 3)⟩,
 ⟨none, some 2, .mv (.c (.int .i64 0))⟩,
 ⟨none, some 3, .mv (.t 76)⟩])
 .ret)
 (.seq
 (.region [
 ⟨none, some 78, .bin 0 [] .eql (.t 73) (.c (.int .i64 6))⟩,
 ⟨none, some 77, .mv (.t 78)⟩])
 (.cond (.t 77)
 (.seq
 (.region [
 ⟨none, some 79, .mv (.t 3)⟩,
 ⟨none, some 2, .mv (.c (.int .i64 1))⟩,
 ⟨none, some 3, .mv (.t 79)⟩])
 .ret)
 (.seq
 (.region [
 ⟨none, some 81, .bin 0 [] .eql (.t 73) (.c (.int .i64 7))⟩,
 ⟨none, some 80, .mv (.t 81)⟩])
 (.cond (.t 80)
 (.seq
 (.region [
 ⟨none, some 82, .faddr 4 (.t 1)⟩,
 ⟨none, some 83, .load (.box 1) false 1 (.t 82)⟩,
 ⟨none, some 84, .len 1 (.t 83)⟩,
 ⟨none, some 85, .mv (.t 3)⟩,
 ⟨none, some 86, .mv (.t 85)⟩,
 ⟨some (86, true), some 87, .faddr 4 (.t 1)⟩,
 ⟨some (86, true), some 88, .load (.box 1) false 1 (.t 87)⟩,
 ⟨some (86, true), some 89, .len 1 (.t 88)⟩,
 ⟨some (86, true), some 90, .bin 0 [] .leq (.t 89) (.c (.int .i64 8))⟩,
 ⟨none, some 91, .pick (.t 86) (.t 90) (.c (.bool false))⟩,
 ⟨none, some 2, .mv (.t 84)⟩,
 ⟨none, some 3, .mv (.t 91)⟩])
 .ret)
 .skip))))))))
 (.seq
 (.region [
 ⟨none, some 2, .mv (.c (.int .i64 0))⟩,
 ⟨none, some 3, .mv (.c (.bool false))⟩])
 .ret))))))))

/-- boxhedge/tree.expr$1 -/
def F94 : IFn where
  ntmps := 9
  nargs := 2
  res := [.tmp 3]
  freeze := false
  body :=
 (.seq
 (.region [
 ⟨none, some 2, .boxL 2 (.t 0)⟩,
 ⟨none, some 3, .mv (.c (.bool false))⟩])
 (.seq
 (.region [
 ⟨none, some 4, .load (.box 2) true 5 (.t 2)⟩,
 ⟨none, some 5, .load .any false 1 (.t 1)⟩,
 ⟨none, some 6, .bin 0 [] .sub (.t 5) (.c (.int .i64 1))⟩,
 ⟨none, some 7, .callP false (.c (.fn 85 [] [])) [(.t 4), (.t 6)]⟩,
 ⟨none, some 8, .un .not (.t 7)⟩,
 ⟨none, some 3, .mv (.t 8)⟩])
 .ret))

/-- boxhedge/tree.expr -/
def F85 : IFn where
  ntmps := 31
  nargs := 2
  res := [.tmp 4]
  freeze := false
  body :=
 (.seq
 (.region [
 ⟨none, some 2, .boxL 2 (.t 0)⟩,
 ⟨none, some 3, .boxI (.t 1)⟩,
 ⟨none, some 4, .mv (.c (.bool false))⟩])
 (.seq
 (.region [
 ⟨none, some 8, .load (.box 2) true 5 (.t 2)⟩,
 ⟨none, some 9, .callP false (.c (.fn 93 [] [])) [(.t 8)]⟩,
 ⟨none, some 7, .mv (.t 9)⟩,
 ⟨none, some 10, .ext (.t 7) 0⟩,
 ⟨none, some 11, .ext (.t 7) 1⟩,
 ⟨none, some 5, .mv (.t 10)⟩,
 ⟨none, some 6, .mv (.t 11)⟩])
 (.seq
 (.region [
 ⟨none, some 12, .mv (.t 6)⟩,
 ⟨none, some 13, .mv (.t 12)⟩,
 ⟨some (13, true), some 14, .load .any false 1 (.t 3)⟩,
 ⟨some (13, true), some 15, .bin 0 [] .gtr (.t 14) (.c (.int .i64 0))⟩,
 ⟨none, some 16, .pick (.t 13) (.t 15) (.c (.bool false))⟩,
 ⟨none, some 17, .mv (.t 16)⟩,
 ⟨some (17, true), some 18, .faddr 4 (.t 2)⟩,
 ⟨some (17, true), some 19, .load (.box 2) false 1 (.t 18)⟩,
 ⟨some (17, true), some 20, .len 1 (.t 19)⟩,
 ⟨some (17, true), some 21, .mv (.t 5)⟩,
 ⟨some (17, true), some 22, .bin 0 [] .eql (.t 20) (.t 21)⟩,
 ⟨none, some 23, .pick (.t 17) (.t 22) (.c (.bool false))⟩,
 ⟨none, some 24, .mv (.t 23)⟩,
 ⟨some (24, true), some 25, .faddr 4 (.t 2)⟩,
 ⟨some (24, true), some 26, .load (.box 2) false 1 (.t 25)⟩,
 ⟨some (24, true), some 27, .mkfn 94 [] [(.t 3)]⟩,
 ⟨some (24, true), some 28, .call false (.c (.fn 83 [] [])) [(.t 26), (.t 27)]⟩,
 ⟨some (24, true), some 29, .un .not (.t 28)⟩,
 ⟨none, some 30, .pick (.t 24) (.t 29) (.c (.bool false))⟩,
 ⟨none, some 4, .mv (.t 30)⟩])
 .ret)))

/-- boxhedge/tree.stmt$1 -/
def F84 : IFn where
  ntmps := 6
  nargs := 1
  res := [.tmp 2]
  freeze := false
  body :=
 (.seq
 (.region [
 ⟨none, some 1, .boxL 1 (.t 0)⟩,
 ⟨none, some 2, .mv (.c (.bool false))⟩])
 (.seq
 (.region [
 ⟨none, some 3, .load (.box 1) true 5 (.t 1)⟩,
 ⟨none, some 4, .callP false (.c (.fn 85 [] [])) [(.t 3), (.c (.int .i64 100))]⟩,
 ⟨none, some 5, .un .not (.t 4)⟩,
 ⟨none, some 2, .mv (.t 5)⟩])
 .ret))

/-- boxhedge/tree.stmt -/
def F74 : IFn where
  ntmps := 118
  nargs := 2
  res := [.tmp 4]
  freeze := true
  body :=
 (.seq
 (.region [
 ⟨none, some 2, .boxL 2 (.t 0)⟩,
 ⟨none, some 4, .mv (.c (.bool false))⟩])
 (.seq
 (.region [
 ⟨none, some 8, .call false (.c (.fn 82 [] [])) []⟩,
 ⟨none, some 9, .faddr 0 (.t 2)⟩,
 ⟨none, some 10, .load (.box 2) false 1 (.t 9)⟩,
 ⟨none, some 11, .lookup false true (.agg [.bool false, .bool false, .int .i64 0, .bool false, .bool false]) (.t 8) (.t 10)⟩,
 ⟨none, some 7, .mv (.t 11)⟩,
 ⟨none, some 12, .ext (.t 7) 0⟩,
 ⟨none, some 13, .ext (.t 7) 1⟩,
 ⟨none, some 5, .boxL 5 (.c (.agg [.bool false, .bool false, .int .i64 0, .bool false, .bool false]))⟩,
 ⟨none, none, .store (.box 5) 5 (.t 5) (.t 12)⟩,
 ⟨none, some 6, .mv (.t 13)⟩])
 (.seq
 (.block 0
 (.seq
 (.region [
 ⟨none, some 15, .mv (.t 6)⟩,
 ⟨none, some 16, .un .not (.t 15)⟩,
 ⟨none, some 17, .mv (.t 16)⟩,
 ⟨some (17, false), some 18, .mv (.t 1)⟩,
 ⟨some (17, false), some 19, .bin 0 [] .lss (.t 18) (.c (.int .i64 1))⟩,
 ⟨none, some 20, .pick (.t 17) (.c (.bool true)) (.t 19)⟩,
 ⟨none, some 21, .mv (.t 20)⟩,
 ⟨some (21, false), some 22, .faddr 3 (.t 2)⟩,
 ⟨some (21, false), some 23, .load (.box 2) false 1 (.t 22)⟩,
 ⟨some (21, false), some 24, .len 1 (.t 23)⟩,
 ⟨some (21, false), some 25, .faddr 2 (.t 5)⟩,
 ⟨some (21, false), some 26, .load (.box 5) false 1 (.t 25)⟩,
 ⟨some (21, false), some 27, .bin 0 [] .neq (.t 24) (.t 26)⟩,
 ⟨none, some 28, .pick (.t 21) (.c (.bool true)) (.t 27)⟩,
 ⟨none, some 14, .mv (.t 28)⟩])
 (.cond (.t 14)
 (.seq
 (.region [
 ⟨none, some 4, .mv (.c (.bool false))⟩])
 .ret)
 (.seq
 (.region [
 ⟨none, some 30, .faddr 0 (.t 5)⟩,
 ⟨none, some 31, .load (.box 5) false 1 (.t 30)⟩,
 ⟨none, some 32, .mv (.t 31)⟩,
 ⟨some (32, true), some 33, .faddr 1 (.t 2)⟩,
 ⟨some (32, true), some 34, .load (.box 2) false 1 (.t 33)⟩,
 ⟨some (32, true), some 35, .callP false (.c (.fn 61 [] [])) [(.t 34)]⟩,
 ⟨some (32, true), some 36, .un .not (.t 35)⟩,
 ⟨none, some 37, .pick (.t 32) (.t 36) (.c (.bool false))⟩,
 ⟨none, some 38, .mv (.t 37)⟩,
 ⟨some (38, false), some 39, .faddr 0 (.t 5)⟩,
 ⟨some (38, false), some 40, .load (.box 5) false 1 (.t 39)⟩,
 ⟨some (38, false), some 41, .un .not (.t 40)⟩,
 ⟨some (38, false), some 42, .mv (.t 41)⟩,
 ⟨some (42, true), some 43, .faddr 1 (.t 2)⟩,
 ⟨some (42, true), some 44, .load (.box 2) false 1 (.t 43)⟩,
 ⟨some (42, true), some 45, .bin 0 [] .neq (.t 44) (.c (.int .i64 0))⟩,
 ⟨some (38, false), some 46, .pick (.t 42) (.t 45) (.c (.bool false))⟩,
 ⟨none, some 47, .pick (.t 38) (.c (.bool true)) (.t 46)⟩,
 ⟨none, some 29, .mv (.t 47)⟩])
 (.cond (.t 29)
 (.seq
 (.region [
 ⟨none, some 4, .mv (.c (.bool false))⟩])
 .ret)
 (.seq
 (.region [
 ⟨none, some 49, .faddr 1 (.t 5)⟩,
 ⟨none, some 50, .load (.box 5) false 1 (.t 49)⟩,
 ⟨none, some 51, .mv (.t 50)⟩,
 ⟨some (51, true), some 52, .faddr 2 (.t 2)⟩,
 ⟨some (51, true), some 53, .load (.box 2) false 1 (.t 52)⟩,
 ⟨some (51, true), some 54, .callP false (.c (.fn 44 [] [])) [(.t 53)]⟩,
 ⟨some (51, true), some 55, .un .not (.t 54)⟩,
 ⟨none, some 56, .pick (.t 51) (.t 55) (.c (.bool false))⟩,
 ⟨none, some 57, .mv (.t 56)⟩,
 ⟨some (57, false), some 58, .faddr 1 (.t 5)⟩,
 ⟨some (57, false), some 59, .load (.box 5) false 1 (.t 58)⟩,
 ⟨some (57, false), some 60, .un .not (.t 59)⟩,
 ⟨some (57, false), some 61, .mv (.t 60)⟩,
 ⟨some (61, true), some 62, .faddr 2 (.t 2)⟩,
 ⟨some (61, true), some 63, .load (.box 2) false 1 (.t 62)⟩,
 ⟨some (61, true), some 64, .bin 0 [] .neq (.t 63) (.c (.str []))⟩,
 ⟨some (57, false), some 65, .pick (.t 61) (.t 64) (.c (.bool false))⟩,
 ⟨none, some 66, .pick (.t 57) (.c (.bool true)) (.t 65)⟩,
 ⟨none, some 48, .mv (.t 66)⟩])
 (.cond (.t 48)
 (.seq
 (.region [
 ⟨none, some 4, .mv (.c (.bool false))⟩])
 .ret)
 (.seq
 (.region [
 ⟨none, some 68, .faddr 3 (.t 5)⟩,
 ⟨none, some 69, .load (.box 5) false 1 (.t 68)⟩,
 ⟨none, some 70, .un .not (.t 69)⟩,
 ⟨none, some 71, .mv (.t 70)⟩,
 ⟨some (71, true), some 72, .faddr 4 (.t 2)⟩,
 ⟨some (71, true), some 73, .load (.box 2) false 1 (.t 72)⟩,
 ⟨some (71, true), some 74, .len 1 (.t 73)⟩,
 ⟨some (71, true), some 75, .bin 0 [] .gtr (.t 74) (.c (.int .i64 0))⟩,
 ⟨none, some 76, .pick (.t 71) (.t 75) (.c (.bool false))⟩,
 ⟨none, some 77, .mv (.t 76)⟩,
 ⟨some (77, false), some 78, .faddr 4 (.t 5)⟩,
 ⟨some (77, false), some 79, .load (.box 5) false 1 (.t 78)⟩,
 ⟨some (77, false), some 80, .un .not (.t 79)⟩,
 ⟨some (77, false), some 81, .mv (.t 80)⟩,
 ⟨some (81, true), some 82, .faddr 5 (.t 2)⟩,
 ⟨some (81, true), some 83, .load (.box 2) false 1 (.t 82)⟩,
 ⟨some (81, true), some 84, .len 1 (.t 83)⟩,
 ⟨some (81, true), some 85, .bin 0 [] .gtr (.t 84) (.c (.int .i64 0))⟩,
 ⟨some (77, false), some 86, .pick (.t 81) (.t 85) (.c (.bool false))⟩,
 ⟨none, some 87, .pick (.t 77) (.c (.bool true)) (.t 86)⟩,
 ⟨none, some 67, .mv (.t 87)⟩])
 (.cond (.t 67)
 (.seq
 (.region [
 ⟨none, some 4, .mv (.c (.bool false))⟩])
 .ret)
 (.seq
 (.region [
 ⟨none, some 89, .faddr 0 (.t 2)⟩,
 ⟨none, some 90, .load (.box 2) false 1 (.t 89)⟩,
 ⟨none, some 91, .bin 0 [] .eql (.t 90) (.c (.int .i64 10))⟩,
 ⟨none, some 92, .mv (.t 91)⟩,
 ⟨some (92, true), some 93, .faddr 3 (.t 2)⟩,
 ⟨some (92, true), some 94, .load (.box 2) false 1 (.t 93)⟩,
 ⟨some (92, true), some 95, .iaddr 5 (.t 94) (.c (.int .i64 0))⟩,
 ⟨some (92, true), some 96, .faddr 0 (.t 95)⟩,
 ⟨some (92, true), some 97, .load .any false 1 (.t 96)⟩,
 ⟨some (92, true), some 98, .bin 0 [] .neq (.t 97) (.c (.int .i64 7))⟩,
 ⟨none, some 99, .pick (.t 92) (.t 98) (.c (.bool false))⟩,
 ⟨none, some 88, .mv (.t 99)⟩])
 (.cond (.t 88)
 (.seq
 (.region [
 ⟨none, some 4, .mv (.c (.bool false))⟩])
 .ret)
 .skip)))))))))))
 (.seq
 (.region [
 ⟨none, some 100, .faddr 3 (.t 2)⟩,
 ⟨none, some 101, .load (.box 2) false 1 (.t 100)⟩,
 ⟨none, some 102, .call false (.c (.fn 83 [] [])) [(.t 101), (.c (.fn 84 [] []))]⟩,
 ⟨none, some 103, .un .not (.t 102)⟩,
 ⟨none, some 104, .mv (.t 103)⟩,
 ⟨some (104, true), some 105, .faddr 4 (.t 2)⟩,
 ⟨some (104, true), some 106, .load (.box 2) false 1 (.t 105)⟩,
 ⟨some (104, true), some 107, .mv (.t 1)⟩,
 ⟨some (104, true), some 108, .bin 0 [] .sub (.t 107) (.c (.int .i64 1))⟩,
 ⟨some (104, true), some 109, .callP false (.c (.fn 63 [] [])) [(.t 106), (.t 108)]⟩,
 ⟨none, some 110, .pick (.t 104) (.t 109) (.c (.bool false))⟩,
 ⟨none, some 111, .mv (.t 110)⟩,
 ⟨some (111, true), some 112, .faddr 5 (.t 2)⟩,
 ⟨some (111, true), some 113, .load (.box 2) false 1 (.t 112)⟩,
 ⟨some (111, true), some 114, .mv (.t 1)⟩,
 ⟨some (111, true), some 115, .bin 0 [] .sub (.t 114) (.c (.int .i64 1))⟩,
 ⟨some (111, true), some 116, .callP false (.c (.fn 63 [] [])) [(.t 113), (.t 115)]⟩,
 ⟨none, some 117, .pick (.t 111) (.t 116) (.c (.bool false))⟩,
 ⟨none, some 4, .mv (.t 117)⟩])
 .ret))))

/-- boxhedge/tree.stmts$1 -/
def F73 : IFn where
  ntmps := 8
  nargs := 2
  res := [.tmp 3]
  freeze := false
  body :=
 (.seq
 (.region [
 ⟨none, some 2, .boxL 2 (.t 0)⟩,
 ⟨none, some 3, .mv (.c (.bool false))⟩])
 (.seq
 (.region [
 ⟨none, some 4, .load (.box 2) true 6 (.t 2)⟩,
 ⟨none, some 5, .load .any false 1 (.t 1)⟩,
 ⟨none, some 6, .callP false (.c (.fn 74 [] [])) [(.t 4), (.t 5)]⟩,
 ⟨none, some 7, .un .not (.t 6)⟩,
 ⟨none, some 3, .mv (.t 7)⟩])
 .ret))

/-- boxhedge/tree.stmts -/
def F63 : IFn where
  ntmps := 9
  nargs := 2
  res := [.tmp 4]
  freeze := false
  body :=
 (.seq
 (.region [
 ⟨none, some 3, .boxI (.t 1)⟩,
 ⟨none, some 4, .mv (.c (.bool false))⟩])
 (.seq
 (.region [
 ⟨none, some 5, .take 0⟩,
 ⟨none, some 6, .mkfn 73 [] [(.t 3)]⟩,
 ⟨none, some 7, .call false (.c (.fn 21 [] [])) [(.t 5), (.t 6)]⟩,
 ⟨none, some 8, .un .not (.t 7)⟩,
 ⟨none, some 4, .mv (.t 8)⟩])
 .ret))

/-- boxhedge/tree.function -/
def F48 : IFn where
  ntmps := 30
  nargs := 1
  res := [.tmp 2]
  freeze := false
  body :=
 (.seq
 (.region [
 ⟨none, some 1, .boxL 1 (.t 0)⟩,
 ⟨none, some 2, .mv (.c (.bool false))⟩])
 (.seq
 (.region [
 ⟨none, some 3, .mv (.c (.fn 60 [] []))⟩])
 (.seq
 (.region [
 ⟨none, some 4, .faddr 0 (.t 1)⟩,
 ⟨none, some 5, .load (.box 1) false 1 (.t 4)⟩,
 ⟨none, some 6, .callP false (.c (.fn 44 [] [])) [(.t 5)]⟩,
 ⟨none, some 7, .mv (.t 6)⟩,
 ⟨some (7, true), some 8, .faddr 1 (.t 1)⟩,
 ⟨some (7, true), some 9, .load (.box 1) false 1 (.t 8)⟩,
 ⟨some (7, true), some 10, .callP false (.c (.fn 61 [] [])) [(.t 9)]⟩,
 ⟨none, some 11, .pick (.t 7) (.t 10) (.c (.bool false))⟩,
 ⟨none, some 12, .mv (.t 11)⟩,
 ⟨some (12, true), some 13, .faddr 2 (.t 1)⟩,
 ⟨some (12, true), some 14, .load (.box 1) false 1 (.t 13)⟩,
 ⟨some (12, true), some 15, .len 1 (.t 14)⟩,
 ⟨some (12, true), some 16, .bin 0 [] .leq (.t 15) (.c (.int .i64 8))⟩,
 ⟨none, some 17, .pick (.t 12) (.t 16) (.c (.bool false))⟩,
 ⟨none, some 18, .mv (.t 17)⟩,
 ⟨some (18, true), some 19, .faddr 2 (.t 1)⟩,
 ⟨some (18, true), some 20, .load (.box 1) false 1 (.t 19)⟩,
 ⟨some (18, true), some 21, .mv (.t 3)⟩,
 ⟨some (18, true), some 22, .call false (.c (.fn 62 [] [])) [(.t 20), (.t 21)]⟩,
 ⟨some (18, true), some 23, .un .not (.t 22)⟩,
 ⟨none, some 24, .pick (.t 18) (.t 23) (.c (.bool false))⟩,
 ⟨none, some 25, .mv (.t 24)⟩,
 ⟨some (25, true), some 26, .faddr 3 (.t 1)⟩,
 ⟨some (25, true), some 27, .load (.box 1) false 1 (.t 26)⟩,
 ⟨some (25, true), some 28, .callP false (.c (.fn 63 [] [])) [(.t 27), (.c (.int .i64 100))]⟩,
 ⟨none, some 29, .pick (.t 25) (.t 28) (.c (.bool false))⟩,
 ⟨none, some 2, .mv (.t 29)⟩])
 .ret)))

/-- boxhedge/tree.Right$2 -/
def F47 : IFn where
  ntmps := 6
  nargs := 1
  res := [.tmp 2]
  freeze := false
  body :=
 (.seq
 (.region [
 ⟨none, some 1, .boxL 1 (.t 0)⟩,
 ⟨none, some 2, .mv (.c (.bool false))⟩])
 (.seq
 (.region [
 ⟨none, some 3, .load (.box 1) true 4 (.t 1)⟩,
 ⟨none, some 4, .callP false (.c (.fn 48 [] [])) [(.t 3)]⟩,
 ⟨none, some 5, .un .not (.t 4)⟩,
 ⟨none, some 2, .mv (.t 5)⟩])
 .ret))

/-- boxhedge/tree.Right -/
def F16 : IFn where
  ntmps := 15
  nargs := 1
  res := [.tmp 2]
  freeze := false
  body :=
 (.seq
 (.region [
 ⟨none, some 1, .boxL 1 (.t 0)⟩,
 ⟨none, some 2, .mv (.c (.bool false))⟩])
 (.seq
 (.region [
 ⟨none, some 3, .mv (.c (.fn 43 [] []))⟩])
 (.seq
 (.region [
 ⟨none, some 4, .faddr 0 (.t 1)⟩,
 ⟨none, some 5, .load (.box 1) false 1 (.t 4)⟩,
 ⟨none, some 6, .mv (.t 3)⟩,
 ⟨none, some 7, .call false (.c (.fn 45 [] [])) [(.t 5), (.t 6)]⟩,
 ⟨none, some 8, .un .not (.t 7)⟩,
 ⟨none, some 9, .mv (.t 8)⟩,
 ⟨some (9, true), some 10, .faddr 1 (.t 1)⟩,
 ⟨some (9, true), some 11, .load (.box 1) false 1 (.t 10)⟩,
 ⟨some (9, true), some 12, .call false (.c (.fn 46 [] [])) [(.t 11), (.c (.fn 47 [] []))]⟩,
 ⟨some (9, true), some 13, .un .not (.t 12)⟩,
 ⟨none, some 14, .pick (.t 9) (.t 13) (.c (.bool false))⟩,
 ⟨none, some 2, .mv (.t 14)⟩])
 .ret)))

/-- boxhedge/types.Place$1 -/
def F25 : IFn where
  ntmps := 8
  nargs := 2
  res := [.tmp 3]
  freeze := false
  body :=
 (.seq
 (.region [
 ⟨none, some 2, .boxL 2 (.t 0)⟩,
 ⟨none, some 3, .mv (.c (.bool false))⟩])
 (.seq
 (.region [
 ⟨none, some 4, .faddr 0 (.t 2)⟩,
 ⟨none, some 5, .load (.box 2) false 1 (.t 4)⟩,
 ⟨none, some 6, .load .any false 1 (.t 1)⟩,
 ⟨none, some 7, .bin 0 [] .eql (.t 5) (.t 6)⟩,
 ⟨none, some 3, .mv (.t 7)⟩])
 .ret))

/-- boxhedge/types.Place -/
def F10 : IFn where
  ntmps := 9
  nargs := 2
  res := [.tmp 4]
  freeze := false
  body :=
 (.seq
 (.region [
 ⟨none, some 2, .boxL 2 (.t 0)⟩,
 ⟨none, some 3, .boxI (.t 1)⟩,
 ⟨none, some 4, .mv (.c (.int .i64 0))⟩])
 (.seq
 (.region [
 ⟨none, some 5, .faddr 1 (.t 2)⟩,
 ⟨none, some 6, .load (.box 2) false 1 (.t 5)⟩,
 ⟨none, some 7, .mkfn 25 [] [(.t 3)]⟩,
 ⟨none, some 8, .call false (.c (.fn 24 [] [])) [(.t 6), (.t 7)]⟩,
 ⟨none, some 4, .mv (.t 8)⟩])
 .ret))

def L17_0 : ICode := .loop [1, 3, 11, 12, 13] [5]
 (.seq
 (.region [
 ⟨none, some 14, .bin 0 [] .lss (.t 13) (.t 12)⟩])
 (.seq
 (.cond (.t 14)
 .skip
 (.exit 0))
 (.seq
 (.block 1
 (.seq
 (.region [
 ⟨none, some 15, .iaddr 2 (.t 11) (.t 13)⟩,
 ⟨none, some 16, .load .any true 2 (.t 15)⟩,
 ⟨none, some 5, .boxL 5 (.c (.agg [.str [], .int .i64 0]))⟩,
 ⟨none, none, .store (.box 5) 2 (.t 5) (.t 16)⟩])
 (.region [
 ⟨none, some 17, .mv (.t 3)⟩,
 ⟨none, some 18, .faddr 0 (.t 5)⟩,
 ⟨none, some 19, .load (.box 5) false 1 (.t 18)⟩,
 ⟨none, some 20, .lookup true false (.int .i64 0) (.t 17) (.t 19)⟩,
 ⟨none, some 21, .bin 0 [] .add (.t 20) (.c (.int .i64 1))⟩,
 ⟨none, none, .mapset true (.t 17) (.t 19) (.t 21)⟩])))
 (.region [
 ⟨none, some 22, .bin 0 [] .add (.t 13) (.c (.int .i64 1))⟩,
 ⟨none, some 13, .mv (.t 22)⟩]))))
def L17_1 : ICode := .loop [1, 3, 24, 25, 26] [7]
 (.seq
 (.region [
 ⟨none, some 27, .bin 0 [] .lss (.t 26) (.t 25)⟩])
 (.seq
 (.cond (.t 27)
 .skip
 (.exit 2))
 (.seq
 (.block 3
 (.seq
 (.region [
 ⟨none, some 28, .iaddr 4 (.t 24) (.t 26)⟩,
 ⟨none, some 29, .load .any true 4 (.t 28)⟩,
 ⟨none, some 7, .boxL 7 (.c (.agg [.str [], .int .i64 0, .slice .fit 2 [], .slice .fit 6 []]))⟩,
 ⟨none, none, .store (.box 7) 4 (.t 7) (.t 29)⟩])
 (.region [
 ⟨none, some 30, .mv (.t 3)⟩,
 ⟨none, some 31, .faddr 0 (.t 7)⟩,
 ⟨none, some 32, .load (.box 7) false 1 (.t 31)⟩,
 ⟨none, some 33, .lookup true false (.int .i64 0) (.t 30) (.t 32)⟩,
 ⟨none, some 34, .bin 0 [] .add (.t 33) (.c (.int .i64 1))⟩,
 ⟨none, none, .mapset true (.t 30) (.t 32) (.t 34)⟩])))
 (.region [
 ⟨none, some 35, .bin 0 [] .add (.t 26) (.c (.int .i64 1))⟩,
 ⟨none, some 26, .mv (.t 35)⟩]))))
abbrev K17_0 : List Nat := [1, 3, 11, 12]
abbrev B17_0 : List Nat := [1]
abbrev K17_1 : List Nat := [1, 3, 24, 25]
abbrev B17_1 : List Nat := [1]
/-- boxhedge/types.named -/
def F17 : IFn where
  ntmps := 71
  nargs := 1
  res := [.tmp 2]
  freeze := true
  body :=
 (.seq
 (.region [
 ⟨none, some 1, .boxL 1 (.t 0)⟩,
 ⟨none, some 2, .mv (.c (.bool false))⟩])
 (.seq
 (.region [
 ⟨none, some 9, .mkmap⟩,
 ⟨none, some 3, .mv (.t 9)⟩])
 (.seq
 (.seq
 (.region [
 ⟨none, some 10, .faddr 0 (.t 1)⟩,
 ⟨none, some 11, .load (.box 1) false 1 (.t 10)⟩,
 ⟨none, some 12, .len 1 (.t 11)⟩,
 ⟨none, some 13, .mv (.c (.int .i64 0))⟩])
 (.block 0
 L17_0))
 (.seq
 (.seq
 (.region [
 ⟨none, some 23, .faddr 1 (.t 1)⟩,
 ⟨none, some 24, .load (.box 1) false 1 (.t 23)⟩,
 ⟨none, some 25, .len 1 (.t 24)⟩,
 ⟨none, some 26, .mv (.c (.int .i64 0))⟩])
 (.block 2
 L17_1))
 (.seq
 (.region [
 ⟨none, some 36, .load (.box 1) true 2 (.t 1)⟩,
 ⟨none, some 37, .callP false (.c (.fn 10 [] [])) [(.t 36), (.c (.str [109, 97, 105, 110]))]⟩,
 ⟨none, some 8, .mv (.t 37)⟩])
 (.seq
 (.region [
 ⟨none, some 38, .mv (.t 3)⟩,
 ⟨none, some 39, .len 2 (.t 38)⟩,
 ⟨none, some 40, .faddr 0 (.t 1)⟩,
 ⟨none, some 41, .load (.box 1) false 1 (.t 40)⟩,
 ⟨none, some 42, .len 1 (.t 41)⟩,
 ⟨none, some 43, .faddr 1 (.t 1)⟩,
 ⟨none, some 44, .load (.box 1) false 1 (.t 43)⟩,
 ⟨none, some 45, .len 1 (.t 44)⟩,
 ⟨none, some 46, .bin 0 [] .add (.t 42) (.t 45)⟩,
 ⟨none, some 47, .bin 0 [] .eql (.t 39) (.t 46)⟩,
 ⟨none, some 48, .mv (.t 47)⟩,
 ⟨some (48, true), some 49, .mv (.t 8)⟩,
 ⟨some (48, true), some 50, .bin 0 [] .geq (.t 49) (.c (.int .i64 0))⟩,
 ⟨none, some 51, .pick (.t 48) (.t 50) (.c (.bool false))⟩,
 ⟨none, some 52, .mv (.t 51)⟩,
 ⟨some (52, true), some 53, .faddr 1 (.t 1)⟩,
 ⟨some (52, true), some 54, .load (.box 1) false 1 (.t 53)⟩,
 ⟨some (52, true), some 55, .mv (.t 8)⟩,
 ⟨some (52, true), some 56, .iaddr 4 (.t 54) (.t 55)⟩,
 ⟨some (52, true), some 57, .faddr 1 (.t 56)⟩,
 ⟨some (52, true), some 58, .load .any false 1 (.t 57)⟩,
 ⟨some (52, true), some 59, .bin 0 [] .eql (.t 58) (.c (.int .i64 1))⟩,
 ⟨none, some 60, .pick (.t 52) (.t 59) (.c (.bool false))⟩,
 ⟨none, some 61, .mv (.t 60)⟩,
 ⟨some (61, true), some 62, .faddr 1 (.t 1)⟩,
 ⟨some (61, true), some 63, .load (.box 1) false 1 (.t 62)⟩,
 ⟨some (61, true), some 64, .mv (.t 8)⟩,
 ⟨some (61, true), some 65, .iaddr 4 (.t 63) (.t 64)⟩,
 ⟨some (61, true), some 66, .faddr 2 (.t 65)⟩,
 ⟨some (61, true), some 67, .load .any false 1 (.t 66)⟩,
 ⟨some (61, true), some 68, .len 1 (.t 67)⟩,
 ⟨some (61, true), some 69, .bin 0 [] .eql (.t 68) (.c (.int .i64 0))⟩,
 ⟨none, some 70, .pick (.t 61) (.t 69) (.c (.bool false))⟩,
 ⟨none, some 2, .mv (.t 70)⟩])
 .ret))))))

def L18_0 : ICode := .loop [0, 3, 7, 8, 9] [5]
 (.seq
 (.region [
 ⟨none, some 10, .bin 0 [] .lss (.t 9) (.t 8)⟩])
 (.seq
 (.cond (.t 10)
 .skip
 (.exit 0))
 (.seq
 (.block 1
 (.seq
 (.region [
 ⟨none, some 11, .iaddr 2 (.t 7) (.t 9)⟩,
 ⟨none, some 12, .load .any true 2 (.t 11)⟩,
 ⟨none, some 5, .boxL 5 (.c (.agg [.str [], .int .i64 0]))⟩,
 ⟨none, none, .store (.box 5) 2 (.t 5) (.t 12)⟩])
 (.region [
 ⟨none, some 13, .mv (.t 3)⟩,
 ⟨none, some 14, .faddr 0 (.t 5)⟩,
 ⟨none, some 15, .load (.box 5) false 1 (.t 14)⟩,
 ⟨none, some 16, .lookup true false (.int .i64 0) (.t 13) (.t 15)⟩,
 ⟨none, some 17, .bin 0 [] .add (.t 16) (.c (.int .i64 1))⟩,
 ⟨none, none, .mapset true (.t 13) (.t 15) (.t 17)⟩])))
 (.region [
 ⟨none, some 18, .bin 0 [] .add (.t 9) (.c (.int .i64 1))⟩,
 ⟨none, some 9, .mv (.t 18)⟩]))))
abbrev K18_0 : List Nat := [0, 3, 7, 8]
abbrev B18_0 : List Nat := []
/-- boxhedge/types.twice -/
def F18 : IFn where
  ntmps := 24
  nargs := 1
  res := [.tmp 2]
  freeze := true
  body :=
 (.seq
 (.region [
 ⟨none, some 2, .mv (.c (.bool false))⟩])
 (.seq
 (.region [
 ⟨none, some 6, .mkmap⟩,
 ⟨none, some 3, .mv (.t 6)⟩])
 (.seq
 (.seq
 (.region [
 ⟨none, some 7, .mv (.t 0)⟩,
 ⟨none, some 8, .len 1 (.t 7)⟩,
 ⟨none, some 9, .mv (.c (.int .i64 0))⟩])
 (.block 0
 L18_0))
 (.seq
 (.region [
 ⟨none, some 19, .mv (.t 3)⟩,
 ⟨none, some 20, .len 2 (.t 19)⟩,
 ⟨none, some 21, .take 0⟩,
 ⟨none, some 22, .len 1 (.t 21)⟩,
 ⟨none, some 23, .bin 0 [] .lss (.t 20) (.t 22)⟩,
 ⟨none, some 2, .mv (.t 23)⟩])
 .ret))))

/-- boxhedge/types.Array$1 -/
def F27 : IFn where
  ntmps := 8
  nargs := 2
  res := [.tmp 3]
  freeze := false
  body :=
 (.seq
 (.region [
 ⟨none, some 2, .boxL 2 (.t 0)⟩,
 ⟨none, some 3, .mv (.c (.bool false))⟩])
 (.seq
 (.region [
 ⟨none, some 4, .faddr 0 (.t 2)⟩,
 ⟨none, some 5, .load (.box 2) false 1 (.t 4)⟩,
 ⟨none, some 6, .load .any false 1 (.t 1)⟩,
 ⟨none, some 7, .bin 0 [] .eql (.t 5) (.t 6)⟩,
 ⟨none, some 3, .mv (.t 7)⟩])
 .ret))

/-- boxhedge/types.Array -/
def F11 : IFn where
  ntmps := 9
  nargs := 2
  res := [.tmp 4]
  freeze := false
  body :=
 (.seq
 (.region [
 ⟨none, some 2, .boxL 2 (.t 0)⟩,
 ⟨none, some 3, .boxI (.t 1)⟩,
 ⟨none, some 4, .mv (.c (.int .i64 0))⟩])
 (.seq
 (.region [
 ⟨none, some 5, .faddr 0 (.t 2)⟩,
 ⟨none, some 6, .load (.box 2) false 1 (.t 5)⟩,
 ⟨none, some 7, .mkfn 27 [] [(.t 3)]⟩,
 ⟨none, some 8, .call false (.c (.fn 26 [] [])) [(.t 6), (.t 7)]⟩,
 ⟨none, some 4, .mv (.t 8)⟩])
 .ret))

/-- boxhedge/types.fine -/
def F66 : IFn where
  ntmps := 7
  nargs := 2
  res := [.tmp 4]
  freeze := false
  body :=
 (.seq
 (.region [
 ⟨none, some 4, .mv (.c (.int .i64 0))⟩])
 (.seq
 (.seq
 (.region [
 ⟨none, some 5, .mv (.t 0)⟩])
 (.cond (.t 5)
 (.seq
 (.region [
 ⟨none, some 4, .mv (.c (.int .i64 0))⟩])
 .ret)
 .skip))
 (.seq
 (.region [
 ⟨none, some 6, .mv (.t 1)⟩,
 ⟨none, some 4, .mv (.t 6)⟩])
 .ret)))

def L78_0 : ICode := .loop [0, 1] []
 (.seq
 (.seq
 (.region [
 ⟨none, some 5, .mv (.t 0)⟩,
 ⟨none, some 6, .bin 3 [] .neq (.t 5) (.c (.nilp))⟩,
 ⟨none, some 7, .mv (.t 6)⟩,
 ⟨some (7, true), some 8, .mv (.t 0)⟩,
 ⟨some (7, true), some 9, .nilck (.t 8)⟩,
 ⟨some (7, true), some 10, .faddr 0 (.t 9)⟩,
 ⟨some (7, true), some 11, .faddr 0 (.t 10)⟩,
 ⟨some (7, true), some 12, .load .any false 1 (.t 11)⟩,
 ⟨some (7, true), some 13, .mv (.t 1)⟩,
 ⟨some (7, true), some 14, .bin 0 [] .neq (.t 12) (.t 13)⟩,
 ⟨none, some 15, .pick (.t 7) (.t 14) (.c (.bool false))⟩])
 (.cond (.t 15)
 .skip
 (.exit 0)))
 (.block 1
 (.region [
 ⟨none, some 16, .mv (.t 0)⟩,
 ⟨none, some 17, .nilck (.t 16)⟩,
 ⟨none, some 18, .faddr 2 (.t 17)⟩,
 ⟨none, some 19, .load .any false 1 (.t 18)⟩,
 ⟨none, some 0, .mv (.t 19)⟩])))
abbrev K78_0 : List Nat := [1]
abbrev B78_0 : List Nat := []
/-- (*boxhedge/types.scope).find -/
def F78 : IFn where
  ntmps := 21
  nargs := 2
  res := [.tmp 4]
  freeze := false
  body :=
 (.seq
 (.region [
 ⟨none, some 4, .mv (.c (.nilp))⟩])
 (.seq
 (.block 0
 L78_0)
 (.seq
 (.region [
 ⟨none, some 20, .mv (.t 0)⟩,
 ⟨none, some 4, .mv (.t 20)⟩])
 .ret)))

/-- (boxhedge/types.typer).named -/
def F75 : IFn where
  ntmps := 49
  nargs := 3
  res := [.tmp 6]
  freeze := false
  body :=
 (.seq
 (.region [
 ⟨none, some 3, .boxL 3 (.t 0)⟩,
 ⟨none, some 5, .boxL 5 (.t 2)⟩,
 ⟨none, some 6, .mv (.c (.int .i64 0))⟩])
 (.seq
 (.seq
 (.region [
 ⟨none, some 8, .faddr 0 (.t 5)⟩,
 ⟨none, some 9, .load (.box 5) false 1 (.t 8)⟩])
 (.block 0
 (.seq
 (.region [
 ⟨none, some 11, .bin 0 [] .eql (.t 9) (.c (.int .i64 3))⟩,
 ⟨none, some 10, .mv (.t 11)⟩])
 (.cond (.t 10)
 (.seq
 (.region [
 ⟨none, some 12, .mv (.t 1)⟩,
 ⟨none, some 13, .faddr 3 (.t 5)⟩,
 ⟨none, some 14, .load (.box 5) false 1 (.t 13)⟩,
 ⟨none, some 15, .call false (.c (.fn 78 [] [])) [(.t 12), (.t 14)]⟩,
 ⟨none, some 16, .bin 3 [] .neq (.t 15) (.c (.nilp))⟩,
 ⟨none, some 17, .callP false (.c (.fn 66 [] [])) [(.t 16), (.c (.int .i64 50))]⟩,
 ⟨none, some 6, .mv (.t 17)⟩])
 .ret)
 (.seq
 (.region [
 ⟨none, some 19, .bin 0 [] .eql (.t 9) (.c (.int .i64 6))⟩,
 ⟨none, some 18, .mv (.t 19)⟩])
 (.cond (.t 18)
 (.seq
 (.region [
 ⟨none, some 20, .faddr 0 (.t 3)⟩,
 ⟨none, some 21, .load (.box 3) true 2 (.t 20)⟩,
 ⟨none, some 22, .faddr 3 (.t 5)⟩,
 ⟨none, some 23, .load (.box 5) false 1 (.t 22)⟩,
 ⟨none, some 24, .callP false (.c (.fn 11 [] [])) [(.t 21), (.t 23)]⟩,
 ⟨none, some 25, .bin 0 [] .geq (.t 24) (.c (.int .i64 0))⟩,
 ⟨none, some 26, .callP false (.c (.fn 66 [] [])) [(.t 25), (.c (.int .i64 50))]⟩,
 ⟨none, some 6, .mv (.t 26)⟩])
 .ret)
 (.seq
 (.region [
 ⟨none, some 28, .bin 0 [] .eql (.t 9) (.c (.int .i64 7))⟩,
 ⟨none, some 27, .mv (.t 28)⟩])
 (.cond (.t 27)
 (.seq
 (.region [
 ⟨none, some 29, .faddr 0 (.t 3)⟩,
 ⟨none, some 30, .load (.box 3) true 2 (.t 29)⟩,
 ⟨none, some 31, .faddr 3 (.t 5)⟩,
 ⟨none, some 32, .load (.box 5) false 1 (.t 31)⟩,
 ⟨none, some 33, .callP false (.c (.fn 10 [] [])) [(.t 30), (.t 32)]⟩,
 ⟨none, some 7, .mv (.t 33)⟩])
 (.seq
 (.seq
 (.region [
 ⟨none, some 34, .mv (.t 7)⟩,
 ⟨none, some 35, .bin 0 [] .lss (.t 34) (.c (.int .i64 0))⟩])
 (.cond (.t 35)
 (.seq
 (.region [
 ⟨none, some 6, .mv (.c (.int .i64 50))⟩])
 .ret)
 .skip))
 (.seq
 (.region [
 ⟨none, some 36, .faddr 0 (.t 3)⟩,
 ⟨none, some 37, .faddr 1 (.t 36)⟩,
 ⟨none, some 38, .load (.box 3) false 1 (.t 37)⟩,
 ⟨none, some 39, .mv (.t 7)⟩,
 ⟨none, some 40, .iaddr 4 (.t 38) (.t 39)⟩,
 ⟨none, some 41, .faddr 2 (.t 40)⟩,
 ⟨none, some 42, .load .imm false 1 (.t 41)⟩,
 ⟨none, some 43, .len 1 (.t 42)⟩,
 ⟨none, some 44, .faddr 4 (.t 5)⟩,
 ⟨none, some 45, .load (.box 5) false 1 (.t 44)⟩,
 ⟨none, some 46, .len 1 (.t 45)⟩,
 ⟨none, some 47, .bin 0 [] .eql (.t 43) (.t 46)⟩,
 ⟨none, some 48, .callP false (.c (.fn 66 [] [])) [(.t 47), (.c (.int .i64 51))]⟩,
 ⟨none, some 6, .mv (.t 48)⟩])
 .ret)))
 .skip))))))))
 (.seq
 (.region [
 ⟨none, some 6, .mv (.c (.int .i64 0))⟩])
 .ret)))

def L76_0 : ICode := .loop [1, 3, 6, 13, 14, 15] [9]
 (.seq
 (.region [
 ⟨none, some 16, .bin 0 [] .lss (.t 15) (.t 14)⟩])
 (.seq
 (.cond (.t 16)
 .skip
 (.exit 0))
 (.seq
 (.block 1
 (.seq
 (.region [
 ⟨none, some 17, .iaddr 5 (.t 13) (.t 15)⟩,
 ⟨none, some 18, .load .any true 5 (.t 17)⟩,
 ⟨none, some 9, .boxL 9 (.c (.agg [.int .i64 0, .int .i64 0, .int .i64 0, .str [], .slice .fit 5 []]))⟩,
 ⟨none, none, .store (.box 9) 5 (.t 9) (.t 18)⟩])
 (.seq
 (.region [
 ⟨none, some 20, .load (.box 3) true 2 (.t 3)⟩,
 ⟨none, some 21, .mv (.t 1)⟩,
 ⟨none, some 22, .load (.box 9) true 5 (.t 9)⟩,
 ⟨none, some 23, .call false (.c (.fn 65 [] [])) [(.t 20), (.t 21), (.t 22)]⟩,
 ⟨none, some 19, .mv (.t 23)⟩,
 ⟨none, some 24, .ext (.t 19) 0⟩,
 ⟨none, some 25, .ext (.t 19) 1⟩,
 ⟨none, some 10, .mv (.t 24)⟩,
 ⟨none, some 11, .mv (.t 25)⟩])
 (.seq
 (.seq
 (.region [
 ⟨none, some 26, .mv (.t 11)⟩,
 ⟨none, some 27, .bin 0 [] .neq (.t 26) (.c (.int .i64 0))⟩])
 (.cond (.t 27)
 (.seq
 (.region [
 ⟨none, some 28, .mv (.t 11)⟩,
 ⟨none, some 6, .mv (.c (.slice .fit 1 []))⟩,
 ⟨none, some 7, .mv (.t 28)⟩])
 .ret)
 .skip))
 (.region [
 ⟨none, some 29, .take 6⟩,
 ⟨none, some 30, .mv (.t 10)⟩,
 ⟨none, some 31, .bslice 1 (.int .i64 0) 1 [(0, (.t 30))]⟩,
 ⟨none, some 32, .append 1 8 (.t 29) (.t 31)⟩,
 ⟨none, some 6, .take 32⟩])))))
 (.region [
 ⟨none, some 33, .bin 0 [] .add (.t 15) (.c (.int .i64 1))⟩,
 ⟨none, some 15, .mv (.t 33)⟩]))))
abbrev K76_0 : List Nat := [1, 3, 13, 14]
abbrev B76_0 : List Nat := [3]
/-- (boxhedge/types.typer).args -/
def F76 : IFn where
  ntmps := 35
  nargs := 3
  res := [.tmp 6, .tmp 7]
  freeze := false
  body :=
 (.seq
 (.region [
 ⟨none, some 3, .boxL 3 (.t 0)⟩,
 ⟨none, some 5, .boxL 5 (.t 2)⟩,
 ⟨none, some 6, .mv (.c (.slice .fit 1 []))⟩,
 ⟨none, some 7, .mv (.c (.int .i64 0))⟩])
 (.seq
 (.seq
 (.region [
 ⟨none, some 12, .faddr 4 (.t 5)⟩,
 ⟨none, some 13, .load (.box 5) false 1 (.t 12)⟩,
 ⟨none, some 14, .len 1 (.t 13)⟩,
 ⟨none, some 15, .mv (.c (.int .i64 0))⟩])
 (.block 0
 L76_0))
 (.seq
 (.region [
 ⟨none, some 34, .take 6⟩,
 ⟨none, some 6, .take 34⟩,
 ⟨none, some 7, .mv (.c (.int .i64 0))⟩])
 .ret)))

/-- boxhedge/types.takes -/
def F86 : IFn where
  ntmps := 25
  nargs := 2
  res := [.tmp 4, .tmp 5]
  freeze := false
  body :=
 (.seq
 (.region [
 ⟨none, some 4, .mv (.c (.int .i64 0))⟩,
 ⟨none, some 5, .mv (.c (.bool false))⟩])
 (.seq
 (.seq
 (.region [
 ⟨none, some 6, .mv (.t 0)⟩])
 (.block 0
 (.seq
 (.seq
 (.region [
 ⟨none, some 8, .bin 0 [] .eql (.t 6) (.c (.int .i64 18))⟩,
 ⟨none, some 7, .mv (.t 8)⟩])
 (.cond (.t 7)
 .skip
 (.seq
 (.region [
 ⟨none, some 9, .bin 0 [] .eql (.t 6) (.c (.int .i64 19))⟩,
 ⟨none, some 7, .mv (.t 9)⟩])
 (.cond (.t 7)
 .skip
 (.region [
 ⟨none, some 10, .bin 0 [] .eql (.t 6) (.c (.int .i64 22))⟩,
 ⟨none, some 7, .mv (.t 10)⟩])))))
 (.cond (.t 7)
 (.seq
 (.region [
 ⟨none, some 11, .mv (.t 1)⟩,
 ⟨none, some 12, .bin 0 [] .eql (.t 11) (.c (.int .i64 2))⟩,
 ⟨none, some 4, .mv (.c (.int .i64 2))⟩,
 ⟨none, some 5, .mv (.t 12)⟩])
 .ret)
 (.seq
 (.seq
 (.region [
 ⟨none, some 14, .bin 0 [] .eql (.t 6) (.c (.int .i64 16))⟩,
 ⟨none, some 13, .mv (.t 14)⟩])
 (.cond (.t 13)
 .skip
 (.region [
 ⟨none, some 15, .bin 0 [] .eql (.t 6) (.c (.int .i64 17))⟩,
 ⟨none, some 13, .mv (.t 15)⟩])))
 (.cond (.t 13)
 (.seq
 (.region [
 ⟨none, some 4, .mv (.c (.int .i64 2))⟩,
 ⟨none, some 5, .mv (.c (.bool true))⟩])
 .ret)
 (.seq
 (.seq
 (.region [
 ⟨none, some 17, .bin 0 [] .eql (.t 6) (.c (.int .i64 12))⟩,
 ⟨none, some 16, .mv (.t 17)⟩])
 (.cond (.t 16)
 .skip
 (.seq
 (.region [
 ⟨none, some 18, .bin 0 [] .eql (.t 6) (.c (.int .i64 13))⟩,
 ⟨none, some 16, .mv (.t 18)⟩])
 (.cond (.t 16)
 .skip
 (.seq
 (.region [
 ⟨none, some 19, .bin 0 [] .eql (.t 6) (.c (.int .i64 14))⟩,
 ⟨none, some 16, .mv (.t 19)⟩])
 (.cond (.t 16)
 .skip
 (.region [
 ⟨none, some 20, .bin 0 [] .eql (.t 6) (.c (.int .i64 15))⟩,
 ⟨none, some 16, .mv (.t 20)⟩])))))))
 (.cond (.t 16)
 (.seq
 (.region [
 ⟨none, some 21, .mv (.t 1)⟩,
 ⟨none, some 22, .bin 0 [] .eql (.t 21) (.c (.int .i64 1))⟩,
 ⟨none, some 4, .mv (.c (.int .i64 2))⟩,
 ⟨none, some 5, .mv (.t 22)⟩])
 .ret)
 .skip))))))))
 (.seq
 (.region [
 ⟨none, some 23, .mv (.t 1)⟩,
 ⟨none, some 24, .bin 0 [] .eql (.t 23) (.c (.int .i64 1))⟩,
 ⟨none, some 4, .mv (.c (.int .i64 1))⟩,
 ⟨none, some 5, .mv (.t 24)⟩])
 .ret)))

def L87_0 : ICode := .loop [1, 2, 15, 16, 17] [9]
 (.seq
 (.region [
 ⟨none, some 18, .bin 0 [] .lss (.t 17) (.t 16)⟩])
 (.seq
 (.cond (.t 18)
 .skip
 (.exit 0))
 (.seq
 (.block 1
 (.seq
 (.region [
 ⟨none, some 19, .mv (.t 17)⟩,
 ⟨none, some 20, .iaddr 1 (.t 15) (.t 17)⟩,
 ⟨none, some 21, .load .any false 1 (.t 20)⟩,
 ⟨none, some 7, .mv (.t 19)⟩,
 ⟨none, some 8, .mv (.t 21)⟩])
 (.seq
 (.region [
 ⟨none, some 22, .mv (.t 1)⟩,
 ⟨none, some 23, .mv (.t 7)⟩,
 ⟨none, some 24, .iaddr 2 (.t 22) (.t 23)⟩,
 ⟨none, some 25, .load .any true 2 (.t 24)⟩,
 ⟨none, some 9, .boxL 9 (.c (.agg [.str [], .int .i64 0]))⟩,
 ⟨none, none, .store (.box 9) 2 (.t 9) (.t 25)⟩])
 (.seq
 (.region [
 ⟨none, some 26, .mv (.t 2)⟩,
 ⟨none, some 27, .mv (.t 8)⟩,
 ⟨none, some 28, .load (.box 9) true 2 (.t 9)⟩,
 ⟨none, some 29, .call false (.t 26) [(.t 27), (.t 28)]⟩,
 ⟨none, some 30, .un .not (.t 29)⟩])
 (.cond (.t 30)
 (.seq
 (.region [
 ⟨none, some 6, .mv (.c (.bool false))⟩])
 .ret)
 .skip)))))
 (.region [
 ⟨none, some 31, .bin 0 [] .add (.t 17) (.c (.int .i64 1))⟩,
 ⟨none, some 17, .mv (.t 31)⟩]))))
abbrev K87_0 : List Nat := [1, 2, 15, 16]
abbrev B87_0 : List Nat := []
/-- slices.EqualFunc[[]int,[]boxhedge/api.Param,int,boxhedge/api.Param] -/
def F87 : IFn where
  ntmps := 32
  nargs := 3
  res := [.tmp 6]
  freeze := false
  body :=
 (.seq
 (.region [
 ⟨none, some 6, .mv (.c (.bool false))⟩])
 (.seq
 (.seq
 (.region [
 ⟨none, some 10, .mv (.t 0)⟩,
 ⟨none, some 11, .len 1 (.t 10)⟩,
 ⟨none, some 12, .mv (.t 1)⟩,
 ⟨none, some 13, .len 1 (.t 12)⟩,
 ⟨none, some 14, .bin 0 [] .neq (.t 11) (.t 13)⟩])
 (.cond (.t 14)
 (.seq
 (.region [
 ⟨none, some 6, .mv (.c (.bool false))⟩])
 .ret)
 .skip))
 (.seq
 (.seq
 (.region [
 ⟨none, some 15, .take 0⟩,
 ⟨none, some 16, .len 1 (.t 15)⟩,
 ⟨none, some 17, .mv (.c (.int .i64 0))⟩])
 (.block 0
 L87_0))
 (.seq
 (.region [
 ⟨none, some 6, .mv (.c (.bool true))⟩])
 .ret))))

/-- (boxhedge/types.typer).made$1 -/
def F88 : IFn where
  ntmps := 9
  nargs := 2
  res := [.tmp 4]
  freeze := false
  body :=
 (.seq
 (.region [
 ⟨none, some 3, .boxL 3 (.t 1)⟩,
 ⟨none, some 4, .mv (.c (.bool false))⟩])
 (.seq
 (.region [
 ⟨none, some 5, .mv (.t 0)⟩,
 ⟨none, some 6, .faddr 1 (.t 3)⟩,
 ⟨none, some 7, .load (.box 3) false 1 (.t 6)⟩,
 ⟨none, some 8, .bin 0 [] .eql (.t 5) (.t 7)⟩,
 ⟨none, some 4, .mv (.t 8)⟩])
 .ret))

/-- (boxhedge/types.typer).made -/
def F77 : IFn where
  ntmps := 83
  nargs := 4
  res := [.tmp 8, .tmp 9]
  freeze := false
  body :=
 (.seq
 (.region [
 ⟨none, some 4, .boxL 4 (.t 0)⟩,
 ⟨none, some 6, .boxL 6 (.t 2)⟩,
 ⟨none, some 8, .mv (.c (.int .i64 0))⟩,
 ⟨none, some 9, .mv (.c (.bool false))⟩])
 (.seq
 (.seq
 (.region [
 ⟨none, some 13, .faddr 0 (.t 6)⟩,
 ⟨none, some 14, .load (.box 6) false 1 (.t 13)⟩])
 (.block 0
 (.seq
 (.region [
 ⟨none, some 16, .bin 0 [] .eql (.t 14) (.c (.int .i64 2))⟩,
 ⟨none, some 15, .mv (.t 16)⟩])
 (.cond (.t 15)
 (.seq
 (.region [
 ⟨none, some 8, .mv (.c (.int .i64 2))⟩,
 ⟨none, some 9, .mv (.c (.bool true))⟩])
 .ret)
 (.seq
 (.region [
 ⟨none, some 18, .bin 0 [] .eql (.t 14) (.c (.int .i64 3))⟩,
 ⟨none, some 17, .mv (.t 18)⟩])
 (.cond (.t 17)
 (.seq
 (.region [
 ⟨none, some 19, .mv (.t 1)⟩,
 ⟨none, some 20, .faddr 3 (.t 6)⟩,
 ⟨none, some 21, .load (.box 6) false 1 (.t 20)⟩,
 ⟨none, some 22, .call false (.c (.fn 78 [] [])) [(.t 19), (.t 21)]⟩,
 ⟨none, some 23, .nilck (.t 22)⟩,
 ⟨none, some 24, .faddr 0 (.t 23)⟩,
 ⟨none, some 25, .faddr 1 (.t 24)⟩,
 ⟨none, some 26, .load .any false 1 (.t 25)⟩,
 ⟨none, some 8, .mv (.t 26)⟩,
 ⟨none, some 9, .mv (.c (.bool true))⟩])
 .ret)
 (.seq
 (.region [
 ⟨none, some 28, .bin 0 [] .eql (.t 14) (.c (.int .i64 6))⟩,
 ⟨none, some 27, .mv (.t 28)⟩])
 (.cond (.t 27)
 (.seq
 (.region [
 ⟨none, some 29, .take 3⟩,
 ⟨none, some 30, .iaddr 1 (.t 29) (.c (.int .i64 0))⟩,
 ⟨none, some 31, .load .imm false 1 (.t 30)⟩,
 ⟨none, some 32, .bin 0 [] .eql (.t 31) (.c (.int .i64 1))⟩,
 ⟨none, some 8, .mv (.c (.int .i64 1))⟩,
 ⟨none, some 9, .mv (.t 32)⟩])
 .ret)
 (.seq
 (.region [
 ⟨none, some 34, .bin 0 [] .eql (.t 14) (.c (.int .i64 4))⟩,
 ⟨none, some 33, .mv (.t 34)⟩])
 (.cond (.t 33)
 (.seq
 (.region [
 ⟨none, some 35, .faddr 1 (.t 6)⟩,
 ⟨none, some 36, .load (.box 6) false 1 (.t 35)⟩,
 ⟨none, some 37, .take 3⟩,
 ⟨none, some 38, .iaddr 1 (.t 37) (.c (.int .i64 0))⟩,
 ⟨none, some 39, .load .imm false 1 (.t 38)⟩,
 ⟨none, some 40, .callP false (.c (.fn 86 [] [])) [(.t 36), (.t 39)]⟩,
 ⟨none, some 41, .ext (.t 40) 0⟩,
 ⟨none, some 42, .ext (.t 40) 1⟩,
 ⟨none, some 8, .mv (.t 41)⟩,
 ⟨none, some 9, .mv (.t 42)⟩])
 .ret)
 (.seq
 (.region [
 ⟨none, some 44, .bin 0 [] .eql (.t 14) (.c (.int .i64 5))⟩,
 ⟨none, some 43, .mv (.t 44)⟩])
 (.cond (.t 43)
 (.seq
 (.region [
 ⟨none, some 46, .faddr 1 (.t 6)⟩,
 ⟨none, some 47, .load (.box 6) false 1 (.t 46)⟩,
 ⟨none, some 48, .mv (.t 3)⟩,
 ⟨none, some 49, .iaddr 1 (.t 48) (.c (.int .i64 0))⟩,
 ⟨none, some 50, .load .imm false 1 (.t 49)⟩,
 ⟨none, some 51, .callP false (.c (.fn 86 [] [])) [(.t 47), (.t 50)]⟩,
 ⟨none, some 45, .mv (.t 51)⟩,
 ⟨none, some 52, .ext (.t 45) 0⟩,
 ⟨none, some 53, .ext (.t 45) 1⟩,
 ⟨none, some 10, .mv (.t 52)⟩,
 ⟨none, some 11, .mv (.t 53)⟩])
 (.seq
 (.region [
 ⟨none, some 54, .mv (.t 10)⟩,
 ⟨none, some 55, .mv (.t 11)⟩,
 ⟨none, some 56, .mv (.t 55)⟩,
 ⟨some (56, true), some 57, .mv (.t 3)⟩,
 ⟨some (56, true), some 58, .iaddr 1 (.t 57) (.c (.int .i64 0))⟩,
 ⟨some (56, true), some 59, .load .imm false 1 (.t 58)⟩,
 ⟨some (56, true), some 60, .mv (.t 3)⟩,
 ⟨some (56, true), some 61, .iaddr 1 (.t 60) (.c (.int .i64 1))⟩,
 ⟨some (56, true), some 62, .load .imm false 1 (.t 61)⟩,
 ⟨some (56, true), some 63, .bin 0 [] .eql (.t 59) (.t 62)⟩,
 ⟨none, some 64, .pick (.t 56) (.t 63) (.c (.bool false))⟩,
 ⟨none, some 8, .mv (.t 54)⟩,
 ⟨none, some 9, .mv (.t 64)⟩])
 .ret))
 (.seq
 (.region [
 ⟨none, some 66, .bin 0 [] .eql (.t 14) (.c (.int .i64 7))⟩,
 ⟨none, some 65, .mv (.t 66)⟩])
 (.cond (.t 65)
 (.seq
 (.region [
 ⟨none, some 67, .faddr 0 (.t 4)⟩,
 ⟨none, some 68, .faddr 1 (.t 67)⟩,
 ⟨none, some 69, .load (.box 4) false 1 (.t 68)⟩,
 ⟨none, some 70, .faddr 0 (.t 4)⟩,
 ⟨none, some 71, .load (.box 4) true 2 (.t 70)⟩,
 ⟨none, some 72, .faddr 3 (.t 6)⟩,
 ⟨none, some 73, .load (.box 6) false 1 (.t 72)⟩,
 ⟨none, some 74, .callP false (.c (.fn 10 [] [])) [(.t 71), (.t 73)]⟩,
 ⟨none, some 75, .iaddr 4 (.t 69) (.t 74)⟩,
 ⟨none, some 76, .load .imm true 4 (.t 75)⟩,
 ⟨none, some 12, .boxL 12 (.c (.agg [.str [], .int .i64 0, .slice .fit 2 [], .slice .fit 6 []]))⟩,
 ⟨none, none, .store (.box 12) 4 (.t 12) (.t 76)⟩])
 (.seq
 (.region [
 ⟨none, some 77, .faddr 1 (.t 12)⟩,
 ⟨none, some 78, .load (.box 12) false 1 (.t 77)⟩,
 ⟨none, some 79, .take 3⟩,
 ⟨none, some 80, .faddr 2 (.t 12)⟩,
 ⟨none, some 81, .load (.box 12) false 1 (.t 80)⟩,
 ⟨none, some 82, .call false (.c (.fn 87 [] [])) [(.t 79), (.t 81), (.c (.fn 88 [] []))]⟩,
 ⟨none, some 8, .mv (.t 78)⟩,
 ⟨none, some 9, .mv (.t 82)⟩])
 .ret))
 .skip))))))))))))))
 (.seq
 (.region [
 ⟨none, some 8, .mv (.c (.int .i64 1))⟩,
 ⟨none, some 9, .mv (.c (.bool true))⟩])
 .ret)))

/-- (boxhedge/types.typer).expr -/
def F65 : IFn where
  ntmps := 41
  nargs := 3
  res := [.tmp 6, .tmp 7]
  freeze := false
  body :=
 (.seq
 (.region [
 ⟨none, some 3, .boxL 3 (.t 0)⟩,
 ⟨none, some 5, .boxL 5 (.t 2)⟩,
 ⟨none, some 6, .mv (.c (.int .i64 0))⟩,
 ⟨none, some 7, .mv (.c (.int .i64 0))⟩])
 (.seq
 (.seq
 (.region [
 ⟨none, some 13, .load (.box 3) true 2 (.t 3)⟩,
 ⟨none, some 14, .mv (.t 1)⟩,
 ⟨none, some 15, .load (.box 5) true 5 (.t 5)⟩,
 ⟨none, some 16, .call false (.c (.fn 75 [] [])) [(.t 13), (.t 14), (.t 15)]⟩,
 ⟨none, some 8, .mv (.t 16)⟩])
 (.seq
 (.region [
 ⟨none, some 17, .mv (.t 8)⟩,
 ⟨none, some 18, .bin 0 [] .neq (.t 17) (.c (.int .i64 0))⟩])
 (.cond (.t 18)
 (.seq
 (.region [
 ⟨none, some 19, .mv (.t 8)⟩,
 ⟨none, some 6, .mv (.c (.int .i64 0))⟩,
 ⟨none, some 7, .mv (.t 19)⟩])
 .ret)
 .skip)))
 (.seq
 (.region [
 ⟨none, some 21, .load (.box 3) true 2 (.t 3)⟩,
 ⟨none, some 22, .mv (.t 1)⟩,
 ⟨none, some 23, .load (.box 5) true 5 (.t 5)⟩,
 ⟨none, some 24, .call false (.c (.fn 76 [] [])) [(.t 21), (.t 22), (.t 23)]⟩,
 ⟨none, some 20, .mv (.t 24)⟩,
 ⟨none, some 25, .ext (.t 20) 0⟩,
 ⟨none, some 26, .ext (.t 20) 1⟩,
 ⟨none, some 9, .take 25⟩,
 ⟨none, some 10, .mv (.t 26)⟩])
 (.seq
 (.seq
 (.region [
 ⟨none, some 27, .mv (.t 10)⟩,
 ⟨none, some 28, .bin 0 [] .neq (.t 27) (.c (.int .i64 0))⟩])
 (.cond (.t 28)
 (.seq
 (.region [
 ⟨none, some 29, .mv (.t 10)⟩,
 ⟨none, some 6, .mv (.c (.int .i64 0))⟩,
 ⟨none, some 7, .mv (.t 29)⟩])
 .ret)
 .skip))
 (.seq
 (.region [
 ⟨none, some 31, .load (.box 3) true 2 (.t 3)⟩,
 ⟨none, some 32, .mv (.t 1)⟩,
 ⟨none, some 33, .load (.box 5) true 5 (.t 5)⟩,
 ⟨none, some 34, .take 9⟩,
 ⟨none, some 35, .call false (.c (.fn 77 [] [])) [(.t 31), (.t 32), (.t 33), (.t 34)]⟩,
 ⟨none, some 30, .mv (.t 35)⟩,
 ⟨none, some 36, .ext (.t 30) 0⟩,
 ⟨none, some 37, .ext (.t 30) 1⟩,
 ⟨none, some 11, .mv (.t 36)⟩,
 ⟨none, some 12, .mv (.t 37)⟩])
 (.seq
 (.seq
 (.region [
 ⟨none, some 38, .mv (.t 12)⟩,
 ⟨none, some 39, .un .not (.t 38)⟩])
 (.cond (.t 39)
 (.seq
 (.region [
 ⟨none, some 6, .mv (.c (.int .i64 0))⟩,
 ⟨none, some 7, .mv (.c (.int .i64 51))⟩])
 .ret)
 .skip))
 (.seq
 (.region [
 ⟨none, some 40, .mv (.t 11)⟩,
 ⟨none, some 6, .mv (.t 40)⟩,
 ⟨none, some 7, .mv (.c (.int .i64 0))⟩])
 .ret)))))))

/-- (*boxhedge/types.function).want -/
def F64 : IFn where
  ntmps := 28
  nargs := 4
  res := [.tmp 8]
  freeze := false
  body :=
 (.seq
 (.region [
 ⟨none, some 6, .boxL 6 (.t 2)⟩,
 ⟨none, some 8, .mv (.c (.int .i64 0))⟩])
 (.seq
 (.region [
 ⟨none, some 12, .mv (.t 0)⟩,
 ⟨none, some 13, .nilck (.t 12)⟩,
 ⟨none, some 14, .faddr 0 (.t 13)⟩,
 ⟨none, some 15, .load .any true 2 (.t 14)⟩,
 ⟨none, some 16, .mv (.t 1)⟩,
 ⟨none, some 17, .load (.box 6) true 5 (.t 6)⟩,
 ⟨none, some 18, .call false (.c (.fn 65 [] [])) [(.t 15), (.t 16), (.t 17)]⟩,
 ⟨none, some 11, .mv (.t 18)⟩,
 ⟨none, some 19, .ext (.t 11) 0⟩,
 ⟨none, some 20, .ext (.t 11) 1⟩,
 ⟨none, some 9, .mv (.t 19)⟩,
 ⟨none, some 10, .mv (.t 20)⟩])
 (.seq
 (.seq
 (.region [
 ⟨none, some 21, .mv (.t 10)⟩,
 ⟨none, some 22, .bin 0 [] .neq (.t 21) (.c (.int .i64 0))⟩])
 (.cond (.t 22)
 (.seq
 (.region [
 ⟨none, some 23, .mv (.t 10)⟩,
 ⟨none, some 8, .mv (.t 23)⟩])
 .ret)
 .skip))
 (.seq
 (.region [
 ⟨none, some 24, .mv (.t 9)⟩,
 ⟨none, some 25, .mv (.t 3)⟩,
 ⟨none, some 26, .bin 0 [] .eql (.t 24) (.t 25)⟩,
 ⟨none, some 27, .callP false (.c (.fn 66 [] [])) [(.t 26), (.c (.int .i64 51))]⟩,
 ⟨none, some 8, .mv (.t 27)⟩])
 .ret))))

/-- (*boxhedge/types.function).bound -/
def F67 : IFn where
  ntmps := 98
  nargs := 4
  res := [.tmp 8]
  freeze := false
  body :=
 (.seq
 (.region [
 ⟨none, some 5, .boxL 5 (.t 1)⟩,
 ⟨none, some 8, .mv (.c (.int .i64 0))⟩])
 (.seq
 (.region [
 ⟨none, some 12, .mv (.t 2)⟩,
 ⟨none, some 13, .faddr 2 (.t 5)⟩,
 ⟨none, some 14, .load (.box 5) false 1 (.t 13)⟩,
 ⟨none, some 15, .call false (.c (.fn 78 [] [])) [(.t 12), (.t 14)]⟩,
 ⟨none, some 9, .mv (.t 15)⟩])
 (.seq
 (.block 0
 (.seq
 (.region [
 ⟨none, some 17, .faddr 0 (.t 5)⟩,
 ⟨none, some 18, .load (.box 5) false 1 (.t 17)⟩,
 ⟨none, some 19, .bin 0 [] .eql (.t 18) (.c (.int .i64 1))⟩,
 ⟨none, some 16, .mv (.t 19)⟩])
 (.cond (.t 16)
 (.seq
 (.seq
 (.region [
 ⟨none, some 20, .mv (.t 0)⟩,
 ⟨none, some 21, .mv (.t 2)⟩,
 ⟨none, some 22, .faddr 3 (.t 5)⟩,
 ⟨none, some 23, .load (.box 5) false 1 (.t 22)⟩,
 ⟨none, some 24, .iaddr 5 (.t 23) (.c (.int .i64 0))⟩,
 ⟨none, some 25, .load .imm true 5 (.t 24)⟩,
 ⟨none, some 26, .faddr 1 (.t 5)⟩,
 ⟨none, some 27, .load (.box 5) false 1 (.t 26)⟩,
 ⟨none, some 28, .call false (.c (.fn 64 [] [])) [(.t 20), (.t 21), (.t 25), (.t 27)]⟩,
 ⟨none, some 10, .mv (.t 28)⟩])
 (.seq
 (.region [
 ⟨none, some 29, .mv (.t 10)⟩,
 ⟨none, some 30, .bin 0 [] .neq (.t 29) (.c (.int .i64 0))⟩])
 (.cond (.t 30)
 (.seq
 (.region [
 ⟨none, some 31, .mv (.t 10)⟩,
 ⟨none, some 8, .mv (.t 31)⟩])
 .ret)
 .skip)))
 (.seq
 (.region [
 ⟨none, some 32, .mv (.t 9)⟩,
 ⟨none, some 33, .bin 3 [] .eql (.t 32) (.c (.nilp))⟩,
 ⟨none, some 34, .mv (.t 33)⟩,
 ⟨some (34, false), some 35, .mv (.t 9)⟩,
 ⟨some (34, false), some 36, .nilck (.t 35)⟩,
 ⟨some (34, false), some 37, .faddr 3 (.t 36)⟩,
 ⟨some (34, false), some 38, .load .any false 1 (.t 37)⟩,
 ⟨some (34, false), some 39, .mv (.t 3)⟩,
 ⟨some (34, false), some 40, .bin 0 [] .lss (.t 38) (.t 39)⟩,
 ⟨none, some 41, .pick (.t 34) (.c (.bool true)) (.t 40)⟩,
 ⟨none, some 42, .callP false (.c (.fn 66 [] [])) [(.t 41), (.c (.int .i64 50))]⟩,
 ⟨none, some 8, .mv (.t 42)⟩])
 .ret))
 (.seq
 (.seq
 (.region [
 ⟨none, some 44, .faddr 0 (.t 5)⟩,
 ⟨none, some 45, .load (.box 5) false 1 (.t 44)⟩,
 ⟨none, some 46, .bin 0 [] .eql (.t 45) (.c (.int .i64 2))⟩,
 ⟨none, some 47, .mv (.t 46)⟩,
 ⟨some (47, true), some 48, .mv (.t 9)⟩,
 ⟨some (47, true), some 49, .bin 3 [] .eql (.t 48) (.c (.nilp))⟩,
 ⟨none, some 50, .pick (.t 47) (.t 49) (.c (.bool false))⟩,
 ⟨none, some 43, .mv (.t 50)⟩])
 (.cond (.t 43)
 .skip
 (.region [
 ⟨none, some 51, .faddr 0 (.t 5)⟩,
 ⟨none, some 52, .load (.box 5) false 1 (.t 51)⟩,
 ⟨none, some 53, .bin 0 [] .eql (.t 52) (.c (.int .i64 3))⟩,
 ⟨none, some 54, .mv (.t 53)⟩,
 ⟨some (54, true), some 55, .mv (.t 0)⟩,
 ⟨some (54, true), some 56, .nilck (.t 55)⟩,
 ⟨some (54, true), some 57, .faddr 0 (.t 56)⟩,
 ⟨some (54, true), some 58, .faddr 0 (.t 57)⟩,
 ⟨some (54, true), some 59, .load .any true 2 (.t 58)⟩,
 ⟨some (54, true), some 60, .faddr 2 (.t 5)⟩,
 ⟨some (54, true), some 61, .load (.box 5) false 1 (.t 60)⟩,
 ⟨some (54, true), some 62, .callP false (.c (.fn 11 [] [])) [(.t 59), (.t 61)]⟩,
 ⟨some (54, true), some 63, .bin 0 [] .lss (.t 62) (.c (.int .i64 0))⟩,
 ⟨none, some 64, .pick (.t 54) (.t 63) (.c (.bool false))⟩,
 ⟨none, some 43, .mv (.t 64)⟩])))
 (.cond (.t 43)
 (.seq
 (.region [
 ⟨none, some 8, .mv (.c (.int .i64 50))⟩])
 .ret)
 (.seq
 (.region [
 ⟨none, some 66, .faddr 0 (.t 5)⟩,
 ⟨none, some 67, .load (.box 5) false 1 (.t 66)⟩,
 ⟨none, some 68, .bin 0 [] .eql (.t 67) (.c (.int .i64 2))⟩,
 ⟨none, some 65, .mv (.t 68)⟩])
 (.cond (.t 65)
 (.seq
 (.region [
 ⟨none, some 69, .mv (.t 0)⟩,
 ⟨none, some 70, .mv (.t 2)⟩,
 ⟨none, some 71, .faddr 3 (.t 5)⟩,
 ⟨none, some 72, .load (.box 5) false 1 (.t 71)⟩,
 ⟨none, some 73, .iaddr 5 (.t 72) (.c (.int .i64 0))⟩,
 ⟨none, some 74, .load .imm true 5 (.t 73)⟩,
 ⟨none, some 75, .mv (.t 9)⟩,
 ⟨none, some 76, .nilck (.t 75)⟩,
 ⟨none, some 77, .faddr 0 (.t 76)⟩,
 ⟨none, some 78, .faddr 1 (.t 77)⟩,
 ⟨none, some 79, .load .imm false 1 (.t 78)⟩,
 ⟨none, some 80, .call false (.c (.fn 64 [] [])) [(.t 69), (.t 70), (.t 74), (.t 79)]⟩,
 ⟨none, some 8, .mv (.t 80)⟩])
 .ret)
 .skip)))))))
 (.seq
 (.seq
 (.region [
 ⟨none, some 81, .mv (.t 0)⟩,
 ⟨none, some 82, .mv (.t 2)⟩,
 ⟨none, some 83, .faddr 3 (.t 5)⟩,
 ⟨none, some 84, .load (.box 5) false 1 (.t 83)⟩,
 ⟨none, some 85, .iaddr 5 (.t 84) (.c (.int .i64 0))⟩,
 ⟨none, some 86, .load .any true 5 (.t 85)⟩,
 ⟨none, some 87, .call false (.c (.fn 64 [] [])) [(.t 81), (.t 82), (.t 86), (.c (.int .i64 1))]⟩,
 ⟨none, some 11, .mv (.t 87)⟩])
 (.seq
 (.region [
 ⟨none, some 88, .mv (.t 11)⟩,
 ⟨none, some 89, .bin 0 [] .neq (.t 88) (.c (.int .i64 0))⟩])
 (.cond (.t 89)
 (.seq
 (.region [
 ⟨none, some 90, .mv (.t 11)⟩,
 ⟨none, some 8, .mv (.t 90)⟩])
 .ret)
 .skip)))
 (.seq
 (.region [
 ⟨none, some 91, .mv (.t 0)⟩,
 ⟨none, some 92, .mv (.t 2)⟩,
 ⟨none, some 93, .faddr 3 (.t 5)⟩,
 ⟨none, some 94, .load (.box 5) false 1 (.t 93)⟩,
 ⟨none, some 95, .iaddr 5 (.t 94) (.c (.int .i64 1))⟩,
 ⟨none, some 96, .load .any true 5 (.t 95)⟩,
 ⟨none, some 97, .call false (.c (.fn 64 [] [])) [(.t 91), (.t 92), (.t 96), (.c (.int .i64 1))]⟩,
 ⟨none, some 8, .mv (.t 97)⟩])
 .ret)))))

/-- (*boxhedge/types.function).stmt -/
def F49 : IFn where
  ntmps := 73
  nargs := 5
  res := [.tmp 10]
  freeze := false
  body :=
 (.seq
 (.region [
 ⟨none, some 6, .boxL 6 (.t 1)⟩,
 ⟨none, some 10, .mv (.c (.int .i64 0))⟩])
 (.seq
 (.seq
 (.region [
 ⟨none, some 13, .faddr 0 (.t 6)⟩,
 ⟨none, some 14, .load (.box 6) false 1 (.t 13)⟩])
 (.block 0
 (.seq
 (.seq
 (.region [
 ⟨none, some 16, .bin 0 [] .eql (.t 14) (.c (.int .i64 4))⟩,
 ⟨none, some 15, .mv (.t 16)⟩])
 (.cond (.t 15)
 .skip
 (.region [
 ⟨none, some 17, .bin 0 [] .eql (.t 14) (.c (.int .i64 5))⟩,
 ⟨none, some 15, .mv (.t 17)⟩])))
 (.cond (.t 15)
 (.seq
 (.region [
 ⟨none, some 18, .mv (.t 0)⟩,
 ⟨none, some 19, .mv (.t 2)⟩,
 ⟨none, some 20, .faddr 3 (.t 6)⟩,
 ⟨none, some 21, .load (.box 6) false 1 (.t 20)⟩,
 ⟨none, some 22, .iaddr 5 (.t 21) (.c (.int .i64 0))⟩,
 ⟨none, some 23, .load .any true 5 (.t 22)⟩,
 ⟨none, some 24, .call false (.c (.fn 64 [] [])) [(.t 18), (.t 19), (.t 23), (.c (.int .i64 2))]⟩,
 ⟨none, some 10, .mv (.t 24)⟩])
 .ret)
 (.seq
 (.region [
 ⟨none, some 26, .bin 0 [] .eql (.t 14) (.c (.int .i64 8))⟩,
 ⟨none, some 25, .mv (.t 26)⟩])
 (.cond (.t 25)
 (.seq
 (.region [
 ⟨none, some 27, .mv (.t 0)⟩,
 ⟨none, some 28, .mv (.t 2)⟩,
 ⟨none, some 29, .faddr 3 (.t 6)⟩,
 ⟨none, some 30, .load (.box 6) false 1 (.t 29)⟩,
 ⟨none, some 31, .iaddr 5 (.t 30) (.c (.int .i64 0))⟩,
 ⟨none, some 32, .load .imm true 5 (.t 31)⟩,
 ⟨none, some 33, .mv (.t 0)⟩,
 ⟨none, some 34, .nilck (.t 33)⟩,
 ⟨none, some 35, .faddr 2 (.t 34)⟩,
 ⟨none, some 36, .load .any false 1 (.t 35)⟩,
 ⟨none, some 37, .call false (.c (.fn 64 [] [])) [(.t 27), (.t 28), (.t 32), (.t 36)]⟩,
 ⟨none, some 10, .mv (.t 37)⟩])
 .ret)
 (.seq
 (.region [
 ⟨none, some 39, .bin 0 [] .eql (.t 14) (.c (.int .i64 9))⟩,
 ⟨none, some 38, .mv (.t 39)⟩])
 (.cond (.t 38)
 (.seq
 (.region [
 ⟨none, some 40, .mv (.t 0)⟩,
 ⟨none, some 41, .mv (.t 2)⟩,
 ⟨none, some 42, .faddr 3 (.t 6)⟩,
 ⟨none, some 43, .load (.box 6) false 1 (.t 42)⟩,
 ⟨none, some 44, .iaddr 5 (.t 43) (.c (.int .i64 0))⟩,
 ⟨none, some 45, .load .any true 5 (.t 44)⟩,
 ⟨none, some 46, .call false (.c (.fn 64 [] [])) [(.t 40), (.t 41), (.t 45), (.c (.int .i64 1))]⟩,
 ⟨none, some 10, .mv (.t 46)⟩])
 .ret)
 (.seq
 (.region [
 ⟨none, some 48, .bin 0 [] .eql (.t 14) (.c (.int .i64 10))⟩,
 ⟨none, some 47, .mv (.t 48)⟩])
 (.cond (.t 47)
 (.seq
 (.region [
 ⟨none, some 50, .mv (.t 0)⟩,
 ⟨none, some 51, .nilck (.t 50)⟩,
 ⟨none, some 52, .faddr 0 (.t 51)⟩,
 ⟨none, some 53, .load .any true 2 (.t 52)⟩,
 ⟨none, some 54, .mv (.t 2)⟩,
 ⟨none, some 55, .faddr 3 (.t 6)⟩,
 ⟨none, some 56, .load (.box 6) false 1 (.t 55)⟩,
 ⟨none, some 57, .iaddr 5 (.t 56) (.c (.int .i64 0))⟩,
 ⟨none, some 58, .load .imm true 5 (.t 57)⟩,
 ⟨none, some 59, .call false (.c (.fn 65 [] [])) [(.t 53), (.t 54), (.t 58)]⟩,
 ⟨none, some 49, .mv (.t 59)⟩,
 ⟨none, some 60, .ext (.t 49) 0⟩,
 ⟨none, some 61, .ext (.t 49) 1⟩,
 ⟨none, some 11, .mv (.t 60)⟩,
 ⟨none, some 12, .mv (.t 61)⟩])
 (.seq
 (.region [
 ⟨none, some 62, .mv (.t 12)⟩,
 ⟨none, some 10, .mv (.t 62)⟩])
 .ret))
 (.seq
 (.seq
 (.region [
 ⟨none, some 64, .bin 0 [] .eql (.t 14) (.c (.int .i64 6))⟩,
 ⟨none, some 63, .mv (.t 64)⟩])
 (.cond (.t 63)
 .skip
 (.region [
 ⟨none, some 65, .bin 0 [] .eql (.t 14) (.c (.int .i64 7))⟩,
 ⟨none, some 63, .mv (.t 65)⟩])))
 (.cond (.t 63)
 (.seq
 (.region [
 ⟨none, some 66, .mv (.t 4)⟩,
 ⟨none, some 67, .callP false (.c (.fn 66 [] [])) [(.t 66), (.c (.int .i64 53))]⟩,
 ⟨none, some 10, .mv (.t 67)⟩])
 .ret)
 .skip))))))))))))
 (.seq
 (.region [
 ⟨none, some 68, .mv (.t 0)⟩,
 ⟨none, some 69, .load (.box 6) true 6 (.t 6)⟩,
 ⟨none, some 70, .mv (.t 2)⟩,
 ⟨none, some 71, .mv (.t 3)⟩,
 ⟨none, some 72, .call false (.c (.fn 67 [] [])) [(.t 68), (.t 69), (.t 70), (.t 71)]⟩,
 ⟨none, some 10, .mv (.t 72)⟩])
 .ret)))

/-- (*boxhedge/types.scope).with -/
def F50 : IFn where
  ntmps := 12
  nargs := 3
  res := [.tmp 6]
  freeze := false
  body :=
 (.seq
 (.region [
 ⟨none, some 4, .boxL 4 (.t 1)⟩,
 ⟨none, some 6, .mv (.c (.nilp))⟩])
 (.seq
 (.region [
 ⟨none, some 7, .load (.box 4) true 2 (.t 4)⟩,
 ⟨none, some 8, .mv (.t 0)⟩,
 ⟨none, some 9, .mv (.t 2)⟩,
 ⟨none, some 10, .build [.str [], .int .i64 0, .nilp, .int .i64 0] [(0, 2, (.t 7)), (2, 1, (.t 8)), (3, 1, (.t 9))]⟩,
 ⟨none, some 11, .boxI (.t 10)⟩,
 ⟨none, some 6, .mv (.t 11)⟩])
 .ret))

def L19_0 : ICode := .loop [0, 2, 3, 4, 16, 17, 18] [12]
 (.seq
 (.region [
 ⟨none, some 19, .bin 0 [] .lss (.t 18) (.t 17)⟩])
 (.seq
 (.cond (.t 19)
 .skip
 (.exit 0))
 (.seq
 (.block 1
 (.seq
 (.region [
 ⟨none, some 20, .iaddr 6 (.t 16) (.t 18)⟩,
 ⟨none, some 21, .load .any true 6 (.t 20)⟩,
 ⟨none, some 12, .boxL 12 (.c (.agg [.int .i64 0, .int .i64 0, .str [], .slice .fit 5 [], .slice .fit 6 [], .slice .fit 6 []]))⟩,
 ⟨none, none, .store (.box 12) 6 (.t 12) (.t 21)⟩])
 (.seq
 (.seq
 (.region [
 ⟨none, some 22, .mv (.t 0)⟩,
 ⟨none, some 23, .load (.box 12) true 6 (.t 12)⟩,
 ⟨none, some 24, .mv (.t 2)⟩,
 ⟨none, some 25, .mv (.t 3)⟩,
 ⟨none, some 26, .mv (.t 4)⟩,
 ⟨none, some 27, .call false (.c (.fn 49 [] [])) [(.t 22), (.t 23), (.t 24), (.t 25), (.t 26)]⟩,
 ⟨none, some 13, .mv (.t 27)⟩])
 (.seq
 (.region [
 ⟨none, some 28, .mv (.t 13)⟩,
 ⟨none, some 29, .bin 0 [] .neq (.t 28) (.c (.int .i64 0))⟩])
 (.cond (.t 29)
 (.seq
 (.region [
 ⟨none, some 30, .mv (.t 13)⟩,
 ⟨none, some 10, .mv (.t 30)⟩])
 .ret)
 .skip)))
 (.seq
 (.region [
 ⟨none, some 31, .mv (.t 0)⟩,
 ⟨none, some 32, .nilck (.t 31)⟩,
 ⟨none, some 33, .faddr 3 (.t 32)⟩,
 ⟨none, some 34, .load .any false 1 (.t 33)⟩,
 ⟨none, some 35, .bin 0 [] .add (.t 34) (.c (.int .i64 1))⟩,
 ⟨none, some 36, .nilck (.t 31)⟩,
 ⟨none, some 37, .faddr 3 (.t 36)⟩,
 ⟨none, none, .store .any 1 (.t 37) (.t 35)⟩])
 (.seq
 (.seq
 (.region [
 ⟨none, some 38, .faddr 0 (.t 12)⟩,
 ⟨none, some 39, .load (.box 12) false 1 (.t 38)⟩,
 ⟨none, some 40, .bin 0 [] .eql (.t 39) (.c (.int .i64 1))⟩])
 (.cond (.t 40)
 (.region [
 ⟨none, some 41, .mv (.t 2)⟩,
 ⟨none, some 42, .faddr 2 (.t 12)⟩,
 ⟨none, some 43, .load (.box 12) false 1 (.t 42)⟩,
 ⟨none, some 44, .faddr 1 (.t 12)⟩,
 ⟨none, some 45, .load (.box 12) false 1 (.t 44)⟩,
 ⟨none, some 46, .build [.str [], .int .i64 0] [(0, 1, (.t 43)), (1, 1, (.t 45))]⟩,
 ⟨none, some 47, .mv (.t 3)⟩,
 ⟨none, some 48, .call false (.c (.fn 50 [] [])) [(.t 41), (.t 46), (.t 47)]⟩,
 ⟨none, some 2, .mv (.t 48)⟩])
 .skip))
 (.seq
 (.seq
 (.region [
 ⟨none, some 49, .mv (.t 0)⟩,
 ⟨none, some 50, .faddr 4 (.t 12)⟩,
 ⟨none, some 51, .load (.box 12) false 1 (.t 50)⟩,
 ⟨none, some 52, .mv (.t 2)⟩,
 ⟨none, some 53, .mv (.t 3)⟩,
 ⟨none, some 54, .bin 0 [] .add (.t 53) (.c (.int .i64 1))⟩,
 ⟨none, some 55, .mv (.t 4)⟩,
 ⟨none, some 56, .mv (.t 55)⟩,
 ⟨some (56, false), some 57, .faddr 0 (.t 12)⟩,
 ⟨some (56, false), some 58, .load (.box 12) false 1 (.t 57)⟩,
 ⟨some (56, false), some 59, .bin 0 [] .eql (.t 58) (.c (.int .i64 5))⟩,
 ⟨none, some 60, .pick (.t 56) (.c (.bool true)) (.t 59)⟩,
 ⟨none, some 61, .call false (.c (.fn 19 [] [])) [(.t 49), (.t 51), (.t 52), (.t 54), (.t 60)]⟩,
 ⟨none, some 14, .mv (.t 61)⟩])
 (.seq
 (.region [
 ⟨none, some 62, .mv (.t 14)⟩,
 ⟨none, some 63, .bin 0 [] .neq (.t 62) (.c (.int .i64 0))⟩])
 (.cond (.t 63)
 (.seq
 (.region [
 ⟨none, some 64, .mv (.t 14)⟩,
 ⟨none, some 10, .mv (.t 64)⟩])
 .ret)
 .skip)))
 (.seq
 (.region [
 ⟨none, some 65, .mv (.t 0)⟩,
 ⟨none, some 66, .faddr 5 (.t 12)⟩,
 ⟨none, some 67, .load (.box 12) false 1 (.t 66)⟩,
 ⟨none, some 68, .mv (.t 2)⟩,
 ⟨none, some 69, .mv (.t 3)⟩,
 ⟨none, some 70, .bin 0 [] .add (.t 69) (.c (.int .i64 1))⟩,
 ⟨none, some 71, .mv (.t 4)⟩,
 ⟨none, some 72, .call false (.c (.fn 19 [] [])) [(.t 65), (.t 67), (.t 68), (.t 70), (.t 71)]⟩,
 ⟨none, some 15, .mv (.t 72)⟩])
 (.seq
 (.region [
 ⟨none, some 73, .mv (.t 15)⟩,
 ⟨none, some 74, .bin 0 [] .neq (.t 73) (.c (.int .i64 0))⟩])
 (.cond (.t 74)
 (.seq
 (.region [
 ⟨none, some 75, .mv (.t 15)⟩,
 ⟨none, some 10, .mv (.t 75)⟩])
 .ret)
 .skip)))))))))
 (.region [
 ⟨none, some 76, .bin 0 [] .add (.t 18) (.c (.int .i64 1))⟩,
 ⟨none, some 18, .mv (.t 76)⟩]))))
abbrev K19_0 : List Nat := [0, 3, 4, 16, 17]
abbrev B19_0 : List Nat := []
/-- (*boxhedge/types.function).block -/
def F19 : IFn where
  ntmps := 77
  nargs := 5
  res := [.tmp 10]
  freeze := false
  body :=
 (.seq
 (.region [
 ⟨none, some 10, .mv (.c (.int .i64 0))⟩])
 (.seq
 (.seq
 (.region [
 ⟨none, some 16, .take 1⟩,
 ⟨none, some 17, .len 1 (.t 16)⟩,
 ⟨none, some 18, .mv (.c (.int .i64 0))⟩])
 (.block 0
 L19_0))
 (.seq
 (.region [
 ⟨none, some 10, .mv (.c (.int .i64 0))⟩])
 .ret)))

def L20_0 : ICode := .loop [2, 5, 6, 7] [4]
 (.seq
 (.region [
 ⟨none, some 8, .bin 0 [] .lss (.t 7) (.t 6)⟩])
 (.seq
 (.cond (.t 8)
 .skip
 (.exit 0))
 (.seq
 (.block 1
 (.seq
 (.region [
 ⟨none, some 9, .iaddr 2 (.t 5) (.t 7)⟩,
 ⟨none, some 10, .load .any true 2 (.t 9)⟩,
 ⟨none, some 4, .boxL 4 (.c (.agg [.str [], .int .i64 0]))⟩,
 ⟨none, none, .store (.box 4) 2 (.t 4) (.t 10)⟩])
 (.region [
 ⟨none, some 11, .mv (.t 2)⟩,
 ⟨none, some 12, .load (.box 4) true 2 (.t 4)⟩,
 ⟨none, some 13, .call false (.c (.fn 50 [] [])) [(.t 11), (.t 12), (.c (.int .i64 0))]⟩,
 ⟨none, some 2, .mv (.t 13)⟩])))
 (.region [
 ⟨none, some 14, .bin 0 [] .add (.t 7) (.c (.int .i64 1))⟩,
 ⟨none, some 7, .mv (.t 14)⟩]))))
abbrev K20_0 : List Nat := [5, 6]
abbrev B20_0 : List Nat := []
/-- boxhedge/types.scoped -/
def F20 : IFn where
  ntmps := 16
  nargs := 1
  res := [.tmp 2]
  freeze := false
  body :=
 (.seq
 (.region [
 ⟨none, some 2, .mv (.c (.nilp))⟩])
 (.seq
 (.seq
 (.region [
 ⟨none, some 5, .take 0⟩,
 ⟨none, some 6, .len 1 (.t 5)⟩,
 ⟨none, some 7, .mv (.c (.int .i64 0))⟩])
 (.block 0
 L20_0))
 (.seq
 (.region [
 ⟨none, some 15, .mv (.t 2)⟩,
 ⟨none, some 2, .mv (.t 15)⟩])
 .ret)))

def L8_0 : ICode := .loop [1, 3, 19, 20, 21] [5]
 (.seq
 (.region [
 ⟨none, some 22, .bin 0 [] .lss (.t 21) (.t 20)⟩])
 (.seq
 (.cond (.t 22)
 .skip
 (.exit 1))
 (.seq
 (.block 2
 (.seq
 (.region [
 ⟨none, some 23, .mv (.t 21)⟩,
 ⟨none, some 24, .iaddr 4 (.t 19) (.t 21)⟩,
 ⟨none, some 25, .load .any true 4 (.t 24)⟩,
 ⟨none, some 5, .boxL 5 (.c (.agg [.str [], .int .i64 0, .slice .fit 2 [], .slice .fit 6 []]))⟩,
 ⟨none, some 4, .mv (.t 23)⟩,
 ⟨none, none, .store (.box 5) 4 (.t 5) (.t 25)⟩])
 (.seq
 (.seq
 (.region [
 ⟨none, some 26, .faddr 2 (.t 5)⟩,
 ⟨none, some 27, .load (.box 5) false 1 (.t 26)⟩,
 ⟨none, some 28, .callP false (.c (.fn 18 [] [])) [(.t 27)]⟩])
 (.cond (.t 28)
 (.seq
 (.region [
 ⟨none, some 29, .mv (.t 4)⟩,
 ⟨none, some 30, .build [.int .i64 0, .int .i64 0] [(0, 1, (.t 29)), (1, 1, (.c (.int .i64 0)))]⟩,
 ⟨none, some 2, .mv (.c (.int .i64 50))⟩,
 ⟨none, none, .store (.box 3) 2 (.t 3) (.t 30)⟩])
 .ret)
 .skip))
 (.seq
 (.region [
 ⟨none, some 31, .load (.box 1) true 2 (.t 1)⟩,
 ⟨none, some 32, .build [.slice .fit 2 [], .slice .fit 4 []] [(0, 2, (.t 31))]⟩,
 ⟨none, some 33, .faddr 1 (.t 5)⟩,
 ⟨none, some 34, .load (.box 5) false 1 (.t 33)⟩,
 ⟨none, some 35, .build [.slice .fit 2 [], .slice .fit 4 [], .int .i64 0, .int .i64 0] [(0, 2, (.t 32)), (2, 1, (.t 34))]⟩,
 ⟨none, some 36, .boxS 4 (.t 35)⟩,
 ⟨none, some 6, .mv (.t 36)⟩])
 (.seq
 (.region [
 ⟨none, some 37, .mv (.t 6)⟩,
 ⟨none, some 38, .faddr 3 (.t 5)⟩,
 ⟨none, some 39, .load (.box 5) false 1 (.t 38)⟩,
 ⟨none, some 40, .faddr 2 (.t 5)⟩,
 ⟨none, some 41, .load (.box 5) false 1 (.t 40)⟩,
 ⟨none, some 42, .callP false (.c (.fn 20 [] [])) [(.t 41)]⟩,
 ⟨none, some 43, .call false (.c (.fn 19 [] [])) [(.t 37), (.t 39), (.t 42), (.c (.int .i64 1)), (.c (.bool false))]⟩,
 ⟨none, some 7, .mv (.t 43)⟩])
 (.seq
 (.seq
 (.region [
 ⟨none, some 44, .mv (.t 7)⟩,
 ⟨none, some 45, .bin 0 [] .eql (.t 44) (.c (.int .i64 0))⟩,
 ⟨none, some 46, .mv (.t 45)⟩,
 ⟨some (46, true), some 47, .faddr 3 (.t 5)⟩,
 ⟨some (46, true), some 48, .load (.box 5) false 1 (.t 47)⟩,
 ⟨some (46, true), some 49, .callP false (.c (.fn 9 [] [])) [(.t 48)]⟩,
 ⟨some (46, true), some 50, .un .not (.t 49)⟩,
 ⟨none, some 51, .pick (.t 46) (.t 50) (.c (.bool false))⟩])
 (.cond (.t 51)
 (.region [
 ⟨none, some 7, .mv (.c (.int .i64 52))⟩])
 .skip))
 (.seq
 (.region [
 ⟨none, some 52, .mv (.t 7)⟩,
 ⟨none, some 53, .bin 0 [] .neq (.t 52) (.c (.int .i64 0))⟩])
 (.cond (.t 53)
 (.seq
 (.region [
 ⟨none, some 54, .mv (.t 7)⟩,
 ⟨none, some 55, .mv (.t 4)⟩,
 ⟨none, some 56, .mv (.t 6)⟩,
 ⟨none, some 57, .nilck (.t 56)⟩,
 ⟨none, some 58, .faddr 3 (.t 57)⟩,
 ⟨none, some 59, .load .any false 1 (.t 58)⟩,
 ⟨none, some 60, .build [.int .i64 0, .int .i64 0] [(0, 1, (.t 55)), (1, 1, (.t 59))]⟩,
 ⟨none, some 2, .mv (.t 54)⟩,
 ⟨none, none, .store (.box 3) 2 (.t 3) (.t 60)⟩])
 .ret)
 .skip))))))))
 (.region [
 ⟨none, some 61, .bin 0 [] .add (.t 21) (.c (.int .i64 1))⟩,
 ⟨none, some 21, .mv (.t 61)⟩]))))
abbrev K8_0 : List Nat := [1, 3, 19, 20]
abbrev B8_0 : List Nat := [1]
/-- boxhedge/types.Check -/
def F8 : IFn where
  ntmps := 63
  nargs := 1
  res := [.tmp 2, .cell 3 true 2]
  freeze := true
  body :=
 (.seq
 (.region [
 ⟨none, some 1, .boxL 1 (.t 0)⟩,
 ⟨none, some 2, .mv (.c (.int .i64 0))⟩,
 ⟨none, some 3, .boxL 3 (.c (.agg [.int .i64 0, .int .i64 0]))⟩])
 (.seq
 (.block 0
 (.seq
 (.region [
 ⟨none, some 9, .load (.box 1) true 2 (.t 1)⟩,
 ⟨none, some 10, .callP false (.c (.fn 16 [] [])) [(.t 9)]⟩,
 ⟨none, some 11, .un .not (.t 10)⟩,
 ⟨none, some 8, .mv (.t 11)⟩])
 (.cond (.t 8)
 (.seq
 (.region [
 ⟨none, some 12, .build [.int .i64 0, .int .i64 0] []⟩,
 ⟨none, some 2, .mv (.c (.int .i64 1))⟩,
 ⟨none, none, .store (.box 3) 2 (.t 3) (.t 12)⟩])
 .ret)
 (.seq
 (.region [
 ⟨none, some 14, .load (.box 1) true 2 (.t 1)⟩,
 ⟨none, some 15, .callP false (.c (.fn 17 [] [])) [(.t 14)]⟩,
 ⟨none, some 16, .un .not (.t 15)⟩,
 ⟨none, some 13, .mv (.t 16)⟩])
 (.cond (.t 13)
 (.seq
 (.region [
 ⟨none, some 17, .build [.int .i64 0, .int .i64 0] []⟩,
 ⟨none, some 2, .mv (.c (.int .i64 50))⟩,
 ⟨none, none, .store (.box 3) 2 (.t 3) (.t 17)⟩])
 .ret)
 .skip)))))
 (.seq
 (.seq
 (.region [
 ⟨none, some 18, .faddr 1 (.t 1)⟩,
 ⟨none, some 19, .load (.box 1) false 1 (.t 18)⟩,
 ⟨none, some 20, .len 1 (.t 19)⟩,
 ⟨none, some 21, .mv (.c (.int .i64 0))⟩])
 (.block 1
 L8_0))
 (.seq
 (.region [
 ⟨none, some 62, .build [.int .i64 0, .int .i64 0] []⟩,
 ⟨none, some 2, .mv (.c (.int .i64 0))⟩,
 ⟨none, none, .store (.box 3) 2 (.t 3) (.t 62)⟩])
 .ret))))

/-- boxhedge/boxhedgelaw05.awake -/
def F5 : IFn where
  ntmps := 57
  nargs := 0
  res := [.tmp 0]
  freeze := false
  body :=
 (.seq
 (.region [
 ⟨none, some 0, .mv (.c (.bool false))⟩])
 (.seq
 (.region [
 ⟨none, some 12, .callP false (.c (.fn 6 [] [])) [(.c (.str [105, 110, 116, 32, 109, 97, 105, 110, 40, 41, 32, 123, 32, 98, 111, 111, 108, 32, 98, 32, 61, 32, 49, 59, 32, 125]))]⟩,
 ⟨none, some 11, .mv (.t 12)⟩,
 ⟨none, some 13, .ext (.t 11) 0⟩,
 ⟨none, some 14, .ext (.t 11) 1⟩,
 ⟨none, some 15, .ext (.t 11) 2⟩,
 ⟨none, some 1, .boxL 1 (.c (.agg [.slice .fit 2 [], .slice .fit 4 []]))⟩,
 ⟨none, none, .store (.box 1) 2 (.t 1) (.t 13)⟩,
 ⟨none, some 2, .mv (.t 14)⟩,
 ⟨none, some 3, .mv (.t 15)⟩])
 (.seq
 (.region [
 ⟨none, some 17, .callP false (.c (.fn 6 [] [])) [(.c (.str [105, 110, 116, 32, 97, 91, 50, 93, 59, 32, 105, 110, 116, 32, 109, 97, 105, 110, 40, 41, 32, 123, 32, 105, 110, 116, 32, 120, 32, 61, 32, 97, 91, 48, 93, 59, 32, 119, 104, 105, 108, 101, 32, 40, 120, 32, 60, 32, 50, 41, 32, 123, 32, 120, 32, 61, 32, 120, 32, 43, 32, 49, 59, 32, 125, 32, 114, 101, 116, 117, 114, 110, 32, 120, 59, 32, 125]))]⟩,
 ⟨none, some 16, .mv (.t 17)⟩,
 ⟨none, some 18, .ext (.t 16) 0⟩,
 ⟨none, some 19, .ext (.t 16) 1⟩,
 ⟨none, some 20, .ext (.t 16) 2⟩,
 ⟨none, some 4, .boxL 4 (.c (.agg [.slice .fit 2 [], .slice .fit 4 []]))⟩,
 ⟨none, none, .store (.box 4) 2 (.t 4) (.t 18)⟩,
 ⟨none, some 5, .mv (.t 19)⟩,
 ⟨none, some 6, .mv (.t 20)⟩])
 (.seq
 (.region [
 ⟨none, some 22, .load (.box 1) true 2 (.t 1)⟩,
 ⟨none, some 23, .callP false (.c (.fn 8 [] [])) [(.t 22)]⟩,
 ⟨none, some 21, .mv (.t 23)⟩,
 ⟨none, some 24, .ext (.t 21) 0⟩,
 ⟨none, some 25, .ext (.t 21) 1⟩,
 ⟨none, some 8, .boxL 8 (.c (.agg [.int .i64 0, .int .i64 0]))⟩,
 ⟨none, some 7, .mv (.t 24)⟩,
 ⟨none, none, .store (.box 8) 2 (.t 8) (.t 25)⟩])
 (.seq
 (.region [
 ⟨none, some 27, .load (.box 4) true 2 (.t 4)⟩,
 ⟨none, some 28, .callP false (.c (.fn 8 [] [])) [(.t 27)]⟩,
 ⟨none, some 26, .mv (.t 28)⟩,
 ⟨none, some 29, .ext (.t 26) 0⟩,
 ⟨none, some 30, .ext (.t 26) 1⟩,
 ⟨none, some 10, .boxL 10 (.c (.agg [.int .i64 0, .int .i64 0]))⟩,
 ⟨none, some 9, .mv (.t 29)⟩,
 ⟨none, none, .store (.box 10) 2 (.t 10) (.t 30)⟩])
 (.seq
 (.region [
 ⟨none, some 31, .mv (.t 7)⟩,
 ⟨none, some 32, .bin 0 [] .eql (.t 31) (.c (.int .i64 51))⟩,
 ⟨none, some 33, .mv (.t 32)⟩,
 ⟨some (33, true), some 34, .load (.box 8) true 2 (.t 8)⟩,
 ⟨some (33, true), some 35, .build [.int .i64 0, .int .i64 0] []⟩,
 ⟨some (33, true), some 36, .bin 4 [0, 0] .eql (.t 34) (.t 35)⟩,
 ⟨none, some 37, .pick (.t 33) (.t 36) (.c (.bool false))⟩,
 ⟨none, some 38, .mv (.t 37)⟩,
 ⟨some (38, true), some 39, .mv (.t 9)⟩,
 ⟨some (38, true), some 40, .bin 0 [] .eql (.t 39) (.c (.int .i64 0))⟩,
 ⟨none, some 41, .pick (.t 38) (.t 40) (.c (.bool false))⟩,
 ⟨none, some 42, .mv (.t 41)⟩,
 ⟨some (42, true), some 43, .load (.box 4) true 2 (.t 4)⟩,
 ⟨some (42, true), some 44, .callP false (.c (.fn 10 [] [])) [(.t 43), (.c (.str [109, 97, 105, 110]))]⟩,
 ⟨some (42, true), some 45, .bin 0 [] .eql (.t 44) (.c (.int .i64 0))⟩,
 ⟨none, some 46, .pick (.t 42) (.t 45) (.c (.bool false))⟩,
 ⟨none, some 47, .mv (.t 46)⟩,
 ⟨some (47, true), some 48, .load (.box 4) true 2 (.t 4)⟩,
 ⟨some (47, true), some 49, .callP false (.c (.fn 11 [] [])) [(.t 48), (.c (.str [97]))]⟩,
 ⟨some (47, true), some 50, .bin 0 [] .eql (.t 49) (.c (.int .i64 0))⟩,
 ⟨none, some 51, .pick (.t 47) (.t 50) (.c (.bool false))⟩,
 ⟨none, some 52, .mv (.t 51)⟩,
 ⟨some (52, true), some 53, .load (.box 4) true 2 (.t 4)⟩,
 ⟨some (52, true), some 54, .callP false (.c (.fn 11 [] [])) [(.t 53), (.c (.str [109, 97, 105, 110]))]⟩,
 ⟨some (52, true), some 55, .bin 0 [] .eql (.t 54) (.c (.int .i64 (-1)))⟩,
 ⟨none, some 56, .pick (.t 52) (.t 55) (.c (.bool false))⟩,
 ⟨none, some 0, .mv (.t 56)⟩])
 .ret))))))

/-- boxhedge/boxhedgelaw05.Texts -/
def F15 : IFn where
  ntmps := 2
  nargs := 0
  res := [.tmp 0]
  freeze := false
  body :=
 (.seq
 (.region [
 ⟨none, some 0, .mv (.c (.slice .fit 1 []))⟩])
 (.seq
 (.region [
 ⟨none, some 1, .bslice 1 (.str []) 31 [(0, (.c (.str [120, 32, 61, 32, 49, 59]))), (1, (.c (.str [105, 110, 116, 32, 121, 32, 61, 32, 120, 59]))), (2, (.c (.str [98, 111, 111, 108, 32, 98, 32, 61, 32, 120, 32, 60, 32, 50, 59]))), (3, (.c (.str [98, 32, 61, 32, 33, 98, 59]))), (4, (.c (.str [97, 91, 120, 93, 32, 61, 32, 121, 59]))), (5, (.c (.str [105, 102, 32, 40, 98, 41, 32, 123]))), (6, (.c (.str [125, 32, 101, 108, 115, 101, 32, 123]))), (7, (.c (.str [125]))), (8, (.c (.str [119, 104, 105, 108, 101, 32, 40, 120, 32, 60, 32, 51, 41, 32, 123]))), (9, (.c (.str [119, 104, 105, 108, 101, 32, 40, 116, 114, 117, 101, 41, 32, 123]))), (10, (.c (.str [98, 114, 101, 97, 107, 59]))), (11, (.c (.str [99, 111, 110, 116, 105, 110, 117, 101, 59]))), (12, (.c (.str [114, 101, 116, 117, 114, 110, 32, 120, 59]))), (13, (.c (.str [114, 101, 116, 117, 114, 110, 32, 98, 59]))), (14, (.c (.str [112, 114, 105, 110, 116, 40, 120, 32, 43, 32, 97, 91, 48, 93, 41, 59]))), (15, (.c (.str [102, 40, 120, 44, 32, 98, 41, 59]))), (16, (.c (.str [105, 110, 116, 32, 120, 32, 61, 32, 50, 59]))), (17, (.c (.str [120, 32, 61, 32, 102, 40, 49, 44, 32, 116, 114, 117, 101, 41, 59]))), (18, (.c (.str [98, 32, 61, 32, 102, 40, 120, 44, 32, 98, 41, 32, 61, 61, 32, 50, 32, 38, 38, 32, 98, 59]))), (19, (.c (.str [121, 32, 61, 32, 105, 56, 40, 120, 41, 59]))), (20, (.c (.str [98, 32, 61, 32, 120, 59]))), (21, (.c (.str [120, 32, 61, 32, 45, 98, 59]))), (22, (.c (.str [114, 101, 116, 117, 114, 110, 32, 102, 40, 120, 44, 32, 98, 32, 61, 61, 32, 116, 114, 117, 101, 41, 59]))), (23, (.c (.str [122, 32, 61, 32, 49, 59]))), (24, (.c (.str [99, 91, 48, 93, 32, 61, 32, 49, 59]))), (25, (.c (.str [104, 40, 41, 59]))), (26, (.c (.str [120, 32, 61, 32, 114, 101, 97, 100, 40, 41, 59]))), (27, (.c (.str [123]))), (28, (.c (.str [114, 101, 116, 117, 114, 110, 32, 48, 59]))), (29, (.c (.str [112, 114, 105, 110, 116, 40, 116, 114, 117, 101, 41, 59]))), (30, (.c (.str [98, 32, 61, 32, 116, 114, 117, 101, 32, 33, 61, 32, 40, 120, 32, 62, 32, 49, 41, 59])))]⟩,
 ⟨none, some 0, .take 1⟩])
 .ret))

def L7_0 : ICode := .loop [0, 1, 5, 6, 7] []
 (.seq
 (.seq
 (.region [
 ⟨none, some 9, .mv (.t 7)⟩,
 ⟨none, some 10, .mv (.t 0)⟩,
 ⟨none, some 11, .len 1 (.t 10)⟩,
 ⟨none, some 12, .bin 0 [] .lss (.t 9) (.t 11)⟩,
 ⟨none, some 13, .mv (.t 12)⟩,
 ⟨some (13, true), some 14, .mv (.t 7)⟩,
 ⟨some (13, true), some 15, .bin 0 [] .lss (.t 14) (.c (.int .i64 14))⟩,
 ⟨none, some 16, .pick (.t 13) (.t 15) (.c (.bool false))⟩])
 (.cond (.t 16)
 .skip
 (.exit 0)))
 (.seq
 (.block 1
 (.region [
 ⟨none, some 19, .mv (.t 5)⟩,
 ⟨none, some 20, .mv (.t 6)⟩,
 ⟨none, some 21, .mv (.t 0)⟩,
 ⟨none, some 22, .mv (.t 7)⟩,
 ⟨none, some 23, .iaddr 1 (.t 21) (.t 22)⟩,
 ⟨none, some 24, .load .any false 1 (.t 23)⟩,
 ⟨none, some 25, .conv .i64 (.t 24)⟩,
 ⟨none, some 26, .mv (.t 6)⟩,
 ⟨none, some 27, .len 1 (.t 26)⟩,
 ⟨none, some 28, .bin 0 [] .rem (.t 25) (.t 27)⟩,
 ⟨none, some 29, .iaddr 1 (.t 20) (.t 28)⟩,
 ⟨none, some 30, .load .any false 1 (.t 29)⟩,
 ⟨none, some 31, .bin 0 [] .add (.t 19) (.t 30)⟩,
 ⟨none, some 32, .bin 0 [] .add (.t 31) (.c (.str [10]))⟩,
 ⟨none, some 5, .mv (.t 32)⟩]))
 (.region [
 ⟨none, some 17, .mv (.t 7)⟩,
 ⟨none, some 18, .bin 0 [] .add (.t 17) (.c (.int .i64 1))⟩,
 ⟨none, some 7, .mv (.t 18)⟩])))
abbrev K7_0 : List Nat := [0, 1, 6]
abbrev B7_0 : List Nat := []
/-- boxhedge/boxhedgelaw05.Body -/
def F7 : IFn where
  ntmps := 38
  nargs := 2
  res := [.tmp 4]
  freeze := false
  body :=
 (.seq
 (.region [
 ⟨none, some 4, .mv (.c (.str []))⟩])
 (.seq
 (.region [
 ⟨none, some 5, .mv (.c (.str [105, 110, 116, 32, 97, 91, 52, 93, 59, 10, 105, 110, 116, 32, 102, 40, 105, 110, 116, 32, 120, 44, 32, 98, 111, 111, 108, 32, 98, 41, 32, 123, 10]))⟩])
 (.seq
 (.region [
 ⟨none, some 8, .callP false (.c (.fn 15 [] [])) []⟩,
 ⟨none, some 6, .take 8⟩])
 (.seq
 (.seq
 (.region [
 ⟨none, some 7, .mv (.c (.int .i64 0))⟩])
 (.block 0
 L7_0))
 (.seq
 (.seq
 (.region [
 ⟨none, some 33, .mv (.t 1)⟩])
 (.cond (.t 33)
 (.region [
 ⟨none, some 34, .mv (.t 5)⟩,
 ⟨none, some 35, .bin 0 [] .add (.t 34) (.c (.str [114, 101, 116, 117, 114, 110, 32, 49, 59, 10]))⟩,
 ⟨none, some 5, .mv (.t 35)⟩])
 .skip))
 (.seq
 (.region [
 ⟨none, some 36, .mv (.t 5)⟩,
 ⟨none, some 37, .bin 0 [] .add (.t 36) (.c (.str [125, 10, 105, 110, 116, 32, 109, 97, 105, 110, 40, 41, 32, 123, 32, 114, 101, 116, 117, 114, 110, 32, 102, 40, 49, 44, 32, 116, 114, 117, 101, 41, 59, 32, 125, 10]))⟩,
 ⟨none, some 4, .mv (.t 37)⟩])
 .ret))))))

/-- boxhedge/boxhedgelaw05.TypesOrder -/
def F3 : IFn where
  ntmps := 82
  nargs := 2
  res := [.tmp 4]
  freeze := false
  body :=
 (.seq
 (.region [
 ⟨none, some 4, .mv (.c (.bool false))⟩])
 (.seq
 (.region [
 ⟨none, some 14, .callP false (.c (.fn 5 [] [])) []⟩,
 ⟨none, some 5, .mv (.t 14)⟩])
 (.seq
 (.seq
 (.region [
 ⟨none, some 15, .mv (.t 5)⟩,
 ⟨none, some 16, .un .not (.t 15)⟩])
 (.cond (.t 16)
 (.seq
 (.region [
 ⟨none, some 4, .mv (.c (.bool false))⟩])
 .ret)
 .skip))
 (.seq
 (.region [
 ⟨none, some 18, .take 0⟩,
 ⟨none, some 19, .mv (.t 1)⟩,
 ⟨none, some 20, .callP false (.c (.fn 7 [] [])) [(.t 18), (.t 19)]⟩,
 ⟨none, some 21, .callP false (.c (.fn 6 [] [])) [(.t 20)]⟩,
 ⟨none, some 17, .mv (.t 21)⟩,
 ⟨none, some 22, .ext (.t 17) 0⟩,
 ⟨none, some 23, .ext (.t 17) 1⟩,
 ⟨none, some 24, .ext (.t 17) 2⟩,
 ⟨none, some 6, .boxL 6 (.c (.agg [.slice .fit 2 [], .slice .fit 4 []]))⟩,
 ⟨none, none, .store (.box 6) 2 (.t 6) (.t 22)⟩,
 ⟨none, some 7, .mv (.t 23)⟩,
 ⟨none, some 8, .mv (.t 24)⟩])
 (.seq
 (.seq
 (.region [
 ⟨none, some 25, .mv (.t 7)⟩,
 ⟨none, some 26, .bin 0 [] .neq (.t 25) (.c (.int .i64 0))⟩,
 ⟨none, some 27, .mv (.t 26)⟩,
 ⟨some (27, false), some 28, .faddr 1 (.t 6)⟩,
 ⟨some (27, false), some 29, .load (.box 6) false 1 (.t 28)⟩,
 ⟨some (27, false), some 30, .len 1 (.t 29)⟩,
 ⟨some (27, false), some 31, .bin 0 [] .neq (.t 30) (.c (.int .i64 2))⟩,
 ⟨none, some 32, .pick (.t 27) (.c (.bool true)) (.t 31)⟩])
 (.cond (.t 32)
 (.seq
 (.region [
 ⟨none, some 33, .mv (.t 5)⟩,
 ⟨none, some 4, .mv (.t 33)⟩])
 .ret)
 .skip))
 (.seq
 (.region [
 ⟨none, some 34, .load (.box 6) true 2 (.t 6)⟩,
 ⟨none, some 9, .boxL 9 (.c (.agg [.slice .fit 2 [], .slice .fit 4 []]))⟩,
 ⟨none, none, .store (.box 9) 2 (.t 9) (.t 34)⟩])
 (.seq
 (.region [
 ⟨none, some 35, .faddr 1 (.t 6)⟩,
 ⟨none, some 36, .load (.box 6) false 1 (.t 35)⟩,
 ⟨none, some 37, .iaddr 4 (.t 36) (.c (.int .i64 1))⟩,
 ⟨none, some 38, .load .imm true 4 (.t 37)⟩,
 ⟨none, some 39, .faddr 1 (.t 6)⟩,
 ⟨none, some 40, .load (.box 6) false 1 (.t 39)⟩,
 ⟨none, some 41, .iaddr 4 (.t 40) (.c (.int .i64 0))⟩,
 ⟨none, some 42, .load .imm true 4 (.t 41)⟩,
 ⟨none, some 43, .bslice 4 (.agg [.str [], .int .i64 0, .slice .fit 2 [], .slice .fit 6 []]) 2 [(0, (.t 38)), (1, (.t 42))]⟩,
 ⟨none, some 44, .faddr 1 (.t 9)⟩,
 ⟨none, none, .store (.box 9) 1 (.t 44) (.t 43)⟩])
 (.seq
 (.region [
 ⟨none, some 46, .load (.box 6) true 2 (.t 6)⟩,
 ⟨none, some 47, .callP false (.c (.fn 8 [] [])) [(.t 46)]⟩,
 ⟨none, some 45, .mv (.t 47)⟩,
 ⟨none, some 48, .ext (.t 45) 0⟩,
 ⟨none, some 49, .ext (.t 45) 1⟩,
 ⟨none, some 11, .boxL 11 (.c (.agg [.int .i64 0, .int .i64 0]))⟩,
 ⟨none, some 10, .mv (.t 48)⟩,
 ⟨none, none, .store (.box 11) 2 (.t 11) (.t 49)⟩])
 (.seq
 (.region [
 ⟨none, some 51, .load (.box 9) true 2 (.t 9)⟩,
 ⟨none, some 52, .callP false (.c (.fn 8 [] [])) [(.t 51)]⟩,
 ⟨none, some 50, .mv (.t 52)⟩,
 ⟨none, some 53, .ext (.t 50) 0⟩,
 ⟨none, some 54, .ext (.t 50) 1⟩,
 ⟨none, some 13, .boxL 13 (.c (.agg [.int .i64 0, .int .i64 0]))⟩,
 ⟨none, some 12, .mv (.t 53)⟩,
 ⟨none, none, .store (.box 13) 2 (.t 13) (.t 54)⟩])
 (.seq
 (.region [
 ⟨none, some 55, .mv (.t 5)⟩,
 ⟨none, some 56, .mv (.t 55)⟩,
 ⟨some (56, true), some 57, .mv (.t 10)⟩,
 ⟨some (56, true), some 58, .mv (.t 12)⟩,
 ⟨some (56, true), some 59, .bin 0 [] .eql (.t 57) (.t 58)⟩,
 ⟨none, some 60, .pick (.t 56) (.t 59) (.c (.bool false))⟩,
 ⟨none, some 61, .mv (.t 60)⟩,
 ⟨some (61, true), some 62, .mv (.t 10)⟩,
 ⟨some (61, true), some 63, .bin 0 [] .eql (.t 62) (.c (.int .i64 0))⟩,
 ⟨some (61, true), some 64, .mv (.t 63)⟩,
 ⟨some (64, false), some 65, .iaddrA 2 1 (.t 11) (.c (.int .i64 0))⟩,
 ⟨some (64, false), some 66, .load (.box 11) false 1 (.t 65)⟩,
 ⟨some (64, false), some 67, .bin 0 [] .eql (.t 66) (.c (.int .i64 0))⟩,
 ⟨some (64, false), some 68, .mv (.t 67)⟩,
 ⟨some (68, true), some 69, .iaddrA 2 1 (.t 13) (.c (.int .i64 0))⟩,
 ⟨some (68, true), some 70, .load (.box 13) false 1 (.t 69)⟩,
 ⟨some (68, true), some 71, .bin 0 [] .eql (.t 70) (.c (.int .i64 1))⟩,
 ⟨some (64, false), some 72, .pick (.t 68) (.t 71) (.c (.bool false))⟩,
 ⟨some (64, false), some 73, .mv (.t 72)⟩,
 ⟨some (73, true), some 74, .iaddrA 2 1 (.t 11) (.c (.int .i64 1))⟩,
 ⟨some (73, true), some 75, .load (.box 11) false 1 (.t 74)⟩,
 ⟨some (73, true), some 76, .iaddrA 2 1 (.t 13) (.c (.int .i64 1))⟩,
 ⟨some (73, true), some 77, .load (.box 13) false 1 (.t 76)⟩,
 ⟨some (73, true), some 78, .bin 0 [] .eql (.t 75) (.t 77)⟩,
 ⟨some (64, false), some 79, .pick (.t 73) (.t 78) (.c (.bool false))⟩,
 ⟨some (61, true), some 80, .pick (.t 64) (.c (.bool true)) (.t 79)⟩,
 ⟨none, some 81, .pick (.t 61) (.t 80) (.c (.bool false))⟩,
 ⟨none, some 4, .mv (.t 81)⟩])
 .ret))))))))))

/-- boxhedge/boxhedgelaw05.TypesMore -/
def F4 : IFn where
  ntmps := 100
  nargs := 2
  res := [.tmp 4]
  freeze := false
  body :=
 (.seq
 (.region [
 ⟨none, some 4, .mv (.c (.bool false))⟩])
 (.seq
 (.region [
 ⟨none, some 16, .callP false (.c (.fn 5 [] [])) []⟩,
 ⟨none, some 5, .mv (.t 16)⟩])
 (.seq
 (.seq
 (.region [
 ⟨none, some 17, .mv (.t 5)⟩,
 ⟨none, some 18, .un .not (.t 17)⟩])
 (.cond (.t 18)
 (.seq
 (.region [
 ⟨none, some 4, .mv (.c (.bool false))⟩])
 .ret)
 .skip))
 (.seq
 (.region [
 ⟨none, some 20, .take 0⟩,
 ⟨none, some 21, .mv (.t 1)⟩,
 ⟨none, some 22, .callP false (.c (.fn 7 [] [])) [(.t 20), (.t 21)]⟩,
 ⟨none, some 23, .callP false (.c (.fn 6 [] [])) [(.t 22)]⟩,
 ⟨none, some 19, .mv (.t 23)⟩,
 ⟨none, some 24, .ext (.t 19) 0⟩,
 ⟨none, some 25, .ext (.t 19) 1⟩,
 ⟨none, some 26, .ext (.t 19) 2⟩,
 ⟨none, some 6, .boxL 6 (.c (.agg [.slice .fit 2 [], .slice .fit 4 []]))⟩,
 ⟨none, none, .store (.box 6) 2 (.t 6) (.t 24)⟩,
 ⟨none, some 7, .mv (.t 25)⟩,
 ⟨none, some 8, .mv (.t 26)⟩])
 (.seq
 (.seq
 (.region [
 ⟨none, some 27, .mv (.t 7)⟩,
 ⟨none, some 28, .bin 0 [] .neq (.t 27) (.c (.int .i64 0))⟩,
 ⟨none, some 29, .mv (.t 28)⟩,
 ⟨some (29, false), some 30, .faddr 1 (.t 6)⟩,
 ⟨some (29, false), some 31, .load (.box 6) false 1 (.t 30)⟩,
 ⟨some (29, false), some 32, .len 1 (.t 31)⟩,
 ⟨some (29, false), some 33, .bin 0 [] .neq (.t 32) (.c (.int .i64 2))⟩,
 ⟨none, some 34, .pick (.t 29) (.c (.bool true)) (.t 33)⟩])
 (.cond (.t 34)
 (.seq
 (.region [
 ⟨none, some 35, .mv (.t 5)⟩,
 ⟨none, some 4, .mv (.t 35)⟩])
 .ret)
 .skip))
 (.seq
 (.region [
 ⟨none, some 37, .load (.box 6) true 2 (.t 6)⟩,
 ⟨none, some 38, .callP false (.c (.fn 8 [] [])) [(.t 37)]⟩,
 ⟨none, some 36, .mv (.t 38)⟩,
 ⟨none, some 39, .ext (.t 36) 0⟩,
 ⟨none, some 40, .ext (.t 36) 1⟩,
 ⟨none, some 10, .boxL 10 (.c (.agg [.int .i64 0, .int .i64 0]))⟩,
 ⟨none, some 9, .mv (.t 39)⟩,
 ⟨none, none, .store (.box 10) 2 (.t 10) (.t 40)⟩])
 (.seq
 (.region [
 ⟨none, some 41, .build [.int .i64 0, .int .i64 0, .int .i64 0, .str [], .slice .fit 5 []] [(0, 1, (.c (.int .i64 1))), (2, 1, (.c (.int .i64 1)))]⟩,
 ⟨none, some 42, .bslice 5 (.agg [.int .i64 0, .int .i64 0, .int .i64 0, .str [], .slice .fit 5 []]) 1 [(0, (.t 41))]⟩,
 ⟨none, some 43, .build [.int .i64 0, .int .i64 0, .str [], .slice .fit 5 [], .slice .fit 6 [], .slice .fit 6 []] [(0, 1, (.c (.int .i64 8))), (3, 1, (.t 42))]⟩,
 ⟨none, some 11, .boxL 11 (.c (.agg [.int .i64 0, .int .i64 0, .str [], .slice .fit 5 [], .slice .fit 6 [], .slice .fit 6 []]))⟩,
 ⟨none, none, .store (.box 11) 6 (.t 11) (.t 43)⟩])
 (.seq
 (.region [
 ⟨none, some 12, .mv (.c (.slice .fit 6 []))⟩])
 (.seq
 (.region [
 ⟨none, some 44, .take 12⟩,
 ⟨none, some 45, .faddr 1 (.t 6)⟩,
 ⟨none, some 46, .load (.box 6) false 1 (.t 45)⟩,
 ⟨none, some 47, .iaddr 4 (.t 46) (.c (.int .i64 0))⟩,
 ⟨none, some 48, .faddr 3 (.t 47)⟩,
 ⟨none, some 49, .load .any false 1 (.t 48)⟩,
 ⟨none, some 50, .append 6 104 (.t 44) (.t 49)⟩,
 ⟨none, some 12, .take 50⟩])
 (.seq
 (.region [
 ⟨none, some 51, .take 12⟩,
 ⟨none, some 52, .load (.box 11) true 6 (.t 11)⟩,
 ⟨none, some 53, .bslice 6 (.agg [.int .i64 0, .int .i64 0, .str [], .slice .fit 5 [], .slice .fit 6 [], .slice .fit 6 []]) 1 [(0, (.t 52))]⟩,
 ⟨none, some 54, .append 6 104 (.t 51) (.t 53)⟩,
 ⟨none, some 12, .take 54⟩])
 (.seq
 (.region [
 ⟨none, some 55, .load (.box 6) true 2 (.t 6)⟩,
 ⟨none, some 13, .boxL 13 (.c (.agg [.slice .fit 2 [], .slice .fit 4 []]))⟩,
 ⟨none, none, .store (.box 13) 2 (.t 13) (.t 55)⟩])
 (.seq
 (.region [
 ⟨none, some 56, .faddr 1 (.t 6)⟩,
 ⟨none, some 57, .load (.box 6) false 1 (.t 56)⟩,
 ⟨none, some 58, .iaddr 4 (.t 57) (.c (.int .i64 0))⟩,
 ⟨none, some 59, .faddr 2 (.t 58)⟩,
 ⟨none, some 60, .load .imm false 1 (.t 59)⟩,
 ⟨none, some 61, .mv (.t 12)⟩,
 ⟨none, some 62, .build [.str [], .int .i64 0, .slice .fit 2 [], .slice .fit 6 []] [(0, 1, (.c (.str [102]))), (1, 1, (.c (.int .i64 1))), (2, 1, (.t 60)), (3, 1, (.t 61))]⟩,
 ⟨none, some 63, .faddr 1 (.t 6)⟩,
 ⟨none, some 64, .load (.box 6) false 1 (.t 63)⟩,
 ⟨none, some 65, .iaddr 4 (.t 64) (.c (.int .i64 1))⟩,
 ⟨none, some 66, .load .imm true 4 (.t 65)⟩,
 ⟨none, some 67, .bslice 4 (.agg [.str [], .int .i64 0, .slice .fit 2 [], .slice .fit 6 []]) 2 [(0, (.t 62)), (1, (.t 66))]⟩,
 ⟨none, some 68, .faddr 1 (.t 13)⟩,
 ⟨none, none, .store (.box 13) 1 (.t 68) (.t 67)⟩])
 (.seq
 (.region [
 ⟨none, some 70, .load (.box 13) true 2 (.t 13)⟩,
 ⟨none, some 71, .callP false (.c (.fn 8 [] [])) [(.t 70)]⟩,
 ⟨none, some 69, .mv (.t 71)⟩,
 ⟨none, some 72, .ext (.t 69) 0⟩,
 ⟨none, some 73, .ext (.t 69) 1⟩,
 ⟨none, some 15, .boxL 15 (.c (.agg [.int .i64 0, .int .i64 0]))⟩,
 ⟨none, some 14, .mv (.t 72)⟩,
 ⟨none, none, .store (.box 15) 2 (.t 15) (.t 73)⟩])
 (.seq
 (.seq
 (.region [
 ⟨none, some 74, .mv (.t 9)⟩,
 ⟨none, some 75, .bin 0 [] .eql (.t 74) (.c (.int .i64 0))⟩,
 ⟨none, some 76, .mv (.t 75)⟩,
 ⟨some (76, false), some 77, .mv (.t 9)⟩,
 ⟨some (76, false), some 78, .bin 0 [] .eql (.t 77) (.c (.int .i64 52))⟩,
 ⟨none, some 79, .pick (.t 76) (.c (.bool true)) (.t 78)⟩])
 (.cond (.t 79)
 (.seq
 (.region [
 ⟨none, some 80, .mv (.t 5)⟩,
 ⟨none, some 81, .mv (.t 80)⟩,
 ⟨some (81, true), some 82, .mv (.t 14)⟩,
 ⟨some (81, true), some 83, .bin 0 [] .eql (.t 82) (.c (.int .i64 0))⟩,
 ⟨none, some 84, .pick (.t 81) (.t 83) (.c (.bool false))⟩,
 ⟨none, some 85, .mv (.t 84)⟩,
 ⟨some (85, true), some 86, .take 12⟩,
 ⟨some (85, true), some 87, .callP false (.c (.fn 9 [] [])) [(.t 86)]⟩,
 ⟨none, some 88, .pick (.t 85) (.t 87) (.c (.bool false))⟩,
 ⟨none, some 4, .mv (.t 88)⟩])
 .ret)
 .skip))
 (.seq
 (.region [
 ⟨none, some 89, .mv (.t 5)⟩,
 ⟨none, some 90, .mv (.t 89)⟩,
 ⟨some (90, true), some 91, .mv (.t 14)⟩,
 ⟨some (90, true), some 92, .mv (.t 9)⟩,
 ⟨some (90, true), some 93, .bin 0 [] .eql (.t 91) (.t 92)⟩,
 ⟨none, some 94, .pick (.t 90) (.t 93) (.c (.bool false))⟩,
 ⟨none, some 95, .mv (.t 94)⟩,
 ⟨some (95, true), some 96, .load (.box 15) true 2 (.t 15)⟩,
 ⟨some (95, true), some 97, .load (.box 10) true 2 (.t 10)⟩,
 ⟨some (95, true), some 98, .bin 4 [0, 0] .eql (.t 96) (.t 97)⟩,
 ⟨none, some 99, .pick (.t 95) (.t 98) (.c (.bool false))⟩,
 ⟨none, some 4, .mv (.t 99)⟩])
 .ret)))))))))))))))

def fns : Nat → Option IFn
  | 28 => some F28
  | 29 => some F29
  | 30 => some F30
  | 31 => some F31
  | 38 => some F38
  | 32 => some F32
  | 33 => some F33
  | 12 => some F12
  | 34 => some F34
  | 53 => some F53
  | 37 => some F37
  | 39 => some F39
  | 35 => some F35
  | 36 => some F36
  | 99 => some F99
  | 95 => some F95
  | 91 => some F91
  | 96 => some F96
  | 89 => some F89
  | 70 => some F70
  | 90 => some F90
  | 79 => some F79
  | 80 => some F80
  | 81 => some F81
  | 68 => some F68
  | 54 => some F54
  | 40 => some F40
  | 13 => some F13
  | 41 => some F41
  | 55 => some F55
  | 69 => some F69
  | 56 => some F56
  | 42 => some F42
  | 14 => some F14
  | 6 => some F6
  | 51 => some F51
  | 21 => some F21
  | 52 => some F52
  | 23 => some F23
  | 22 => some F22
  | 9 => some F9
  | 57 => some F57
  | 71 => some F71
  | 58 => some F58
  | 59 => some F59
  | 44 => some F44
  | 43 => some F43
  | 26 => some F26
  | 45 => some F45
  | 24 => some F24
  | 46 => some F46
  | 61 => some F61
  | 60 => some F60
  | 72 => some F72
  | 62 => some F62
  | 82 => some F82
  | 92 => some F92
  | 83 => some F83
  | 97 => some F97
  | 100 => some F100
  | 98 => some F98
  | 93 => some F93
  | 94 => some F94
  | 85 => some F85
  | 84 => some F84
  | 74 => some F74
  | 73 => some F73
  | 63 => some F63
  | 48 => some F48
  | 47 => some F47
  | 16 => some F16
  | 25 => some F25
  | 10 => some F10
  | 17 => some F17
  | 18 => some F18
  | 27 => some F27
  | 11 => some F11
  | 66 => some F66
  | 78 => some F78
  | 75 => some F75
  | 76 => some F76
  | 86 => some F86
  | 87 => some F87
  | 88 => some F88
  | 77 => some F77
  | 65 => some F65
  | 64 => some F64
  | 67 => some F67
  | 49 => some F49
  | 50 => some F50
  | 19 => some F19
  | 20 => some F20
  | 8 => some F8
  | 5 => some F5
  | 15 => some F15
  | 7 => some F7
  | 3 => some F3
  | 4 => some F4
  | _ => none

set_option maxRecDepth 100000 in
theorem ok28 : checkFn Try.prog Try.f28 F28 = true := by kernel_rfl
set_option maxRecDepth 100000 in
theorem ok29 : checkFn Try.prog Try.f29 F29 = true := by kernel_rfl
set_option maxRecDepth 100000 in
theorem ok30 : checkFn Try.prog Try.f30 F30 = true := by kernel_rfl
set_option maxRecDepth 100000 in
theorem ok31 : checkFn Try.prog Try.f31 F31 = true := by kernel_rfl
set_option maxRecDepth 100000 in
theorem ok38 : checkFn Try.prog Try.f38 F38 = true := by kernel_rfl
set_option maxRecDepth 100000 in
theorem ok32 : checkFn Try.prog Try.f32 F32 = true := by kernel_rfl
set_option maxRecDepth 100000 in
theorem ok33 : checkFn Try.prog Try.f33 F33 = true := by kernel_rfl
set_option maxRecDepth 100000 in
theorem ok12 : checkFn Try.prog Try.f12 F12 = true := by kernel_rfl
set_option maxRecDepth 100000 in
theorem ok34 : checkFn Try.prog Try.f34 F34 = true := by kernel_rfl
set_option maxRecDepth 100000 in
theorem ok53 : checkFn Try.prog Try.f53 F53 = true := by kernel_rfl
set_option maxRecDepth 100000 in
theorem ok37 : checkFn Try.prog Try.f37 F37 = true := by kernel_rfl
set_option maxRecDepth 100000 in
theorem ok39 : checkFn Try.prog Try.f39 F39 = true := by kernel_rfl
set_option maxRecDepth 100000 in
theorem ok35 : checkFn Try.prog Try.f35 F35 = true := by kernel_rfl
set_option maxRecDepth 100000 in
theorem ok36 : checkFn Try.prog Try.f36 F36 = true := by kernel_rfl
set_option maxRecDepth 100000 in
theorem ok99 : checkFn Try.prog Try.f99 F99 = true := by kernel_rfl
set_option maxRecDepth 100000 in
theorem ok95 : checkFn Try.prog Try.f95 F95 = true := by kernel_rfl
set_option maxRecDepth 100000 in
theorem ok91 : checkFn Try.prog Try.f91 F91 = true := by kernel_rfl
set_option maxRecDepth 100000 in
theorem ok96 : checkFn Try.prog Try.f96 F96 = true := by kernel_rfl
set_option maxRecDepth 100000 in
theorem ok89 : checkFn Try.prog Try.f89 F89 = true := by kernel_rfl
set_option maxRecDepth 100000 in
theorem ok70 : checkFn Try.prog Try.f70 F70 = true := by kernel_rfl
set_option maxRecDepth 100000 in
theorem ok90 : checkFn Try.prog Try.f90 F90 = true := by kernel_rfl
set_option maxRecDepth 100000 in
theorem ok79 : checkFn Try.prog Try.f79 F79 = true := by kernel_rfl
set_option maxRecDepth 100000 in
theorem ok80 : checkFn Try.prog Try.f80 F80 = true := by kernel_rfl
set_option maxRecDepth 100000 in
theorem ok81 : checkFn Try.prog Try.f81 F81 = true := by kernel_rfl
set_option maxRecDepth 100000 in
theorem ok68 : checkFn Try.prog Try.f68 F68 = true := by kernel_rfl
set_option maxRecDepth 100000 in
theorem ok54 : checkFn Try.prog Try.f54 F54 = true := by kernel_rfl
set_option maxRecDepth 100000 in
theorem ok40 : checkFn Try.prog Try.f40 F40 = true := by kernel_rfl
set_option maxRecDepth 100000 in
theorem ok13 : checkFn Try.prog Try.f13 F13 = true := by kernel_rfl
set_option maxRecDepth 100000 in
theorem ok41 : checkFn Try.prog Try.f41 F41 = true := by kernel_rfl
set_option maxRecDepth 100000 in
theorem ok55 : checkFn Try.prog Try.f55 F55 = true := by kernel_rfl
set_option maxRecDepth 100000 in
theorem ok69 : checkFn Try.prog Try.f69 F69 = true := by kernel_rfl
set_option maxRecDepth 100000 in
theorem ok56 : checkFn Try.prog Try.f56 F56 = true := by kernel_rfl
set_option maxRecDepth 100000 in
theorem ok42 : checkFn Try.prog Try.f42 F42 = true := by kernel_rfl
set_option maxRecDepth 100000 in
theorem ok14 : checkFn Try.prog Try.f14 F14 = true := by kernel_rfl
set_option maxRecDepth 100000 in
theorem ok6 : checkFn Try.prog Try.f6 F6 = true := by kernel_rfl
set_option maxRecDepth 100000 in
theorem ok51 : checkFn Try.prog Try.f51 F51 = true := by kernel_rfl
set_option maxRecDepth 100000 in
theorem ok21 : checkFn Try.prog Try.f21 F21 = true := by kernel_rfl
set_option maxRecDepth 100000 in
theorem ok52 : checkFn Try.prog Try.f52 F52 = true := by kernel_rfl
set_option maxRecDepth 100000 in
theorem ok23 : checkFn Try.prog Try.f23 F23 = true := by kernel_rfl
set_option maxRecDepth 100000 in
theorem ok22 : checkFn Try.prog Try.f22 F22 = true := by kernel_rfl
set_option maxRecDepth 100000 in
theorem ok9 : checkFn Try.prog Try.f9 F9 = true := by kernel_rfl
set_option maxRecDepth 100000 in
theorem ok57 : checkFn Try.prog Try.f57 F57 = true := by kernel_rfl
set_option maxRecDepth 100000 in
theorem ok71 : checkFn Try.prog Try.f71 F71 = true := by kernel_rfl
set_option maxRecDepth 100000 in
theorem ok58 : checkFn Try.prog Try.f58 F58 = true := by kernel_rfl
set_option maxRecDepth 100000 in
theorem ok59 : checkFn Try.prog Try.f59 F59 = true := by kernel_rfl
set_option maxRecDepth 100000 in
theorem ok44 : checkFn Try.prog Try.f44 F44 = true := by kernel_rfl
set_option maxRecDepth 100000 in
theorem ok43 : checkFn Try.prog Try.f43 F43 = true := by kernel_rfl
set_option maxRecDepth 100000 in
theorem ok26 : checkFn Try.prog Try.f26 F26 = true := by kernel_rfl
set_option maxRecDepth 100000 in
theorem ok45 : checkFn Try.prog Try.f45 F45 = true := by kernel_rfl
set_option maxRecDepth 100000 in
theorem ok24 : checkFn Try.prog Try.f24 F24 = true := by kernel_rfl
set_option maxRecDepth 100000 in
theorem ok46 : checkFn Try.prog Try.f46 F46 = true := by kernel_rfl
set_option maxRecDepth 100000 in
theorem ok61 : checkFn Try.prog Try.f61 F61 = true := by kernel_rfl
set_option maxRecDepth 100000 in
theorem ok60 : checkFn Try.prog Try.f60 F60 = true := by kernel_rfl
set_option maxRecDepth 100000 in
theorem ok72 : checkFn Try.prog Try.f72 F72 = true := by kernel_rfl
set_option maxRecDepth 100000 in
theorem ok62 : checkFn Try.prog Try.f62 F62 = true := by kernel_rfl
set_option maxRecDepth 100000 in
theorem ok82 : checkFn Try.prog Try.f82 F82 = true := by kernel_rfl
set_option maxRecDepth 100000 in
theorem ok92 : checkFn Try.prog Try.f92 F92 = true := by kernel_rfl
set_option maxRecDepth 100000 in
theorem ok83 : checkFn Try.prog Try.f83 F83 = true := by kernel_rfl
set_option maxRecDepth 100000 in
theorem ok97 : checkFn Try.prog Try.f97 F97 = true := by kernel_rfl
set_option maxRecDepth 100000 in
theorem ok100 : checkFn Try.prog Try.f100 F100 = true := by kernel_rfl
set_option maxRecDepth 100000 in
theorem ok98 : checkFn Try.prog Try.f98 F98 = true := by kernel_rfl
set_option maxRecDepth 100000 in
theorem ok93 : checkFn Try.prog Try.f93 F93 = true := by kernel_rfl
set_option maxRecDepth 100000 in
theorem ok94 : checkFn Try.prog Try.f94 F94 = true := by kernel_rfl
set_option maxRecDepth 100000 in
theorem ok85 : checkFn Try.prog Try.f85 F85 = true := by kernel_rfl
set_option maxRecDepth 100000 in
theorem ok84 : checkFn Try.prog Try.f84 F84 = true := by kernel_rfl
set_option maxRecDepth 100000 in
theorem ok74 : checkFn Try.prog Try.f74 F74 = true := by kernel_rfl
set_option maxRecDepth 100000 in
theorem ok73 : checkFn Try.prog Try.f73 F73 = true := by kernel_rfl
set_option maxRecDepth 100000 in
theorem ok63 : checkFn Try.prog Try.f63 F63 = true := by kernel_rfl
set_option maxRecDepth 100000 in
theorem ok48 : checkFn Try.prog Try.f48 F48 = true := by kernel_rfl
set_option maxRecDepth 100000 in
theorem ok47 : checkFn Try.prog Try.f47 F47 = true := by kernel_rfl
set_option maxRecDepth 100000 in
theorem ok16 : checkFn Try.prog Try.f16 F16 = true := by kernel_rfl
set_option maxRecDepth 100000 in
theorem ok25 : checkFn Try.prog Try.f25 F25 = true := by kernel_rfl
set_option maxRecDepth 100000 in
theorem ok10 : checkFn Try.prog Try.f10 F10 = true := by kernel_rfl
set_option maxRecDepth 100000 in
theorem ok17 : checkFn Try.prog Try.f17 F17 = true := by kernel_rfl
set_option maxRecDepth 100000 in
theorem ok18 : checkFn Try.prog Try.f18 F18 = true := by kernel_rfl
set_option maxRecDepth 100000 in
theorem ok27 : checkFn Try.prog Try.f27 F27 = true := by kernel_rfl
set_option maxRecDepth 100000 in
theorem ok11 : checkFn Try.prog Try.f11 F11 = true := by kernel_rfl
set_option maxRecDepth 100000 in
theorem ok66 : checkFn Try.prog Try.f66 F66 = true := by kernel_rfl
set_option maxRecDepth 100000 in
theorem ok78 : checkFn Try.prog Try.f78 F78 = true := by kernel_rfl
set_option maxRecDepth 100000 in
theorem ok75 : checkFn Try.prog Try.f75 F75 = true := by kernel_rfl
set_option maxRecDepth 100000 in
theorem ok76 : checkFn Try.prog Try.f76 F76 = true := by kernel_rfl
set_option maxRecDepth 100000 in
theorem ok86 : checkFn Try.prog Try.f86 F86 = true := by kernel_rfl
set_option maxRecDepth 100000 in
theorem ok87 : checkFn Try.prog Try.f87 F87 = true := by kernel_rfl
set_option maxRecDepth 100000 in
theorem ok88 : checkFn Try.prog Try.f88 F88 = true := by kernel_rfl
set_option maxRecDepth 100000 in
theorem ok77 : checkFn Try.prog Try.f77 F77 = true := by kernel_rfl
set_option maxRecDepth 100000 in
theorem ok65 : checkFn Try.prog Try.f65 F65 = true := by kernel_rfl
set_option maxRecDepth 100000 in
theorem ok64 : checkFn Try.prog Try.f64 F64 = true := by kernel_rfl
set_option maxRecDepth 100000 in
theorem ok67 : checkFn Try.prog Try.f67 F67 = true := by kernel_rfl
set_option maxRecDepth 100000 in
theorem ok49 : checkFn Try.prog Try.f49 F49 = true := by kernel_rfl
set_option maxRecDepth 100000 in
theorem ok50 : checkFn Try.prog Try.f50 F50 = true := by kernel_rfl
set_option maxRecDepth 100000 in
theorem ok19 : checkFn Try.prog Try.f19 F19 = true := by kernel_rfl
set_option maxRecDepth 100000 in
theorem ok20 : checkFn Try.prog Try.f20 F20 = true := by kernel_rfl
set_option maxRecDepth 100000 in
theorem ok8 : checkFn Try.prog Try.f8 F8 = true := by kernel_rfl
set_option maxRecDepth 100000 in
theorem ok5 : checkFn Try.prog Try.f5 F5 = true := by kernel_rfl
set_option maxRecDepth 100000 in
theorem ok15 : checkFn Try.prog Try.f15 F15 = true := by kernel_rfl
set_option maxRecDepth 100000 in
theorem ok7 : checkFn Try.prog Try.f7 F7 = true := by kernel_rfl
set_option maxRecDepth 100000 in
theorem ok3 : checkFn Try.prog Try.f3 F3 = true := by kernel_rfl
set_option maxRecDepth 100000 in
theorem ok4 : checkFn Try.prog Try.f4 F4 = true := by kernel_rfl
theorem fnsOk : ∀ f F, fns f = some F → ∃ fn, Try.prog.funcs[f]? = some fn ∧ checkFn Try.prog fn F = true := by
  intro f F h
  unfold fns at h
  split at h
  · cases h; exact ⟨Try.f28, Try.func28, ok28⟩
  · cases h; exact ⟨Try.f29, Try.func29, ok29⟩
  · cases h; exact ⟨Try.f30, Try.func30, ok30⟩
  · cases h; exact ⟨Try.f31, Try.func31, ok31⟩
  · cases h; exact ⟨Try.f38, Try.func38, ok38⟩
  · cases h; exact ⟨Try.f32, Try.func32, ok32⟩
  · cases h; exact ⟨Try.f33, Try.func33, ok33⟩
  · cases h; exact ⟨Try.f12, Try.func12, ok12⟩
  · cases h; exact ⟨Try.f34, Try.func34, ok34⟩
  · cases h; exact ⟨Try.f53, Try.func53, ok53⟩
  · cases h; exact ⟨Try.f37, Try.func37, ok37⟩
  · cases h; exact ⟨Try.f39, Try.func39, ok39⟩
  · cases h; exact ⟨Try.f35, Try.func35, ok35⟩
  · cases h; exact ⟨Try.f36, Try.func36, ok36⟩
  · cases h; exact ⟨Try.f99, Try.func99, ok99⟩
  · cases h; exact ⟨Try.f95, Try.func95, ok95⟩
  · cases h; exact ⟨Try.f91, Try.func91, ok91⟩
  · cases h; exact ⟨Try.f96, Try.func96, ok96⟩
  · cases h; exact ⟨Try.f89, Try.func89, ok89⟩
  · cases h; exact ⟨Try.f70, Try.func70, ok70⟩
  · cases h; exact ⟨Try.f90, Try.func90, ok90⟩
  · cases h; exact ⟨Try.f79, Try.func79, ok79⟩
  · cases h; exact ⟨Try.f80, Try.func80, ok80⟩
  · cases h; exact ⟨Try.f81, Try.func81, ok81⟩
  · cases h; exact ⟨Try.f68, Try.func68, ok68⟩
  · cases h; exact ⟨Try.f54, Try.func54, ok54⟩
  · cases h; exact ⟨Try.f40, Try.func40, ok40⟩
  · cases h; exact ⟨Try.f13, Try.func13, ok13⟩
  · cases h; exact ⟨Try.f41, Try.func41, ok41⟩
  · cases h; exact ⟨Try.f55, Try.func55, ok55⟩
  · cases h; exact ⟨Try.f69, Try.func69, ok69⟩
  · cases h; exact ⟨Try.f56, Try.func56, ok56⟩
  · cases h; exact ⟨Try.f42, Try.func42, ok42⟩
  · cases h; exact ⟨Try.f14, Try.func14, ok14⟩
  · cases h; exact ⟨Try.f6, Try.func6, ok6⟩
  · cases h; exact ⟨Try.f51, Try.func51, ok51⟩
  · cases h; exact ⟨Try.f21, Try.func21, ok21⟩
  · cases h; exact ⟨Try.f52, Try.func52, ok52⟩
  · cases h; exact ⟨Try.f23, Try.func23, ok23⟩
  · cases h; exact ⟨Try.f22, Try.func22, ok22⟩
  · cases h; exact ⟨Try.f9, Try.func9, ok9⟩
  · cases h; exact ⟨Try.f57, Try.func57, ok57⟩
  · cases h; exact ⟨Try.f71, Try.func71, ok71⟩
  · cases h; exact ⟨Try.f58, Try.func58, ok58⟩
  · cases h; exact ⟨Try.f59, Try.func59, ok59⟩
  · cases h; exact ⟨Try.f44, Try.func44, ok44⟩
  · cases h; exact ⟨Try.f43, Try.func43, ok43⟩
  · cases h; exact ⟨Try.f26, Try.func26, ok26⟩
  · cases h; exact ⟨Try.f45, Try.func45, ok45⟩
  · cases h; exact ⟨Try.f24, Try.func24, ok24⟩
  · cases h; exact ⟨Try.f46, Try.func46, ok46⟩
  · cases h; exact ⟨Try.f61, Try.func61, ok61⟩
  · cases h; exact ⟨Try.f60, Try.func60, ok60⟩
  · cases h; exact ⟨Try.f72, Try.func72, ok72⟩
  · cases h; exact ⟨Try.f62, Try.func62, ok62⟩
  · cases h; exact ⟨Try.f82, Try.func82, ok82⟩
  · cases h; exact ⟨Try.f92, Try.func92, ok92⟩
  · cases h; exact ⟨Try.f83, Try.func83, ok83⟩
  · cases h; exact ⟨Try.f97, Try.func97, ok97⟩
  · cases h; exact ⟨Try.f100, Try.func100, ok100⟩
  · cases h; exact ⟨Try.f98, Try.func98, ok98⟩
  · cases h; exact ⟨Try.f93, Try.func93, ok93⟩
  · cases h; exact ⟨Try.f94, Try.func94, ok94⟩
  · cases h; exact ⟨Try.f85, Try.func85, ok85⟩
  · cases h; exact ⟨Try.f84, Try.func84, ok84⟩
  · cases h; exact ⟨Try.f74, Try.func74, ok74⟩
  · cases h; exact ⟨Try.f73, Try.func73, ok73⟩
  · cases h; exact ⟨Try.f63, Try.func63, ok63⟩
  · cases h; exact ⟨Try.f48, Try.func48, ok48⟩
  · cases h; exact ⟨Try.f47, Try.func47, ok47⟩
  · cases h; exact ⟨Try.f16, Try.func16, ok16⟩
  · cases h; exact ⟨Try.f25, Try.func25, ok25⟩
  · cases h; exact ⟨Try.f10, Try.func10, ok10⟩
  · cases h; exact ⟨Try.f17, Try.func17, ok17⟩
  · cases h; exact ⟨Try.f18, Try.func18, ok18⟩
  · cases h; exact ⟨Try.f27, Try.func27, ok27⟩
  · cases h; exact ⟨Try.f11, Try.func11, ok11⟩
  · cases h; exact ⟨Try.f66, Try.func66, ok66⟩
  · cases h; exact ⟨Try.f78, Try.func78, ok78⟩
  · cases h; exact ⟨Try.f75, Try.func75, ok75⟩
  · cases h; exact ⟨Try.f76, Try.func76, ok76⟩
  · cases h; exact ⟨Try.f86, Try.func86, ok86⟩
  · cases h; exact ⟨Try.f87, Try.func87, ok87⟩
  · cases h; exact ⟨Try.f88, Try.func88, ok88⟩
  · cases h; exact ⟨Try.f77, Try.func77, ok77⟩
  · cases h; exact ⟨Try.f65, Try.func65, ok65⟩
  · cases h; exact ⟨Try.f64, Try.func64, ok64⟩
  · cases h; exact ⟨Try.f67, Try.func67, ok67⟩
  · cases h; exact ⟨Try.f49, Try.func49, ok49⟩
  · cases h; exact ⟨Try.f50, Try.func50, ok50⟩
  · cases h; exact ⟨Try.f19, Try.func19, ok19⟩
  · cases h; exact ⟨Try.f20, Try.func20, ok20⟩
  · cases h; exact ⟨Try.f8, Try.func8, ok8⟩
  · cases h; exact ⟨Try.f5, Try.func5, ok5⟩
  · cases h; exact ⟨Try.f15, Try.func15, ok15⟩
  · cases h; exact ⟨Try.f7, Try.func7, ok7⟩
  · cases h; exact ⟨Try.f3, Try.func3, ok3⟩
  · cases h; exact ⟨Try.f4, Try.func4, ok4⟩
  · cases h

def E : Env := { fn := fns, ext := fun _ => none }
theorem envOk : EnvOk Try.prog E := ⟨fnsOk, fun f g h => by cases h⟩

end PE.U

/-
  What the functions come to: names, words, places.
-/
namespace PE.U
open Go PE

/-! ### Names -/

def letterN (c : Int) : Bool := (decide (97 ≤ c) && decide (c ≤ 122)) || (decide (65 ≤ c) && decide (c ≤ 90)) || decide (c = 95)
def digitN (c : Int) : Bool := decide (48 ≤ c) && decide (c ≤ 57)

theorem letter_spec (c : Int) (σ : Store) : pcall E 57 [.int .i32 c] σ = some (.ret (.bool (letterN c)), σ) := by
  refine pcall_wp rfl rfl rfl (by simp) ?_
  (simp [*, F57, letterN]) <;> (repeat' (first | (refine cond_splitP _ ?_ ?_ <;> intro hc <;> simp [*, F57, letterN]) | (refine guard_splitP _ ?_ ?_ <;> intro hc <;> simp [*, F57, letterN]) | (refine cond_splitN _ ?_ ?_ <;> intro hc <;> simp [*, F57, letterN]) | (refine guard_splitN _ ?_ ?_ <;> intro hc <;> simp [*, F57, letterN]) | (refine cond_splitM _ ?_ ?_ <;> intro hc <;> simp [*, F57, letterN]) | (refine guard_splitM _ ?_ ?_ <;> intro hc <;> simp [*, F57, letterN]) | (refine cond_split _ ?_ ?_ <;> intro hc <;> simp [*, F57, letterN]) | (refine guard_split _ ?_ ?_ <;> intro hc <;> simp [*, F57, letterN])))
theorem digit_spec (c : Int) (σ : Store) : pcall E 71 [.int .i32 c] σ = some (.ret (.bool (digitN c)), σ) := by
  refine pcall_wp rfl rfl rfl (by simp) ?_
  (simp [*, F71, digitN]) <;> (repeat' (first | (refine cond_splitP _ ?_ ?_ <;> intro hc <;> simp [*, F71, digitN]) | (refine guard_splitP _ ?_ ?_ <;> intro hc <;> simp [*, F71, digitN]) | (refine cond_splitN _ ?_ ?_ <;> intro hc <;> simp [*, F71, digitN]) | (refine guard_splitN _ ?_ ?_ <;> intro hc <;> simp [*, F71, digitN]) | (refine cond_splitM _ ?_ ?_ <;> intro hc <;> simp [*, F71, digitN]) | (refine guard_splitM _ ?_ ?_ <;> intro hc <;> simp [*, F71, digitN]) | (refine cond_split _ ?_ ?_ <;> intro hc <;> simp [*, F71, digitN]) | (refine guard_split _ ?_ ?_ <;> intro hc <;> simp [*, F71, digitN])))
theorem rletter_spec (c : Int) (σ : Store) : pcall E 28 [.int .u8 c] σ = some (.ret (.bool (letterN c)), σ) := by
  refine pcall_wp rfl rfl rfl (by simp) ?_
  (simp [*, F28, letterN]) <;> (repeat' (first | (refine cond_splitP _ ?_ ?_ <;> intro hc <;> simp [*, F28, letterN]) | (refine guard_splitP _ ?_ ?_ <;> intro hc <;> simp [*, F28, letterN]) | (refine cond_splitN _ ?_ ?_ <;> intro hc <;> simp [*, F28, letterN]) | (refine guard_splitN _ ?_ ?_ <;> intro hc <;> simp [*, F28, letterN]) | (refine cond_splitM _ ?_ ?_ <;> intro hc <;> simp [*, F28, letterN]) | (refine guard_splitM _ ?_ ?_ <;> intro hc <;> simp [*, F28, letterN]) | (refine cond_split _ ?_ ?_ <;> intro hc <;> simp [*, F28, letterN]) | (refine guard_split _ ?_ ?_ <;> intro hc <;> simp [*, F28, letterN])))
theorem rdigit_spec (c : Int) (σ : Store) : pcall E 29 [.int .u8 c] σ = some (.ret (.bool (digitN c)), σ) := by
  refine pcall_wp rfl rfl rfl (by simp) ?_
  (simp [*, F29, digitN]) <;> (repeat' (first | (refine cond_splitP _ ?_ ?_ <;> intro hc <;> simp [*, F29, digitN]) | (refine guard_splitP _ ?_ ?_ <;> intro hc <;> simp [*, F29, digitN]) | (refine cond_splitN _ ?_ ?_ <;> intro hc <;> simp [*, F29, digitN]) | (refine guard_splitN _ ?_ ?_ <;> intro hc <;> simp [*, F29, digitN]) | (refine cond_splitM _ ?_ ?_ <;> intro hc <;> simp [*, F29, digitN]) | (refine guard_splitM _ ?_ ?_ <;> intro hc <;> simp [*, F29, digitN]) | (refine cond_split _ ?_ ?_ <;> intro hc <;> simp [*, F29, digitN]) | (refine guard_split _ ?_ ?_ <;> intro hc <;> simp [*, F29, digitN])))

def words : List (List UInt8) := [[105, 110, 116], [98, 111, 111, 108], [105, 102], [101, 108, 115, 101], [119, 104, 105, 108, 101], [98, 114, 101, 97, 107], [99, 111, 110, 116, 105, 110, 117, 101], [114, 101, 116, 117, 114, 110],
  [112, 114, 105, 110, 116], [114, 101, 97, 100], [116, 114, 117, 101], [102, 97, 108, 115, 101], [105, 56], [105, 49, 54], [105, 51, 50], [117, 56], [117, 49, 54], [117, 51, 50]]
def wordM (s : List UInt8) : Bool := words.contains s

theorem word_spec (s : List UInt8) (σ : Store) : pcall E 59 [.str s] σ = some (.ret (.bool (wordM s)), σ) := by
  refine pcall_wp rfl rfl rfl (by simp) ?_
  (simp [*, F59, wordM, words]) <;> (repeat' (first | (refine cond_splitP _ ?_ ?_ <;> intro hc <;> simp [*, F59, wordM, words]) | (refine guard_splitP _ ?_ ?_ <;> intro hc <;> simp [*, F59, wordM, words]) | (refine cond_splitN _ ?_ ?_ <;> intro hc <;> simp [*, F59, wordM, words]) | (refine guard_splitN _ ?_ ?_ <;> intro hc <;> simp [*, F59, wordM, words]) | (refine cond_splitM _ ?_ ?_ <;> intro hc <;> simp [*, F59, wordM, words]) | (refine guard_splitM _ ?_ ?_ <;> intro hc <;> simp [*, F59, wordM, words]) | (refine cond_split _ ?_ ?_ <;> intro hc <;> simp [*, F59, wordM, words]) | (refine guard_split _ ?_ ?_ <;> intro hc <;> simp [*, F59, wordM, words])))
theorem rword_spec (s : List UInt8) (σ : Store) : pcall E 30 [.str s] σ = some (.ret (.bool (wordM s)), σ) := by
  refine pcall_wp rfl rfl rfl (by simp) ?_
  (simp [*, F30, wordM, words]) <;> (repeat' (first | (refine cond_splitP _ ?_ ?_ <;> intro hc <;> simp [*, F30, wordM, words]) | (refine guard_splitP _ ?_ ?_ <;> intro hc <;> simp [*, F30, wordM, words]) | (refine cond_splitN _ ?_ ?_ <;> intro hc <;> simp [*, F30, wordM, words]) | (refine guard_splitN _ ?_ ?_ <;> intro hc <;> simp [*, F30, wordM, words]) | (refine cond_splitM _ ?_ ?_ <;> intro hc <;> simp [*, F30, wordM, words]) | (refine guard_splitM _ ?_ ?_ <;> intro hc <;> simp [*, F30, wordM, words]) | (refine cond_split _ ?_ ?_ <;> intro hc <;> simp [*, F30, wordM, words]) | (refine guard_split _ ?_ ?_ <;> intro hc <;> simp [*, F30, wordM, words])))

end PE.U

/-
  Names: a run of letters and digits.
-/
namespace PE.U
open Go PE

def nameByte (b : UInt8) : Bool := letterN b.toNat || digitN b.toNat
def runM (s : List UInt8) : List UInt8 := s.takeWhile nameByte
def nameM (s : List UInt8) : Bool := decide (s ≠ []) && (letterN ((s.head?.getD 0).toNat) && (s.all nameByte && (decide (s.length ≤ 20) && !wordM s)))

theorem nameByte_high {b : UInt8} (h : 128 ≤ b.toNat) : nameByte b = false := by
  simp [nameByte, letterN, digitN]; omega
theorem high_not {c : Nat} (h : 128 ≤ c) : letterN c = false ∧ digitN c = false := by
  simp [letterN, digitN]; omega

theorem takeWhile_self {p : UInt8 → Bool} : ∀ {s : List UInt8}, s.takeWhile p = s ↔ s.all p = true
  | [] => by simp
  | b :: r => by
    rw [List.takeWhile_cons]
    cases h : p b
    · simp [h]
    · simp [h, takeWhile_self (s := r)]

theorem run_spec (s : List UInt8) (σ : Store) : pcall E 58 [.str s] σ = some (.ret (.str (runM s)), σ) := by
  refine pcall_wp rfl rfl rfl (by simp) ?_
  simp [F58]
  refine wp_while K58_0 B58_0 (fun d => s.length - d) (fun d => []) (fun d => [(6, .iter s d)]) (fun _ => σ) (fun d => d ≤ s.length ∧ (s.take d).all nameByte = true) 0 (by simp) ?_
  rintro d s1 ⟨hd, ha⟩ h1 h2 h3 h4 h5
  simp at h4
  by_cases hlt : d < s.length
  · have hs : d < (⟨s.toArray⟩ : ByteArray).size := by show d < s.toArray.size; simpa using hlt
    have hget : (⟨s.toArray⟩ : ByteArray)[d]'hs = s[d] := rfl
    have htk : s.take (d + 1) = s.take d ++ [s[d]] := by simp
    by_cases hb : s[d].toNat < 128
    · have hdec := decode_ascii ⟨s.toArray⟩ d hs (by rw [hget]; exact hb)
      rw [hget] at hdec
      cases hn : nameByte s[d]
      · have e : runM s = s.take d := by
          have : s = s.take d ++ (s[d] :: s.drop (d + 1)) := by simp
          unfold runM
          rw [this, List.takeWhile_append_of_pos (by simpa using ha), List.takeWhile_cons, hn]
          simp
        have hn2 := hn
        simp only [nameByte, Bool.or_eq_false_iff] at hn2
        have hmin : min d s.length = d := by omega
        simp [*, letter_spec, digit_spec]
      · have hn2 := hn
        simp only [nameByte, Bool.or_eq_true] at hn2
        cases hl : letterN s[d].toNat
        · rw [hl] at hn2
          simp at hn2
          simp [*, letter_spec, digit_spec]
          exact ⟨d + 1, by omega, rfl, by omega, by rw [← List.all_eq_true, htk, List.all_append, ha]; simp [hn]⟩
        · simp [*, letter_spec, digit_spec]
          exact ⟨d + 1, by omega, rfl, by omega, by rw [← List.all_eq_true, htk, List.all_append, ha]; simp [hn]⟩
    · obtain ⟨hd1, hd2⟩ := decode_high ⟨s.toArray⟩ d hs (by rw [hget]; omega)
      obtain ⟨q1, q2⟩ := high_not hd1
      have e : runM s = s.take d := by
        have : s = s.take d ++ (s[d] :: s.drop (d + 1)) := by simp
        unfold runM
        rw [this, List.takeWhile_append_of_pos (by simpa using ha), List.takeWhile_cons, nameByte_high (by omega)]
        simp
      simp [*, letter_spec, digit_spec]
  · have hd' : d = s.length := by omega
    subst hd'
    simp at ha
    have e : runM s = s := by
      unfold runM
      exact takeWhile_self.2 (by simpa using ha)
    simp [*]

theorem name_spec (s : List UInt8) (σ : Store) : pcall E 44 [.str s] σ = some (.ret (.bool (nameM s)), σ) := by
  refine pcall_wp rfl rfl rfl (by simp) ?_
  have hr : decide (runM s = s) = s.all nameByte := by
    unfold runM
    simp only [takeWhile_self, Bool.decide_eq_true]
  by_cases hne : s = []
  · subst hne; simp [F44, nameM]
  obtain ⟨b, r, hs⟩ := List.exists_cons_of_ne_nil hne
  have hb : s[0]? = some b := by rw [hs]; rfl
  have hd : s.head? = some b := by rw [hs]; rfl
  clear hs
  generalize ha : s.all nameByte = A at hr
  (simp [*, F44, nameM, letter_spec, run_spec, word_spec]) <;> (repeat' (first | (refine cond_splitP _ ?_ ?_ <;> intro hc <;> simp [*, F44, nameM, letter_spec, run_spec, word_spec]) | (refine guard_splitP _ ?_ ?_ <;> intro hc <;> simp [*, F44, nameM, letter_spec, run_spec, word_spec]) | (refine cond_splitN _ ?_ ?_ <;> intro hc <;> simp [*, F44, nameM, letter_spec, run_spec, word_spec]) | (refine guard_splitN _ ?_ ?_ <;> intro hc <;> simp [*, F44, nameM, letter_spec, run_spec, word_spec]) | (refine cond_splitM _ ?_ ?_ <;> intro hc <;> simp [*, F44, nameM, letter_spec, run_spec, word_spec]) | (refine guard_splitM _ ?_ ?_ <;> intro hc <;> simp [*, F44, nameM, letter_spec, run_spec, word_spec]) | (refine cond_split _ ?_ ?_ <;> intro hc <;> simp [*, F44, nameM, letter_spec, run_spec, word_spec]) | (refine guard_split _ ?_ ?_ <;> intro hc <;> simp [*, F44, nameM, letter_spec, run_spec, word_spec])))
  all_goals (try grind)

theorem rname_spec (s : List UInt8) (σ : Store) : pcall E 31 [.str s] σ = some (.ret (.bool (nameM s)), σ) := by
  refine pcall_wp rfl rfl rfl (by simp) ?_
  by_cases hne : s = []
  · subst hne; simp [F31, nameM]
  obtain ⟨b, r, hs⟩ := List.exists_cons_of_ne_nil hne
  have hb : s[0]? = some b := by rw [hs]; rfl
  have hd : s.head? = some b := by rw [hs]; rfl
  clear hs
  (simp [*, F31, nameM, rletter_spec, rword_spec]) <;> (repeat' (first | (refine cond_splitP _ ?_ ?_ <;> intro hc <;> simp [*, F31, nameM, rletter_spec, rword_spec]) | (refine guard_splitP _ ?_ ?_ <;> intro hc <;> simp [*, F31, nameM, rletter_spec, rword_spec]) | (refine cond_splitN _ ?_ ?_ <;> intro hc <;> simp [*, F31, nameM, rletter_spec, rword_spec]) | (refine guard_splitN _ ?_ ?_ <;> intro hc <;> simp [*, F31, nameM, rletter_spec, rword_spec]) | (refine cond_splitM _ ?_ ?_ <;> intro hc <;> simp [*, F31, nameM, rletter_spec, rword_spec]) | (refine guard_splitM _ ?_ ?_ <;> intro hc <;> simp [*, F31, nameM, rletter_spec, rword_spec]) | (refine cond_split _ ?_ ?_ <;> intro hc <;> simp [*, F31, nameM, rletter_spec, rword_spec]) | (refine guard_split _ ?_ ?_ <;> intro hc <;> simp [*, F31, nameM, rletter_spec, rword_spec])))
  all_goals first | refine wp_each s K31_0 B31_0 (fun d => [(3, .int .i64 d.length)]) (fun _ => σ) (fun d => d.all nameByte = true) (by omega) (by simp) ?_ ?_ | grind
  · intros d x r' s hl' hlt hget hget' hw hp h1 h2 h3 h4
    simp at h1 h3
    have hx := hl'.mem
    clear h2
    (simp [*, rletter_spec, rdigit_spec]) <;> (repeat' (first | (refine cond_splitP _ ?_ ?_ <;> intro hc <;> simp [*, rletter_spec, rdigit_spec]) | (refine guard_splitP _ ?_ ?_ <;> intro hc <;> simp [*, rletter_spec, rdigit_spec]) | (refine cond_splitN _ ?_ ?_ <;> intro hc <;> simp [*, rletter_spec, rdigit_spec]) | (refine guard_splitN _ ?_ ?_ <;> intro hc <;> simp [*, rletter_spec, rdigit_spec]) | (refine cond_splitM _ ?_ ?_ <;> intro hc <;> simp [*, rletter_spec, rdigit_spec]) | (refine guard_splitM _ ?_ ?_ <;> intro hc <;> simp [*, rletter_spec, rdigit_spec]) | (refine cond_split _ ?_ ?_ <;> intro hc <;> simp [*, rletter_spec, rdigit_spec]) | (refine guard_split _ ?_ ?_ <;> intro hc <;> simp [*, rletter_spec, rdigit_spec])))
    all_goals grind [nameByte]
  · intros s hp h1 h2 h3 h4
    simp at h1 h3
    (simp [*]) <;> (repeat' (first | (refine cond_splitP _ ?_ ?_ <;> intro hc <;> simp [*]) | (refine guard_splitP _ ?_ ?_ <;> intro hc <;> simp [*]) | (refine cond_splitN _ ?_ ?_ <;> intro hc <;> simp [*]) | (refine guard_splitN _ ?_ ?_ <;> intro hc <;> simp [*]) | (refine cond_splitM _ ?_ ?_ <;> intro hc <;> simp [*]) | (refine guard_splitM _ ?_ ?_ <;> intro hc <;> simp [*]) | (refine cond_split _ ?_ ?_ <;> intro hc <;> simp [*]) | (refine guard_split _ ?_ ?_ <;> intro hc <;> simp [*])))
    all_goals (try grind)
end PE.U
