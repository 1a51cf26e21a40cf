/-
  The plain reading of the functions, printed by program off their region code; and the look that holds each against the other.
-/
import Derived.Test.YtpjbeahllepfmaaPeCall
import Derived.Test.YtpjbeahllepfmaaProg
set_option linter.unusedVariables false
set_option linter.unusedSimpArgs false
namespace PE.T01
open Go PE Go.Proofs

/-- boxhedge/wrap.compare -/
def F20 : IFn where
  ntmps := 39
  nargs := 3
  res := [.tmp 6, .tmp 7]
  freeze := false
  body :=
  (.seq
   (.region [
     ⟨none, some 6, .mv (.c (.bool false))⟩,
     ⟨none, some 7, .mv (.c (.bool false))⟩])
   (.seq
    (.seq
     (.region [
       ⟨none, some 8, .mv (.t 0)⟩])
     (.block 0
      (.seq
       (.region [
         ⟨none, some 10, .bin 0 [] .eql (.t 8) (.c (.int .i64 12))⟩,
         ⟨none, some 9, .mv (.t 10)⟩])
       (.cond (.t 9)
        (.seq
         (.region [
           ⟨none, some 11, .mv (.t 1)⟩,
           ⟨none, some 12, .mv (.t 2)⟩,
           ⟨none, some 13, .bin 0 [] .lss (.t 11) (.t 12)⟩,
           ⟨none, some 6, .mv (.t 13)⟩,
           ⟨none, some 7, .mv (.c (.bool true))⟩])
         .ret)
        (.seq
         (.region [
           ⟨none, some 15, .bin 0 [] .eql (.t 8) (.c (.int .i64 13))⟩,
           ⟨none, some 14, .mv (.t 15)⟩])
         (.cond (.t 14)
          (.seq
           (.region [
             ⟨none, some 16, .mv (.t 1)⟩,
             ⟨none, some 17, .mv (.t 2)⟩,
             ⟨none, some 18, .bin 0 [] .leq (.t 16) (.t 17)⟩,
             ⟨none, some 6, .mv (.t 18)⟩,
             ⟨none, some 7, .mv (.c (.bool true))⟩])
           .ret)
          (.seq
           (.region [
             ⟨none, some 20, .bin 0 [] .eql (.t 8) (.c (.int .i64 14))⟩,
             ⟨none, some 19, .mv (.t 20)⟩])
           (.cond (.t 19)
            (.seq
             (.region [
               ⟨none, some 21, .mv (.t 1)⟩,
               ⟨none, some 22, .mv (.t 2)⟩,
               ⟨none, some 23, .bin 0 [] .gtr (.t 21) (.t 22)⟩,
               ⟨none, some 6, .mv (.t 23)⟩,
               ⟨none, some 7, .mv (.c (.bool true))⟩])
             .ret)
            (.seq
             (.region [
               ⟨none, some 25, .bin 0 [] .eql (.t 8) (.c (.int .i64 15))⟩,
               ⟨none, some 24, .mv (.t 25)⟩])
             (.cond (.t 24)
              (.seq
               (.region [
                 ⟨none, some 26, .mv (.t 1)⟩,
                 ⟨none, some 27, .mv (.t 2)⟩,
                 ⟨none, some 28, .bin 0 [] .geq (.t 26) (.t 27)⟩,
                 ⟨none, some 6, .mv (.t 28)⟩,
                 ⟨none, some 7, .mv (.c (.bool true))⟩])
               .ret)
              (.seq
               (.region [
                 ⟨none, some 30, .bin 0 [] .eql (.t 8) (.c (.int .i64 16))⟩,
                 ⟨none, some 29, .mv (.t 30)⟩])
               (.cond (.t 29)
                (.seq
                 (.region [
                   ⟨none, some 31, .mv (.t 1)⟩,
                   ⟨none, some 32, .mv (.t 2)⟩,
                   ⟨none, some 33, .bin 0 [] .eql (.t 31) (.t 32)⟩,
                   ⟨none, some 6, .mv (.t 33)⟩,
                   ⟨none, some 7, .mv (.c (.bool true))⟩])
                 .ret)
                (.seq
                 (.region [
                   ⟨none, some 35, .bin 0 [] .eql (.t 8) (.c (.int .i64 17))⟩,
                   ⟨none, some 34, .mv (.t 35)⟩])
                 (.cond (.t 34)
                  (.seq
                   (.region [
                     ⟨none, some 36, .mv (.t 1)⟩,
                     ⟨none, some 37, .mv (.t 2)⟩,
                     ⟨none, some 38, .bin 0 [] .neq (.t 36) (.t 37)⟩,
                     ⟨none, some 6, .mv (.t 38)⟩,
                     ⟨none, some 7, .mv (.c (.bool true))⟩])
                   .ret)
                  .skip))))))))))))))
    (.seq
     (.region [
       ⟨none, some 6, .mv (.c (.bool false))⟩,
       ⟨none, some 7, .mv (.c (.bool false))⟩])
     .ret)))

/-- boxhedge/wrap.truth -/
def F21 : IFn where
  ntmps := 4
  nargs := 1
  res := [.tmp 2]
  freeze := false
  body :=
  (.seq
   (.region [
     ⟨none, some 2, .mv (.c (.int .i64 0))⟩])
   (.seq
    (.seq
     (.region [
       ⟨none, some 3, .mv (.t 0)⟩])
     (.cond (.t 3)
      (.seq
       (.region [
         ⟨none, some 2, .mv (.c (.int .i64 1))⟩])
       .ret)
      .skip))
    (.seq
     (.region [
       ⟨none, some 2, .mv (.c (.int .i64 0))⟩])
     .ret)))

/-- boxhedge/wrap.Two -/
def F11 : IFn where
  ntmps := 86
  nargs := 3
  res := [.tmp 6, .tmp 7]
  freeze := false
  body :=
  (.seq
   (.region [
     ⟨none, some 6, .mv (.c (.int .i64 0))⟩,
     ⟨none, some 7, .mv (.c (.bool false))⟩])
   (.seq
    (.seq
     (.region [
       ⟨none, some 11, .mv (.t 0)⟩,
       ⟨none, some 12, .mv (.t 1)⟩,
       ⟨none, some 13, .mv (.t 2)⟩,
       ⟨none, some 14, .call false (.c (.fn 20 [] [])) [(.t 11), (.t 12), (.t 13)]⟩,
       ⟨none, some 10, .mv (.t 14)⟩,
       ⟨none, some 15, .ext (.t 10) 0⟩,
       ⟨none, some 16, .ext (.t 10) 1⟩,
       ⟨none, some 8, .mv (.t 15)⟩,
       ⟨none, some 9, .mv (.t 16)⟩])
     (.seq
      (.region [
        ⟨none, some 17, .mv (.t 9)⟩])
      (.cond (.t 17)
       (.seq
        (.region [
          ⟨none, some 18, .mv (.t 8)⟩,
          ⟨none, some 19, .call false (.c (.fn 21 [] [])) [(.t 18)]⟩,
          ⟨none, some 6, .mv (.t 19)⟩,
          ⟨none, some 7, .mv (.c (.bool true))⟩])
        .ret)
       .skip)))
    (.seq
     (.seq
      (.region [
        ⟨none, some 20, .mv (.t 0)⟩])
      (.block 0
       (.seq
        (.region [
          ⟨none, some 22, .bin 0 [] .eql (.t 20) (.c (.int .i64 1))⟩,
          ⟨none, some 21, .mv (.t 22)⟩])
        (.cond (.t 21)
         (.seq
          (.region [
            ⟨none, some 23, .mv (.t 1)⟩,
            ⟨none, some 24, .mv (.t 2)⟩,
            ⟨none, some 25, .bin 0 [] .add (.t 23) (.t 24)⟩,
            ⟨none, some 6, .mv (.t 25)⟩,
            ⟨none, some 7, .mv (.c (.bool true))⟩])
          .ret)
         (.seq
          (.region [
            ⟨none, some 27, .bin 0 [] .eql (.t 20) (.c (.int .i64 2))⟩,
            ⟨none, some 26, .mv (.t 27)⟩])
          (.cond (.t 26)
           (.seq
            (.region [
              ⟨none, some 28, .mv (.t 1)⟩,
              ⟨none, some 29, .mv (.t 2)⟩,
              ⟨none, some 30, .bin 0 [] .sub (.t 28) (.t 29)⟩,
              ⟨none, some 6, .mv (.t 30)⟩,
              ⟨none, some 7, .mv (.c (.bool true))⟩])
            .ret)
           (.seq
            (.region [
              ⟨none, some 32, .bin 0 [] .eql (.t 20) (.c (.int .i64 3))⟩,
              ⟨none, some 31, .mv (.t 32)⟩])
            (.cond (.t 31)
             (.seq
              (.region [
                ⟨none, some 33, .mv (.t 1)⟩,
                ⟨none, some 34, .mv (.t 2)⟩,
                ⟨none, some 35, .bin 0 [] .mul (.t 33) (.t 34)⟩,
                ⟨none, some 6, .mv (.t 35)⟩,
                ⟨none, some 7, .mv (.c (.bool true))⟩])
              .ret)
             (.seq
              (.region [
                ⟨none, some 37, .bin 0 [] .eql (.t 20) (.c (.int .i64 6))⟩,
                ⟨none, some 36, .mv (.t 37)⟩])
              (.cond (.t 36)
               (.seq
                (.region [
                  ⟨none, some 38, .mv (.t 1)⟩,
                  ⟨none, some 39, .mv (.t 2)⟩,
                  ⟨none, some 40, .bin 0 [] .and (.t 38) (.t 39)⟩,
                  ⟨none, some 6, .mv (.t 40)⟩,
                  ⟨none, some 7, .mv (.c (.bool true))⟩])
                .ret)
               (.seq
                (.region [
                  ⟨none, some 42, .bin 0 [] .eql (.t 20) (.c (.int .i64 7))⟩,
                  ⟨none, some 41, .mv (.t 42)⟩])
                (.cond (.t 41)
                 (.seq
                  (.region [
                    ⟨none, some 43, .mv (.t 1)⟩,
                    ⟨none, some 44, .mv (.t 2)⟩,
                    ⟨none, some 45, .bin 0 [] .or (.t 43) (.t 44)⟩,
                    ⟨none, some 6, .mv (.t 45)⟩,
                    ⟨none, some 7, .mv (.c (.bool true))⟩])
                  .ret)
                 (.seq
                  (.region [
                    ⟨none, some 47, .bin 0 [] .eql (.t 20) (.c (.int .i64 8))⟩,
                    ⟨none, some 46, .mv (.t 47)⟩])
                  (.cond (.t 46)
                   (.seq
                    (.region [
                      ⟨none, some 48, .mv (.t 1)⟩,
                      ⟨none, some 49, .mv (.t 2)⟩,
                      ⟨none, some 50, .bin 0 [] .xor (.t 48) (.t 49)⟩,
                      ⟨none, some 6, .mv (.t 50)⟩,
                      ⟨none, some 7, .mv (.c (.bool true))⟩])
                    .ret)
                   (.seq
                    (.region [
                      ⟨none, some 52, .bin 0 [] .eql (.t 20) (.c (.int .i64 9))⟩,
                      ⟨none, some 51, .mv (.t 52)⟩])
                    (.cond (.t 51)
                     (.seq
                      (.region [
                        ⟨none, some 53, .mv (.t 1)⟩,
                        ⟨none, some 54, .mv (.t 2)⟩,
                        ⟨none, some 55, .bin 0 [] .and (.t 54) (.c (.int .i64 63))⟩,
                        ⟨none, some 56, .bin 0 [] .shl (.t 53) (.t 55)⟩,
                        ⟨none, some 6, .mv (.t 56)⟩,
                        ⟨none, some 7, .mv (.c (.bool true))⟩])
                      .ret)
                     (.seq
                      (.region [
                        ⟨none, some 58, .bin 0 [] .eql (.t 20) (.c (.int .i64 10))⟩,
                        ⟨none, some 57, .mv (.t 58)⟩])
                      (.cond (.t 57)
                       (.seq
                        (.region [
                          ⟨none, some 59, .mv (.t 1)⟩,
                          ⟨none, some 60, .mv (.t 2)⟩,
                          ⟨none, some 61, .bin 0 [] .and (.t 60) (.c (.int .i64 63))⟩,
                          ⟨none, some 62, .bin 0 [] .shr (.t 59) (.t 61)⟩,
                          ⟨none, some 6, .mv (.t 62)⟩,
                          ⟨none, some 7, .mv (.c (.bool true))⟩])
                        .ret)
                       (.seq
                        (.region [
                          ⟨none, some 64, .bin 0 [] .eql (.t 20) (.c (.int .i64 11))⟩,
                          ⟨none, some 63, .mv (.t 64)⟩])
                        (.cond (.t 63)
                         (.seq
                          (.region [
                            ⟨none, some 65, .mv (.t 1)⟩,
                            ⟨none, some 66, .conv .u64 (.t 65)⟩,
                            ⟨none, some 67, .mv (.t 2)⟩,
                            ⟨none, some 68, .bin 0 [] .and (.t 67) (.c (.int .i64 63))⟩,
                            ⟨none, some 69, .bin 0 [] .shr (.t 66) (.t 68)⟩,
                            ⟨none, some 70, .conv .i64 (.t 69)⟩,
                            ⟨none, some 6, .mv (.t 70)⟩,
                            ⟨none, some 7, .mv (.c (.bool true))⟩])
                          .ret)
                         .skip))))))))))))))))))))
     (.seq
      (.block 1
       (.seq
        (.region [
          ⟨none, some 72, .mv (.t 2)⟩,
          ⟨none, some 73, .bin 0 [] .eql (.t 72) (.c (.int .i64 0))⟩,
          ⟨none, some 71, .mv (.t 73)⟩])
        (.cond (.t 71)
         (.seq
          (.region [
            ⟨none, some 6, .mv (.c (.int .i64 0))⟩,
            ⟨none, some 7, .mv (.c (.bool false))⟩])
          .ret)
         (.seq
          (.region [
            ⟨none, some 75, .mv (.t 0)⟩,
            ⟨none, some 76, .bin 0 [] .eql (.t 75) (.c (.int .i64 4))⟩,
            ⟨none, some 74, .mv (.t 76)⟩])
          (.cond (.t 74)
           (.seq
            (.region [
              ⟨none, some 77, .mv (.t 1)⟩,
              ⟨none, some 78, .mv (.t 2)⟩,
              ⟨none, some 79, .bin 0 [] .quo (.t 77) (.t 78)⟩,
              ⟨none, some 6, .mv (.t 79)⟩,
              ⟨none, some 7, .mv (.c (.bool true))⟩])
            .ret)
           (.seq
            (.region [
              ⟨none, some 81, .mv (.t 0)⟩,
              ⟨none, some 82, .bin 0 [] .eql (.t 81) (.c (.int .i64 5))⟩,
              ⟨none, some 80, .mv (.t 82)⟩])
            (.cond (.t 80)
             (.seq
              (.region [
                ⟨none, some 83, .mv (.t 1)⟩,
                ⟨none, some 84, .mv (.t 2)⟩,
                ⟨none, some 85, .bin 0 [] .rem (.t 83) (.t 84)⟩,
                ⟨none, some 6, .mv (.t 85)⟩,
                ⟨none, some 7, .mv (.c (.bool true))⟩])
              .ret)
             .skip)))))))
      (.seq
       (.region [
         ⟨none, some 6, .mv (.c (.int .i64 0))⟩,
         ⟨none, some 7, .mv (.c (.bool false))⟩])
       .ret)))))

/-- boxhedge/boxhedgeref01.flag -/
def F22 : IFn where
  ntmps := 4
  nargs := 1
  res := [.tmp 2]
  freeze := false
  body :=
  (.seq
   (.region [
     ⟨none, some 2, .mv (.c (.int .i64 0))⟩])
   (.seq
    (.seq
     (.region [
       ⟨none, some 3, .mv (.t 0)⟩])
     (.cond (.t 3)
      (.seq
       (.region [
         ⟨none, some 2, .mv (.c (.int .i64 1))⟩])
       .ret)
      .skip))
    (.seq
     (.region [
       ⟨none, some 2, .mv (.c (.int .i64 0))⟩])
     .ret)))

/-- boxhedge/boxhedgeref01.Two -/
def F12 : IFn where
  ntmps := 108
  nargs := 3
  res := [.tmp 6, .tmp 7]
  freeze := false
  body :=
  (.seq
   (.region [
     ⟨none, some 6, .mv (.c (.int .i64 0))⟩,
     ⟨none, some 7, .mv (.c (.bool false))⟩])
   (.seq
    (.seq
     (.region [
       ⟨none, some 8, .mv (.t 0)⟩])
     (.block 0
      (.seq
       (.region [
         ⟨none, some 10, .bin 0 [] .eql (.t 8) (.c (.int .i64 1))⟩,
         ⟨none, some 9, .mv (.t 10)⟩])
       (.cond (.t 9)
        (.seq
         (.region [
           ⟨none, some 11, .mv (.t 1)⟩,
           ⟨none, some 12, .mv (.t 2)⟩,
           ⟨none, some 13, .bin 0 [] .add (.t 11) (.t 12)⟩,
           ⟨none, some 6, .mv (.t 13)⟩,
           ⟨none, some 7, .mv (.c (.bool true))⟩])
         .ret)
        (.seq
         (.region [
           ⟨none, some 15, .bin 0 [] .eql (.t 8) (.c (.int .i64 2))⟩,
           ⟨none, some 14, .mv (.t 15)⟩])
         (.cond (.t 14)
          (.seq
           (.region [
             ⟨none, some 16, .mv (.t 1)⟩,
             ⟨none, some 17, .mv (.t 2)⟩,
             ⟨none, some 18, .bin 0 [] .sub (.t 16) (.t 17)⟩,
             ⟨none, some 6, .mv (.t 18)⟩,
             ⟨none, some 7, .mv (.c (.bool true))⟩])
           .ret)
          (.seq
           (.region [
             ⟨none, some 20, .bin 0 [] .eql (.t 8) (.c (.int .i64 3))⟩,
             ⟨none, some 19, .mv (.t 20)⟩])
           (.cond (.t 19)
            (.seq
             (.region [
               ⟨none, some 21, .mv (.t 1)⟩,
               ⟨none, some 22, .mv (.t 2)⟩,
               ⟨none, some 23, .bin 0 [] .mul (.t 21) (.t 22)⟩,
               ⟨none, some 6, .mv (.t 23)⟩,
               ⟨none, some 7, .mv (.c (.bool true))⟩])
             .ret)
            (.seq
             (.seq
              (.region [
                ⟨none, some 25, .bin 0 [] .eql (.t 8) (.c (.int .i64 4))⟩,
                ⟨none, some 24, .mv (.t 25)⟩])
              (.cond (.t 24)
               .skip
               (.region [
                 ⟨none, some 26, .bin 0 [] .eql (.t 8) (.c (.int .i64 5))⟩,
                 ⟨none, some 24, .mv (.t 26)⟩])))
             (.cond (.t 24)
              (.seq
               (.seq
                (.region [
                  ⟨none, some 27, .mv (.t 2)⟩,
                  ⟨none, some 28, .bin 0 [] .eql (.t 27) (.c (.int .i64 0))⟩])
                (.cond (.t 28)
                 (.seq
                  (.region [
                    ⟨none, some 6, .mv (.c (.int .i64 0))⟩,
                    ⟨none, some 7, .mv (.c (.bool false))⟩])
                  .ret)
                 .skip))
               (.seq
                (.seq
                 (.region [
                   ⟨none, some 29, .mv (.t 0)⟩,
                   ⟨none, some 30, .bin 0 [] .eql (.t 29) (.c (.int .i64 4))⟩])
                 (.cond (.t 30)
                  (.seq
                   (.region [
                     ⟨none, some 31, .mv (.t 1)⟩,
                     ⟨none, some 32, .mv (.t 2)⟩,
                     ⟨none, some 33, .bin 0 [] .quo (.t 31) (.t 32)⟩,
                     ⟨none, some 6, .mv (.t 33)⟩,
                     ⟨none, some 7, .mv (.c (.bool true))⟩])
                   .ret)
                  .skip))
                (.seq
                 (.region [
                   ⟨none, some 34, .mv (.t 1)⟩,
                   ⟨none, some 35, .mv (.t 2)⟩,
                   ⟨none, some 36, .bin 0 [] .rem (.t 34) (.t 35)⟩,
                   ⟨none, some 6, .mv (.t 36)⟩,
                   ⟨none, some 7, .mv (.c (.bool true))⟩])
                 .ret)))
              (.seq
               (.region [
                 ⟨none, some 38, .bin 0 [] .eql (.t 8) (.c (.int .i64 6))⟩,
                 ⟨none, some 37, .mv (.t 38)⟩])
               (.cond (.t 37)
                (.seq
                 (.region [
                   ⟨none, some 39, .mv (.t 1)⟩,
                   ⟨none, some 40, .mv (.t 2)⟩,
                   ⟨none, some 41, .bin 0 [] .and (.t 39) (.t 40)⟩,
                   ⟨none, some 6, .mv (.t 41)⟩,
                   ⟨none, some 7, .mv (.c (.bool true))⟩])
                 .ret)
                (.seq
                 (.region [
                   ⟨none, some 43, .bin 0 [] .eql (.t 8) (.c (.int .i64 7))⟩,
                   ⟨none, some 42, .mv (.t 43)⟩])
                 (.cond (.t 42)
                  (.seq
                   (.region [
                     ⟨none, some 44, .mv (.t 1)⟩,
                     ⟨none, some 45, .mv (.t 2)⟩,
                     ⟨none, some 46, .bin 0 [] .or (.t 44) (.t 45)⟩,
                     ⟨none, some 6, .mv (.t 46)⟩,
                     ⟨none, some 7, .mv (.c (.bool true))⟩])
                   .ret)
                  (.seq
                   (.region [
                     ⟨none, some 48, .bin 0 [] .eql (.t 8) (.c (.int .i64 8))⟩,
                     ⟨none, some 47, .mv (.t 48)⟩])
                   (.cond (.t 47)
                    (.seq
                     (.region [
                       ⟨none, some 49, .mv (.t 1)⟩,
                       ⟨none, some 50, .mv (.t 2)⟩,
                       ⟨none, some 51, .bin 0 [] .xor (.t 49) (.t 50)⟩,
                       ⟨none, some 6, .mv (.t 51)⟩,
                       ⟨none, some 7, .mv (.c (.bool true))⟩])
                     .ret)
                    (.seq
                     (.region [
                       ⟨none, some 53, .bin 0 [] .eql (.t 8) (.c (.int .i64 9))⟩,
                       ⟨none, some 52, .mv (.t 53)⟩])
                     (.cond (.t 52)
                      (.seq
                       (.region [
                         ⟨none, some 54, .mv (.t 1)⟩,
                         ⟨none, some 55, .mv (.t 2)⟩,
                         ⟨none, some 56, .bin 0 [] .and (.t 55) (.c (.int .i64 63))⟩,
                         ⟨none, some 57, .bin 0 [] .shl (.t 54) (.t 56)⟩,
                         ⟨none, some 6, .mv (.t 57)⟩,
                         ⟨none, some 7, .mv (.c (.bool true))⟩])
                       .ret)
                      (.seq
                       (.region [
                         ⟨none, some 59, .bin 0 [] .eql (.t 8) (.c (.int .i64 10))⟩,
                         ⟨none, some 58, .mv (.t 59)⟩])
                       (.cond (.t 58)
                        (.seq
                         (.region [
                           ⟨none, some 60, .mv (.t 1)⟩,
                           ⟨none, some 61, .mv (.t 2)⟩,
                           ⟨none, some 62, .bin 0 [] .and (.t 61) (.c (.int .i64 63))⟩,
                           ⟨none, some 63, .bin 0 [] .shr (.t 60) (.t 62)⟩,
                           ⟨none, some 6, .mv (.t 63)⟩,
                           ⟨none, some 7, .mv (.c (.bool true))⟩])
                         .ret)
                        (.seq
                         (.region [
                           ⟨none, some 65, .bin 0 [] .eql (.t 8) (.c (.int .i64 11))⟩,
                           ⟨none, some 64, .mv (.t 65)⟩])
                         (.cond (.t 64)
                          (.seq
                           (.region [
                             ⟨none, some 66, .mv (.t 1)⟩,
                             ⟨none, some 67, .conv .u64 (.t 66)⟩,
                             ⟨none, some 68, .mv (.t 2)⟩,
                             ⟨none, some 69, .bin 0 [] .and (.t 68) (.c (.int .i64 63))⟩,
                             ⟨none, some 70, .bin 0 [] .shr (.t 67) (.t 69)⟩,
                             ⟨none, some 71, .conv .i64 (.t 70)⟩,
                             ⟨none, some 6, .mv (.t 71)⟩,
                             ⟨none, some 7, .mv (.c (.bool true))⟩])
                           .ret)
                          (.seq
                           (.region [
                             ⟨none, some 73, .bin 0 [] .eql (.t 8) (.c (.int .i64 12))⟩,
                             ⟨none, some 72, .mv (.t 73)⟩])
                           (.cond (.t 72)
                            (.seq
                             (.region [
                               ⟨none, some 74, .mv (.t 1)⟩,
                               ⟨none, some 75, .mv (.t 2)⟩,
                               ⟨none, some 76, .bin 0 [] .lss (.t 74) (.t 75)⟩,
                               ⟨none, some 77, .call false (.c (.fn 22 [] [])) [(.t 76)]⟩,
                               ⟨none, some 6, .mv (.t 77)⟩,
                               ⟨none, some 7, .mv (.c (.bool true))⟩])
                             .ret)
                            (.seq
                             (.region [
                               ⟨none, some 79, .bin 0 [] .eql (.t 8) (.c (.int .i64 13))⟩,
                               ⟨none, some 78, .mv (.t 79)⟩])
                             (.cond (.t 78)
                              (.seq
                               (.region [
                                 ⟨none, some 80, .mv (.t 1)⟩,
                                 ⟨none, some 81, .mv (.t 2)⟩,
                                 ⟨none, some 82, .bin 0 [] .leq (.t 80) (.t 81)⟩,
                                 ⟨none, some 83, .call false (.c (.fn 22 [] [])) [(.t 82)]⟩,
                                 ⟨none, some 6, .mv (.t 83)⟩,
                                 ⟨none, some 7, .mv (.c (.bool true))⟩])
                               .ret)
                              (.seq
                               (.region [
                                 ⟨none, some 85, .bin 0 [] .eql (.t 8) (.c (.int .i64 14))⟩,
                                 ⟨none, some 84, .mv (.t 85)⟩])
                               (.cond (.t 84)
                                (.seq
                                 (.region [
                                   ⟨none, some 86, .mv (.t 1)⟩,
                                   ⟨none, some 87, .mv (.t 2)⟩,
                                   ⟨none, some 88, .bin 0 [] .gtr (.t 86) (.t 87)⟩,
                                   ⟨none, some 89, .call false (.c (.fn 22 [] [])) [(.t 88)]⟩,
                                   ⟨none, some 6, .mv (.t 89)⟩,
                                   ⟨none, some 7, .mv (.c (.bool true))⟩])
                                 .ret)
                                (.seq
                                 (.region [
                                   ⟨none, some 91, .bin 0 [] .eql (.t 8) (.c (.int .i64 15))⟩,
                                   ⟨none, some 90, .mv (.t 91)⟩])
                                 (.cond (.t 90)
                                  (.seq
                                   (.region [
                                     ⟨none, some 92, .mv (.t 1)⟩,
                                     ⟨none, some 93, .mv (.t 2)⟩,
                                     ⟨none, some 94, .bin 0 [] .geq (.t 92) (.t 93)⟩,
                                     ⟨none, some 95, .call false (.c (.fn 22 [] [])) [(.t 94)]⟩,
                                     ⟨none, some 6, .mv (.t 95)⟩,
                                     ⟨none, some 7, .mv (.c (.bool true))⟩])
                                   .ret)
                                  (.seq
                                   (.region [
                                     ⟨none, some 97, .bin 0 [] .eql (.t 8) (.c (.int .i64 16))⟩,
                                     ⟨none, some 96, .mv (.t 97)⟩])
                                   (.cond (.t 96)
                                    (.seq
                                     (.region [
                                       ⟨none, some 98, .mv (.t 1)⟩,
                                       ⟨none, some 99, .mv (.t 2)⟩,
                                       ⟨none, some 100, .bin 0 [] .eql (.t 98) (.t 99)⟩,
                                       ⟨none, some 101, .call false (.c (.fn 22 [] [])) [(.t 100)]⟩,
                                       ⟨none, some 6, .mv (.t 101)⟩,
                                       ⟨none, some 7, .mv (.c (.bool true))⟩])
                                     .ret)
                                    (.seq
                                     (.region [
                                       ⟨none, some 103, .bin 0 [] .eql (.t 8) (.c (.int .i64 17))⟩,
                                       ⟨none, some 102, .mv (.t 103)⟩])
                                     (.cond (.t 102)
                                      (.seq
                                       (.region [
                                         ⟨none, some 104, .mv (.t 1)⟩,
                                         ⟨none, some 105, .mv (.t 2)⟩,
                                         ⟨none, some 106, .bin 0 [] .neq (.t 104) (.t 105)⟩,
                                         ⟨none, some 107, .call false (.c (.fn 22 [] [])) [(.t 106)]⟩,
                                         ⟨none, some 6, .mv (.t 107)⟩,
                                         ⟨none, some 7, .mv (.c (.bool true))⟩])
                                       .ret)
                                      .skip))))))))))))))))))))))))))))))))))
    (.seq
     (.region [
       ⟨none, some 6, .mv (.c (.int .i64 0))⟩,
       ⟨none, some 7, .mv (.c (.bool false))⟩])
     .ret)))

/-- boxhedge/wrap.One -/
def F14 : IFn where
  ntmps := 49
  nargs := 2
  res := [.tmp 4]
  freeze := false
  body :=
  (.seq
   (.region [
     ⟨none, some 4, .mv (.c (.int .i64 0))⟩])
   (.seq
    (.seq
     (.region [
       ⟨none, some 5, .mv (.t 0)⟩])
     (.block 0
      (.seq
       (.region [
         ⟨none, some 7, .bin 0 [] .eql (.t 5) (.c (.int .i64 20))⟩,
         ⟨none, some 6, .mv (.t 7)⟩])
       (.cond (.t 6)
        (.seq
         (.region [
           ⟨none, some 8, .mv (.t 1)⟩,
           ⟨none, some 9, .un .neg (.t 8)⟩,
           ⟨none, some 4, .mv (.t 9)⟩])
         .ret)
        (.seq
         (.region [
           ⟨none, some 11, .bin 0 [] .eql (.t 5) (.c (.int .i64 21))⟩,
           ⟨none, some 10, .mv (.t 11)⟩])
         (.cond (.t 10)
          (.seq
           (.region [
             ⟨none, some 12, .mv (.t 1)⟩,
             ⟨none, some 13, .un .xor (.t 12)⟩,
             ⟨none, some 4, .mv (.t 13)⟩])
           .ret)
          (.seq
           (.region [
             ⟨none, some 15, .bin 0 [] .eql (.t 5) (.c (.int .i64 22))⟩,
             ⟨none, some 14, .mv (.t 15)⟩])
           (.cond (.t 14)
            (.seq
             (.region [
               ⟨none, some 16, .mv (.t 1)⟩,
               ⟨none, some 17, .bin 0 [] .eql (.t 16) (.c (.int .i64 0))⟩,
               ⟨none, some 18, .call false (.c (.fn 21 [] [])) [(.t 17)]⟩,
               ⟨none, some 4, .mv (.t 18)⟩])
             .ret)
            (.seq
             (.region [
               ⟨none, some 20, .bin 0 [] .eql (.t 5) (.c (.int .i64 23))⟩,
               ⟨none, some 19, .mv (.t 20)⟩])
             (.cond (.t 19)
              (.seq
               (.region [
                 ⟨none, some 21, .mv (.t 1)⟩,
                 ⟨none, some 22, .conv .i8 (.t 21)⟩,
                 ⟨none, some 23, .conv .i64 (.t 22)⟩,
                 ⟨none, some 4, .mv (.t 23)⟩])
               .ret)
              (.seq
               (.region [
                 ⟨none, some 25, .bin 0 [] .eql (.t 5) (.c (.int .i64 24))⟩,
                 ⟨none, some 24, .mv (.t 25)⟩])
               (.cond (.t 24)
                (.seq
                 (.region [
                   ⟨none, some 26, .mv (.t 1)⟩,
                   ⟨none, some 27, .conv .i16 (.t 26)⟩,
                   ⟨none, some 28, .conv .i64 (.t 27)⟩,
                   ⟨none, some 4, .mv (.t 28)⟩])
                 .ret)
                (.seq
                 (.region [
                   ⟨none, some 30, .bin 0 [] .eql (.t 5) (.c (.int .i64 25))⟩,
                   ⟨none, some 29, .mv (.t 30)⟩])
                 (.cond (.t 29)
                  (.seq
                   (.region [
                     ⟨none, some 31, .mv (.t 1)⟩,
                     ⟨none, some 32, .conv .i32 (.t 31)⟩,
                     ⟨none, some 33, .conv .i64 (.t 32)⟩,
                     ⟨none, some 4, .mv (.t 33)⟩])
                   .ret)
                  (.seq
                   (.region [
                     ⟨none, some 35, .bin 0 [] .eql (.t 5) (.c (.int .i64 26))⟩,
                     ⟨none, some 34, .mv (.t 35)⟩])
                   (.cond (.t 34)
                    (.seq
                     (.region [
                       ⟨none, some 36, .mv (.t 1)⟩,
                       ⟨none, some 37, .conv .u8 (.t 36)⟩,
                       ⟨none, some 38, .conv .i64 (.t 37)⟩,
                       ⟨none, some 4, .mv (.t 38)⟩])
                     .ret)
                    (.seq
                     (.region [
                       ⟨none, some 40, .bin 0 [] .eql (.t 5) (.c (.int .i64 27))⟩,
                       ⟨none, some 39, .mv (.t 40)⟩])
                     (.cond (.t 39)
                      (.seq
                       (.region [
                         ⟨none, some 41, .mv (.t 1)⟩,
                         ⟨none, some 42, .conv .u16 (.t 41)⟩,
                         ⟨none, some 43, .conv .i64 (.t 42)⟩,
                         ⟨none, some 4, .mv (.t 43)⟩])
                       .ret)
                      (.seq
                       (.region [
                         ⟨none, some 45, .bin 0 [] .eql (.t 5) (.c (.int .i64 28))⟩,
                         ⟨none, some 44, .mv (.t 45)⟩])
                       (.cond (.t 44)
                        (.seq
                         (.region [
                           ⟨none, some 46, .mv (.t 1)⟩,
                           ⟨none, some 47, .conv .u32 (.t 46)⟩,
                           ⟨none, some 48, .conv .i64 (.t 47)⟩,
                           ⟨none, some 4, .mv (.t 48)⟩])
                         .ret)
                        .skip))))))))))))))))))))
    (.seq
     (.region [
       ⟨none, some 4, .mv (.c (.int .i64 0))⟩])
     .ret)))

/-- boxhedge/wrap.rowOf -/
def F23 : IFn where
  ntmps := 43
  nargs := 1
  res := [.cell 2 true 2]
  freeze := false
  body :=
  (.seq
   (.region [
     ⟨none, some 2, .boxL 2 (.c (.agg [.str [], .int .i64 0]))⟩])
   (.seq
    (.region [
      ⟨none, some 4, .build [.str [], .int .i64 0] [(0, 1, (.c (.str [43]))), (1, 1, (.c (.int .i64 9)))]⟩,
      ⟨none, some 5, .build [.str [], .int .i64 0] [(0, 1, (.c (.str [45]))), (1, 1, (.c (.int .i64 9)))]⟩,
      ⟨none, some 6, .build [.str [], .int .i64 0] [(0, 1, (.c (.str [42]))), (1, 1, (.c (.int .i64 10)))]⟩,
      ⟨none, some 7, .build [.str [], .int .i64 0] [(0, 1, (.c (.str [47]))), (1, 1, (.c (.int .i64 10)))]⟩,
      ⟨none, some 8, .build [.str [], .int .i64 0] [(0, 1, (.c (.str [37]))), (1, 1, (.c (.int .i64 10)))]⟩,
      ⟨none, some 9, .build [.str [], .int .i64 0] [(0, 1, (.c (.str [38]))), (1, 1, (.c (.int .i64 5)))]⟩,
      ⟨none, some 10, .build [.str [], .int .i64 0] [(0, 1, (.c (.str [124]))), (1, 1, (.c (.int .i64 3)))]⟩,
      ⟨none, some 11, .build [.str [], .int .i64 0] [(0, 1, (.c (.str [94]))), (1, 1, (.c (.int .i64 4)))]⟩,
      ⟨none, some 12, .build [.str [], .int .i64 0] [(0, 1, (.c (.str [60, 60]))), (1, 1, (.c (.int .i64 8)))]⟩,
      ⟨none, some 13, .build [.str [], .int .i64 0] [(0, 1, (.c (.str [62, 62]))), (1, 1, (.c (.int .i64 8)))]⟩,
      ⟨none, some 14, .build [.str [], .int .i64 0] [(0, 1, (.c (.str [62, 62, 62]))), (1, 1, (.c (.int .i64 8)))]⟩,
      ⟨none, some 15, .build [.str [], .int .i64 0] [(0, 1, (.c (.str [60]))), (1, 1, (.c (.int .i64 7)))]⟩,
      ⟨none, some 16, .build [.str [], .int .i64 0] [(0, 1, (.c (.str [60, 61]))), (1, 1, (.c (.int .i64 7)))]⟩,
      ⟨none, some 17, .build [.str [], .int .i64 0] [(0, 1, (.c (.str [62]))), (1, 1, (.c (.int .i64 7)))]⟩,
      ⟨none, some 18, .build [.str [], .int .i64 0] [(0, 1, (.c (.str [62, 61]))), (1, 1, (.c (.int .i64 7)))]⟩,
      ⟨none, some 19, .build [.str [], .int .i64 0] [(0, 1, (.c (.str [61, 61]))), (1, 1, (.c (.int .i64 6)))]⟩,
      ⟨none, some 20, .build [.str [], .int .i64 0] [(0, 1, (.c (.str [33, 61]))), (1, 1, (.c (.int .i64 6)))]⟩,
      ⟨none, some 21, .build [.str [], .int .i64 0] [(0, 1, (.c (.str [38, 38]))), (1, 1, (.c (.int .i64 2)))]⟩,
      ⟨none, some 22, .build [.str [], .int .i64 0] [(0, 1, (.c (.str [124, 124]))), (1, 1, (.c (.int .i64 1)))]⟩,
      ⟨none, some 23, .build [.str [], .int .i64 0] [(0, 1, (.c (.str [45]))), (1, 1, (.c (.int .i64 0)))]⟩,
      ⟨none, some 24, .build [.str [], .int .i64 0] [(0, 1, (.c (.str [126]))), (1, 1, (.c (.int .i64 0)))]⟩,
      ⟨none, some 25, .build [.str [], .int .i64 0] [(0, 1, (.c (.str [33]))), (1, 1, (.c (.int .i64 0)))]⟩,
      ⟨none, some 26, .build [.str [], .int .i64 0] [(0, 1, (.c (.str [105, 56]))), (1, 1, (.c (.int .i64 0)))]⟩,
      ⟨none, some 27, .build [.str [], .int .i64 0] [(0, 1, (.c (.str [105, 49, 54]))), (1, 1, (.c (.int .i64 0)))]⟩,
      ⟨none, some 28, .build [.str [], .int .i64 0] [(0, 1, (.c (.str [105, 51, 50]))), (1, 1, (.c (.int .i64 0)))]⟩,
      ⟨none, some 29, .build [.str [], .int .i64 0] [(0, 1, (.c (.str [117, 56]))), (1, 1, (.c (.int .i64 0)))]⟩,
      ⟨none, some 30, .build [.str [], .int .i64 0] [(0, 1, (.c (.str [117, 49, 54]))), (1, 1, (.c (.int .i64 0)))]⟩,
      ⟨none, some 31, .build [.str [], .int .i64 0] [(0, 1, (.c (.str [117, 51, 50]))), (1, 1, (.c (.int .i64 0)))]⟩,
      ⟨none, some 32, .build [.str [], .int .i64 0, .str [], .int .i64 0, .str [], .int .i64 0, .str [], .int .i64 0, .str [], .int .i64 0, .str [], .int .i64 0, .str [], .int .i64 0, .str [], .int .i64 0, .str [], .int .i64 0, .str [], .int .i64 0, .str [], .int .i64 0, .str [], .int .i64 0, .str [], .int .i64 0, .str [], .int .i64 0, .str [], .int .i64 0, .str [], .int .i64 0, .str [], .int .i64 0, .str [], .int .i64 0, .str [], .int .i64 0, .str [], .int .i64 0, .str [], .int .i64 0, .str [], .int .i64 0, .str [], .int .i64 0, .str [], .int .i64 0, .str [], .int .i64 0, .str [], .int .i64 0, .str [], .int .i64 0, .str [], .int .i64 0, .str [], .int .i64 0] [(2, 2, (.t 4)), (4, 2, (.t 5)), (6, 2, (.t 6)), (8, 2, (.t 7)), (10, 2, (.t 8)), (12, 2, (.t 9)), (14, 2, (.t 10)), (16, 2, (.t 11)), (18, 2, (.t 12)), (20, 2, (.t 13)), (22, 2, (.t 14)), (24, 2, (.t 15)), (26, 2, (.t 16)), (28, 2, (.t 17)), (30, 2, (.t 18)), (32, 2, (.t 19)), (34, 2, (.t 20)), (36, 2, (.t 21)), (38, 2, (.t 22)), (40, 2, (.t 23)), (42, 2, (.t 24)), (44, 2, (.t 25)), (46, 2, (.t 26)), (48, 2, (.t 27)), (50, 2, (.t 28)), (52, 2, (.t 29)), (54, 2, (.t 30)), (56, 2, (.t 31))]⟩,
      ⟨none, some 3, .boxL 3 (.c (.agg [.str [], .int .i64 0, .str [], .int .i64 0, .str [], .int .i64 0, .str [], .int .i64 0, .str [], .int .i64 0, .str [], .int .i64 0, .str [], .int .i64 0, .str [], .int .i64 0, .str [], .int .i64 0, .str [], .int .i64 0, .str [], .int .i64 0, .str [], .int .i64 0, .str [], .int .i64 0, .str [], .int .i64 0, .str [], .int .i64 0, .str [], .int .i64 0, .str [], .int .i64 0, .str [], .int .i64 0, .str [], .int .i64 0, .str [], .int .i64 0, .str [], .int .i64 0, .str [], .int .i64 0, .str [], .int .i64 0, .str [], .int .i64 0, .str [], .int .i64 0, .str [], .int .i64 0, .str [], .int .i64 0, .str [], .int .i64 0, .str [], .int .i64 0]))⟩,
      ⟨none, none, .store (.box 3) 58 (.t 3) (.t 32)⟩])
    (.seq
     (.seq
      (.region [
        ⟨none, some 33, .mv (.t 0)⟩,
        ⟨none, some 34, .bin 0 [] .lss (.t 33) (.c (.int .i64 0))⟩,
        ⟨none, some 35, .mv (.t 34)⟩,
        ⟨some (35, false), some 36, .mv (.t 0)⟩,
        ⟨some (35, false), some 37, .bin 0 [] .geq (.t 36) (.c (.int .i64 29))⟩,
        ⟨none, some 38, .pick (.t 35) (.c (.bool true)) (.t 37)⟩])
      (.cond (.t 38)
       (.seq
        (.region [
          ⟨none, some 39, .build [.str [], .int .i64 0] []⟩,
          ⟨none, none, .store (.box 2) 2 (.t 2) (.t 39)⟩])
        .ret)
       .skip))
     (.seq
      (.region [
        ⟨none, some 40, .mv (.t 0)⟩,
        ⟨none, some 41, .iaddrA 29 2 (.t 3) (.t 40)⟩,
        ⟨none, some 42, .load (.box 3) true 2 (.t 41)⟩,
        ⟨none, none, .store (.box 2) 2 (.t 2) (.t 42)⟩])
      .ret))))

/-- boxhedge/wrap.Sign -/
def F16 : IFn where
  ntmps := 6
  nargs := 1
  res := [.tmp 2]
  freeze := false
  body :=
  (.seq
   (.region [
     ⟨none, some 2, .mv (.c (.str []))⟩])
   (.seq
    (.region [
      ⟨none, some 3, .mv (.t 0)⟩,
      ⟨none, some 4, .call false (.c (.fn 23 [] [])) [(.t 3)]⟩,
      ⟨none, some 5, .fld false 0 1 (.t 4)⟩,
      ⟨none, some 2, .mv (.t 5)⟩])
    .ret))

/-- boxhedge/wrap.Level -/
def F18 : IFn where
  ntmps := 6
  nargs := 1
  res := [.tmp 2]
  freeze := false
  body :=
  (.seq
   (.region [
     ⟨none, some 2, .mv (.c (.int .i64 0))⟩])
   (.seq
    (.region [
      ⟨none, some 3, .mv (.t 0)⟩,
      ⟨none, some 4, .call false (.c (.fn 23 [] [])) [(.t 3)]⟩,
      ⟨none, some 5, .fld false 1 1 (.t 4)⟩,
      ⟨none, some 2, .mv (.t 5)⟩])
    .ret))

/-- boxhedge/boxhedgelaw01.awake -/
def F13 : IFn where
  ntmps := 34
  nargs := 0
  res := [.tmp 0]
  freeze := false
  body :=
  (.seq
   (.region [
     ⟨none, some 0, .mv (.c (.bool false))⟩])
   (.seq
    (.region [
      ⟨none, some 6, .call false (.c (.fn 11 [] [])) [(.c (.int .i64 11)), (.c (.int .i64 (-1))), (.c (.int .i64 60))]⟩,
      ⟨none, some 5, .mv (.t 6)⟩,
      ⟨none, some 7, .ext (.t 5) 0⟩,
      ⟨none, some 8, .ext (.t 5) 1⟩,
      ⟨none, some 1, .mv (.t 7)⟩,
      ⟨none, some 2, .mv (.t 8)⟩])
    (.seq
     (.region [
       ⟨none, some 10, .call false (.c (.fn 11 [] [])) [(.c (.int .i64 4)), (.c (.int .i64 (-7))), (.c (.int .i64 2))]⟩,
       ⟨none, some 9, .mv (.t 10)⟩,
       ⟨none, some 11, .ext (.t 9) 0⟩,
       ⟨none, some 12, .ext (.t 9) 1⟩,
       ⟨none, some 3, .mv (.t 11)⟩,
       ⟨none, some 4, .mv (.t 12)⟩])
     (.seq
      (.region [
        ⟨none, some 13, .call false (.c (.fn 14 [] [])) [(.c (.int .i64 23)), (.c (.int .i64 200))]⟩,
        ⟨none, some 14, .bin 0 [] .eql (.t 13) (.c (.int .i64 (-56)))⟩,
        ⟨none, some 15, .mv (.t 14)⟩,
        ⟨some (15, true), some 16, .mv (.t 1)⟩,
        ⟨some (15, true), some 17, .bin 0 [] .eql (.t 16) (.c (.int .i64 15))⟩,
        ⟨none, some 18, .pick (.t 15) (.t 17) (.c (.bool false))⟩,
        ⟨none, some 19, .mv (.t 18)⟩,
        ⟨some (19, true), some 20, .mv (.t 2)⟩,
        ⟨none, some 21, .pick (.t 19) (.t 20) (.c (.bool false))⟩,
        ⟨none, some 22, .mv (.t 21)⟩,
        ⟨some (22, true), some 23, .mv (.t 3)⟩,
        ⟨some (22, true), some 24, .bin 0 [] .eql (.t 23) (.c (.int .i64 (-3)))⟩,
        ⟨none, some 25, .pick (.t 22) (.t 24) (.c (.bool false))⟩,
        ⟨none, some 26, .mv (.t 25)⟩,
        ⟨some (26, true), some 27, .call false (.c (.fn 16 [] [])) [(.c (.int .i64 9))]⟩,
        ⟨some (26, true), some 28, .bin 0 [] .eql (.t 27) (.c (.str [60, 60]))⟩,
        ⟨none, some 29, .pick (.t 26) (.t 28) (.c (.bool false))⟩,
        ⟨none, some 30, .mv (.t 29)⟩,
        ⟨some (30, true), some 31, .call false (.c (.fn 18 [] [])) [(.c (.int .i64 3))]⟩,
        ⟨some (30, true), some 32, .bin 0 [] .eql (.t 31) (.c (.int .i64 10))⟩,
        ⟨none, some 33, .pick (.t 30) (.t 32) (.c (.bool false))⟩,
        ⟨none, some 0, .mv (.t 33)⟩])
      .ret))))

/-- boxhedge/boxhedgelaw01.WrapTwo -/
def F3 : IFn where
  ntmps := 36
  nargs := 3
  res := [.tmp 6]
  freeze := false
  body :=
  (.seq
   (.region [
     ⟨none, some 6, .mv (.c (.bool false))⟩])
   (.seq
    (.region [
      ⟨none, some 12, .mv (.t 0)⟩,
      ⟨none, some 13, .mv (.t 1)⟩,
      ⟨none, some 14, .mv (.t 2)⟩,
      ⟨none, some 15, .call false (.c (.fn 11 [] [])) [(.t 12), (.t 13), (.t 14)]⟩,
      ⟨none, some 11, .mv (.t 15)⟩,
      ⟨none, some 16, .ext (.t 11) 0⟩,
      ⟨none, some 17, .ext (.t 11) 1⟩,
      ⟨none, some 7, .mv (.t 16)⟩,
      ⟨none, some 8, .mv (.t 17)⟩])
    (.seq
     (.region [
       ⟨none, some 19, .mv (.t 0)⟩,
       ⟨none, some 20, .mv (.t 1)⟩,
       ⟨none, some 21, .mv (.t 2)⟩,
       ⟨none, some 22, .call false (.c (.fn 12 [] [])) [(.t 19), (.t 20), (.t 21)]⟩,
       ⟨none, some 18, .mv (.t 22)⟩,
       ⟨none, some 23, .ext (.t 18) 0⟩,
       ⟨none, some 24, .ext (.t 18) 1⟩,
       ⟨none, some 9, .mv (.t 23)⟩,
       ⟨none, some 10, .mv (.t 24)⟩])
     (.seq
      (.region [
        ⟨none, some 25, .call false (.c (.fn 13 [] [])) []⟩,
        ⟨none, some 26, .mv (.t 25)⟩,
        ⟨some (26, true), some 27, .mv (.t 7)⟩,
        ⟨some (26, true), some 28, .mv (.t 9)⟩,
        ⟨some (26, true), some 29, .bin 0 [] .eql (.t 27) (.t 28)⟩,
        ⟨none, some 30, .pick (.t 26) (.t 29) (.c (.bool false))⟩,
        ⟨none, some 31, .mv (.t 30)⟩,
        ⟨some (31, true), some 32, .mv (.t 8)⟩,
        ⟨some (31, true), some 33, .mv (.t 10)⟩,
        ⟨some (31, true), some 34, .bin 1 [] .eql (.t 32) (.t 33)⟩,
        ⟨none, some 35, .pick (.t 31) (.t 34) (.c (.bool false))⟩,
        ⟨none, some 6, .mv (.t 35)⟩])
      .ret))))

/-- boxhedge/boxhedgeref01.One -/
def F15 : IFn where
  ntmps := 49
  nargs := 2
  res := [.tmp 4]
  freeze := false
  body :=
  (.seq
   (.region [
     ⟨none, some 4, .mv (.c (.int .i64 0))⟩])
   (.seq
    (.seq
     (.region [
       ⟨none, some 5, .mv (.t 0)⟩])
     (.block 0
      (.seq
       (.region [
         ⟨none, some 7, .bin 0 [] .eql (.t 5) (.c (.int .i64 20))⟩,
         ⟨none, some 6, .mv (.t 7)⟩])
       (.cond (.t 6)
        (.seq
         (.region [
           ⟨none, some 8, .mv (.t 1)⟩,
           ⟨none, some 9, .bin 0 [] .sub (.c (.int .i64 0)) (.t 8)⟩,
           ⟨none, some 4, .mv (.t 9)⟩])
         .ret)
        (.seq
         (.region [
           ⟨none, some 11, .bin 0 [] .eql (.t 5) (.c (.int .i64 21))⟩,
           ⟨none, some 10, .mv (.t 11)⟩])
         (.cond (.t 10)
          (.seq
           (.region [
             ⟨none, some 12, .mv (.t 1)⟩,
             ⟨none, some 13, .bin 0 [] .sub (.c (.int .i64 (-1))) (.t 12)⟩,
             ⟨none, some 4, .mv (.t 13)⟩])
           .ret)
          (.seq
           (.region [
             ⟨none, some 15, .bin 0 [] .eql (.t 5) (.c (.int .i64 22))⟩,
             ⟨none, some 14, .mv (.t 15)⟩])
           (.cond (.t 14)
            (.seq
             (.region [
               ⟨none, some 16, .mv (.t 1)⟩,
               ⟨none, some 17, .bin 0 [] .eql (.t 16) (.c (.int .i64 0))⟩,
               ⟨none, some 18, .call false (.c (.fn 22 [] [])) [(.t 17)]⟩,
               ⟨none, some 4, .mv (.t 18)⟩])
             .ret)
            (.seq
             (.region [
               ⟨none, some 20, .bin 0 [] .eql (.t 5) (.c (.int .i64 26))⟩,
               ⟨none, some 19, .mv (.t 20)⟩])
             (.cond (.t 19)
              (.seq
               (.region [
                 ⟨none, some 21, .mv (.t 1)⟩,
                 ⟨none, some 22, .bin 0 [] .and (.t 21) (.c (.int .i64 255))⟩,
                 ⟨none, some 4, .mv (.t 22)⟩])
               .ret)
              (.seq
               (.region [
                 ⟨none, some 24, .bin 0 [] .eql (.t 5) (.c (.int .i64 27))⟩,
                 ⟨none, some 23, .mv (.t 24)⟩])
               (.cond (.t 23)
                (.seq
                 (.region [
                   ⟨none, some 25, .mv (.t 1)⟩,
                   ⟨none, some 26, .bin 0 [] .and (.t 25) (.c (.int .i64 65535))⟩,
                   ⟨none, some 4, .mv (.t 26)⟩])
                 .ret)
                (.seq
                 (.region [
                   ⟨none, some 28, .bin 0 [] .eql (.t 5) (.c (.int .i64 28))⟩,
                   ⟨none, some 27, .mv (.t 28)⟩])
                 (.cond (.t 27)
                  (.seq
                   (.region [
                     ⟨none, some 29, .mv (.t 1)⟩,
                     ⟨none, some 30, .bin 0 [] .and (.t 29) (.c (.int .i64 4294967295))⟩,
                     ⟨none, some 4, .mv (.t 30)⟩])
                   .ret)
                  (.seq
                   (.region [
                     ⟨none, some 32, .bin 0 [] .eql (.t 5) (.c (.int .i64 23))⟩,
                     ⟨none, some 31, .mv (.t 32)⟩])
                   (.cond (.t 31)
                    (.seq
                     (.region [
                       ⟨none, some 33, .mv (.t 1)⟩,
                       ⟨none, some 34, .bin 0 [] .and (.t 33) (.c (.int .i64 255))⟩,
                       ⟨none, some 35, .bin 0 [] .xor (.t 34) (.c (.int .i64 128))⟩,
                       ⟨none, some 36, .bin 0 [] .sub (.t 35) (.c (.int .i64 128))⟩,
                       ⟨none, some 4, .mv (.t 36)⟩])
                     .ret)
                    (.seq
                     (.region [
                       ⟨none, some 38, .bin 0 [] .eql (.t 5) (.c (.int .i64 24))⟩,
                       ⟨none, some 37, .mv (.t 38)⟩])
                     (.cond (.t 37)
                      (.seq
                       (.region [
                         ⟨none, some 39, .mv (.t 1)⟩,
                         ⟨none, some 40, .bin 0 [] .and (.t 39) (.c (.int .i64 65535))⟩,
                         ⟨none, some 41, .bin 0 [] .xor (.t 40) (.c (.int .i64 32768))⟩,
                         ⟨none, some 42, .bin 0 [] .sub (.t 41) (.c (.int .i64 32768))⟩,
                         ⟨none, some 4, .mv (.t 42)⟩])
                       .ret)
                      (.seq
                       (.region [
                         ⟨none, some 44, .bin 0 [] .eql (.t 5) (.c (.int .i64 25))⟩,
                         ⟨none, some 43, .mv (.t 44)⟩])
                       (.cond (.t 43)
                        (.seq
                         (.region [
                           ⟨none, some 45, .mv (.t 1)⟩,
                           ⟨none, some 46, .bin 0 [] .and (.t 45) (.c (.int .i64 4294967295))⟩,
                           ⟨none, some 47, .bin 0 [] .xor (.t 46) (.c (.int .i64 2147483648))⟩,
                           ⟨none, some 48, .bin 0 [] .sub (.t 47) (.c (.int .i64 2147483648))⟩,
                           ⟨none, some 4, .mv (.t 48)⟩])
                         .ret)
                        .skip))))))))))))))))))))
    (.seq
     (.region [
       ⟨none, some 4, .mv (.c (.int .i64 0))⟩])
     .ret)))

/-- boxhedge/boxhedgelaw01.WrapSmall -/
def F4 : IFn where
  ntmps := 49
  nargs := 3
  res := [.tmp 6]
  freeze := false
  body :=
  (.seq
   (.region [
     ⟨none, some 6, .mv (.c (.bool false))⟩])
   (.seq
    (.region [
      ⟨none, some 12, .mv (.t 0)⟩,
      ⟨none, some 13, .conv .i64 (.t 12)⟩,
      ⟨none, some 14, .bin 0 [] .rem (.t 13) (.c (.int .i64 30))⟩,
      ⟨none, some 7, .mv (.t 14)⟩])
    (.seq
     (.region [
       ⟨none, some 16, .mv (.t 7)⟩,
       ⟨none, some 17, .mv (.t 1)⟩,
       ⟨none, some 18, .mv (.t 2)⟩,
       ⟨none, some 19, .call false (.c (.fn 11 [] [])) [(.t 16), (.t 17), (.t 18)]⟩,
       ⟨none, some 15, .mv (.t 19)⟩,
       ⟨none, some 20, .ext (.t 15) 0⟩,
       ⟨none, some 21, .ext (.t 15) 1⟩,
       ⟨none, some 8, .mv (.t 20)⟩,
       ⟨none, some 9, .mv (.t 21)⟩])
     (.seq
      (.region [
        ⟨none, some 23, .mv (.t 7)⟩,
        ⟨none, some 24, .mv (.t 1)⟩,
        ⟨none, some 25, .mv (.t 2)⟩,
        ⟨none, some 26, .call false (.c (.fn 12 [] [])) [(.t 23), (.t 24), (.t 25)]⟩,
        ⟨none, some 22, .mv (.t 26)⟩,
        ⟨none, some 27, .ext (.t 22) 0⟩,
        ⟨none, some 28, .ext (.t 22) 1⟩,
        ⟨none, some 10, .mv (.t 27)⟩,
        ⟨none, some 11, .mv (.t 28)⟩])
      (.seq
       (.region [
         ⟨none, some 29, .call false (.c (.fn 13 [] [])) []⟩,
         ⟨none, some 30, .mv (.t 29)⟩,
         ⟨some (30, true), some 31, .mv (.t 8)⟩,
         ⟨some (30, true), some 32, .mv (.t 10)⟩,
         ⟨some (30, true), some 33, .bin 0 [] .eql (.t 31) (.t 32)⟩,
         ⟨none, some 34, .pick (.t 30) (.t 33) (.c (.bool false))⟩,
         ⟨none, some 35, .mv (.t 34)⟩,
         ⟨some (35, true), some 36, .mv (.t 9)⟩,
         ⟨some (35, true), some 37, .mv (.t 11)⟩,
         ⟨some (35, true), some 38, .bin 1 [] .eql (.t 36) (.t 37)⟩,
         ⟨none, some 39, .pick (.t 35) (.t 38) (.c (.bool false))⟩,
         ⟨none, some 40, .mv (.t 39)⟩,
         ⟨some (40, true), some 41, .mv (.t 7)⟩,
         ⟨some (40, true), some 42, .mv (.t 1)⟩,
         ⟨some (40, true), some 43, .call false (.c (.fn 14 [] [])) [(.t 41), (.t 42)]⟩,
         ⟨some (40, true), some 44, .mv (.t 7)⟩,
         ⟨some (40, true), some 45, .mv (.t 1)⟩,
         ⟨some (40, true), some 46, .call false (.c (.fn 15 [] [])) [(.t 44), (.t 45)]⟩,
         ⟨some (40, true), some 47, .bin 0 [] .eql (.t 43) (.t 46)⟩,
         ⟨none, some 48, .pick (.t 40) (.t 47) (.c (.bool false))⟩,
         ⟨none, some 6, .mv (.t 48)⟩])
       .ret)))))

/-- boxhedge/boxhedgeref01.signs -/
def F24 : IFn where
  ntmps := 2
  nargs := 0
  res := [.tmp 0]
  freeze := false
  body :=
  (.seq
   (.region [
     ⟨none, some 0, .mv (.c (.slice .fit 1 []))⟩])
   (.seq
    (.region [
      ⟨none, some 1, .bslice 1 (.str []) 28 [(0, (.c (.str [43]))), (1, (.c (.str [45]))), (2, (.c (.str [42]))), (3, (.c (.str [47]))), (4, (.c (.str [37]))), (5, (.c (.str [38]))), (6, (.c (.str [124]))), (7, (.c (.str [94]))), (8, (.c (.str [60, 60]))), (9, (.c (.str [62, 62]))), (10, (.c (.str [62, 62, 62]))), (11, (.c (.str [60]))), (12, (.c (.str [60, 61]))), (13, (.c (.str [62]))), (14, (.c (.str [62, 61]))), (15, (.c (.str [61, 61]))), (16, (.c (.str [33, 61]))), (17, (.c (.str [38, 38]))), (18, (.c (.str [124, 124]))), (19, (.c (.str [45]))), (20, (.c (.str [126]))), (21, (.c (.str [33]))), (22, (.c (.str [105, 56]))), (23, (.c (.str [105, 49, 54]))), (24, (.c (.str [105, 51, 50]))), (25, (.c (.str [117, 56]))), (26, (.c (.str [117, 49, 54]))), (27, (.c (.str [117, 51, 50])))]⟩,
      ⟨none, some 0, .take 1⟩])
    .ret))

/-- boxhedge/boxhedgeref01.Sign -/
def F17 : IFn where
  ntmps := 14
  nargs := 1
  res := [.tmp 2]
  freeze := false
  body :=
  (.seq
   (.region [
     ⟨none, some 2, .mv (.c (.str []))⟩])
   (.seq
    (.seq
     (.region [
       ⟨none, some 3, .mv (.t 0)⟩,
       ⟨none, some 4, .bin 0 [] .lss (.t 3) (.c (.int .i64 1))⟩,
       ⟨none, some 5, .mv (.t 4)⟩,
       ⟨some (5, false), some 6, .mv (.t 0)⟩,
       ⟨some (5, false), some 7, .bin 0 [] .gtr (.t 6) (.c (.int .i64 28))⟩,
       ⟨none, some 8, .pick (.t 5) (.c (.bool true)) (.t 7)⟩])
     (.cond (.t 8)
      (.seq
       (.region [
         ⟨none, some 2, .mv (.c (.str []))⟩])
       .ret)
      .skip))
    (.seq
     (.region [
       ⟨none, some 9, .call false (.c (.fn 24 [] [])) []⟩,
       ⟨none, some 10, .mv (.t 0)⟩,
       ⟨none, some 11, .bin 0 [] .sub (.t 10) (.c (.int .i64 1))⟩,
       ⟨none, some 12, .iaddr 1 (.t 9) (.t 11)⟩,
       ⟨none, some 13, .load .any false 1 (.t 12)⟩,
       ⟨none, some 2, .mv (.t 13)⟩])
     .ret)))

/-- boxhedge/boxhedgeref01.Level -/
def F19 : IFn where
  ntmps := 33
  nargs := 1
  res := [.tmp 2]
  freeze := false
  body :=
  (.seq
   (.region [
     ⟨none, some 2, .mv (.c (.int .i64 0))⟩])
   (.seq
    (.seq
     (.region [
       ⟨none, some 3, .mv (.t 0)⟩])
     (.block 0
      (.seq
       (.region [
         ⟨none, some 5, .bin 0 [] .eql (.t 3) (.c (.int .i64 19))⟩,
         ⟨none, some 4, .mv (.t 5)⟩])
       (.cond (.t 4)
        (.seq
         (.region [
           ⟨none, some 2, .mv (.c (.int .i64 1))⟩])
         .ret)
        (.seq
         (.region [
           ⟨none, some 7, .bin 0 [] .eql (.t 3) (.c (.int .i64 18))⟩,
           ⟨none, some 6, .mv (.t 7)⟩])
         (.cond (.t 6)
          (.seq
           (.region [
             ⟨none, some 2, .mv (.c (.int .i64 2))⟩])
           .ret)
          (.seq
           (.region [
             ⟨none, some 9, .bin 0 [] .eql (.t 3) (.c (.int .i64 7))⟩,
             ⟨none, some 8, .mv (.t 9)⟩])
           (.cond (.t 8)
            (.seq
             (.region [
               ⟨none, some 2, .mv (.c (.int .i64 3))⟩])
             .ret)
            (.seq
             (.region [
               ⟨none, some 11, .bin 0 [] .eql (.t 3) (.c (.int .i64 8))⟩,
               ⟨none, some 10, .mv (.t 11)⟩])
             (.cond (.t 10)
              (.seq
               (.region [
                 ⟨none, some 2, .mv (.c (.int .i64 4))⟩])
               .ret)
              (.seq
               (.region [
                 ⟨none, some 13, .bin 0 [] .eql (.t 3) (.c (.int .i64 6))⟩,
                 ⟨none, some 12, .mv (.t 13)⟩])
               (.cond (.t 12)
                (.seq
                 (.region [
                   ⟨none, some 2, .mv (.c (.int .i64 5))⟩])
                 .ret)
                (.seq
                 (.seq
                  (.region [
                    ⟨none, some 15, .bin 0 [] .eql (.t 3) (.c (.int .i64 16))⟩,
                    ⟨none, some 14, .mv (.t 15)⟩])
                  (.cond (.t 14)
                   .skip
                   (.region [
                     ⟨none, some 16, .bin 0 [] .eql (.t 3) (.c (.int .i64 17))⟩,
                     ⟨none, some 14, .mv (.t 16)⟩])))
                 (.cond (.t 14)
                  (.seq
                   (.region [
                     ⟨none, some 2, .mv (.c (.int .i64 6))⟩])
                   .ret)
                  (.seq
                   (.seq
                    (.region [
                      ⟨none, some 18, .bin 0 [] .eql (.t 3) (.c (.int .i64 12))⟩,
                      ⟨none, some 17, .mv (.t 18)⟩])
                    (.cond (.t 17)
                     .skip
                     (.seq
                      (.region [
                        ⟨none, some 19, .bin 0 [] .eql (.t 3) (.c (.int .i64 13))⟩,
                        ⟨none, some 17, .mv (.t 19)⟩])
                      (.cond (.t 17)
                       .skip
                       (.seq
                        (.region [
                          ⟨none, some 20, .bin 0 [] .eql (.t 3) (.c (.int .i64 14))⟩,
                          ⟨none, some 17, .mv (.t 20)⟩])
                        (.cond (.t 17)
                         .skip
                         (.region [
                           ⟨none, some 21, .bin 0 [] .eql (.t 3) (.c (.int .i64 15))⟩,
                           ⟨none, some 17, .mv (.t 21)⟩])))))))
                   (.cond (.t 17)
                    (.seq
                     (.region [
                       ⟨none, some 2, .mv (.c (.int .i64 7))⟩])
                     .ret)
                    (.seq
                     (.seq
                      (.region [
                        ⟨none, some 23, .bin 0 [] .eql (.t 3) (.c (.int .i64 9))⟩,
                        ⟨none, some 22, .mv (.t 23)⟩])
                      (.cond (.t 22)
                       .skip
                       (.seq
                        (.region [
                          ⟨none, some 24, .bin 0 [] .eql (.t 3) (.c (.int .i64 10))⟩,
                          ⟨none, some 22, .mv (.t 24)⟩])
                        (.cond (.t 22)
                         .skip
                         (.region [
                           ⟨none, some 25, .bin 0 [] .eql (.t 3) (.c (.int .i64 11))⟩,
                           ⟨none, some 22, .mv (.t 25)⟩])))))
                     (.cond (.t 22)
                      (.seq
                       (.region [
                         ⟨none, some 2, .mv (.c (.int .i64 8))⟩])
                       .ret)
                      (.seq
                       (.seq
                        (.region [
                          ⟨none, some 27, .bin 0 [] .eql (.t 3) (.c (.int .i64 1))⟩,
                          ⟨none, some 26, .mv (.t 27)⟩])
                        (.cond (.t 26)
                         .skip
                         (.region [
                           ⟨none, some 28, .bin 0 [] .eql (.t 3) (.c (.int .i64 2))⟩,
                           ⟨none, some 26, .mv (.t 28)⟩])))
                       (.cond (.t 26)
                        (.seq
                         (.region [
                           ⟨none, some 2, .mv (.c (.int .i64 9))⟩])
                         .ret)
                        (.seq
                         (.seq
                          (.region [
                            ⟨none, some 30, .bin 0 [] .eql (.t 3) (.c (.int .i64 3))⟩,
                            ⟨none, some 29, .mv (.t 30)⟩])
                          (.cond (.t 29)
                           .skip
                           (.seq
                            (.region [
                              ⟨none, some 31, .bin 0 [] .eql (.t 3) (.c (.int .i64 4))⟩,
                              ⟨none, some 29, .mv (.t 31)⟩])
                            (.cond (.t 29)
                             .skip
                             (.region [
                               ⟨none, some 32, .bin 0 [] .eql (.t 3) (.c (.int .i64 5))⟩,
                               ⟨none, some 29, .mv (.t 32)⟩])))))
                         (.cond (.t 29)
                          (.seq
                           (.region [
                             ⟨none, some 2, .mv (.c (.int .i64 10))⟩])
                           .ret)
                          .skip))))))))))))))))))))))
    (.seq
     (.region [
       ⟨none, some 2, .mv (.c (.int .i64 0))⟩])
     .ret)))

/-- boxhedge/boxhedgelaw01.WrapOne -/
def F5 : IFn where
  ntmps := 29
  nargs := 2
  res := [.tmp 4]
  freeze := false
  body :=
  (.seq
   (.region [
     ⟨none, some 4, .mv (.c (.bool false))⟩])
   (.seq
    (.region [
      ⟨none, some 5, .call false (.c (.fn 13 [] [])) []⟩,
      ⟨none, some 6, .mv (.t 5)⟩,
      ⟨some (6, true), some 7, .mv (.t 0)⟩,
      ⟨some (6, true), some 8, .mv (.t 1)⟩,
      ⟨some (6, true), some 9, .call false (.c (.fn 14 [] [])) [(.t 7), (.t 8)]⟩,
      ⟨some (6, true), some 10, .mv (.t 0)⟩,
      ⟨some (6, true), some 11, .mv (.t 1)⟩,
      ⟨some (6, true), some 12, .call false (.c (.fn 15 [] [])) [(.t 10), (.t 11)]⟩,
      ⟨some (6, true), some 13, .bin 0 [] .eql (.t 9) (.t 12)⟩,
      ⟨none, some 14, .pick (.t 6) (.t 13) (.c (.bool false))⟩,
      ⟨none, some 15, .mv (.t 14)⟩,
      ⟨some (15, true), some 16, .mv (.t 0)⟩,
      ⟨some (15, true), some 17, .call false (.c (.fn 16 [] [])) [(.t 16)]⟩,
      ⟨some (15, true), some 18, .mv (.t 0)⟩,
      ⟨some (15, true), some 19, .call false (.c (.fn 17 [] [])) [(.t 18)]⟩,
      ⟨some (15, true), some 20, .bin 0 [] .eql (.t 17) (.t 19)⟩,
      ⟨none, some 21, .pick (.t 15) (.t 20) (.c (.bool false))⟩,
      ⟨none, some 22, .mv (.t 21)⟩,
      ⟨some (22, true), some 23, .mv (.t 0)⟩,
      ⟨some (22, true), some 24, .call false (.c (.fn 18 [] [])) [(.t 23)]⟩,
      ⟨some (22, true), some 25, .mv (.t 0)⟩,
      ⟨some (22, true), some 26, .call false (.c (.fn 19 [] [])) [(.t 25)]⟩,
      ⟨some (22, true), some 27, .bin 0 [] .eql (.t 24) (.t 26)⟩,
      ⟨none, some 28, .pick (.t 22) (.t 27) (.c (.bool false))⟩,
      ⟨none, some 4, .mv (.t 28)⟩])
    .ret))

/-- boxhedge/boxhedgelaw01.WrapSigns -/
def F6 : IFn where
  ntmps := 22
  nargs := 1
  res := [.tmp 2]
  freeze := false
  body :=
  (.seq
   (.region [
     ⟨none, some 2, .mv (.c (.bool false))⟩])
   (.seq
    (.region [
      ⟨none, some 4, .mv (.t 0)⟩,
      ⟨none, some 5, .conv .i64 (.t 4)⟩,
      ⟨none, some 6, .bin 0 [] .rem (.t 5) (.c (.int .i64 30))⟩,
      ⟨none, some 3, .mv (.t 6)⟩])
    (.seq
     (.region [
       ⟨none, some 7, .call false (.c (.fn 13 [] [])) []⟩,
       ⟨none, some 8, .mv (.t 7)⟩,
       ⟨some (8, true), some 9, .mv (.t 3)⟩,
       ⟨some (8, true), some 10, .call false (.c (.fn 16 [] [])) [(.t 9)]⟩,
       ⟨some (8, true), some 11, .mv (.t 3)⟩,
       ⟨some (8, true), some 12, .call false (.c (.fn 17 [] [])) [(.t 11)]⟩,
       ⟨some (8, true), some 13, .bin 0 [] .eql (.t 10) (.t 12)⟩,
       ⟨none, some 14, .pick (.t 8) (.t 13) (.c (.bool false))⟩,
       ⟨none, some 15, .mv (.t 14)⟩,
       ⟨some (15, true), some 16, .mv (.t 3)⟩,
       ⟨some (15, true), some 17, .call false (.c (.fn 18 [] [])) [(.t 16)]⟩,
       ⟨some (15, true), some 18, .mv (.t 3)⟩,
       ⟨some (15, true), some 19, .call false (.c (.fn 19 [] [])) [(.t 18)]⟩,
       ⟨some (15, true), some 20, .bin 0 [] .eql (.t 17) (.t 19)⟩,
       ⟨none, some 21, .pick (.t 15) (.t 20) (.c (.bool false))⟩,
       ⟨none, some 2, .mv (.t 21)⟩])
     .ret)))

/-- boxhedge/boxhedgelaw01.WrapDivides -/
def F7 : IFn where
  ntmps := 108
  nargs := 2
  res := [.tmp 4]
  freeze := false
  body :=
  (.seq
   (.region [
     ⟨none, some 4, .mv (.c (.bool false))⟩])
   (.seq
    (.region [
      ⟨none, some 14, .call false (.c (.fn 13 [] [])) []⟩,
      ⟨none, some 5, .mv (.t 14)⟩])
    (.seq
     (.seq
      (.region [
        ⟨none, some 15, .mv (.t 5)⟩,
        ⟨none, some 16, .un .not (.t 15)⟩])
      (.cond (.t 16)
       (.seq
        (.region [
          ⟨none, some 4, .mv (.c (.bool false))⟩])
        .ret)
       .skip))
     (.seq
      (.region [
        ⟨none, some 18, .mv (.t 0)⟩,
        ⟨none, some 19, .mv (.t 1)⟩,
        ⟨none, some 20, .call false (.c (.fn 11 [] [])) [(.c (.int .i64 4)), (.t 18), (.t 19)]⟩,
        ⟨none, some 17, .mv (.t 20)⟩,
        ⟨none, some 21, .ext (.t 17) 0⟩,
        ⟨none, some 22, .ext (.t 17) 1⟩,
        ⟨none, some 6, .mv (.t 21)⟩,
        ⟨none, some 7, .mv (.t 22)⟩])
      (.seq
       (.region [
         ⟨none, some 24, .mv (.t 0)⟩,
         ⟨none, some 25, .mv (.t 1)⟩,
         ⟨none, some 26, .call false (.c (.fn 11 [] [])) [(.c (.int .i64 5)), (.t 24), (.t 25)]⟩,
         ⟨none, some 23, .mv (.t 26)⟩,
         ⟨none, some 27, .ext (.t 23) 0⟩,
         ⟨none, some 28, .ext (.t 23) 1⟩,
         ⟨none, some 8, .mv (.t 27)⟩,
         ⟨none, some 9, .mv (.t 28)⟩])
       (.seq
        (.seq
         (.region [
           ⟨none, some 29, .mv (.t 1)⟩,
           ⟨none, some 30, .bin 0 [] .eql (.t 29) (.c (.int .i64 0))⟩])
         (.cond (.t 30)
          (.seq
           (.region [
             ⟨none, some 31, .mv (.t 5)⟩,
             ⟨none, some 32, .mv (.t 31)⟩,
             ⟨some (32, true), some 33, .mv (.t 7)⟩,
             ⟨some (32, true), some 34, .un .not (.t 33)⟩,
             ⟨none, some 35, .pick (.t 32) (.t 34) (.c (.bool false))⟩,
             ⟨none, some 36, .mv (.t 35)⟩,
             ⟨some (36, true), some 37, .mv (.t 9)⟩,
             ⟨some (36, true), some 38, .un .not (.t 37)⟩,
             ⟨none, some 39, .pick (.t 36) (.t 38) (.c (.bool false))⟩,
             ⟨none, some 40, .mv (.t 39)⟩,
             ⟨some (40, true), some 41, .mv (.t 6)⟩,
             ⟨some (40, true), some 42, .bin 0 [] .eql (.t 41) (.c (.int .i64 0))⟩,
             ⟨none, some 43, .pick (.t 40) (.t 42) (.c (.bool false))⟩,
             ⟨none, some 44, .mv (.t 43)⟩,
             ⟨some (44, true), some 45, .mv (.t 8)⟩,
             ⟨some (44, true), some 46, .bin 0 [] .eql (.t 45) (.c (.int .i64 0))⟩,
             ⟨none, some 47, .pick (.t 44) (.t 46) (.c (.bool false))⟩,
             ⟨none, some 4, .mv (.t 47)⟩])
           .ret)
          .skip))
        (.seq
         (.region [
           ⟨none, some 49, .mv (.t 6)⟩,
           ⟨none, some 50, .mv (.t 1)⟩,
           ⟨none, some 51, .call false (.c (.fn 11 [] [])) [(.c (.int .i64 3)), (.t 49), (.t 50)]⟩,
           ⟨none, some 48, .mv (.t 51)⟩,
           ⟨none, some 52, .ext (.t 48) 0⟩,
           ⟨none, some 53, .ext (.t 48) 1⟩,
           ⟨none, some 10, .mv (.t 52)⟩,
           ⟨none, some 11, .mv (.t 53)⟩])
         (.seq
          (.region [
            ⟨none, some 55, .mv (.t 10)⟩,
            ⟨none, some 56, .mv (.t 8)⟩,
            ⟨none, some 57, .call false (.c (.fn 11 [] [])) [(.c (.int .i64 1)), (.t 55), (.t 56)]⟩,
            ⟨none, some 54, .mv (.t 57)⟩,
            ⟨none, some 58, .ext (.t 54) 0⟩,
            ⟨none, some 59, .ext (.t 54) 1⟩,
            ⟨none, some 12, .mv (.t 58)⟩,
            ⟨none, some 13, .mv (.t 59)⟩])
          (.seq
           (.region [
             ⟨none, some 60, .mv (.t 5)⟩,
             ⟨none, some 61, .mv (.t 60)⟩,
             ⟨some (61, true), some 62, .mv (.t 7)⟩,
             ⟨none, some 63, .pick (.t 61) (.t 62) (.c (.bool false))⟩,
             ⟨none, some 64, .mv (.t 63)⟩,
             ⟨some (64, true), some 65, .mv (.t 9)⟩,
             ⟨none, some 66, .pick (.t 64) (.t 65) (.c (.bool false))⟩,
             ⟨none, some 67, .mv (.t 66)⟩,
             ⟨some (67, true), some 68, .mv (.t 12)⟩,
             ⟨some (67, true), some 69, .mv (.t 0)⟩,
             ⟨some (67, true), some 70, .bin 0 [] .eql (.t 68) (.t 69)⟩,
             ⟨none, some 71, .pick (.t 67) (.t 70) (.c (.bool false))⟩,
             ⟨none, some 72, .mv (.t 71)⟩,
             ⟨some (72, true), some 73, .mv (.t 1)⟩,
             ⟨some (72, true), some 74, .bin 0 [] .eql (.t 73) (.c (.int .i64 (-9223372036854775808)))⟩,
             ⟨some (72, true), some 75, .mv (.t 74)⟩,
             ⟨some (75, false), some 76, .mv (.t 1)⟩,
             ⟨some (75, false), some 77, .bin 0 [] .gtr (.t 76) (.c (.int .i64 0))⟩,
             ⟨some (75, false), some 78, .mv (.t 77)⟩,
             ⟨some (78, true), some 79, .mv (.t 8)⟩,
             ⟨some (78, true), some 80, .mv (.t 1)⟩,
             ⟨some (78, true), some 81, .bin 0 [] .lss (.t 79) (.t 80)⟩,
             ⟨some (75, false), some 82, .pick (.t 78) (.t 81) (.c (.bool false))⟩,
             ⟨some (75, false), some 83, .mv (.t 82)⟩,
             ⟨some (83, true), some 84, .mv (.t 8)⟩,
             ⟨some (83, true), some 85, .un .neg (.t 84)⟩,
             ⟨some (83, true), some 86, .mv (.t 1)⟩,
             ⟨some (83, true), some 87, .bin 0 [] .lss (.t 85) (.t 86)⟩,
             ⟨some (75, false), some 88, .pick (.t 83) (.t 87) (.c (.bool false))⟩,
             ⟨some (75, false), some 89, .mv (.t 88)⟩,
             ⟨some (89, false), some 90, .mv (.t 1)⟩,
             ⟨some (89, false), some 91, .bin 0 [] .lss (.t 90) (.c (.int .i64 0))⟩,
             ⟨some (89, false), some 92, .mv (.t 91)⟩,
             ⟨some (92, true), some 93, .mv (.t 8)⟩,
             ⟨some (92, true), some 94, .mv (.t 1)⟩,
             ⟨some (92, true), some 95, .un .neg (.t 94)⟩,
             ⟨some (92, true), some 96, .bin 0 [] .lss (.t 93) (.t 95)⟩,
             ⟨some (89, false), some 97, .pick (.t 92) (.t 96) (.c (.bool false))⟩,
             ⟨some (89, false), some 98, .mv (.t 97)⟩,
             ⟨some (98, true), some 99, .mv (.t 8)⟩,
             ⟨some (98, true), some 100, .un .neg (.t 99)⟩,
             ⟨some (98, true), some 101, .mv (.t 1)⟩,
             ⟨some (98, true), some 102, .un .neg (.t 101)⟩,
             ⟨some (98, true), some 103, .bin 0 [] .lss (.t 100) (.t 102)⟩,
             ⟨some (89, false), some 104, .pick (.t 98) (.t 103) (.c (.bool false))⟩,
             ⟨some (75, false), some 105, .pick (.t 89) (.c (.bool true)) (.t 104)⟩,
             ⟨some (72, true), some 106, .pick (.t 75) (.c (.bool true)) (.t 105)⟩,
             ⟨none, some 107, .pick (.t 72) (.t 106) (.c (.bool false))⟩,
             ⟨none, some 4, .mv (.t 107)⟩])
           .ret)))))))))

/-- boxhedge/boxhedgelaw01.WrapConverts -/
def F8 : IFn where
  ntmps := 72
  nargs := 2
  res := [.tmp 4]
  freeze := false
  body :=
  (.seq
   (.region [
     ⟨none, some 4, .mv (.c (.bool false))⟩])
   (.seq
    (.region [
      ⟨none, some 10, .call false (.c (.fn 13 [] [])) []⟩,
      ⟨none, some 5, .mv (.t 10)⟩])
    (.seq
     (.seq
      (.region [
        ⟨none, some 11, .mv (.t 5)⟩,
        ⟨none, some 12, .un .not (.t 11)⟩])
      (.cond (.t 12)
       (.seq
        (.region [
          ⟨none, some 4, .mv (.c (.bool false))⟩])
        .ret)
       .skip))
     (.seq
      (.region [
        ⟨none, some 13, .mv (.t 1)⟩,
        ⟨none, some 14, .conv .i64 (.t 13)⟩,
        ⟨none, some 15, .bin 0 [] .rem (.t 14) (.c (.int .i64 6))⟩,
        ⟨none, some 16, .bin 0 [] .add (.c (.int .i64 23)) (.t 15)⟩,
        ⟨none, some 6, .mv (.t 16)⟩])
      (.seq
       (.region [
         ⟨none, some 17, .bslice 1 (.int .i64 0) 6 [(0, (.c (.int .i64 (-128)))), (1, (.c (.int .i64 (-32768)))), (2, (.c (.int .i64 (-2147483648)))), (3, (.c (.int .i64 0))), (4, (.c (.int .i64 0))), (5, (.c (.int .i64 0)))]⟩,
         ⟨none, some 18, .mv (.t 1)⟩,
         ⟨none, some 19, .conv .i64 (.t 18)⟩,
         ⟨none, some 20, .bin 0 [] .rem (.t 19) (.c (.int .i64 6))⟩,
         ⟨none, some 21, .iaddr 1 (.t 17) (.t 20)⟩,
         ⟨none, some 22, .load .any false 1 (.t 21)⟩,
         ⟨none, some 7, .mv (.t 22)⟩])
       (.seq
        (.region [
          ⟨none, some 23, .bslice 1 (.int .i64 0) 6 [(0, (.c (.int .i64 127))), (1, (.c (.int .i64 32767))), (2, (.c (.int .i64 2147483647))), (3, (.c (.int .i64 255))), (4, (.c (.int .i64 65535))), (5, (.c (.int .i64 4294967295)))]⟩,
          ⟨none, some 24, .mv (.t 1)⟩,
          ⟨none, some 25, .conv .i64 (.t 24)⟩,
          ⟨none, some 26, .bin 0 [] .rem (.t 25) (.c (.int .i64 6))⟩,
          ⟨none, some 27, .iaddr 1 (.t 23) (.t 26)⟩,
          ⟨none, some 28, .load .any false 1 (.t 27)⟩,
          ⟨none, some 8, .mv (.t 28)⟩])
        (.seq
         (.region [
           ⟨none, some 29, .mv (.t 6)⟩,
           ⟨none, some 30, .mv (.t 0)⟩,
           ⟨none, some 31, .call false (.c (.fn 14 [] [])) [(.t 29), (.t 30)]⟩,
           ⟨none, some 9, .mv (.t 31)⟩])
         (.seq
          (.region [
            ⟨none, some 32, .mv (.t 5)⟩,
            ⟨none, some 33, .mv (.t 32)⟩,
            ⟨some (33, true), some 34, .mv (.t 6)⟩,
            ⟨some (33, true), some 35, .mv (.t 9)⟩,
            ⟨some (33, true), some 36, .call false (.c (.fn 14 [] [])) [(.t 34), (.t 35)]⟩,
            ⟨some (33, true), some 37, .mv (.t 9)⟩,
            ⟨some (33, true), some 38, .bin 0 [] .eql (.t 36) (.t 37)⟩,
            ⟨none, some 39, .pick (.t 33) (.t 38) (.c (.bool false))⟩,
            ⟨none, some 40, .mv (.t 39)⟩,
            ⟨some (40, true), some 41, .mv (.t 9)⟩,
            ⟨some (40, true), some 42, .mv (.t 7)⟩,
            ⟨some (40, true), some 43, .bin 0 [] .geq (.t 41) (.t 42)⟩,
            ⟨none, some 44, .pick (.t 40) (.t 43) (.c (.bool false))⟩,
            ⟨none, some 45, .mv (.t 44)⟩,
            ⟨some (45, true), some 46, .mv (.t 9)⟩,
            ⟨some (45, true), some 47, .mv (.t 8)⟩,
            ⟨some (45, true), some 48, .bin 0 [] .leq (.t 46) (.t 47)⟩,
            ⟨none, some 49, .pick (.t 45) (.t 48) (.c (.bool false))⟩,
            ⟨none, some 50, .mv (.t 49)⟩,
            ⟨some (50, true), some 51, .mv (.t 0)⟩,
            ⟨some (50, true), some 52, .mv (.t 7)⟩,
            ⟨some (50, true), some 53, .bin 0 [] .lss (.t 51) (.t 52)⟩,
            ⟨some (50, true), some 54, .mv (.t 53)⟩,
            ⟨some (54, false), some 55, .mv (.t 0)⟩,
            ⟨some (54, false), some 56, .mv (.t 8)⟩,
            ⟨some (54, false), some 57, .bin 0 [] .gtr (.t 55) (.t 56)⟩,
            ⟨some (50, true), some 58, .pick (.t 54) (.c (.bool true)) (.t 57)⟩,
            ⟨some (50, true), some 59, .mv (.t 58)⟩,
            ⟨some (59, false), some 60, .mv (.t 9)⟩,
            ⟨some (59, false), some 61, .mv (.t 0)⟩,
            ⟨some (59, false), some 62, .bin 0 [] .eql (.t 60) (.t 61)⟩,
            ⟨some (50, true), some 63, .pick (.t 59) (.c (.bool true)) (.t 62)⟩,
            ⟨none, some 64, .pick (.t 50) (.t 63) (.c (.bool false))⟩,
            ⟨none, some 65, .mv (.t 64)⟩,
            ⟨some (65, true), some 66, .mv (.t 9)⟩,
            ⟨some (65, true), some 67, .mv (.t 0)⟩,
            ⟨some (65, true), some 68, .bin 0 [] .sub (.t 66) (.t 67)⟩,
            ⟨some (65, true), some 69, .bin 0 [] .and (.t 68) (.c (.int .i64 255))⟩,
            ⟨some (65, true), some 70, .bin 0 [] .eql (.t 69) (.c (.int .i64 0))⟩,
            ⟨none, some 71, .pick (.t 65) (.t 70) (.c (.bool false))⟩,
            ⟨none, some 4, .mv (.t 71)⟩])
          .ret))))))))

/-- boxhedge/boxhedgelaw01.WrapMoves -/
def F9 : IFn where
  ntmps := 71
  nargs := 2
  res := [.tmp 4]
  freeze := false
  body :=
  (.seq
   (.region [
     ⟨none, some 4, .mv (.c (.bool false))⟩])
   (.seq
    (.region [
      ⟨none, some 14, .call false (.c (.fn 13 [] [])) []⟩,
      ⟨none, some 5, .mv (.t 14)⟩])
    (.seq
     (.seq
      (.region [
        ⟨none, some 15, .mv (.t 5)⟩,
        ⟨none, some 16, .un .not (.t 15)⟩])
      (.cond (.t 16)
       (.seq
        (.region [
          ⟨none, some 4, .mv (.c (.bool false))⟩])
        .ret)
       .skip))
     (.seq
      (.region [
        ⟨none, some 18, .mv (.t 0)⟩,
        ⟨none, some 19, .mv (.t 1)⟩,
        ⟨none, some 20, .call false (.c (.fn 11 [] [])) [(.c (.int .i64 9)), (.t 18), (.t 19)]⟩,
        ⟨none, some 17, .mv (.t 20)⟩,
        ⟨none, some 21, .ext (.t 17) 0⟩,
        ⟨none, some 22, .ext (.t 17) 1⟩,
        ⟨none, some 6, .mv (.t 21)⟩,
        ⟨none, some 7, .mv (.t 22)⟩])
      (.seq
       (.region [
         ⟨none, some 24, .mv (.t 6)⟩,
         ⟨none, some 25, .mv (.t 1)⟩,
         ⟨none, some 26, .call false (.c (.fn 11 [] [])) [(.c (.int .i64 11)), (.t 24), (.t 25)]⟩,
         ⟨none, some 23, .mv (.t 26)⟩,
         ⟨none, some 27, .ext (.t 23) 0⟩,
         ⟨none, some 28, .ext (.t 23) 1⟩,
         ⟨none, some 8, .mv (.t 27)⟩,
         ⟨none, some 9, .mv (.t 28)⟩])
       (.seq
        (.region [
          ⟨none, some 30, .mv (.t 6)⟩,
          ⟨none, some 31, .mv (.t 1)⟩,
          ⟨none, some 32, .call false (.c (.fn 11 [] [])) [(.c (.int .i64 10)), (.t 30), (.t 31)]⟩,
          ⟨none, some 29, .mv (.t 32)⟩,
          ⟨none, some 33, .ext (.t 29) 0⟩,
          ⟨none, some 34, .ext (.t 29) 1⟩,
          ⟨none, some 10, .mv (.t 33)⟩,
          ⟨none, some 11, .mv (.t 34)⟩])
        (.seq
         (.region [
           ⟨none, some 36, .mv (.t 1)⟩,
           ⟨none, some 37, .call false (.c (.fn 11 [] [])) [(.c (.int .i64 11)), (.c (.int .i64 (-1))), (.t 36)]⟩,
           ⟨none, some 35, .mv (.t 37)⟩,
           ⟨none, some 38, .ext (.t 35) 0⟩,
           ⟨none, some 39, .ext (.t 35) 1⟩,
           ⟨none, some 12, .mv (.t 38)⟩,
           ⟨none, some 13, .mv (.t 39)⟩])
         (.seq
          (.region [
            ⟨none, some 40, .mv (.t 5)⟩,
            ⟨none, some 41, .mv (.t 40)⟩,
            ⟨some (41, true), some 42, .mv (.t 8)⟩,
            ⟨some (41, true), some 43, .mv (.t 0)⟩,
            ⟨some (41, true), some 44, .mv (.t 12)⟩,
            ⟨some (41, true), some 45, .bin 0 [] .and (.t 43) (.t 44)⟩,
            ⟨some (41, true), some 46, .bin 0 [] .eql (.t 42) (.t 45)⟩,
            ⟨none, some 47, .pick (.t 41) (.t 46) (.c (.bool false))⟩,
            ⟨none, some 48, .mv (.t 47)⟩,
            ⟨some (48, true), some 49, .mv (.t 10)⟩,
            ⟨some (48, true), some 50, .mv (.t 12)⟩,
            ⟨some (48, true), some 51, .bin 0 [] .and (.t 49) (.t 50)⟩,
            ⟨some (48, true), some 52, .mv (.t 0)⟩,
            ⟨some (48, true), some 53, .mv (.t 12)⟩,
            ⟨some (48, true), some 54, .bin 0 [] .and (.t 52) (.t 53)⟩,
            ⟨some (48, true), some 55, .bin 0 [] .eql (.t 51) (.t 54)⟩,
            ⟨none, some 56, .pick (.t 48) (.t 55) (.c (.bool false))⟩,
            ⟨none, some 57, .mv (.t 56)⟩,
            ⟨some (57, true), some 58, .mv (.t 0)⟩,
            ⟨some (57, true), some 59, .call false (.c (.fn 14 [] [])) [(.c (.int .i64 21)), (.t 58)]⟩,
            ⟨some (57, true), some 60, .call false (.c (.fn 14 [] [])) [(.c (.int .i64 21)), (.t 59)]⟩,
            ⟨some (57, true), some 61, .mv (.t 0)⟩,
            ⟨some (57, true), some 62, .bin 0 [] .eql (.t 60) (.t 61)⟩,
            ⟨none, some 63, .pick (.t 57) (.t 62) (.c (.bool false))⟩,
            ⟨none, some 64, .mv (.t 63)⟩,
            ⟨some (64, true), some 65, .mv (.t 0)⟩,
            ⟨some (64, true), some 66, .call false (.c (.fn 14 [] [])) [(.c (.int .i64 20)), (.t 65)]⟩,
            ⟨some (64, true), some 67, .call false (.c (.fn 14 [] [])) [(.c (.int .i64 20)), (.t 66)]⟩,
            ⟨some (64, true), some 68, .mv (.t 0)⟩,
            ⟨some (64, true), some 69, .bin 0 [] .eql (.t 67) (.t 68)⟩,
            ⟨none, some 70, .pick (.t 64) (.t 69) (.c (.bool false))⟩,
            ⟨none, some 4, .mv (.t 70)⟩])
          .ret))))))))

/-- boxhedge/boxhedgelaw01.WrapOrder -/
def F10 : IFn where
  ntmps := 90
  nargs := 2
  res := [.tmp 4]
  freeze := false
  body :=
  (.seq
   (.region [
     ⟨none, some 4, .mv (.c (.bool false))⟩])
   (.seq
    (.region [
      ⟨none, some 18, .call false (.c (.fn 13 [] [])) []⟩,
      ⟨none, some 5, .mv (.t 18)⟩])
    (.seq
     (.seq
      (.region [
        ⟨none, some 19, .mv (.t 5)⟩,
        ⟨none, some 20, .un .not (.t 19)⟩])
      (.cond (.t 20)
       (.seq
        (.region [
          ⟨none, some 4, .mv (.c (.bool false))⟩])
        .ret)
       .skip))
     (.seq
      (.region [
        ⟨none, some 22, .mv (.t 0)⟩,
        ⟨none, some 23, .mv (.t 1)⟩,
        ⟨none, some 24, .call false (.c (.fn 11 [] [])) [(.c (.int .i64 12)), (.t 22), (.t 23)]⟩,
        ⟨none, some 21, .mv (.t 24)⟩,
        ⟨none, some 25, .ext (.t 21) 0⟩,
        ⟨none, some 26, .ext (.t 21) 1⟩,
        ⟨none, some 6, .mv (.t 25)⟩,
        ⟨none, some 7, .mv (.t 26)⟩])
      (.seq
       (.region [
         ⟨none, some 28, .mv (.t 0)⟩,
         ⟨none, some 29, .mv (.t 1)⟩,
         ⟨none, some 30, .call false (.c (.fn 11 [] [])) [(.c (.int .i64 16)), (.t 28), (.t 29)]⟩,
         ⟨none, some 27, .mv (.t 30)⟩,
         ⟨none, some 31, .ext (.t 27) 0⟩,
         ⟨none, some 32, .ext (.t 27) 1⟩,
         ⟨none, some 8, .mv (.t 31)⟩,
         ⟨none, some 9, .mv (.t 32)⟩])
       (.seq
        (.region [
          ⟨none, some 34, .mv (.t 0)⟩,
          ⟨none, some 35, .mv (.t 1)⟩,
          ⟨none, some 36, .call false (.c (.fn 11 [] [])) [(.c (.int .i64 14)), (.t 34), (.t 35)]⟩,
          ⟨none, some 33, .mv (.t 36)⟩,
          ⟨none, some 37, .ext (.t 33) 0⟩,
          ⟨none, some 38, .ext (.t 33) 1⟩,
          ⟨none, some 10, .mv (.t 37)⟩,
          ⟨none, some 11, .mv (.t 38)⟩])
        (.seq
         (.region [
           ⟨none, some 40, .mv (.t 0)⟩,
           ⟨none, some 41, .mv (.t 1)⟩,
           ⟨none, some 42, .call false (.c (.fn 11 [] [])) [(.c (.int .i64 13)), (.t 40), (.t 41)]⟩,
           ⟨none, some 39, .mv (.t 42)⟩,
           ⟨none, some 43, .ext (.t 39) 0⟩,
           ⟨none, some 44, .ext (.t 39) 1⟩,
           ⟨none, some 12, .mv (.t 43)⟩,
           ⟨none, some 13, .mv (.t 44)⟩])
         (.seq
          (.region [
            ⟨none, some 46, .mv (.t 0)⟩,
            ⟨none, some 47, .mv (.t 1)⟩,
            ⟨none, some 48, .call false (.c (.fn 11 [] [])) [(.c (.int .i64 15)), (.t 46), (.t 47)]⟩,
            ⟨none, some 45, .mv (.t 48)⟩,
            ⟨none, some 49, .ext (.t 45) 0⟩,
            ⟨none, some 50, .ext (.t 45) 1⟩,
            ⟨none, some 14, .mv (.t 49)⟩,
            ⟨none, some 15, .mv (.t 50)⟩])
          (.seq
           (.region [
             ⟨none, some 52, .mv (.t 0)⟩,
             ⟨none, some 53, .mv (.t 1)⟩,
             ⟨none, some 54, .call false (.c (.fn 11 [] [])) [(.c (.int .i64 17)), (.t 52), (.t 53)]⟩,
             ⟨none, some 51, .mv (.t 54)⟩,
             ⟨none, some 55, .ext (.t 51) 0⟩,
             ⟨none, some 56, .ext (.t 51) 1⟩,
             ⟨none, some 16, .mv (.t 55)⟩,
             ⟨none, some 17, .mv (.t 56)⟩])
           (.seq
            (.region [
              ⟨none, some 57, .mv (.t 5)⟩,
              ⟨none, some 58, .mv (.t 57)⟩,
              ⟨some (58, true), some 59, .mv (.t 6)⟩,
              ⟨some (58, true), some 60, .mv (.t 8)⟩,
              ⟨some (58, true), some 61, .bin 0 [] .add (.t 59) (.t 60)⟩,
              ⟨some (58, true), some 62, .mv (.t 10)⟩,
              ⟨some (58, true), some 63, .bin 0 [] .add (.t 61) (.t 62)⟩,
              ⟨some (58, true), some 64, .bin 0 [] .eql (.t 63) (.c (.int .i64 1))⟩,
              ⟨none, some 65, .pick (.t 58) (.t 64) (.c (.bool false))⟩,
              ⟨none, some 66, .mv (.t 65)⟩,
              ⟨some (66, true), some 67, .mv (.t 6)⟩,
              ⟨some (66, true), some 68, .mv (.t 8)⟩,
              ⟨some (66, true), some 69, .bin 0 [] .mul (.t 67) (.t 68)⟩,
              ⟨some (66, true), some 70, .bin 0 [] .eql (.t 69) (.c (.int .i64 0))⟩,
              ⟨none, some 71, .pick (.t 66) (.t 70) (.c (.bool false))⟩,
              ⟨none, some 72, .mv (.t 71)⟩,
              ⟨some (72, true), some 73, .mv (.t 12)⟩,
              ⟨some (72, true), some 74, .mv (.t 10)⟩,
              ⟨some (72, true), some 75, .bin 0 [] .sub (.c (.int .i64 1)) (.t 74)⟩,
              ⟨some (72, true), some 76, .bin 0 [] .eql (.t 73) (.t 75)⟩,
              ⟨none, some 77, .pick (.t 72) (.t 76) (.c (.bool false))⟩,
              ⟨none, some 78, .mv (.t 77)⟩,
              ⟨some (78, true), some 79, .mv (.t 14)⟩,
              ⟨some (78, true), some 80, .mv (.t 6)⟩,
              ⟨some (78, true), some 81, .bin 0 [] .sub (.c (.int .i64 1)) (.t 80)⟩,
              ⟨some (78, true), some 82, .bin 0 [] .eql (.t 79) (.t 81)⟩,
              ⟨none, some 83, .pick (.t 78) (.t 82) (.c (.bool false))⟩,
              ⟨none, some 84, .mv (.t 83)⟩,
              ⟨some (84, true), some 85, .mv (.t 16)⟩,
              ⟨some (84, true), some 86, .mv (.t 8)⟩,
              ⟨some (84, true), some 87, .bin 0 [] .sub (.c (.int .i64 1)) (.t 86)⟩,
              ⟨some (84, true), some 88, .bin 0 [] .eql (.t 85) (.t 87)⟩,
              ⟨none, some 89, .pick (.t 84) (.t 88) (.c (.bool false))⟩,
              ⟨none, some 4, .mv (.t 89)⟩])
            .ret))))))))))

def fns : Nat → Option IFn
  | 20 => some F20
  | 21 => some F21
  | 11 => some F11
  | 22 => some F22
  | 12 => some F12
  | 14 => some F14
  | 23 => some F23
  | 16 => some F16
  | 18 => some F18
  | 13 => some F13
  | 3 => some F3
  | 15 => some F15
  | 4 => some F4
  | 24 => some F24
  | 17 => some F17
  | 19 => some F19
  | 5 => some F5
  | 6 => some F6
  | 7 => some F7
  | 8 => some F8
  | 9 => some F9
  | 10 => some F10
  | _ => none

set_option maxRecDepth 100000 in
theorem fnsOk : ∀ f F, fns f = some F → ∃ fn, Try.prog.funcs[f]? = some fn ∧ checkFn Try.prog fn F = true := by
  intro f F h
  unfold fns at h
  split at h
  · cases h; exact ⟨Try.f20, Try.func20, by kernel_rfl⟩
  · cases h; exact ⟨Try.f21, Try.func21, by kernel_rfl⟩
  · cases h; exact ⟨Try.f11, Try.func11, by kernel_rfl⟩
  · cases h; exact ⟨Try.f22, Try.func22, by kernel_rfl⟩
  · cases h; exact ⟨Try.f12, Try.func12, by kernel_rfl⟩
  · cases h; exact ⟨Try.f14, Try.func14, by kernel_rfl⟩
  · cases h; exact ⟨Try.f23, Try.func23, by kernel_rfl⟩
  · cases h; exact ⟨Try.f16, Try.func16, by kernel_rfl⟩
  · cases h; exact ⟨Try.f18, Try.func18, by kernel_rfl⟩
  · cases h; exact ⟨Try.f13, Try.func13, by kernel_rfl⟩
  · cases h; exact ⟨Try.f3, Try.func3, by kernel_rfl⟩
  · cases h; exact ⟨Try.f15, Try.func15, by kernel_rfl⟩
  · cases h; exact ⟨Try.f4, Try.func4, by kernel_rfl⟩
  · cases h; exact ⟨Try.f24, Try.func24, by kernel_rfl⟩
  · cases h; exact ⟨Try.f17, Try.func17, by kernel_rfl⟩
  · cases h; exact ⟨Try.f19, Try.func19, by kernel_rfl⟩
  · cases h; exact ⟨Try.f5, Try.func5, by kernel_rfl⟩
  · cases h; exact ⟨Try.f6, Try.func6, by kernel_rfl⟩
  · cases h; exact ⟨Try.f7, Try.func7, by kernel_rfl⟩
  · cases h; exact ⟨Try.f8, Try.func8, by kernel_rfl⟩
  · cases h; exact ⟨Try.f9, Try.func9, by kernel_rfl⟩
  · cases h; exact ⟨Try.f10, Try.func10, by kernel_rfl⟩
  · cases h

end PE.T01
