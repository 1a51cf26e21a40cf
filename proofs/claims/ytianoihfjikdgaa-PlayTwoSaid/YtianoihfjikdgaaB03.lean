/-
  Texts joined by program: Ty81Fnsa, Ty81Fnsb, Ty81Fns, AYX10, AYW1, AYU0, AYU1, AYU1b, AYU2, AYU3, AYU4, AYU5, AYU6, AYU6r, AYU7, AYU8, AYU9, AYU10, AYU11, AYU12, AYU13, AYA1, AYU14, AYU15, AYU16, AYU17, AYU18, AYU19, AYA2, AYA3, AYA4, AYA5, AYA6, AYA7.
-/
import Derived.Test.YtianoihfjikdgaaB02
import Derived.Test.YtianoihfjikdgaaProg
import Derived.Laws.BitsLemmas
import Derived.Laws.RangeAny
import Derived.Laws.RangeString
set_option linter.unusedVariables false
set_option linter.unusedSectionVars false
set_option linter.unusedSimpArgs false
open BitVec renaming ofInt→yp
open Bool renaming and_eq_true→ya,false_eq_true→yI,false_or→ywa,or_eq_true→yJ,true_and→yxa
open Eq renaming trans→yd
open Function renaming comp_def→yx
open Go.IntKind renaming bits→yC,signed→yya,wrap→yB
open List renaming all_eq_true→yn,append_assoc→yga,eq_nil_of_length_eq_zero→yD,findIdx?_cons→yDa,findIdx?_eq_none_iff→yha,findIdx?_eq_some_iff_getElem→ysa,getElem?_append_left→yj,getElem?_append_right→yo,getElem?_cons_succ→yM,getElem?_cons_zero→yH,getElem?_eq_getElem→ye,getElem?_eq_none→yT,getElem?_eq_some_iff→yb,getElem?_map→yk,getElem?_set_self→yh,length_append→yP,length_cons→yaa,length_map→yY,map_cons→yba,map_set→yma,mem_append→yQ,mem_cons→yV,mem_cons_of_mem→yea,mem_map→yua,mem_of_getElem?→yK,mem_range→yka,mem_zipIdx_iff_getElem?→yca,range→yS,replicate→yg,set_append_right→yia,set_cons_zero→yEa
open Nat renaming le_refl→yl,le_trans→yfa,zero_add→yE
open Option renaming bind_eq_some_iff→yG,map_some→yF
open Prod renaming fst→yAa
set_option maxRecDepth 100000
namespace PE.U
open Go PE Go.Proofs
def F15:IFn:=⟨10,2,[.cell 4 true 2],false,false,(sr [oO 4 (.boxL 4 (.c (.agg [.slice .fit 2 [],.slice .fit 5 []])))] (sr [oE 5 0,oE 6 1,oO 7 (.build [.str [],.int .i64 0,.int .i64 0,.slice .fit 1 [],.slice .fit 8 []] [(0,1,(.c (.str [109,97,105,110]))),(1,1,(cI 1)),(3,1,(.t 5)),(4,1,(.t 6))]),oO 8 (.bsliceS 5 (.agg [.str [],.int .i64 0,.int .i64 0,.slice .fit 1 [],.slice .fit 8 []]) 1 [(0,(.t 7))]),oO 9 (.build [.slice .fit 2 [],.slice .fit 5 []] [(1,1,(.t 8))]),oS 4 2 4 9] .ret))⟩
theorem ok15:zg Try.prog Try.f15 F15=true:=by kernel_rfl
def F60:IFn:=⟨21,1,[.tmp 2],false,false,(sr [oC 2 bF] (sr [oM 3 0,oB 4 .geq (.t 3) (.c (.int .i32 97)),oM 5 4,oTm 5 6 0,oT 5 7 (.bin 0 [] .leq (.t 6) (.c (.int .i32 122))),oO 8 (.pick (.t 5) (.t 7) (.c bF)),oM 9 8,oFm 9 10 0,oF 9 11 (.bin 0 [] .geq (.t 10) (.c (.int .i32 65))),oFm 9 12 11,oTm 12 13 0,oT 12 14 (.bin 0 [] .leq (.t 13) (.c (.int .i32 90))),oF 9 15 (.pick (.t 12) (.t 14) (.c bF)),oO 16 (.pick (.t 9) (.c bT) (.t 15)),oM 17 16,oFm 17 18 0,oF 17 19 (.bin 0 [] .eql (.t 18) (.c (.int .i32 95))),oO 20 (.pick (.t 17) (.c bT) (.t 19)),oM 2 20] .ret))⟩
theorem ok60:zg Try.prog Try.f60 F60=true:=by kernel_rfl
def F80:IFn:=⟨9,1,[.tmp 2],false,false,(sr [oC 2 bF] (sr [oM 3 0,oB 4 .geq (.t 3) (.c (.int .i32 48)),oM 5 4,oTm 5 6 0,oT 5 7 (.bin 0 [] .leq (.t 6) (.c (.int .i32 57))),oO 8 (.pick (.t 5) (.t 7) (.c bF)),oM 2 8] .ret))⟩
theorem ok80:zg Try.prog Try.f80 F80=true:=by kernel_rfl
def L61_0:ICode:= .loop [0,6] []
 (sr [
 oO 7 (.next 6 (.t 6)),
 oX 8 7 0]
 (.seq
 (.cond (.t 8)
 .skip
 (.exit 0))
 (.block 1
 (sr [
 oX 9 7 1,
 oX 10 7 2,
 oM 3 9,
 oM 4 10]
 (sr [
 oM 11 4,
 cP 12 60 [.t 11],
 oU 13 12,
 oM 14 13,
 oTm 14 15 4,
 oT 14 16 (pP 80 [.t 15]),
 oT 14 17 (.un .not (.t 16)),
 oO 18 (.pick (.t 14) (.t 17) (.c bF))]
 (.cond (.t 18)
 (sr [
 oM 19 0,
 oM 20 3,
 oO 21 (.slc true 0 (.t 19) none (some (.t 20)) none),
 oM 2 21]
 .ret)
 .skip))))))
abbrev K61_0:List Nat:=[0,6]
abbrev B61_0:List Nat:=[]
def F61:IFn:=⟨23,1,[.tmp 2],false,false,(sr [oC 2 (.str [])] (.seq (sr [oM 5 0,oO 6 (.rng 6 (.t 5))] (.block 0 L61_0)) (sr [oM 22 0,oM 2 22] .ret)))⟩
theorem ok61:zg Try.prog Try.f61 F61=true:=by kernel_rfl
def F62:IFn:=⟨23,1,[.tmp 2],false,false,(sr [oC 2 bF] (.seq (sr [oM 3 0] (.block 0 (.seq (sr [oB 5 .eql (.t 3) (.c (.str [105,110,116])),oM 4 5] (.cond (.t 4) .skip (sr [oB 6 .eql (.t 3) (.c (.str [98,111,111,108])),oM 4 6] (.cond (.t 4) .skip (sr [oB 7 .eql (.t 3) (.c (.str [105,102])),oM 4 7] (.cond (.t 4) .skip (sr [oB 8 .eql (.t 3) (.c (.str [101,108,115,101])),oM 4 8] (.cond (.t 4) .skip (sr [oB 9 .eql (.t 3) (.c (.str [119,104,105,108,101])),oM 4 9] (.cond (.t 4) .skip (sr [oB 10 .eql (.t 3) (.c (.str [98,114,101,97,107])),oM 4 10] (.cond (.t 4) .skip (sr [oB 11 .eql (.t 3) (.c (.str [99,111,110,116,105,110,117,101])),oM 4 11] (.cond (.t 4) .skip (sr [oB 12 .eql (.t 3) (.c (.str [114,101,116,117,114,110])),oM 4 12] (.cond (.t 4) .skip (sr [oB 13 .eql (.t 3) (.c (.str [112,114,105,110,116])),oM 4 13] (.cond (.t 4) .skip (sr [oB 14 .eql (.t 3) (.c (.str [114,101,97,100])),oM 4 14] (.cond (.t 4) .skip (sr [oB 15 .eql (.t 3) (.c (.str [116,114,117,101])),oM 4 15] (.cond (.t 4) .skip (sr [oB 16 .eql (.t 3) (.c (.str [102,97,108,115,101])),oM 4 16] (.cond (.t 4) .skip (sr [oB 17 .eql (.t 3) (.c (.str [105,56])),oM 4 17] (.cond (.t 4) .skip (sr [oB 18 .eql (.t 3) (.c (.str [105,49,54])),oM 4 18] (.cond (.t 4) .skip (sr [oB 19 .eql (.t 3) (.c (.str [105,51,50])),oM 4 19] (.cond (.t 4) .skip (sr [oB 20 .eql (.t 3) (.c (.str [117,56])),oM 4 20] (.cond (.t 4) .skip (sr [oB 21 .eql (.t 3) (.c (.str [117,49,54])),oM 4 21] (.cond (.t 4) .skip (.region [oB 22 .eql (.t 3) (.c (.str [117,51,50])),oM 4 22]))))))))))))))))))))))))))))))))))) (.cond (.t 4) (sr [oC 2 bT] .ret) .skip)))) (sr [oC 2 bF] .ret)))⟩
theorem ok62:zg Try.prog Try.f62 F62=true:=by kernel_rfl
def F38:IFn:=⟨27,1,[.tmp 2],false,false,(sr [oC 2 bF] (sr [oM 3 0,oB 4 .neq (.t 3) (.c (.str [])),oM 5 4,oTm 5 6 0,oT 5 7 (.idxS (.t 6) (cI 0)),oT 5 8 (.conv .i32 (.t 7)),oT 5 9 (pP 60 [.t 8]),oO 10 (.pick (.t 5) (.t 9) (.c bF)),oM 11 10,oTm 11 12 0,oT 11 13 (pP 61 [.t 12]),oTm 11 14 0,oT 11 15 (.bin 0 [] .eql (.t 13) (.t 14)),oO 16 (.pick (.t 11) (.t 15) (.c bF)),oM 17 16,oTm 17 18 0,oT 17 19 (.len 0 (.t 18)),oT 17 20 (.bin 0 [] .leq (.t 19) (cI 20)),oO 21 (.pick (.t 17) (.t 20) (.c bF)),oM 22 21,oTm 22 23 0,oT 22 24 (pP 62 [.t 23]),oT 22 25 (.un .not (.t 24)),oO 26 (.pick (.t 22) (.t 25) (.c bF)),oM 2 26] .ret))⟩
theorem ok38:zg Try.prog Try.f38 F38=true:=by kernel_rfl
def F39:IFn:=⟨9,1,[.tmp 2],false,false,(sr [oC 2 bF] (sr [oM 3 0,oD 4 .eql 3 1,oM 5 4,oFm 5 6 0,oF 5 7 (.bin 0 [] .eql (.t 6) (cI 2)),oO 8 (.pick (.t 5) (.c bT) (.t 7)),oM 2 8] .ret))⟩
theorem ok39:zg Try.prog Try.f39 F39=true:=by kernel_rfl
def L63_0:ICode:= .loop [0,1,7,8] []
 (sr [
 oP 9 .lss 8 7]
 (.seq
 (.cond (.t 9)
 .skip
 (.exit 0))
 (.seq
 (.block 1
 (sr [
 oM 10 8,
 oM 5 10]
 (sr [
 oM 11 1,
 oM 12 0,
 oM 13 5,
 oI 14 5 12 13,
 oW 15 5 14,
 oO 16 (.call false (.t 11) [.t 15])]
 (.cond (.t 16)
 (sr [
 oM 17 5,
 oM 4 17]
 .ret)
 .skip))))
 (.region [
 oD 18 .add 8 1,
 oM 8 18]))))
abbrev K63_0:List Nat:=[0,1,7]
abbrev B63_0:List Nat:=[]
def F63:IFn:=⟨19,2,[.tmp 4],false,false,(sr [oZ 4 0] (.seq (sr [oM 6 0,oY 7 6,oZ 8 0] (.block 0 L63_0)) (sr [oO 4 (.mv (cI (-1)))] .ret)))⟩
theorem ok63:zg Try.prog Try.f63 F63=true:=by kernel_rfl
def F64:IFn:=⟨8,2,[.tmp 3],false,false,(sr [oO 2 (.boxL 2 (.t 0)),oC 3 bF] (sr [oA 4 0 2,oL 5 2 4,oG 6 1,oP 7 .eql 5 6,oM 3 7] .ret))⟩
theorem ok64:zg Try.prog Try.f64 F64=true:=by kernel_rfl
def F40:IFn:=⟨9,2,[.tmp 4],false,false,(sr [oO 2 (.boxL 2 (.t 0)),oO 3 (.boxI (.t 1)),oZ 4 0] (sr [oA 5 1 2,oL 6 2 5,oO 7 (.mkfn 64 [] [.t 3]),cF 8 63 [.t 6,.t 7],oM 4 8] .ret))⟩
theorem ok40:zg Try.prog Try.f40 F40=true:=by kernel_rfl
def L23_0:ICode:= .loop [1,3,11,12,13] [5]
 (sr [
 oP 14 .lss 13 12]
 (.seq
 (.cond (.t 14)
 .skip
 (.exit 0))
 (.seq
 (.block 1
 (sr [
 oI 15 2 11 13,
 oW 16 2 15,
 oO 5 (.boxL 5 (.c (.agg [.str [],.int .i64 0]))),
 oS 5 2 5 16]
 (sr [
 oM 17 3,
 oA 18 0 5,
 oL 19 5 18,
 oO 20 (.lookup true false (.int .i64 0) (.t 17) (.t 19)),
 oD 21 .add 20 1,
 oN (.mapset true (.t 17) (.t 19) (.t 21))]
 (sr [
 oA 22 0 5,
 oL 23 5 22,
 cP 24 38 [.t 23],
 oU 25 24,
 oM 26 25,
 oF 26 27 (.faddr 1 (.t 5)),
 oF 26 28 (.load (.box 5) false 1 (.t 27)),
 oF 26 29 (.bin 0 [] .lss (.t 28) (cI 1)),
 oO 30 (.pick (.t 26) (.c bT) (.t 29)),
 oM 31 30,
 oF 31 32 (.faddr 1 (.t 5)),
 oF 31 33 (.load (.box 5) false 1 (.t 32)),
 oF 31 34 (.bin 0 [] .gtr (.t 33) (cI 1000)),
 oO 35 (.pick (.t 31) (.c bT) (.t 34))]
 (.cond (.t 35)
 (sr [
 oC 2 bF]
 .ret)
 .skip)))))
 (.region [
 oD 36 .add 13 1,
 oM 13 36]))))
def L23_1:ICode:= .loop [1,3,38,39,40] [7]
 (sr [
 oP 41 .lss 40 39]
 (.seq
 (.cond (.t 41)
 .skip
 (.exit 2))
 (.seq
 (.block 3
 (sr [
 oI 42 5 38 40,
 oW 43 5 42,
 oO 7 (.boxL 7 (.c (.agg [.str [],.int .i64 0,.int .i64 0,.slice .fit 1 [],.slice .fit 8 []]))),
 oS 7 5 7 43]
 (sr [
 oM 44 3,
 oA 45 0 7,
 oL 46 7 45,
 oO 47 (.lookup true false (.int .i64 0) (.t 44) (.t 46)),
 oD 48 .add 47 1,
 oN (.mapset true (.t 44) (.t 46) (.t 48))]
 (sr [
 oA 49 0 7,
 oL 50 7 49,
 cP 51 38 [.t 50],
 oU 52 51,
 oM 53 52,
 oF 53 54 (.faddr 1 (.t 7)),
 oF 53 55 (.load (.box 7) false 1 (.t 54)),
 oF 53 56 (pP 39 [.t 55]),
 oF 53 57 (.un .not (.t 56)),
 oO 58 (.pick (.t 53) (.c bT) (.t 57)),
 oM 59 58,
 oF 59 60 (.faddr 2 (.t 7)),
 oF 59 61 (.load (.box 7) false 1 (.t 60)),
 oF 59 62 (.bin 0 [] .lss (.t 61) (cI 0)),
 oO 63 (.pick (.t 59) (.c bT) (.t 62)),
 oM 64 63,
 oF 64 65 (.faddr 2 (.t 7)),
 oF 64 66 (.load (.box 7) false 1 (.t 65)),
 oF 64 67 (.faddr 3 (.t 7)),
 oF 64 68 (.load (.box 7) false 1 (.t 67)),
 oF 64 69 (.len 1 (.t 68)),
 oF 64 70 (.bin 0 [] .gtr (.t 66) (.t 69)),
 oO 71 (.pick (.t 64) (.c bT) (.t 70))]
 (.cond (.t 71)
 (sr [
 oC 2 bF]
 .ret)
 .skip)))))
 (.region [
 oD 72 .add 40 1,
 oM 40 72]))))
abbrev K23_0:List Nat:=[1,3,11,12]
abbrev B23_0:List Nat:=[1]
abbrev K23_1:List Nat:=[1,3,38,39]
abbrev B23_1:List Nat:=[1]
def F23:IFn:=⟨107,1,[.tmp 2],true,false,(sr [oO 1 (.boxL 1 (.t 0)),oC 2 bF] (sr [oO 9 (.mkmap),oM 3 9] (.seq (sr [oA 10 0 1,oL 11 1 10,oY 12 11,oZ 13 0] (.block 0 L23_0)) (.seq (sr [oA 37 1 1,oL 38 1 37,oY 39 38,oZ 40 0] (.block 2 L23_1)) (sr [oLa 73 1 2 1,cP 74 40 [(.t 73),(.c (.str [109,97,105,110]))],oM 8 74] (sr [oM 75 3,oO 76 (.len 2 (.t 75)),oA 77 0 1,oL 78 1 77,oY 79 78,oA 80 1 1,oL 81 1 80,oY 82 81,oP 83 .add 79 82,oP 84 .eql 76 83,oM 85 84,oTm 85 86 8,oT 85 87 (.bin 0 [] .geq (.t 86) (cI 0)),oO 88 (.pick (.t 85) (.t 87) (.c bF)),oM 89 88,oT 89 90 (.faddr 1 (.t 1)),oT 89 91 (.load (.box 1) false 1 (.t 90)),oTm 89 92 8,oT 89 93 (.iaddr 5 (.t 91) (.t 92)),oT 89 94 (.faddr 1 (.t 93)),oT 89 95 (.load .any false 1 (.t 94)),oT 89 96 (.bin 0 [] .eql (.t 95) (cI 1)),oO 97 (.pick (.t 89) (.t 96) (.c bF)),oM 98 97,oT 98 99 (.faddr 1 (.t 1)),oT 98 100 (.load (.box 1) false 1 (.t 99)),oTm 98 101 8,oT 98 102 (.iaddr 5 (.t 100) (.t 101)),oT 98 103 (.faddr 2 (.t 102)),oT 98 104 (.load .any false 1 (.t 103)),oT 98 105 (.bin 0 [] .eql (.t 104) (cI 0)),oO 106 (.pick (.t 98) (.t 105) (.c bF)),oM 2 106] .ret))))))⟩
theorem ok23:zg Try.prog Try.f23 F23=true:=by kernel_rfl
def L65_0:ICode:= .loop [0,1,7,8] []
 (sr [
 oP 9 .lss 8 7]
 (.seq
 (.cond (.t 9)
 .skip
 (.exit 0))
 (.seq
 (.block 1
 (sr [
 oM 10 8,
 oM 5 10]
 (sr [
 oM 11 1,
 oM 12 0,
 oM 13 5,
 oI 14 1 12 13,
 oG 15 14,
 oO 16 (.call false (.t 11) [.t 15])]
 (.cond (.t 16)
 (sr [
 oM 17 5,
 oM 4 17]
 .ret)
 .skip))))
 (.region [
 oD 18 .add 8 1,
 oM 8 18]))))
abbrev K65_0:List Nat:=[0,1,7]
abbrev B65_0:List Nat:=[]
def F65:IFn:=⟨19,2,[.tmp 4],false,false,(sr [oZ 4 0] (.seq (sr [oM 6 0,oY 7 6,oZ 8 0] (.block 0 L65_0)) (sr [oO 4 (.mv (cI (-1)))] .ret)))⟩
theorem ok65:zg Try.prog Try.f65 F65=true:=by kernel_rfl
def F41:IFn:=⟨9,2,[.tmp 4],false,false,(sr [oC 4 bF] (sr [oE 5 0,oM 6 1,cF 7 65 [.t 5,.t 6],oD 8 .geq 7 0,oM 4 8] .ret))⟩
theorem ok41:zg Try.prog Try.f41 F41=true:=by kernel_rfl
def F42:IFn:=⟨6,1,[.tmp 2],false,false,(sr [oC 2 bF] (sr [oM 3 0,cP 4 39 [.t 3],oU 5 4,oM 2 5] .ret))⟩
theorem ok42:zg Try.prog Try.f42 F42=true:=by kernel_rfl
def F49:IFn:=⟨16,1,[.tmp 2],false,false,(sr [oC 2 bF] (sr [oM 3 0,oY 4 3,oD 5 .gtr 4 0,oM 6 5,oTm 6 7 0,oT 6 8 (.take 0),oT 6 9 (.len 1 (.t 8)),oT 6 10 (.bin 0 [] .sub (.t 9) (cI 1)),oT 6 11 (.iaddr 8 (.t 7) (.t 10)),oT 6 12 (.faddr 0 (.t 11)),oT 6 13 (.load .any false 1 (.t 12)),oT 6 14 (.bin 0 [] .eql (.t 13) (cI 12)),oO 15 (.pick (.t 6) (.t 14) (.c bF)),oM 2 15] .ret))⟩
theorem ok49:zg Try.prog Try.f49 F49=true:=by kernel_rfl
def L91_0:ICode:= .loop [0,1,7,8] []
 (sr [
 oP 9 .lss 8 7]
 (.seq
 (.cond (.t 9)
 .skip
 (.exit 0))
 (.seq
 (.block 1
 (sr [
 oM 10 8,
 oM 5 10]
 (sr [
 oM 11 1,
 oM 12 0,
 oM 13 5,
 oI 14 8 12 13,
 oW 15 8 14,
 oO 16 (.call false (.t 11) [.t 15])]
 (.cond (.t 16)
 (sr [
 oM 17 5,
 oM 4 17]
 .ret)
 .skip))))
 (.region [
 oD 18 .add 8 1,
 oM 8 18]))))
abbrev K91_0:List Nat:=[0,1,7]
abbrev B91_0:List Nat:=[]
def F91:IFn:=⟨19,2,[.tmp 4],false,false,(sr [oZ 4 0] (.seq (sr [oM 6 0,oY 7 6,oZ 8 0] (.block 0 L91_0)) (sr [oO 4 (.mv (cI (-1)))] .ret)))⟩
theorem ok91:zg Try.prog Try.f91 F91=true:=by kernel_rfl
def F72:IFn:=⟨9,2,[.tmp 4],false,false,(sr [oC 4 bF] (sr [oE 5 0,oM 6 1,cF 7 91 [.t 5,.t 6],oD 8 .geq 7 0,oM 4 8] .ret))⟩
theorem ok72:zg Try.prog Try.f72 F72=true:=by kernel_rfl
def L92_0:ICode:= .loop [0,1,7,8] []
 (sr [
 oP 9 .lss 8 7]
 (.seq
 (.cond (.t 9)
 .skip
 (.exit 0))
 (.seq
 (.block 1
 (sr [
 oM 10 8,
 oM 5 10]
 (sr [
 oM 11 1,
 oM 12 0,
 oM 13 5,
 oI 14 1 12 13,
 oG 15 14,
 oO 16 (.call false (.t 11) [.t 15])]
 (.cond (.t 16)
 (sr [
 oM 17 5,
 oM 4 17]
 .ret)
 .skip))))
 (.region [
 oD 18 .add 8 1,
 oM 8 18]))))
abbrev K92_0:List Nat:=[0,1,7]
abbrev B92_0:List Nat:=[]
def F92:IFn:=⟨19,2,[.tmp 4],false,false,(sr [oZ 4 0] (.seq (sr [oM 6 0,oY 7 6,oZ 8 0] (.block 0 L92_0)) (sr [oO 4 (.mv (cI (-1)))] .ret)))⟩
theorem ok92:zg Try.prog Try.f92 F92=true:=by kernel_rfl
def F74:IFn:=⟨9,2,[.tmp 4],false,false,(sr [oC 4 bF] (sr [oE 5 0,oM 6 1,cF 7 92 [.t 5,.t 6],oD 8 .geq 7 0,oM 4 8] .ret))⟩
theorem ok74:zg Try.prog Try.f74 F74=true:=by kernel_rfl
def F73:IFn:=⟨16,1,[.tmp 2],false,false,(sr [oO 1 (.boxL 1 (.t 0)),oC 2 bF] (sr [oA 3 0 1,oL 4 1 3,oD 5 .eql 4 14,oM 6 5,oF 6 7 (.faddr 0 (.t 1)),oF 6 8 (.load (.box 1) false 1 (.t 7)),oF 6 9 (.bin 0 [] .eql (.t 8) (cI 10)),oFm 6 10 9,oT 10 11 (.faddr 7 (.t 1)),oT 10 12 (.load (.box 1) false 1 (.t 11)),oT 10 13 (pF 74 [(.t 12),(.c (.fn 50 [] []))]),oF 6 14 (.pick (.t 10) (.t 13) (.c bF)),oO 15 (.pick (.t 6) (.c bT) (.t 14)),oM 2 15] .ret))⟩
theorem ok73:zg Try.prog Try.f73 F73=true:=by kernel_rfl
def F50:IFn:=⟨5,1,[.tmp 2],false,false,(sr [oC 2 bF] (sr [oE 3 0,cF 4 72 [(.t 3),(.c (.fn 73 [] []))],oM 2 4] .ret))⟩
theorem ok50:zg Try.prog Try.f50 F50=true:=by kernel_rfl
def F51:IFn:=⟨11,1,[.tmp 2],false,false,(sr [oO 1 (.boxL 1 (.t 0)),oC 2 bF] (sr [oA 3 0 1,oL 4 1 3,oD 5 .geq 4 12,oM 6 5,oT 6 7 (.faddr 0 (.t 1)),oT 6 8 (.load (.box 1) false 1 (.t 7)),oT 6 9 (.bin 0 [] .leq (.t 8) (cI 15)),oO 10 (.pick (.t 6) (.t 9) (.c bF)),oM 2 10] .ret))⟩
theorem ok51:zg Try.prog Try.f51 F51=true:=by kernel_rfl
def F29:IFn:=⟨45,1,[.tmp 2],false,false,(sr [oO 1 (.boxL 1 (.t 0)),oC 2 bF] (.seq (.block 0 (sr [oA 4 0 1,oL 5 1 4,oD 6 .eql 5 10,oM 7 6,oT 7 8 (.faddr 7 (.t 1)),oT 7 9 (.load (.box 1) false 1 (.t 8)),oT 7 10 (.len 1 (.t 9)),oT 7 11 (.bin 0 [] .eql (.t 10) (cI 2)),oO 12 (.pick (.t 7) (.t 11) (.c bF)),oM 3 12] (.cond (.t 3) (sr [oA 13 7 1,oL 14 1 13,oO 15 (.iaddr 1 (.t 14) (cI 0)),oG 16 15,cP 17 49 [.t 16],oU 18 17,oM 19 18,oT 19 20 (.faddr 7 (.t 1)),oT 19 21 (.load (.box 1) false 1 (.t 20)),oT 19 22 (.iaddr 1 (.t 21) (cI 1)),oT 19 23 (.load .any false 1 (.t 22)),oT 19 24 (pP 49 [.t 23]),oT 19 25 (.un .not (.t 24)),oO 26 (.pick (.t 19) (.t 25) (.c bF)),oM 2 26] .ret) (sr [oA 28 0 1,oL 29 1 28,oD 30 .eql 29 11,oM 31 30,oT 31 32 (.faddr 7 (.t 1)),oT 31 33 (.load (.box 1) false 1 (.t 32)),oT 31 34 (.len 1 (.t 33)),oT 31 35 (.bin 0 [] .eql (.t 34) (cI 1)),oO 36 (.pick (.t 31) (.t 35) (.c bF)),oM 27 36] (.cond (.t 27) (sr [oA 37 7 1,oL 38 1 37,oO 39 (.iaddr 1 (.t 38) (cI 0)),oG 40 39,cP 41 50 [.t 40],oU 42 41,oM 2 42] .ret) .skip))))) (sr [oLa 43 1 8 1,cP 44 51 [.t 43],oM 2 44] .ret)))⟩
theorem ok29:zg Try.prog Try.f29 F29=true:=by kernel_rfl
def F81:IFn:=⟨53,1,[.tmp 2],true,false,(sr [oO 1 (.boxL 1 (.t 0)),oC 2 bF] (sr [oO 4 (.mkmap),oN (.mapset false (.t 4) (cI 10) (cI 2)),oN (.mapset false (.t 4) (cI 11) (cI 1)),oM 5 4,oA 6 0 1,oL 7 1 6,oO 8 (.lookup false false (.int .i64 0) (.t 5) (.t 7)),oM 3 8] (.seq (sr [oA 9 0 1,oL 10 1 9] (.block 0 (.seq (sr [oD 12 .eql 10 3,oM 11 12] (.cond (.t 11) .skip (.region [oD 13 .eql 10 4,oM 11 13]))) (.cond (.t 11) (.region [oA 14 1 1,oN (.store (.box 1) 1 (.t 14) (cI 0))]) (.seq (sr [oD 16 .eql 10 1,oM 15 16] (.cond (.t 15) .skip (.region [oD 17 .eql 10 2,oM 15 17]))) (.cond (.t 15) (.region [oA 18 2 1,oN (.store (.box 1) 1 (.t 18) (cI 0))]) (.seq (sr [oD 20 .eql 10 5,oM 19 20] (.cond (.t 19) .skip (sr [oD 21 .eql 10 6,oM 19 21] (.cond (.t 19) .skip (.region [oD 22 .eql 10 7,oM 19 22]))))) (.cond (.t 19) (.region [oA 23 3 1,oN (.store (.box 1) 1 (.t 23) (.c (.str [])))]) (sr [oD 25 .eql 10 11,oM 24 25] (.cond (.t 24) (.region [oA 26 6 1,oN (.store (.box 1) 1 (.t 26) (.c (.slice .fit 1 [])))]) .skip)))))))))) (sr [oA 27 1 1,oL 28 1 27,oD 29 .eql 28 0,oM 30 29,oT 30 31 (.faddr 2 (.t 1)),oT 30 32 (.load (.box 1) false 1 (.t 31)),oT 30 33 (.bin 0 [] .eql (.t 32) (cI 0)),oO 34 (.pick (.t 30) (.t 33) (.c bF)),oM 35 34,oT 35 36 (.faddr 3 (.t 1)),oT 35 37 (.load (.box 1) false 1 (.t 36)),oT 35 38 (.bin 0 [] .eql (.t 37) (.c (.str []))),oO 39 (.pick (.t 35) (.t 38) (.c bF)),oM 40 39,oT 40 41 (.faddr 6 (.t 1)),oT 40 42 (.load (.box 1) false 1 (.t 41)),oT 40 43 (.len 1 (.t 42)),oT 40 44 (.bin 0 [] .eql (.t 43) (cI 0)),oO 45 (.pick (.t 40) (.t 44) (.c bF)),oM 46 45,oT 46 47 (.faddr 7 (.t 1)),oT 46 48 (.load (.box 1) false 1 (.t 47)),oT 46 49 (.len 1 (.t 48)),oTm 46 50 3,oT 46 51 (.bin 0 [] .eql (.t 49) (.t 50)),oO 52 (.pick (.t 46) (.t 51) (.c bF)),oM 2 52] .ret))))⟩
theorem ok81:zg Try.prog Try.f81 F81=true:=by kernel_rfl
def F110:IFn:=⟨35,3,[.tmp 6],false,false,(sr [oC 6 bF] (sr [oM 7 1,oD 8 .geq 7 0,oM 9 8,oTm 9 10 1,oTm 9 11 0,oT 9 12 (.nilck (.t 11)),oT 9 13 (.faddr 2 (.t 12)),oT 9 14 (.faddr 3 (.t 13)),oT 9 15 (.load .any false 1 (.t 14)),oT 9 16 (.len 1 (.t 15)),oT 9 17 (.bin 0 [] .lss (.t 10) (.t 16)),oO 18 (.pick (.t 9) (.t 17) (.c bF)),oM 19 18,oTm 19 20 2,oT 19 21 (.bin 0 [] .eql (.t 20) (cI 0)),oTm 19 22 21,oFm 22 23 0,oF 22 24 (.nilck (.t 23)),oF 22 25 (.faddr 2 (.t 24)),oF 22 26 (.faddr 3 (.t 25)),oF 22 27 (.load .any false 1 (.t 26)),oFm 22 28 1,oF 22 29 (.iaddr 1 (.t 27) (.t 28)),oF 22 30 (.load .any false 1 (.t 29)),oFm 22 31 2,oF 22 32 (.bin 0 [] .eql (.t 30) (.t 31)),oT 19 33 (.pick (.t 22) (.c bT) (.t 32)),oO 34 (.pick (.t 19) (.t 33) (.c bF)),oM 6 34] .ret))⟩
theorem ok110:zg Try.prog Try.f110 F110=true:=by kernel_rfl
def L94_0:ICode:= .loop [0,4,7,8,9] []
 (sr [
 oP 10 .lss 9 8]
 (.seq
 (.cond (.t 10)
 .skip
 (.exit 0))
 (.seq
 (.block 1
 (sr [
 oI 11 1 7 9,
 oG 12 11,
 oM 6 12]
 (.seq
 (sr [
 oM 13 0,
 oM 14 6,
 cF 15 110 [.t 13,.t 14,cI 0],
 oU 16 15]
 (.cond (.t 16)
 (sr [
 oC 4 (.slice .fit 1 [])]
 .ret)
 .skip))
 (.region [
 oE 17 4,
 oM 18 0,
 oK 19 18,
 oA 20 2 19,
 oA 21 3 20,
 oG 22 21,
 oM 23 6,
 oI 24 1 22 23,
 oG 25 24,
 oO 26 (.bslice 1 (.int .i64 0) 1 [(0,(.t 25))]),
 oO 27 (.append 1 8 (.t 17) (.t 26)),
 oE 4 27]))))
 (.region [
 oD 28 .add 9 1,
 oM 9 28]))))
abbrev K94_0:List Nat:=[0,7,8]
abbrev B94_0:List Nat:=[]
def F94:IFn:=⟨30,2,[.tmp 4],false,false,(sr [oC 4 (.slice .fit 1 [])] (.seq (sr [oE 7 1,oY 8 7,oZ 9 0] (.block 0 L94_0)) (sr [oE 29 4,oE 4 29] .ret)))⟩
theorem ok94:zg Try.prog Try.f94 F94=true:=by kernel_rfl
def L111_0:ICode:= .loop [1,2,15,16,17] []
 (sr [
 oP 18 .lss 17 16]
 (.seq
 (.cond (.t 18)
 .skip
 (.exit 0))
 (.seq
 (.block 1
 (sr [
 oM 19 17,
 oI 20 1 15 17,
 oG 21 20,
 oM 7 19,
 oM 8 21]
 (sr [
 oM 22 1,
 oM 23 7,
 oI 24 1 22 23,
 oG 25 24,
 oM 9 25]
 (sr [
 oM 26 2,
 oM 27 8,
 oM 28 9,
 oO 29 (.call false (.t 26) [.t 27,.t 28]),
 oU 30 29]
 (.cond (.t 30)
 (sr [
 oC 6 bF]
 .ret)
 .skip)))))
 (.region [
 oD 31 .add 17 1,
 oM 17 31]))))
abbrev K111_0:List Nat:=[1,2,15,16]
abbrev B111_0:List Nat:=[]
def F111:IFn:=⟨32,3,[.tmp 6],false,false,(sr [oC 6 bF] (.seq (sr [oM 10 0,oY 11 10,oM 12 1,oY 13 12,oP 14 .neq 11 13] (.cond (.t 14) (sr [oC 6 bF] .ret) .skip)) (.seq (sr [oE 15 0,oY 16 15,oZ 17 0] (.block 0 L111_0)) (sr [oC 6 bT] .ret))))⟩
theorem ok111:zg Try.prog Try.f111 F111=true:=by kernel_rfl
def F112:IFn:=⟨20,3,[.tmp 5],false,false,(sr [oC 5 bF] (sr [oG 6 2,oM 7 0,oM 8 1,cF 9 110 [.t 6,.t 7,.t 8],oM 10 9,oT 10 11 (.load .any false 1 (.t 2)),oT 10 12 (.nilck (.t 11)),oT 10 13 (.faddr 7 (.t 12)),oT 10 14 (.load .any false 1 (.t 13)),oTm 10 15 0,oT 10 16 (.iaddr 1 (.t 14) (.t 15)),oT 10 17 (.load .any false 1 (.t 16)),oT 10 18 (.bin 0 [] .eql (.t 17) (cI 1)),oO 19 (.pick (.t 10) (.t 18) (.c bF)),oM 5 19] .ret))⟩
theorem ok112:zg Try.prog Try.f112 F112=true:=by kernel_rfl
def F95:IFn:=⟨11,3,[.tmp 6],false,false,(sr [oO 3 (.boxI (.t 0)),oC 6 bF] (sr [oE 7 1,oE 8 2,oO 9 (.mkfn 112 [] [.t 3]),cF 10 111 [.t 7,.t 8,.t 9],oM 6 10] .ret))⟩
theorem ok95:zg Try.prog Try.f95 F95=true:=by kernel_rfl
def F113:IFn:=⟨27,3,[.tmp 5],false,false,(sr [oC 5 bF] (.seq (sr [oG 6 2,oM 7 0,oM 8 1,cF 9 110 [.t 6,.t 7,.t 8],oU 10 9,oM 11 10,oF 11 12 (.load .any false 1 (.t 2)),oF 11 13 (.nilck (.t 12)),oF 11 14 (.faddr 7 (.t 13)),oF 11 15 (.load .any false 1 (.t 14)),oFm 11 16 0,oF 11 17 (.iaddr 1 (.t 15) (.t 16)),oF 11 18 (.load .any false 1 (.t 17)),oF 11 19 (.bin 0 [] .neq (.t 18) (cI 0)),oO 20 (.pick (.t 11) (.c bT) (.t 19))] (.cond (.t 20) (sr [oC 5 bF] .ret) .skip)) (sr [oG 21 2,oK 22 21,oA 23 7 22,oG 24 23,oM 25 0,oI 26 1 24 25,oN (.store .any 1 (.t 26) (cI 1))] (sr [oC 5 bT] .ret))))⟩
theorem ok113:zg Try.prog Try.f113 F113=true:=by kernel_rfl
def F97:IFn:=⟨11,3,[.tmp 6],false,false,(sr [oO 3 (.boxI (.t 0)),oC 6 bF] (sr [oE 7 1,oE 8 2,oO 9 (.mkfn 113 [] [.t 3]),cF 10 111 [.t 7,.t 8,.t 9],oM 6 10] .ret))⟩
theorem ok97:zg Try.prog Try.f97 F97=true:=by kernel_rfl
def F96:IFn:=⟨11,2,[.tmp 4],false,false,(sr [oC 4 bF] (sr [oM 5 0,oM 6 1,oE 7 1,oY 8 7,oO 9 (.mkslice 1 (.int .i64 0) 8 (.t 8) (.t 8)),cF 10 97 [.t 5,.t 6,.t 9],oM 4 10] .ret))⟩
theorem ok96:zg Try.prog Try.f96 F96=true:=by kernel_rfl
def F82:IFn:=⟨57,4,[.tmp 8],false,false,(sr [oO 5 (.boxL 5 (.t 1)),oO 6 (.boxL 6 (.t 2)),oC 8 bF] (sr [oM 9 0,oA 10 5 5,oL 11 5 10,cF 12 94 [.t 9,.t 11],oA 13 0 6,oN (.store (.box 6) 1 (.t 13) (.c bT)),oA 14 2 6,oS 6 1 14 12] (sr [oM 15 0,oA 16 4 5,oL 17 5 16,oO 18 (.bslice 1 (.int .i64 0) 1 [(0,(cI 2))]),cF 19 95 [.t 15,.t 17,.t 18],oM 20 19,oTm 20 21 0,oT 20 22 (.faddr 7 (.t 5)),oT 20 23 (.load (.box 5) false 1 (.t 22)),oT 20 24 (.iaddr 1 (.t 23) (cI 0)),oT 20 25 (.load .imm false 1 (.t 24)),oT 20 26 (.load (.box 6) true 5 (.t 6)),oTm 20 27 3,oT 20 28 (pF 43 [.t 21,.t 25,.t 26,.t 27]),oO 29 (.pick (.t 20) (.t 28) (.c bF)),oM 30 29,oTm 30 31 0,oT 30 32 (.faddr 7 (.t 5)),oT 30 33 (.load (.box 5) false 1 (.t 32)),oT 30 34 (.iaddr 1 (.t 33) (cI 1)),oT 30 35 (.load .imm false 1 (.t 34)),oT 30 36 (.load (.box 6) true 5 (.t 6)),oTm 30 37 3,oT 30 38 (pF 43 [.t 31,.t 35,.t 36,.t 37]),oO 39 (.pick (.t 30) (.t 38) (.c bF)),oM 40 39,oT 40 41 (.faddr 5 (.t 5)),oT 40 42 (.load (.box 5) false 1 (.t 41)),oT 40 43 (.len 1 (.t 42)),oT 40 44 (.bin 0 [] .eql (.t 43) (cI 0)),oTm 40 45 44,oF 45 46 (.load (.box 5) true 8 (.t 5)),oF 45 47 (pP 29 [.t 46]),oF 45 48 (.un .not (.t 47)),oT 40 49 (.pick (.t 45) (.c bT) (.t 48)),oO 50 (.pick (.t 40) (.t 49) (.c bF)),oM 51 50,oTm 51 52 0,oT 51 53 (.faddr 5 (.t 5)),oT 51 54 (.load (.box 5) false 1 (.t 53)),oT 51 55 (pF 96 [.t 52,.t 54]),oO 56 (.pick (.t 51) (.t 55) (.c bF)),oM 8 56] .ret)))⟩
theorem ok82:zg Try.prog Try.f82 F82=true:=by kernel_rfl
def L67_0:ICode:= .loop [0,6,7,8] []
 (sr [
 oP 9 .lss 8 7]
 (.seq
 (.cond (.t 9)
 .skip
 (.exit 0))
 (.seq
 (.block 1
 (sr [
 oI 10 1 6 8,
 oG 11 10,
 oM 5 11]
 (.region [
 oM 12 0,
 oK 13 12,
 oA 14 7 13,
 oG 15 14,
 oM 16 5,
 oI 17 1 15 16,
 oN (.store .any 1 (.t 17) (cI 2))])))
 (.region [
 oD 18 .add 8 1,
 oM 8 18]))))
abbrev K67_0:List Nat:=[0,6,7]
abbrev B67_0:List Nat:=[]
def F67:IFn:=⟨19,2,[],false,false,(sr [oE 6 1,oY 7 6,oZ 8 0] (.block 0 L67_0))⟩
theorem ok67:zg Try.prog Try.f67 F67=true:=by kernel_rfl
def F83:IFn:=⟨61,3,[.tmp 6],false,false,(sr [oO 4 (.boxL 4 (.t 1)),oC 6 bF] (sr [oM 8 0,oA 9 6 4,oL 10 4 9,cF 11 94 [.t 8,.t 10],oM 12 0,oA 13 5 4,oL 14 4 13,cF 15 94 [.t 12,.t 14],oO 16 (.build [.bool false,.bool false,.slice .fit 1 [],.slice .fit 1 [],.slice .fit 1 []] [(1,1,(.c bT)),(3,1,(.t 11)),(4,1,(.t 15))]),oO 7 (.boxL 7 (.c (.agg [.bool false,.bool false,.slice .fit 1 [],.slice .fit 1 [],.slice .fit 1 []]))),oS 7 5 7 16] (.seq (sr [oM 17 0,oA 18 4 4,oL 19 4 18,oA 20 3 7,oL 21 7 20,cF 22 95 [.t 17,.t 19,.t 21],oU 23 22,oM 24 23,oFm 24 25 0,oF 24 26 (.faddr 6 (.t 4)),oF 24 27 (.load (.box 4) false 1 (.t 26)),oF 24 28 (pF 96 [.t 25,.t 27]),oF 24 29 (.un .not (.t 28)),oO 30 (.pick (.t 24) (.c bT) (.t 29)),oM 31 30,oFm 31 32 0,oF 31 33 (.faddr 7 (.t 4)),oF 31 34 (.load (.box 4) false 1 (.t 33)),oF 31 35 (.iaddr 1 (.t 34) (cI 0)),oF 31 36 (.load .imm false 1 (.t 35)),oF 31 37 (.load (.box 7) true 5 (.t 7)),oFm 31 38 2,oF 31 39 (pF 43 [.t 32,.t 36,.t 37,.t 38]),oF 31 40 (.un .not (.t 39)),oO 41 (.pick (.t 31) (.c bT) (.t 40))] (.cond (.t 41) (sr [oC 6 bF] .ret) .skip)) (sr [oM 42 0,oA 43 6 4,oL 44 4 43,cF 45 67 [.t 42,.t 44]] (sr [oA 46 5 4,oL 47 4 46,oY 48 47,oD 49 .eql 48 0,oM 50 49,oF 50 51 (.load (.box 4) true 8 (.t 4)),oF 50 52 (pP 29 [.t 51]),oF 50 53 (.un .not (.t 52)),oO 54 (.pick (.t 50) (.c bT) (.t 53)),oM 55 54,oTm 55 56 0,oT 55 57 (.faddr 5 (.t 4)),oT 55 58 (.load (.box 4) false 1 (.t 57)),oT 55 59 (pF 96 [.t 56,.t 58]),oO 60 (.pick (.t 55) (.t 59) (.c bF)),oM 6 60] .ret)))))⟩
theorem ok83:zg Try.prog Try.f83 F83=true:=by kernel_rfl
def F84:IFn:=⟨72,3,[.tmp 6],false,false,(sr [oO 4 (.boxL 4 (.t 1)),oO 5 (.boxL 5 (.t 2)),oC 6 bF] (sr [oA 8 5 4,oL 9 4 8,oY 10 9,oD 11 .eql 10 0,oM 7 11] (.seq (sr [oA 12 0 4,oL 13 4 12] (.block 0 (sr [oD 15 .eql 13 12,oM 14 15] (.cond (.t 14) (sr [oM 16 7,oM 17 16,oT 17 18 (.faddr 0 (.t 5)),oT 17 19 (.load (.box 5) false 1 (.t 18)),oO 20 (.pick (.t 17) (.t 19) (.c bF)),oM 21 20,oTm 21 22 0,oT 21 23 (.faddr 4 (.t 4)),oT 21 24 (.load (.box 4) false 1 (.t 23)),oT 21 25 (.faddr 2 (.t 5)),oT 21 26 (.load (.box 5) false 1 (.t 25)),oT 21 27 (pF 95 [.t 22,.t 24,.t 26]),oO 28 (.pick (.t 21) (.t 27) (.c bF)),oM 6 28] .ret) (sr [oD 30 .eql 13 13,oM 29 30] (.cond (.t 29) (sr [oM 31 7,oM 32 31,oT 32 33 (.faddr 1 (.t 5)),oT 32 34 (.load (.box 5) false 1 (.t 33)),oO 35 (.pick (.t 32) (.t 34) (.c bF)),oM 36 35,oTm 36 37 0,oT 36 38 (.faddr 4 (.t 4)),oT 36 39 (.load (.box 4) false 1 (.t 38)),oT 36 40 (.faddr 3 (.t 5)),oT 36 41 (.load (.box 5) false 1 (.t 40)),oT 36 42 (pF 95 [.t 37,.t 39,.t 41]),oO 43 (.pick (.t 36) (.t 42) (.c bF)),oM 6 43] .ret) (sr [oD 45 .eql 13 14,oM 44 45] (.cond (.t 44) (sr [oM 46 7,oM 47 46,oT 47 48 (.faddr 1 (.t 5)),oT 47 49 (.load (.box 5) false 1 (.t 48)),oO 50 (.pick (.t 47) (.t 49) (.c bF)),oM 51 50,oTm 51 52 0,oT 51 53 (.faddr 4 (.t 4)),oT 51 54 (.load (.box 4) false 1 (.t 53)),oT 51 55 (.faddr 4 (.t 5)),oT 51 56 (.load (.box 5) false 1 (.t 55)),oT 51 57 (pF 95 [.t 52,.t 54,.t 56]),oO 58 (.pick (.t 51) (.t 57) (.c bF)),oM 6 58] .ret) .skip)))))))) (sr [oM 59 7,oM 60 59,oTm 60 61 0,oT 60 62 (.faddr 4 (.t 4)),oT 60 63 (.load (.box 4) false 1 (.t 62)),oTm 60 64 0,oT 60 65 (.nilck (.t 64)),oT 60 66 (.faddr 2 (.t 65)),oT 60 67 (.faddr 1 (.t 66)),oT 60 68 (.load .imm false 1 (.t 67)),oT 60 69 (.bslice 1 (.int .i64 0) 1 [(0,(.t 68))]),oT 60 70 (pF 95 [.t 61,.t 63,.t 69]),oO 71 (.pick (.t 60) (.t 70) (.c bF)),oM 6 71] .ret))))⟩
theorem ok84:zg Try.prog Try.f84 F84=true:=by kernel_rfl
def F114:IFn:=⟨15,1,[.tmp 2,.tmp 3],false,false,(sr [oZ 2 0,oZ 3 0] (.seq (sr [oM 4 0] (.block 0 (sr [oD 6 .eql 4 22,oM 5 6] (.cond (.t 5) (sr [oZ 2 2,oZ 3 2] .ret) (.seq (sr [oD 8 .eql 4 16,oM 7 8] (.cond (.t 7) .skip (.region [oD 9 .eql 4 17,oM 7 9]))) (.cond (.t 7) (sr [oZ 2 0,oZ 3 2] .ret) (.seq (sr [oD 11 .eql 4 12,oM 10 11] (.cond (.t 10) .skip (sr [oD 12 .eql 4 13,oM 10 12] (.cond (.t 10) .skip (sr [oD 13 .eql 4 14,oM 10 13] (.cond (.t 10) .skip (.region [oD 14 .eql 4 15,oM 10 14]))))))) (.cond (.t 10) (sr [oZ 2 1,oZ 3 2] .ret) .skip)))))))) (sr [oZ 2 1,oZ 3 1] .ret)))⟩
theorem ok114:zg Try.prog Try.f114 F114=true:=by kernel_rfl
def F122:IFn:=⟨43,1,[.cell 2 true 2],false,false,(sr [oO 2 (.boxL 2 (.c (.agg [.str [],.int .i64 0])))] (sr [oO 4 (.build [.str [],.int .i64 0] [(0,1,(.c (.str [43]))),(1,1,(cI 9))]),oO 5 (.build [.str [],.int .i64 0] [(0,1,(.c (.str [45]))),(1,1,(cI 9))]),oO 6 (.build [.str [],.int .i64 0] [(0,1,(.c (.str [42]))),(1,1,(cI 10))]),oO 7 (.build [.str [],.int .i64 0] [(0,1,(.c (.str [47]))),(1,1,(cI 10))]),oO 8 (.build [.str [],.int .i64 0] [(0,1,(.c (.str [37]))),(1,1,(cI 10))]),oO 9 (.build [.str [],.int .i64 0] [(0,1,(.c (.str [38]))),(1,1,(cI 5))]),oO 10 (.build [.str [],.int .i64 0] [(0,1,(.c (.str [124]))),(1,1,(cI 3))]),oO 11 (.build [.str [],.int .i64 0] [(0,1,(.c (.str [94]))),(1,1,(cI 4))]),oO 12 (.build [.str [],.int .i64 0] [(0,1,(.c (.str [60,60]))),(1,1,(cI 8))]),oO 13 (.build [.str [],.int .i64 0] [(0,1,(.c (.str [62,62]))),(1,1,(cI 8))]),oO 14 (.build [.str [],.int .i64 0] [(0,1,(.c (.str [62,62,62]))),(1,1,(cI 8))]),oO 15 (.build [.str [],.int .i64 0] [(0,1,(.c (.str [60]))),(1,1,(cI 7))]),oO 16 (.build [.str [],.int .i64 0] [(0,1,(.c (.str [60,61]))),(1,1,(cI 7))]),oO 17 (.build [.str [],.int .i64 0] [(0,1,(.c (.str [62]))),(1,1,(cI 7))]),oO 18 (.build [.str [],.int .i64 0] [(0,1,(.c (.str [62,61]))),(1,1,(cI 7))]),oO 19 (.build [.str [],.int .i64 0] [(0,1,(.c (.str [61,61]))),(1,1,(cI 6))]),oO 20 (.build [.str [],.int .i64 0] [(0,1,(.c (.str [33,61]))),(1,1,(cI 6))]),oO 21 (.build [.str [],.int .i64 0] [(0,1,(.c (.str [38,38]))),(1,1,(cI 2))]),oO 22 (.build [.str [],.int .i64 0] [(0,1,(.c (.str [124,124]))),(1,1,(cI 1))]),oO 23 (.build [.str [],.int .i64 0] [(0,1,(.c (.str [45]))),(1,1,(cI 0))]),oO 24 (.build [.str [],.int .i64 0] [(0,1,(.c (.str [126]))),(1,1,(cI 0))]),oO 25 (.build [.str [],.int .i64 0] [(0,1,(.c (.str [33]))),(1,1,(cI 0))]),oO 26 (.build [.str [],.int .i64 0] [(0,1,(.c (.str [105,56]))),(1,1,(cI 0))]),oO 27 (.build [.str [],.int .i64 0] [(0,1,(.c (.str [105,49,54]))),(1,1,(cI 0))]),oO 28 (.build [.str [],.int .i64 0] [(0,1,(.c (.str [105,51,50]))),(1,1,(cI 0))]),oO 29 (.build [.str [],.int .i64 0] [(0,1,(.c (.str [117,56]))),(1,1,(cI 0))]),oO 30 (.build [.str [],.int .i64 0] [(0,1,(.c (.str [117,49,54]))),(1,1,(cI 0))]),oO 31 (.build [.str [],.int .i64 0] [(0,1,(.c (.str [117,51,50]))),(1,1,(cI 0))]),oO 32 (.build [.str [],.int .i64 0,.str [],.int .i64 0,.str [],.int .i64 0,.str [],.int .i64 0,.str [],.int .i64 0,.str [],.int .i64 0,.str [],.int .i64 0,.str [],.int .i64 0,.str [],.int .i64 0,.str [],.int .i64 0,.str [],.int .i64 0,.str [],.int .i64 0,.str [],.int .i64 0,.str [],.int .i64 0,.str [],.int .i64 0,.str [],.int .i64 0,.str [],.int .i64 0,.str [],.int .i64 0,.str [],.int .i64 0,.str [],.int .i64 0,.str [],.int .i64 0,.str [],.int .i64 0,.str [],.int .i64 0,.str [],.int .i64 0,.str [],.int .i64 0,.str [],.int .i64 0,.str [],.int .i64 0,.str [],.int .i64 0,.str [],.int .i64 0] [(2,2,(.t 4)),(4,2,(.t 5)),(6,2,(.t 6)),(8,2,(.t 7)),(10,2,(.t 8)),(12,2,(.t 9)),(14,2,(.t 10)),(16,2,(.t 11)),(18,2,(.t 12)),(20,2,(.t 13)),(22,2,(.t 14)),(24,2,(.t 15)),(26,2,(.t 16)),(28,2,(.t 17)),(30,2,(.t 18)),(32,2,(.t 19)),(34,2,(.t 20)),(36,2,(.t 21)),(38,2,(.t 22)),(40,2,(.t 23)),(42,2,(.t 24)),(44,2,(.t 25)),(46,2,(.t 26)),(48,2,(.t 27)),(50,2,(.t 28)),(52,2,(.t 29)),(54,2,(.t 30)),(56,2,(.t 31))]),oO 3 (.boxL 3 (.c (.agg [.str [],.int .i64 0,.str [],.int .i64 0,.str [],.int .i64 0,.str [],.int .i64 0,.str [],.int .i64 0,.str [],.int .i64 0,.str [],.int .i64 0,.str [],.int .i64 0,.str [],.int .i64 0,.str [],.int .i64 0,.str [],.int .i64 0,.str [],.int .i64 0,.str [],.int .i64 0,.str [],.int .i64 0,.str [],.int .i64 0,.str [],.int .i64 0,.str [],.int .i64 0,.str [],.int .i64 0,.str [],.int .i64 0,.str [],.int .i64 0,.str [],.int .i64 0,.str [],.int .i64 0,.str [],.int .i64 0,.str [],.int .i64 0,.str [],.int .i64 0,.str [],.int .i64 0,.str [],.int .i64 0,.str [],.int .i64 0,.str [],.int .i64 0]))),oS 3 58 3 32] (.seq (sr [oM 33 0,oD 34 .lss 33 0,oM 35 34,oFm 35 36 0,oF 35 37 (.bin 0 [] .geq (.t 36) (cI 29)),oO 38 (.pick (.t 35) (.c bT) (.t 37))] (.cond (.t 38) (sr [oO 39 (.build [.str [],.int .i64 0] []),oS 2 2 2 39] .ret) .skip)) (sr [oM 40 0,oO 41 (.iaddrA 29 2 (.t 3) (.t 40)),oLa 42 3 2 41,oS 2 2 2 42] .ret))))⟩
theorem ok122:zg Try.prog Try.f122 F122=true:=by kernel_rfl
def F115:IFn:=⟨6,1,[.tmp 2],false,false,(sr [oZ 2 0] (sr [oM 3 0,cP 4 122 [.t 3],oO 5 (.fld false 1 1 (.t 4)),oM 2 5] .ret))⟩
theorem ok115:zg Try.prog Try.f115 F115=true:=by kernel_rfl
def F98:IFn:=⟨93,2,[.tmp 4],false,false,(sr [oO 3 (.boxL 3 (.t 1)),oC 4 bF] (sr [oA 9 1 3,oL 10 3 9,cP 11 114 [.t 10],oM 8 11,oX 12 8 0,oX 13 8 1,oM 5 12,oM 6 13] (.seq (sr [oA 14 0 3,oL 15 3 14,oD 16 .eql 15 3] (.cond (.t 16) (sr [oA 17 1 3,oL 18 3 17,oD 19 .geq 18 20,oM 20 19,oT 20 21 (.faddr 1 (.t 3)),oT 20 22 (.load (.box 3) false 1 (.t 21)),oT 20 23 (.bin 0 [] .leq (.t 22) (cI 28)),oO 24 (.pick (.t 20) (.t 23) (.c bF)),oM 25 24,oTm 25 26 0,oT 25 27 (.faddr 4 (.t 3)),oT 25 28 (.load (.box 3) false 1 (.t 27)),oTm 25 29 5,oT 25 30 (.bslice 1 (.int .i64 0) 1 [(0,(.t 29))]),oT 25 31 (pF 95 [.t 26,.t 28,.t 30]),oO 32 (.pick (.t 25) (.t 31) (.c bF)),oM 33 32,oTm 33 34 0,oT 33 35 (.faddr 5 (.t 3)),oT 33 36 (.load (.box 3) false 1 (.t 35)),oTm 33 37 6,oT 33 38 (.bslice 1 (.int .i64 0) 1 [(0,(.t 37))]),oT 33 39 (pF 97 [.t 34,.t 36,.t 38]),oO 40 (.pick (.t 33) (.t 39) (.c bF)),oM 4 40] .ret) .skip)) (sr [oA 41 1 3,oL 42 3 41,cP 43 115 [.t 42],oD 44 .gtr 43 0,oM 45 44,oT 45 46 (.faddr 1 (.t 3)),oT 45 47 (.load (.box 3) false 1 (.t 46)),oT 45 48 (.bin 0 [] .leq (.t 47) (cI 17)),oO 49 (.pick (.t 45) (.t 48) (.c bF)),oM 50 49,oTm 50 51 0,oT 50 52 (.faddr 4 (.t 3)),oT 50 53 (.load (.box 3) false 1 (.t 52)),oTm 50 54 5,oTm 50 55 5,oT 50 56 (.bslice 1 (.int .i64 0) 2 [(0,(.t 54)),(1,(.t 55))]),oT 50 57 (pF 95 [.t 51,.t 53,.t 56]),oO 58 (.pick (.t 50) (.t 57) (.c bF)),oM 7 58] (sr [oM 59 7,oM 60 59,oTm 60 61 0,oT 60 62 (.nilck (.t 61)),oT 60 63 (.faddr 2 (.t 62)),oT 60 64 (.faddr 3 (.t 63)),oT 60 65 (.load .imm false 1 (.t 64)),oT 60 66 (.faddr 4 (.t 3)),oT 60 67 (.load (.box 3) false 1 (.t 66)),oT 60 68 (.iaddr 1 (.t 67) (cI 0)),oT 60 69 (.load .imm false 1 (.t 68)),oT 60 70 (.iaddr 1 (.t 65) (.t 69)),oT 60 71 (.load .imm false 1 (.t 70)),oTm 60 72 0,oT 60 73 (.nilck (.t 72)),oT 60 74 (.faddr 2 (.t 73)),oT 60 75 (.faddr 3 (.t 74)),oT 60 76 (.load .imm false 1 (.t 75)),oT 60 77 (.faddr 4 (.t 3)),oT 60 78 (.load (.box 3) false 1 (.t 77)),oT 60 79 (.iaddr 1 (.t 78) (cI 1)),oT 60 80 (.load .imm false 1 (.t 79)),oT 60 81 (.iaddr 1 (.t 76) (.t 80)),oT 60 82 (.load .imm false 1 (.t 81)),oT 60 83 (.bin 0 [] .eql (.t 71) (.t 82)),oO 84 (.pick (.t 60) (.t 83) (.c bF)),oM 85 84,oTm 85 86 0,oT 85 87 (.faddr 5 (.t 3)),oT 85 88 (.load (.box 3) false 1 (.t 87)),oTm 85 89 6,oT 85 90 (.bslice 1 (.int .i64 0) 1 [(0,(.t 89))]),oT 85 91 (pF 97 [.t 86,.t 88,.t 90]),oO 92 (.pick (.t 85) (.t 91) (.c bF)),oM 4 92] .ret)))))⟩
theorem ok98:zg Try.prog Try.f98 F98=true:=by kernel_rfl
def L123_0:ICode:= .loop [0,1,7,8] []
 (sr [
 oP 9 .lss 8 7]
 (.seq
 (.cond (.t 9)
 .skip
 (.exit 0))
 (.seq
 (.block 1
 (sr [
 oM 10 8,
 oM 5 10]
 (sr [
 oM 11 1,
 oM 12 0,
 oM 13 5,
 oI 14 2 12 13,
 oW 15 2 14,
 oO 16 (.call false (.t 11) [.t 15])]
 (.cond (.t 16)
 (sr [
 oM 17 5,
 oM 4 17]
 .ret)
 .skip))))
 (.region [
 oD 18 .add 8 1,
 oM 8 18]))))
abbrev K123_0:List Nat:=[0,1,7]
abbrev B123_0:List Nat:=[]
def F123:IFn:=⟨19,2,[.tmp 4],false,false,(sr [oZ 4 0] (.seq (sr [oM 6 0,oY 7 6,oZ 8 0] (.block 0 L123_0)) (sr [oO 4 (.mv (cI (-1)))] .ret)))⟩
theorem ok123:zg Try.prog Try.f123 F123=true:=by kernel_rfl
def F116:IFn:=⟨9,2,[.tmp 4],false,false,(sr [oC 4 bF] (sr [oE 5 0,oM 6 1,cF 7 123 [.t 5,.t 6],oD 8 .geq 7 0,oM 4 8] .ret))⟩
theorem ok116:zg Try.prog Try.f116 F116=true:=by kernel_rfl
def F117:IFn:=⟨8,2,[.tmp 3],false,false,(sr [oO 2 (.boxL 2 (.t 0)),oC 3 bF] (sr [oA 4 0 2,oL 5 2 4,oG 6 1,oP 7 .eql 5 6,oM 3 7] .ret))⟩
theorem ok117:zg Try.prog Try.f117 F117=true:=by kernel_rfl
def F99:IFn:=⟨9,2,[.tmp 4],false,false,(sr [oO 2 (.boxL 2 (.t 0)),oO 3 (.boxI (.t 1)),oC 4 bF] (sr [oA 5 0 2,oL 6 2 5,oO 7 (.mkfn 117 [] [.t 3]),cF 8 116 [.t 6,.t 7],oM 4 8] .ret))⟩
theorem ok99:zg Try.prog Try.f99 F99=true:=by kernel_rfl
def F85:IFn:=⟨159,2,[.tmp 4],false,false,(sr [oO 3 (.boxL 3 (.t 1)),oC 4 bF] (.seq (sr [oA 7 0 3,oL 8 3 7] (.block 0 (sr [oD 10 .eql 8 1,oM 9 10] (.cond (.t 9) (sr [oM 11 0,oA 12 4 3,oL 13 3 12,cF 14 95 [(.t 11),(.t 13),(.c (.slice .fit 1 []))],oM 15 14,oTm 15 16 0,oT 15 17 (.faddr 5 (.t 3)),oT 15 18 (.load (.box 3) false 1 (.t 17)),oT 15 19 (.bslice 1 (.int .i64 0) 1 [(0,(cI 1))]),oT 15 20 (pF 97 [.t 16,.t 18,.t 19]),oO 21 (.pick (.t 15) (.t 20) (.c bF)),oM 4 21] .ret) (sr [oD 23 .eql 8 2,oM 22 23] (.cond (.t 22) (sr [oA 24 2 3,oL 25 3 24,oD 26 .eql 25 0,oM 27 26,oF 27 28 (.faddr 2 (.t 3)),oF 27 29 (.load (.box 3) false 1 (.t 28)),oF 27 30 (.bin 0 [] .eql (.t 29) (cI 1)),oO 31 (.pick (.t 27) (.c bT) (.t 30)),oM 32 31,oTm 32 33 0,oT 32 34 (.faddr 4 (.t 3)),oT 32 35 (.load (.box 3) false 1 (.t 34)),oT 32 36 (pF 95 [(.t 33),(.t 35),(.c (.slice .fit 1 []))]),oO 37 (.pick (.t 32) (.t 36) (.c bF)),oM 38 37,oTm 38 39 0,oT 38 40 (.faddr 5 (.t 3)),oT 38 41 (.load (.box 3) false 1 (.t 40)),oT 38 42 (.bslice 1 (.int .i64 0) 1 [(0,(cI 2))]),oT 38 43 (pF 97 [.t 39,.t 41,.t 42]),oO 44 (.pick (.t 38) (.t 43) (.c bF)),oM 4 44] .ret) (.seq (sr [oD 46 .eql 8 3,oM 45 46] (.cond (.t 45) .skip (.region [oD 47 .eql 8 4,oM 45 47]))) (.cond (.t 45) (sr [oM 48 0,oLa 49 3 8 3,cF 50 98 [.t 48,.t 49],oM 4 50] .ret) (sr [oD 52 .eql 8 5,oM 51 52] (.cond (.t 51) (sr [oM 53 0,oK 54 53,oA 55 0 54,oO 56 (.load .imm true 2 (.t 55)),oA 57 3 3,oL 58 3 57,cP 59 99 [.t 56,.t 58],oM 60 59,oTm 60 61 0,oT 60 62 (.faddr 4 (.t 3)),oT 60 63 (.load (.box 3) false 1 (.t 62)),oT 60 64 (.bslice 1 (.int .i64 0) 1 [(0,(cI 1))]),oT 60 65 (pF 95 [.t 61,.t 63,.t 64]),oO 66 (.pick (.t 60) (.t 65) (.c bF)),oM 67 66,oTm 67 68 0,oT 67 69 (.faddr 5 (.t 3)),oT 67 70 (.load (.box 3) false 1 (.t 69)),oT 67 71 (.bslice 1 (.int .i64 0) 1 [(0,(cI 1))]),oT 67 72 (pF 97 [.t 68,.t 70,.t 71]),oO 73 (.pick (.t 67) (.t 72) (.c bF)),oM 4 73] .ret) (sr [oD 75 .eql 8 6,oM 74 75] (.cond (.t 74) (sr [oM 76 0,oK 77 76,oA 78 0 77,oO 79 (.load .imm true 2 (.t 78)),oA 80 3 3,oL 81 3 80,cP 82 99 [.t 79,.t 81],oM 83 82,oTm 83 84 0,oT 83 85 (.faddr 4 (.t 3)),oT 83 86 (.load (.box 3) false 1 (.t 85)),oT 83 87 (.bslice 1 (.int .i64 0) 2 [(0,(cI 1)),(1,(cI 1))]),oT 83 88 (pF 95 [.t 84,.t 86,.t 87]),oO 89 (.pick (.t 83) (.t 88) (.c bF)),oM 90 89,oTm 90 91 0,oT 90 92 (.faddr 5 (.t 3)),oT 90 93 (.load (.box 3) false 1 (.t 92)),oT 90 94 (pF 97 [(.t 91),(.t 93),(.c (.slice .fit 1 []))]),oO 95 (.pick (.t 90) (.t 94) (.c bF)),oM 4 95] .ret) (sr [oD 97 .eql 8 8,oM 96 97] (.cond (.t 96) (sr [oM 98 0,oA 99 4 3,oL 100 3 99,cF 101 95 [(.t 98),(.t 100),(.c (.slice .fit 1 []))],oM 102 101,oTm 102 103 0,oT 102 104 (.faddr 5 (.t 3)),oT 102 105 (.load (.box 3) false 1 (.t 104)),oT 102 106 (.bslice 1 (.int .i64 0) 1 [(0,(cI 1))]),oT 102 107 (pF 97 [.t 103,.t 105,.t 106]),oO 108 (.pick (.t 102) (.t 107) (.c bF)),oM 4 108] .ret) (sr [oD 110 .eql 8 9,oM 109 110] (.cond (.t 109) (sr [oM 111 0,oA 112 4 3,oL 113 3 112,oO 114 (.bslice 1 (.int .i64 0) 1 [(0,(cI 1))]),cF 115 95 [.t 111,.t 113,.t 114],oM 116 115,oTm 116 117 0,oT 116 118 (.faddr 5 (.t 3)),oT 116 119 (.load (.box 3) false 1 (.t 118)),oT 116 120 (pF 97 [(.t 117),(.t 119),(.c (.slice .fit 1 []))]),oO 121 (.pick (.t 116) (.t 120) (.c bF)),oM 4 121] .ret) (sr [oD 123 .eql 8 7,oM 122 123] (.cond (.t 122) (sr [oM 124 0,oK 125 124,oA 126 0 125,oO 127 (.load .imm true 2 (.t 126)),oA 128 3 3,oL 129 3 128,cP 130 40 [.t 127,.t 129],oM 5 130] (.seq (sr [oM 131 5,oD 132 .lss 131 0] (.cond (.t 132) (sr [oC 4 bF] .ret) .skip)) (sr [oM 133 0,oK 134 133,oA 135 0 134,oA 136 1 135,oG 137 136,oM 138 5,oI 139 5 137 138,oW 140 5 139,oO 6 (.boxL 6 (.c (.agg [.str [],.int .i64 0,.int .i64 0,.slice .fit 1 [],.slice .fit 8 []]))),oS 6 5 6 140] (sr [oM 141 0,oA 142 4 3,oL 143 3 142,oA 144 3 6,oL 145 6 144,oA 146 2 6,oL 147 6 146,oO 148 (.slc false 1 (.t 145) none (some (.t 147)) none),cF 149 95 [.t 141,.t 143,.t 148],oM 150 149,oTm 150 151 0,oT 150 152 (.faddr 5 (.t 3)),oT 150 153 (.load (.box 3) false 1 (.t 152)),oT 150 154 (.faddr 1 (.t 6)),oT 150 155 (.load (.box 6) false 1 (.t 154)),oT 150 156 (.bslice 1 (.int .i64 0) 1 [(0,(.t 155))]),oT 150 157 (pF 97 [.t 151,.t 153,.t 156]),oO 158 (.pick (.t 150) (.t 157) (.c bF)),oM 4 158] .ret)))) .skip)))))))))))))))))) (sr [oC 4 bF] .ret)))⟩
theorem ok85:zg Try.prog Try.f85 F85=true:=by kernel_rfl
end PE.U

set_option maxRecDepth 100000
namespace PE.U
open Go PE Go.Proofs
def F66:IFn:=⟨42,4,[.tmp 8],false,false,(sr [oO 5 (.boxL 5 (.t 1)),oO 6 (.boxL 6 (.t 2)),oC 8 bF] (.seq (.block 0 (sr [oLa 10 5 8 5,cP 11 81 [.t 10],oU 12 11,oM 9 12] (.cond (.t 9) (sr [oC 8 bF] .ret) (sr [oA 14 0 5,oL 15 5 14,oD 16 .eql 15 10,oM 13 16] (.cond (.t 13) (sr [oM 17 0,oLa 18 5 8 5,oLa 19 6 5 6,oM 20 3,oD 21 .add 20 1,cF 22 82 [.t 17,.t 18,.t 19,.t 21],oM 8 22] .ret) (sr [oA 24 0 5,oL 25 5 24,oD 26 .eql 25 11,oM 23 26] (.cond (.t 23) (sr [oM 27 0,oLa 28 5 8 5,oM 29 3,oD 30 .add 29 1,cF 31 83 [.t 27,.t 28,.t 30],oM 8 31] .ret) (sr [oLa 33 5 8 5,cP 34 51 [.t 33],oM 32 34] (.cond (.t 32) (sr [oM 35 0,oLa 36 5 8 5,oLa 37 6 5 6,cF 38 84 [.t 35,.t 36,.t 37],oM 8 38] .ret) .skip))))))))) (sr [oM 39 0,oLa 40 5 8 5,cF 41 85 [.t 39,.t 40],oM 8 41] .ret)))⟩
theorem ok66:zg Try.prog Try.f66 F66=true:=by kernel_rfl
def L43_0:ICode:= .loop [0,1,3,6,13,14,15] [10]
 (sr [
 oP 16 .lss 15 14]
 (.seq
 (.cond (.t 16)
 .skip
 (.exit 0))
 (.seq
 (.block 1
 (sr [
 oM 17 15,
 oI 18 8 13 15,
 oW 19 8 18,
 oO 10 (.boxL 10 (.c (.agg [.int .i64 0,.int .i64 0,.int .i64 0,.str [],.slice .fit 1 [],.slice .fit 1 [],.slice .fit 1 [],.slice .fit 1 []]))),
 oM 9 17,
 oS 10 8 10 19]
 (sr [
 oM 20 3,
 oD 21 .gtr 20 100,
 oM 22 21,
 oFm 22 23 0,
 oF 22 24 (.load (.box 10) true 8 (.t 10)),
 oF 22 25 (.load (.box 6) true 5 (.t 6)),
 oFm 22 26 3,
 oF 22 27 (pF 66 [.t 23,.t 24,.t 25,.t 26]),
 oF 22 28 (.un .not (.t 27)),
 oO 29 (.pick (.t 22) (.c bT) (.t 28)),
 oM 30 29,
 oF 30 31 (.load (.box 10) true 8 (.t 10)),
 oF 30 32 (pP 29 [.t 31]),
 oFm 30 33 9,
 oFm 30 34 1,
 oF 30 35 (.len 1 (.t 34)),
 oF 30 36 (.bin 0 [] .sub (.t 35) (cI 1)),
 oF 30 37 (.bin 0 [] .eql (.t 33) (.t 36)),
 oF 30 38 (.bin 1 [] .neq (.t 32) (.t 37)),
 oO 39 (.pick (.t 30) (.c bT) (.t 38))]
 (.cond (.t 39)
 (sr [
 oC 8 bF]
 .ret)
 .skip))))
 (.region [
 oD 40 .add 15 1,
 oM 15 40]))))
def L43_1:ICode:= .loop [0,1,41,42,43] [12]
 (sr [
 oP 44 .lss 43 42]
 (.seq
 (.cond (.t 44)
 .skip
 (.exit 2))
 (.seq
 (.block 3
 (sr [
 oI 45 8 41 43,
 oW 46 8 45,
 oO 12 (.boxL 12 (.c (.agg [.int .i64 0,.int .i64 0,.int .i64 0,.str [],.slice .fit 1 [],.slice .fit 1 [],.slice .fit 1 [],.slice .fit 1 []]))),
 oS 12 8 12 46]
 (.region [
 oM 47 0,
 oA 48 5 12,
 oL 49 12 48,
 cF 50 67 [.t 47,.t 49]])))
 (.region [
 oD 51 .add 43 1,
 oM 43 51]))))
abbrev K43_0:List Nat:=[0,1,3,6,13,14]
abbrev B43_0:List Nat:=[6]
abbrev K43_1:List Nat:=[0,1,41,42]
abbrev B43_1:List Nat:=[]
def F43:IFn:=⟨55,4,[.tmp 8],false,false,(sr [oO 6 (.boxL 6 (.t 2)),oC 8 bF] (.seq (sr [oM 13 1,oY 14 13,oZ 15 0] (.block 0 L43_0)) (.seq (sr [oM 41 1,oY 42 41,oZ 43 0] (.block 2 L43_1)) (sr [oE 52 1,oY 53 52,oD 54 .gtr 53 0,oM 8 54] .ret))))⟩
theorem ok43:zg Try.prog Try.f43 F43=true:=by kernel_rfl
def L24_0:ICode:= .loop [3,5,30,31] []
 (sr [
 oP 32 .lss 31 30]
 (.seq
 (.cond (.t 32)
 .skip
 (.exit 0))
 (.seq
 (.block 1
 (sr [
 oM 33 31,
 oM 6 33]
 (.region [
 oM 34 5,
 oK 35 34,
 oA 36 7 35,
 oG 37 36,
 oM 38 6,
 oI 39 1 37 38,
 oN (.store .any 1 (.t 39) (cI 1))])))
 (.region [
 oD 40 .add 31 1,
 oM 31 40]))))
abbrev K24_0:List Nat:=[3,5,30]
abbrev B24_0:List Nat:=[3]
def F24:IFn:=⟨46,2,[.tmp 4],true,false,(sr [oO 2 (.boxL 2 (.t 0)),oO 3 (.boxL 3 (.t 1)),oC 4 bF] (.seq (sr [oA 7 2 3,oL 8 3 7,oD 9 .gtr 8 8,oM 10 9,oF 10 11 (.faddr 3 (.t 3)),oF 10 12 (.load (.box 3) false 1 (.t 11)),oF 10 13 (.len 1 (.t 12)),oF 10 14 (.bin 0 [] .gtr (.t 13) (cI 20000)),oO 15 (.pick (.t 10) (.c bT) (.t 14)),oM 16 15,oF 16 17 (.faddr 3 (.t 3)),oF 16 18 (.load (.box 3) false 1 (.t 17)),oF 16 19 (pF 41 [(.t 18),(.c (.fn 42 [] []))]),oO 20 (.pick (.t 16) (.c bT) (.t 19))] (.cond (.t 20) (sr [oC 4 bF] .ret) .skip)) (sr [oLa 21 2 2 2,oLa 22 3 5 3,oA 23 3 3,oL 24 3 23,oY 25 24,oO 26 (.mksliceS 1 (.int .i64 0) 8 (.t 25) (.t 25)),oO 27 (.build [.slice .fit 2 [],.slice .fit 5 [],.str [],.int .i64 0,.int .i64 0,.slice .fit 1 [],.slice .fit 8 [],.slice .fit 1 []] [(0,2,(.t 21)),(2,5,(.t 22)),(7,1,(.t 26))]),oO 28 (.boxI (.t 27)),oM 5 28] (.seq (sr [oA 29 2 3,oL 30 3 29,oZ 31 0] (.block 0 L24_0)) (sr [oM 41 5,oA 42 4 3,oL 43 3 42,oO 44 (.build [.bool false,.bool false,.slice .fit 1 [],.slice .fit 1 [],.slice .fit 1 []] []),cF 45 43 [.t 41,.t 43,.t 44,cI 1],oM 4 45] .ret)))))⟩
theorem ok24:zg Try.prog Try.f24 F24=true:=by kernel_rfl
def L9_0:ICode:= .loop [1,10,11,12] [5]
 (sr [
 oP 13 .lss 12 11]
 (.seq
 (.cond (.t 13)
 .skip
 (.exit 0))
 (.seq
 (.block 1
 (sr [
 oM 14 12,
 oI 15 5 10 12,
 oW 16 5 15,
 oO 5 (.boxL 5 (.c (.agg [.str [],.int .i64 0,.int .i64 0,.slice .fit 1 [],.slice .fit 8 []]))),
 oM 4 14,
 oS 5 5 5 16]
 (sr [
 oLa 17 1 2 1,
 oLa 18 5 5 5,
 cP 19 24 [.t 17,.t 18],
 oU 20 19]
 (.cond (.t 20)
 (sr [
 oM 21 4,
 oZ 2 80,
 oM 3 21]
 .ret)
 .skip))))
 (.region [
 oD 22 .add 12 1,
 oM 12 22]))))
abbrev K9_0:List Nat:=[1,10,11]
abbrev B9_0:List Nat:=[1]
def F9:IFn:=⟨23,1,[.tmp 2,.tmp 3],false,false,(sr [oO 1 (.boxL 1 (.t 0)),oZ 2 0,oZ 3 0] (.seq (sr [oLa 6 1 2 1,cP 7 23 [.t 6],oU 8 7] (.cond (.t 8) (sr [oZ 2 1,oZ 3 0] .ret) .skip)) (.seq (sr [oA 9 1 1,oL 10 1 9,oY 11 10,oZ 12 0] (.block 0 L9_0)) (sr [oZ 2 0,oZ 3 0] .ret))))⟩
theorem ok9:zg Try.prog Try.f9 F9=true:=by kernel_rfl
def F104:IFn:=⟨7,2,[],false,false,(.region [oM 4 1,oO 5 (.build [.int .i64 0] [(0,1,(.t 4))]),oO 6 (.mkif 101 (.t 5)),oN (.panic (.t 6))])⟩
theorem ok104:zg Try.prog Try.f104 F104=true:=by kernel_rfl
def L105_0:ICode:= .loop [2,5,11,12,13] []
 (sr [
 oP 14 .lss 13 12]
 (.seq
 (.cond (.t 14)
 .skip
 (.exit 0))
 (.seq
 (.block 1
 (sr [
 oM 15 13,
 oI 16 1 11 13,
 oG 17 16,
 oM 6 15,
 oM 7 17]
 (.region [
 oM 18 5,
 oM 19 6,
 oA 20 1 2,
 oL 21 2 20,
 oM 22 7,
 oI 23 1 21 22,
 oG 24 23,
 oI 25 1 18 19,
 oV 25 24])))
 (.region [
 oD 26 .add 13 1,
 oM 13 26]))))
abbrev K105_0:List Nat:=[2,5,11,12]
abbrev B105_0:List Nat:=[2]
def F105:IFn:=⟨28,2,[.tmp 4],true,false,(sr [oO 2 (.boxL 2 (.t 0)),oC 4 (.slice .fit 1 [])] (sr [oM 8 1,oY 9 8,oO 10 (.mksliceS 1 (.int .i64 0) 8 (.t 9) (.t 9)),oE 5 10] (.seq (sr [oE 11 1,oY 12 11,oZ 13 0] (.block 0 L105_0)) (sr [oE 27 5,oE 4 27] .ret))))⟩
theorem ok105:zg Try.prog Try.f105 F105=true:=by kernel_rfl
def L106_0:ICode:= .loop [2,3,8,9,10] []
 (sr [
 oP 11 .lss 10 9]
 (.seq
 (.cond (.t 11)
 .skip
 (.exit 0))
 (.seq
 (.block 1
 (sr [
 oM 12 10,
 oI 13 1 8 10,
 oG 14 13,
 oM 6 12,
 oM 7 14]
 (.region [
 oA 15 1 3,
 oL 16 3 15,
 oM 17 7,
 oM 18 2,
 oM 19 6,
 oI 20 1 18 19,
 oH 21 20,
 oI 22 1 16 17,
 oV 22 21])))
 (.region [
 oD 23 .add 10 1,
 oM 10 23]))))
abbrev K106_0:List Nat:=[2,3,8,9]
abbrev B106_0:List Nat:=[3]
def F106:IFn:=⟨24,3,[],false,false,(sr [oO 3 (.boxL 3 (.t 0))] (sr [oE 8 1,oY 9 8,oZ 10 0] (.block 0 L106_0)))⟩
theorem ok106:zg Try.prog Try.f106 F106=true:=by kernel_rfl
def F107:IFn:=⟨33,3,[.cell 6 true 2],false,false,(sr [oO 3 (.boxL 3 (.t 0)),oO 4 (.boxL 4 (.t 1)),oO 6 (.boxL 6 (.c (.agg [.int .i64 0,.slice .fit 1 []])))] (sr [oA 9 7 4,oL 10 4 9,oO 11 (.iaddr 1 (.t 10) (cI 0)),oG 12 11,oE 7 12] (.seq (sr [oM 13 2,oD 14 .eql 13 0] (.cond (.t 14) (.region [oA 15 7 4,oL 16 4 15,oO 17 (.iaddr 1 (.t 16) (cI 1)),oG 18 17,oE 7 18]) .skip)) (sr [oLa 19 3 2 3,oE 20 7,oO 21 (.call true (.c (.fn 75 [] [])) [.t 19,.t 20]),oO 8 (.boxL 8 (.c (.agg [.int .i64 0,.slice .fit 1 []]))),oS 8 2 8 21] (.seq (sr [oA 22 0 8,oL 23 8 22,oD 24 .neq 23 12] (.cond (.t 24) (sr [oLa 25 8 2 8,oS 6 2 6 25] .ret) .skip)) (sr [oLa 26 3 2 3,oA 27 5 4,oL 28 4 27,oA 29 1 8,oL 30 8 29,cF 31 106 [.t 26,.t 28,.t 30]] (sr [oO 32 (.build [.int .i64 0,.slice .fit 1 []] []),oS 6 2 6 32] .ret)))))))⟩
theorem ok107:zg Try.prog Try.f107 F107=true:=by kernel_rfl
def L108_0:ICode:= .loop [2,3,4,6] [7]
 (.block 1
 (sr [
 oLa 8 3 2 3,
 oA 9 6 4,
 oL 10 4 9,
 oE 11 2,
 cF 12 106 [.t 8,.t 10,.t 11]]
 (sr [
 oLa 13 3 2 3,
 oA 14 7 4,
 oL 15 4 14,
 oO 16 (.iaddr 1 (.t 15) (cI 0)),
 oH 17 16,
 oO 7 (.boxL 7 (.c (.agg [.int .i64 0,.slice .fit 1 []]))),
 oO 18 (.call true (.c (.fn 75 [] [])) [.t 13,.t 17]),
 oS 7 2 7 18]
 (.seq
 (sr [
 oA 19 0 7,
 oL 20 7 19]
 (.block 2
 (sr [
 oD 22 .eql 20 15,
 oM 21 22]
 (.cond (.t 21)
 (sr [
 oLa 23 7 2 7,
 oS 6 2 6 23]
 .ret)
 (sr [
 oD 25 .eql 20 14,
 oM 24 25]
 (.cond (.t 24)
 (sr [
 oLa 26 3 2 3,
 oA 27 5 4,
 oL 28 4 27,
 oA 29 1 7,
 oL 30 7 29,
 cF 31 106 [.t 26,.t 28,.t 30]]
 (sr [
 oO 32 (.build [.int .i64 0,.slice .fit 1 []] []),
 oS 6 2 6 32]
 .ret))
 .skip))))))
 (.region [
 oA 33 1 7,
 oL 34 7 33,
 oE 2 34])))))
abbrev K108_0:List Nat:=[3,4,6]
abbrev B108_0:List Nat:=[3,4]
def F108:IFn:=⟨35,3,[.cell 6 true 2],false,false,(sr [oO 3 (.boxL 3 (.t 0)),oO 4 (.boxL 4 (.t 1)),oO 6 (.boxL 6 (.c (.agg [.int .i64 0,.slice .fit 1 []])))] (.block 0 L108_0))⟩
theorem ok108:zg Try.prog Try.f108 F108=true:=by kernel_rfl
def F124:IFn:=⟨4,1,[.tmp 2],false,false,(sr [oZ 2 0] (.seq (sr [oM 3 0] (.cond (.t 3) (sr [oZ 2 1] .ret) .skip)) (sr [oZ 2 0] .ret)))⟩
theorem ok124:zg Try.prog Try.f124 F124=true:=by kernel_rfl
def F118:IFn:=⟨49,2,[.tmp 4],false,false,(sr [oZ 4 0] (.seq (sr [oM 5 0] (.block 0 (sr [oD 7 .eql 5 20,oM 6 7] (.cond (.t 6) (sr [oM 8 1,oO 9 (.un .neg (.t 8)),oM 4 9] .ret) (sr [oD 11 .eql 5 21,oM 10 11] (.cond (.t 10) (sr [oM 12 1,oO 13 (.un .xor (.t 12)),oM 4 13] .ret) (sr [oD 15 .eql 5 22,oM 14 15] (.cond (.t 14) (sr [oM 16 1,oD 17 .eql 16 0,cP 18 124 [.t 17],oM 4 18] .ret) (sr [oD 20 .eql 5 23,oM 19 20] (.cond (.t 19) (sr [oM 21 1,oO 22 (.conv .i8 (.t 21)),oO 23 (.conv .i64 (.t 22)),oM 4 23] .ret) (sr [oD 25 .eql 5 24,oM 24 25] (.cond (.t 24) (sr [oM 26 1,oO 27 (.conv .i16 (.t 26)),oO 28 (.conv .i64 (.t 27)),oM 4 28] .ret) (sr [oD 30 .eql 5 25,oM 29 30] (.cond (.t 29) (sr [oM 31 1,oO 32 (.conv .i32 (.t 31)),oO 33 (.conv .i64 (.t 32)),oM 4 33] .ret) (sr [oD 35 .eql 5 26,oM 34 35] (.cond (.t 34) (sr [oM 36 1,oO 37 (.conv .u8 (.t 36)),oO 38 (.conv .i64 (.t 37)),oM 4 38] .ret) (sr [oD 40 .eql 5 27,oM 39 40] (.cond (.t 39) (sr [oM 41 1,oO 42 (.conv .u16 (.t 41)),oO 43 (.conv .i64 (.t 42)),oM 4 43] .ret) (sr [oD 45 .eql 5 28,oM 44 45] (.cond (.t 44) (sr [oM 46 1,oO 47 (.conv .u32 (.t 46)),oO 48 (.conv .i64 (.t 47)),oM 4 48] .ret) .skip)))))))))))))))))))) (sr [oZ 4 0] .ret)))⟩
theorem ok118:zg Try.prog Try.f118 F118=true:=by kernel_rfl
def F126:IFn:=⟨39,3,[.tmp 6,.tmp 7],false,false,(sr [oC 6 bF,oC 7 bF] (.seq (sr [oM 8 0] (.block 0 (sr [oD 10 .eql 8 12,oM 9 10] (.cond (.t 9) (sr [oM 11 1,oM 12 2,oP 13 .lss 11 12,oM 6 13,oC 7 bT] .ret) (sr [oD 15 .eql 8 13,oM 14 15] (.cond (.t 14) (sr [oM 16 1,oM 17 2,oP 18 .leq 16 17,oM 6 18,oC 7 bT] .ret) (sr [oD 20 .eql 8 14,oM 19 20] (.cond (.t 19) (sr [oM 21 1,oM 22 2,oP 23 .gtr 21 22,oM 6 23,oC 7 bT] .ret) (sr [oD 25 .eql 8 15,oM 24 25] (.cond (.t 24) (sr [oM 26 1,oM 27 2,oP 28 .geq 26 27,oM 6 28,oC 7 bT] .ret) (sr [oD 30 .eql 8 16,oM 29 30] (.cond (.t 29) (sr [oM 31 1,oM 32 2,oP 33 .eql 31 32,oM 6 33,oC 7 bT] .ret) (sr [oD 35 .eql 8 17,oM 34 35] (.cond (.t 34) (sr [oM 36 1,oM 37 2,oP 38 .neq 36 37,oM 6 38,oC 7 bT] .ret) .skip)))))))))))))) (sr [oC 6 bF,oC 7 bF] .ret)))⟩
theorem ok126:zg Try.prog Try.f126 F126=true:=by kernel_rfl
def F125:IFn:=⟨86,3,[.tmp 6,.tmp 7],false,false,(sr [oZ 6 0,oC 7 bF] (.seq (sr [oM 11 0,oM 12 1,oM 13 2,cP 14 126 [.t 11,.t 12,.t 13],oM 10 14,oX 15 10 0,oX 16 10 1,oM 8 15,oM 9 16] (sr [oM 17 9] (.cond (.t 17) (sr [oM 18 8,cP 19 124 [.t 18],oM 6 19,oC 7 bT] .ret) .skip))) (.seq (sr [oM 20 0] (.block 0 (sr [oD 22 .eql 20 1,oM 21 22] (.cond (.t 21) (sr [oM 23 1,oM 24 2,oP 25 .add 23 24,oM 6 25,oC 7 bT] .ret) (sr [oD 27 .eql 20 2,oM 26 27] (.cond (.t 26) (sr [oM 28 1,oM 29 2,oP 30 .sub 28 29,oM 6 30,oC 7 bT] .ret) (sr [oD 32 .eql 20 3,oM 31 32] (.cond (.t 31) (sr [oM 33 1,oM 34 2,oP 35 .mul 33 34,oM 6 35,oC 7 bT] .ret) (sr [oD 37 .eql 20 6,oM 36 37] (.cond (.t 36) (sr [oM 38 1,oM 39 2,oP 40 .and 38 39,oM 6 40,oC 7 bT] .ret) (sr [oD 42 .eql 20 7,oM 41 42] (.cond (.t 41) (sr [oM 43 1,oM 44 2,oP 45 .or 43 44,oM 6 45,oC 7 bT] .ret) (sr [oD 47 .eql 20 8,oM 46 47] (.cond (.t 46) (sr [oM 48 1,oM 49 2,oP 50 .xor 48 49,oM 6 50,oC 7 bT] .ret) (sr [oD 52 .eql 20 9,oM 51 52] (.cond (.t 51) (sr [oM 53 1,oM 54 2,oD 55 .and 54 63,oP 56 .shl 53 55,oM 6 56,oC 7 bT] .ret) (sr [oD 58 .eql 20 10,oM 57 58] (.cond (.t 57) (sr [oM 59 1,oM 60 2,oD 61 .and 60 63,oP 62 .shr 59 61,oM 6 62,oC 7 bT] .ret) (sr [oD 64 .eql 20 11,oM 63 64] (.cond (.t 63) (sr [oM 65 1,oO 66 (.conv .u64 (.t 65)),oM 67 2,oD 68 .and 67 63,oP 69 .shr 66 68,oO 70 (.conv .i64 (.t 69)),oM 6 70,oC 7 bT] .ret) .skip)))))))))))))))))))) (.seq (.block 1 (sr [oM 72 2,oD 73 .eql 72 0,oM 71 73] (.cond (.t 71) (sr [oZ 6 0,oC 7 bF] .ret) (sr [oM 75 0,oD 76 .eql 75 4,oM 74 76] (.cond (.t 74) (sr [oM 77 1,oM 78 2,oP 79 .quo 77 78,oM 6 79,oC 7 bT] .ret) (sr [oM 81 0,oD 82 .eql 81 5,oM 80 82] (.cond (.t 80) (sr [oM 83 1,oM 84 2,oP 85 .rem 83 84,oM 6 85,oC 7 bT] .ret) .skip))))))) (sr [oZ 6 0,oC 7 bF] .ret)))))⟩
theorem ok125:zg Try.prog Try.f125 F125=true:=by kernel_rfl
def F119:IFn:=⟨23,4,[.tmp 8],false,false,(sr [oZ 8 0] (sr [oM 12 1,oM 13 2,oM 14 3,cP 15 125 [.t 12,.t 13,.t 14],oM 11 15,oX 16 11 0,oX 17 11 1,oM 9 16,oM 10 17] (.seq (sr [oM 18 10,oU 19 18] (.cond (.t 19) (.region [oM 20 0,oO 21 (.call true (.c (.fn 104 [] [])) [.t 20,cI 2])]) .skip)) (sr [oM 22 9,oM 8 22] .ret))))⟩
theorem ok119:zg Try.prog Try.f119 F119=true:=by kernel_rfl
def F120:IFn:=⟨27,3,[.tmp 6],false,false,(sr [oC 6 (.nilp)] (sr [oM 8 0,oK 9 8,oA 10 3 9,oG 11 10,oM 12 1,oO 13 (.lookup true false (.slice .fit 1 []) (.t 11) (.t 12)),oE 7 13] (.seq (sr [oM 14 2,oD 15 .lss 14 0,oM 16 15,oFm 16 17 2,oFm 16 18 7,oF 16 19 (.len 1 (.t 18)),oF 16 20 (.bin 0 [] .geq (.t 17) (.t 19)),oO 21 (.pick (.t 16) (.c bT) (.t 20))] (.cond (.t 21) (.region [oM 22 0,oO 23 (.call true (.c (.fn 104 [] [])) [.t 22,cI 3])]) .skip)) (sr [oE 24 7,oM 25 2,oI 26 1 24 25,oM 6 26] .ret))))⟩
theorem ok120:zg Try.prog Try.f120 F120=true:=by kernel_rfl
def F121:IFn:=⟨27,1,[.tmp 2],false,false,(sr [oZ 2 0] (.seq (sr [oM 4 0,oK 5 4,oA 6 2 5,oG 7 6,oY 8 7,oD 9 .eql 8 0] (.cond (.t 9) (.region [oM 10 0,oO 11 (.call true (.c (.fn 104 [] [])) [.t 10,cI 4])]) .skip)) (sr [oM 12 0,oK 13 12,oA 14 2 13,oG 15 14,oO 16 (.iaddr 1 (.t 15) (cI 0)),oG 17 16,oM 3 17] (sr [oM 18 0,oM 19 0,oK 20 19,oA 21 2 20,oG 22 21,oO 23 (.slc false 1 (.t 22) (some (cI 1)) none none),oK 24 18,oA 25 2 24,oV 25 23] (sr [oM 26 3,oM 2 26] .ret)))))⟩
theorem ok121:zg Try.prog Try.f121 F121=true:=by kernel_rfl
def F109:IFn:=⟨121,3,[],false,false,(sr [oO 3 (.boxL 3 (.t 0)),oO 4 (.boxL 4 (.t 1))] (sr [oA 6 0 3,oL 7 3 6,oK 8 7,oA 9 4 8,oA 10 3 9,oG 11 10,oD 12 .add 11 1,oK 13 7,oA 14 4 13,oA 15 3 14,oV 15 12] (sr [oA 16 0 4,oL 17 4 16] (.block 0 (sr [oD 19 .eql 17 3,oM 18 19] (.cond (.t 18) (.region [oLa 20 3 2 3,oA 21 5 4,oL 22 4 21,oA 23 1 4,oL 24 4 23,oE 25 2,oO 26 (.iaddr 1 (.t 25) (cI 0)),oH 27 26,cP 28 118 [.t 24,.t 27],oO 29 (.bslice 1 (.int .i64 0) 1 [(0,(.t 28))]),cF 30 106 [.t 20,.t 22,.t 29]]) (sr [oD 32 .eql 17 4,oM 31 32] (.cond (.t 31) (.region [oLa 33 3 2 3,oA 34 5 4,oL 35 4 34,oA 36 0 3,oL 37 3 36,oA 38 1 4,oL 39 4 38,oM 40 2,oO 41 (.iaddr 1 (.t 40) (cI 0)),oH 42 41,oM 43 2,oO 44 (.iaddr 1 (.t 43) (cI 1)),oH 45 44,oO 46 (.call true (.c (.fn 119 [] [])) [.t 37,.t 39,.t 42,.t 45]),oO 47 (.bslice 1 (.int .i64 0) 1 [(0,(.t 46))]),cF 48 106 [.t 33,.t 35,.t 47]]) (sr [oD 50 .eql 17 5,oM 49 50] (.cond (.t 49) (.region [oLa 51 3 2 3,oA 52 5 4,oL 53 4 52,oA 54 0 3,oL 55 3 54,oA 56 3 4,oL 57 4 56,oE 58 2,oO 59 (.iaddr 1 (.t 58) (cI 0)),oH 60 59,oO 61 (.call true (.c (.fn 120 [] [])) [.t 55,.t 57,.t 60]),oK 62 61,oG 63 62,oO 64 (.bslice 1 (.int .i64 0) 1 [(0,(.t 63))]),cF 65 106 [.t 51,.t 53,.t 64]]) (sr [oD 67 .eql 17 6,oM 66 67] (.cond (.t 66) (.region [oA 68 0 3,oL 69 3 68,oA 70 3 4,oL 71 4 70,oM 72 2,oO 73 (.iaddr 1 (.t 72) (cI 0)),oH 74 73,oM 76 2,oO 77 (.iaddr 1 (.t 76) (cI 1)),oH 78 77,oO 75 (.call true (.c (.fn 120 [] [])) [.t 69,.t 71,.t 74]),oK 79 75,oV 79 78]) (sr [oD 81 .eql 17 7,oM 80 81] (.cond (.t 80) (.region [oLa 82 3 2 3,oA 83 5 4,oL 84 4 83,oA 85 0 3,oL 86 3 85,oA 87 3 4,oL 88 4 87,oE 89 2,oO 90 (.call true (.c (.fn 53 [] [])) [.t 86,.t 88,.t 89]),oO 91 (.bslice 1 (.int .i64 0) 1 [(0,(.t 90))]),cF 92 106 [.t 82,.t 84,.t 91]]) (sr [oD 94 .eql 17 8,oM 93 94] (.cond (.t 93) (.region [oLa 95 3 2 3,oA 96 5 4,oL 97 4 96,oA 98 0 3,oL 99 3 98,oO 100 (.call true (.c (.fn 121 [] [])) [.t 99]),oO 101 (.bslice 1 (.int .i64 0) 1 [(0,(.t 100))]),cF 102 106 [.t 95,.t 97,.t 101]]) (sr [oD 104 .eql 17 9,oM 103 104] (.cond (.t 103) (.region [oA 105 0 3,oL 106 3 105,oA 107 0 3,oL 108 3 107,oK 109 108,oA 110 4 109,oA 111 2 110,oO 112 (.loadT .any (.t 111)),oE 113 2,oO 114 (.iaddr 1 (.t 113) (cI 0)),oH 115 114,oO 116 (.bslice 1 (.int .i64 0) 1 [(0,(.t 115))]),oO 117 (.append 1 8 (.t 112) (.t 116)),oK 118 106,oA 119 4 118,oA 120 2 119,oN (.storeT .any (.t 120) 117)]) .skip))))))))))))))))))⟩
theorem ok109:zg Try.prog Try.f109 F109=true:=by kernel_rfl
def F93:IFn:=⟨70,2,[.cell 4 true 2],false,false,(sr [oO 2 (.boxL 2 (.t 0)),oO 3 (.boxL 3 (.t 1)),oO 4 (.boxL 4 (.c (.agg [.int .i64 0,.slice .fit 1 []])))] (.seq (sr [oA 6 0 2,oL 7 2 6,oK 8 7,oA 9 4 8,oA 10 4 9,oG 11 10,oD 12 .eql 11 0] (.cond (.t 12) (.region [oA 13 0 2,oL 14 2 13,oO 15 (.call true (.c (.fn 104 [] [])) [.t 14,cI 0])]) .skip)) (sr [oA 16 0 2,oL 17 2 16,oK 18 17,oA 19 4 18,oA 20 4 19,oG 21 20,oD 22 .sub 21 1,oK 23 17,oA 24 4 23,oA 25 4 24,oV 25 22] (sr [oLa 26 2 2 2,oA 27 4 3,oL 28 3 27,cF 29 105 [.t 26,.t 28],oE 5 29] (.seq (sr [oA 30 0 3,oL 31 3 30] (.block 0 (.seq (sr [oD 37 .eql 31 1,oM 36 37] (.cond (.t 36) .skip (.region [oD 38 .eql 31 2,oM 36 38]))) (.cond (.t 36) (.region [oLa 39 2 2 2,oA 40 5 3,oL 41 3 40,oA 42 2 3,oL 43 3 42,oO 44 (.bslice 1 (.int .i64 0) 1 [(0,(.t 43))]),cF 45 106 [.t 39,.t 41,.t 44]]) (.seq (sr [oD 47 .eql 31 12,oM 46 47] (.cond (.t 46) .skip (sr [oD 48 .eql 31 13,oM 46 48] (.cond (.t 46) .skip (sr [oD 49 .eql 31 14,oM 46 49] (.cond (.t 46) .skip (.region [oD 50 .eql 31 15,oM 46 50]))))))) (.cond (.t 46) (sr [oA 51 0 3,oL 52 3 51,oE 53 5,oO 54 (.build [.int .i64 0,.slice .fit 1 []] [(0,1,(.t 52)),(1,1,(.t 53))]),oS 4 2 4 54] .ret) (sr [oD 56 .eql 31 10,oM 55 56] (.cond (.t 55) (sr [oLa 57 2 2 2,oLa 58 3 8 3,oE 59 5,oO 60 (.iaddr 1 (.t 59) (cI 0)),oH 61 60,oO 62 (.call true (.c (.fn 107 [] [])) [.t 57,.t 58,.t 61]),oS 4 2 4 62] .ret) (sr [oD 64 .eql 31 11,oM 63 64] (.cond (.t 63) (sr [oLa 65 2 2 2,oLa 66 3 8 3,oE 67 5,oO 68 (.call true (.c (.fn 108 [] [])) [.t 65,.t 66,.t 67]),oS 4 2 4 68] .ret) (.region [oLa 32 2 2 2,oLa 33 3 8 3,oE 34 5,oO 35 (.call true (.c (.fn 109 [] [])) [.t 32,.t 33,.t 34])]))))))))))) (sr [oO 69 (.build [.int .i64 0,.slice .fit 1 []] []),oS 4 2 4 69] .ret))))))⟩
theorem ok93:zg Try.prog Try.f93 F93=true:=by kernel_rfl
def L75_0:ICode:= .loop [2,4,8,9,10] [6,7]
 (sr [
 oP 11 .lss 10 9]
 (.seq
 (.cond (.t 11)
 .skip
 (.exit 0))
 (.seq
 (.block 1
 (sr [
 oI 12 8 8 10,
 oW 13 8 12,
 oO 6 (.boxL 6 (.c (.agg [.int .i64 0,.int .i64 0,.int .i64 0,.str [],.slice .fit 1 [],.slice .fit 1 [],.slice .fit 1 [],.slice .fit 1 []]))),
 oS 6 8 6 13]
 (sr [
 oLa 14 2 2 2,
 oLa 15 6 8 6,
 oO 16 (.call true (.c (.fn 93 [] [])) [.t 14,.t 15]),
 oO 7 (.boxL 7 (.c (.agg [.int .i64 0,.slice .fit 1 []]))),
 oS 7 2 7 16]
 (sr [
 oA 17 0 7,
 oL 18 7 17,
 oD 19 .neq 18 0]
 (.cond (.t 19)
 (sr [
 oLa 20 7 2 7,
 oS 4 2 4 20]
 .ret)
 .skip)))))
 (.region [
 oD 21 .add 10 1,
 oM 10 21]))))
abbrev K75_0:List Nat:=[2,4,8,9]
abbrev B75_0:List Nat:=[2]
def F75:IFn:=⟨23,2,[.cell 4 true 2],false,false,(sr [oO 2 (.boxL 2 (.t 0)),oO 4 (.boxL 4 (.c (.agg [.int .i64 0,.slice .fit 1 []])))] (.seq (sr [oE 8 1,oY 9 8,oZ 10 0] (.block 0 L75_0)) (sr [oO 22 (.build [.int .i64 0,.slice .fit 1 []] []),oS 4 2 4 22] .ret)))⟩
theorem ok75:zg Try.prog Try.f75 F75=true:=by kernel_rfl
def F53:IFn:=⟨39,3,[.tmp 6],true,false,(sr [oZ 6 0] (sr [oM 9 0,oK 10 9,oA 11 0 10,oA 12 1 11,oG 13 12,oM 14 0,oK 15 14,oA 16 0 15,oW 17 2 16,oM 18 1,cP 19 40 [.t 17,.t 18],oI 20 5 13 19,oO 21 (.load .imm true 5 (.t 20)),oO 7 (.boxL 7 (.c (.agg [.str [],.int .i64 0,.int .i64 0,.slice .fit 1 [],.slice .fit 8 []]))),oS 7 5 7 21] (sr [oM 22 0,oA 23 3 7,oL 24 7 23,oY 25 24,oO 26 (.mksliceS 1 (.int .i64 0) 8 (.t 25) (.t 25)),oO 27 (.build [.nilp,.slice .fit 1 []] [(0,1,(.t 22)),(1,1,(.t 26))]),oO 8 (.boxL 8 (.c (.agg [.nilp,.slice .fit 1 []]))),oS 8 2 8 27] (sr [oA 28 1 8,oL 29 8 28,oE 30 2,oO 31 (.copyS 1 8 (.t 29) (.t 30))] (sr [oLa 32 8 2 8,oA 33 4 7,oL 34 7 33,oO 35 (.call true (.c (.fn 75 [] [])) [.t 32,.t 34]),oO 36 (.fld false 1 1 (.t 35)),oO 37 (.iaddr 1 (.t 36) (cI 0)),oG 38 37,oM 6 38] .ret)))))⟩
theorem ok53:zg Try.prog Try.f53 F53=true:=by kernel_rfl
def H31:HFn where
 ntmps:=13
 nargs:=1
 d:=2
 k:=52
 caps:=[.t 1]
 r1:=2
 r2:=1
 pre:=
 (.region [
 oO 1 (.boxI (.t 0))])
 rest:=
 (sr [
 oH 3 1,
 oH 4 1,
 oO 5 (.call true (.c (.fn 53 [] [])) [(.t 4),(.c (.str [109,97,105,110])),(.c (.slice .fit 1 []))]),
 oK 6 3,
 oA 7 4 6,
 oA 8 1 7,
 oV 8 5]
 (.region [
 oG 9 1,
 oK 10 9,
 oA 11 4 10,
 oA 12 0 11,
 oN (.store .any 1 (.t 12) (cI 1))]))
 code:=
 (sr [
 oM 3 1,
 oO 4 (.ifnil true (.t 3))]
 (.cond (.t 4)
 (.region [
 oG 5 0,
 oM 6 1,
 oO 7 (.tassert 101 (.t 6)),
 oO 8 (.fld false 0 1 (.t 7)),
 oK 9 5,
 oA 10 4 9,
 oA 11 0 10,
 oV 11 8])
 .skip))
theorem okH31:checkH Try.prog Try.f31 Try.f52 H31=true:=by kernel_rfl
def L16_0:ICode:= .loop [6,9,29,30,31] [11]
 (sr [
 oP 32 .lss 31 30]
 (.seq
 (.cond (.t 32)
 .skip
 (.exit 0))
 (.seq
 (.block 1
 (sr [
 oI 33 2 29 31,
 oW 34 2 33,
 oO 11 (.boxL 11 (.c (.agg [.str [],.int .i64 0]))),
 oS 11 2 11 34]
 (.region [
 oM 35 9,
 oK 36 35,
 oA 37 3 36,
 oG 38 37,
 oA 39 0 11,
 oL 40 11 39,
 oA 41 1 11,
 oL 42 11 41,
 oO 43 (.mksliceS 1 (.int .i64 0) 8 (.t 42) (.t 42)),
 oN (.mapset true (.t 38) (.t 40) (.t 43))])))
 (.region [
 oD 44 .add 31 1,
 oM 31 44]))))
abbrev K16_0:List Nat:=[6,9,29,30]
abbrev B16_0:List Nat:=[6]
def F16:IFn:=⟨51,3,[.cell 6 true 5],true,false,(sr [oO 3 (.boxL 3 (.t 0)),oO 6 (.boxL 6 (.c (.agg [.int .i64 0,.int .i64 0,.slice .fit 1 [],.int .i64 0,.int .i64 0])))] (.seq (sr [oLa 13 3 2 3,cP 14 9 [.t 13],oM 12 14,oX 15 12 0,oX 16 12 1,oM 7 15,oM 8 16] (sr [oM 17 7,oD 18 .neq 17 0] (.cond (.t 18) (sr [oO 19 (.build [.int .i64 0,.int .i64 0,.slice .fit 1 [],.int .i64 0,.int .i64 0] []),oS 6 5 6 19] .ret) .skip))) (sr [oLa 20 3 2 3,oE 21 1,oO 22 (.mkmap),oM 23 2,oO 24 (.max2 (.t 23) (cI 0)),oO 25 (.build [.int .i64 0,.int .i64 0,.slice .fit 1 [],.int .i64 0,.int .i64 0] [(4,1,(.t 24))]),oO 26 (.buildF [.slice .fit 2 [],.slice .fit 5 [],.slice .fit 1 [],.nilmap,.int .i64 0,.int .i64 0,.slice .fit 1 [],.int .i64 0,.int .i64 0] [(0,2,(.t 20)),(2,1,(.t 21)),(3,1,(.t 22)),(4,5,(.t 25))]),oO 27 (.boxS 9 (.t 26)),oM 9 27] (.seq (sr [oA 28 0 3,oL 29 3 28,oY 30 29,oZ 31 0] (.block 0 L16_0)) (sr [oM 45 9,cF 46 31 [.t 45]] (sr [oM 47 9,oK 48 47,oA 49 4 48,oW 50 5 49,oS 6 5 6 50] .ret))))))⟩
theorem ok16:zg Try.prog Try.f16 F16=true:=by kernel_rfl
def F32:IFn:=⟨4,1,[.tmp 2],false,false,(sr [oZ 2 0] (.seq (sr [oM 3 0] (.cond (.t 3) (sr [oZ 2 1] .ret) .skip)) (sr [oZ 2 0] .ret)))⟩
theorem ok32:zg Try.prog Try.f32 F32=true:=by kernel_rfl
def F17:IFn:=⟨108,3,[.tmp 6,.tmp 7],false,false,(sr [oZ 6 0,oC 7 bF] (.seq (sr [oM 8 0] (.block 0 (sr [oD 10 .eql 8 1,oM 9 10] (.cond (.t 9) (sr [oM 11 1,oM 12 2,oP 13 .add 11 12,oM 6 13,oC 7 bT] .ret) (sr [oD 15 .eql 8 2,oM 14 15] (.cond (.t 14) (sr [oM 16 1,oM 17 2,oP 18 .sub 16 17,oM 6 18,oC 7 bT] .ret) (sr [oD 20 .eql 8 3,oM 19 20] (.cond (.t 19) (sr [oM 21 1,oM 22 2,oP 23 .mul 21 22,oM 6 23,oC 7 bT] .ret) (.seq (sr [oD 25 .eql 8 4,oM 24 25] (.cond (.t 24) .skip (.region [oD 26 .eql 8 5,oM 24 26]))) (.cond (.t 24) (.seq (sr [oM 27 2,oD 28 .eql 27 0] (.cond (.t 28) (sr [oZ 6 0,oC 7 bF] .ret) .skip)) (.seq (sr [oM 29 0,oD 30 .eql 29 4] (.cond (.t 30) (sr [oM 31 1,oM 32 2,oP 33 .quo 31 32,oM 6 33,oC 7 bT] .ret) .skip)) (sr [oM 34 1,oM 35 2,oP 36 .rem 34 35,oM 6 36,oC 7 bT] .ret))) (sr [oD 38 .eql 8 6,oM 37 38] (.cond (.t 37) (sr [oM 39 1,oM 40 2,oP 41 .and 39 40,oM 6 41,oC 7 bT] .ret) (sr [oD 43 .eql 8 7,oM 42 43] (.cond (.t 42) (sr [oM 44 1,oM 45 2,oP 46 .or 44 45,oM 6 46,oC 7 bT] .ret) (sr [oD 48 .eql 8 8,oM 47 48] (.cond (.t 47) (sr [oM 49 1,oM 50 2,oP 51 .xor 49 50,oM 6 51,oC 7 bT] .ret) (sr [oD 53 .eql 8 9,oM 52 53] (.cond (.t 52) (sr [oM 54 1,oM 55 2,oD 56 .and 55 63,oP 57 .shl 54 56,oM 6 57,oC 7 bT] .ret) (sr [oD 59 .eql 8 10,oM 58 59] (.cond (.t 58) (sr [oM 60 1,oM 61 2,oD 62 .and 61 63,oP 63 .shr 60 62,oM 6 63,oC 7 bT] .ret) (sr [oD 65 .eql 8 11,oM 64 65] (.cond (.t 64) (sr [oM 66 1,oO 67 (.conv .u64 (.t 66)),oM 68 2,oD 69 .and 68 63,oP 70 .shr 67 69,oO 71 (.conv .i64 (.t 70)),oM 6 71,oC 7 bT] .ret) (sr [oD 73 .eql 8 12,oM 72 73] (.cond (.t 72) (sr [oM 74 1,oM 75 2,oP 76 .lss 74 75,cP 77 32 [.t 76],oM 6 77,oC 7 bT] .ret) (sr [oD 79 .eql 8 13,oM 78 79] (.cond (.t 78) (sr [oM 80 1,oM 81 2,oP 82 .leq 80 81,cP 83 32 [.t 82],oM 6 83,oC 7 bT] .ret) (sr [oD 85 .eql 8 14,oM 84 85] (.cond (.t 84) (sr [oM 86 1,oM 87 2,oP 88 .gtr 86 87,cP 89 32 [.t 88],oM 6 89,oC 7 bT] .ret) (sr [oD 91 .eql 8 15,oM 90 91] (.cond (.t 90) (sr [oM 92 1,oM 93 2,oP 94 .geq 92 93,cP 95 32 [.t 94],oM 6 95,oC 7 bT] .ret) (sr [oD 97 .eql 8 16,oM 96 97] (.cond (.t 96) (sr [oM 98 1,oM 99 2,oP 100 .eql 98 99,cP 101 32 [.t 100],oM 6 101,oC 7 bT] .ret) (sr [oD 103 .eql 8 17,oM 102 103] (.cond (.t 102) (sr [oM 104 1,oM 105 2,oP 106 .neq 104 105,cP 107 32 [.t 106],oM 6 107,oC 7 bT] .ret) .skip)))))))))))))))))))))))))))))))))) (sr [oZ 6 0,oC 7 bF] .ret)))⟩
theorem ok17:zg Try.prog Try.f17 F17=true:=by kernel_rfl
def F18:IFn:=⟨92,0,[.tmp 0],true,false,(sr [oC 0 bF] (sr [oZ 1 1] (sr [oO 6 (.bslice 1 (.int .i64 0) 2 [(0,(cI 0)),(1,(cI 1))]),oO 7 (.bslice 1 (.int .i64 0) 2 [(0,(cI 2)),(1,(cI 3))]),oO 8 (.bslice 1 (.int .i64 0) 1 [(0,(cI 4))]),oO 9 (.bslice 1 (.int .i64 0) 2 [(0,(cI 2)),(1,(cI 3))]),oO 10 (.bslice 1 (.int .i64 0) 1 [(0,(cI 5))]),oO 11 (.build [.int .i64 0,.int .i64 0,.int .i64 0,.str [],.slice .fit 1 [],.slice .fit 1 [],.slice .fit 1 [],.slice .fit 1 []] [(0,1,(cI 4)),(1,1,(cI 14)),(4,1,(.t 9)),(5,1,(.t 10))]),oO 12 (.bslice 1 (.int .i64 0) 1 [(0,(cI 5))]),oO 13 (.bslice 1 (.int .i64 0) 1 [(0,(cI 2))]),oO 14 (.build [.int .i64 0,.int .i64 0,.int .i64 0,.str [],.slice .fit 1 [],.slice .fit 1 [],.slice .fit 1 [],.slice .fit 1 []] [(0,1,(cI 14)),(4,1,(.t 13))]),oO 15 (.bslice 8 (.agg [.int .i64 0,.int .i64 0,.int .i64 0,.str [],.slice .fit 1 [],.slice .fit 1 [],.slice .fit 1 [],.slice .fit 1 []]) 1 [(0,(.t 14))]),oO 16 (.bslice 1 (.int .i64 0) 2 [(0,(cI 2)),(1,(cI 3))]),oO 17 (.bslice 1 (.int .i64 0) 1 [(0,(cI 6))]),oO 18 (.build [.int .i64 0,.int .i64 0,.int .i64 0,.str [],.slice .fit 1 [],.slice .fit 1 [],.slice .fit 1 [],.slice .fit 1 []] [(0,1,(cI 4)),(1,1,(cI 1)),(4,1,(.t 16)),(5,1,(.t 17))]),oO 19 (.bslice 1 (.int .i64 0) 2 [(0,(cI 3)),(1,(cI 6))]),oO 20 (.build [.int .i64 0,.int .i64 0,.int .i64 0,.str [],.slice .fit 1 [],.slice .fit 1 [],.slice .fit 1 [],.slice .fit 1 []] [(0,1,(cI 13)),(4,1,(.t 19))]),oO 21 (.bslice 8 (.agg [.int .i64 0,.int .i64 0,.int .i64 0,.str [],.slice .fit 1 [],.slice .fit 1 [],.slice .fit 1 [],.slice .fit 1 []]) 2 [(0,(.t 18)),(1,(.t 20))]),oO 22 (.bslice 1 (.slice .fit 8 []) 2 [(0,(.t 15)),(1,(.t 21))]),oO 23 (.build [.int .i64 0,.int .i64 0,.int .i64 0,.str [],.slice .fit 1 [],.slice .fit 1 [],.slice .fit 1 [],.slice .fit 1 []] [(0,1,(cI 10)),(4,1,(.t 12)),(7,1,(.t 22))]),oO 24 (.bslice 8 (.agg [.int .i64 0,.int .i64 0,.int .i64 0,.str [],.slice .fit 1 [],.slice .fit 1 [],.slice .fit 1 [],.slice .fit 1 []]) 2 [(0,(.t 11)),(1,(.t 23))]),oO 25 (.bslice 1 (.slice .fit 8 []) 1 [(0,(.t 24))]),oO 26 (.build [.int .i64 0,.int .i64 0,.int .i64 0,.str [],.slice .fit 1 [],.slice .fit 1 [],.slice .fit 1 [],.slice .fit 1 []] [(0,1,(cI 11)),(4,1,(.t 6)),(6,1,(.t 7)),(5,1,(.t 8)),(7,1,(.t 25))]),oO 2 (.boxL 2 (.c (.agg [.int .i64 0,.int .i64 0,.int .i64 0,.str [],.slice .fit 1 [],.slice .fit 1 [],.slice .fit 1 [],.slice .fit 1 []]))),oS 2 8 2 26] (sr [oM 27 1,oM 28 1,oM 29 1,oM 30 1,oM 31 1,oM 32 1,oO 33 (.bslice 1 (.int .i64 0) 7 [(0,(.t 27)),(1,(.t 28)),(2,(.t 29)),(3,(.t 30)),(4,(.t 31)),(5,(cI 2)),(6,(.t 32))]),oO 34 (.bslice 1 (.int .i64 0) 1 [(0,(cI 0))]),oO 35 (.build [.int .i64 0,.int .i64 0,.int .i64 0,.str [],.slice .fit 1 [],.slice .fit 1 [],.slice .fit 1 [],.slice .fit 1 []] [(0,1,(cI 1)),(2,1,(cI 5)),(5,1,(.t 34))]),oO 36 (.bslice 1 (.int .i64 0) 1 [(0,(cI 1))]),oO 37 (.build [.int .i64 0,.int .i64 0,.int .i64 0,.str [],.slice .fit 1 [],.slice .fit 1 [],.slice .fit 1 [],.slice .fit 1 []] [(0,1,(cI 1)),(2,1,(cI 7)),(5,1,(.t 36))]),oLa 38 2 8 2,oO 39 (.bslice 1 (.int .i64 0) 1 [(0,(cI 4))]),oO 40 (.build [.int .i64 0,.int .i64 0,.int .i64 0,.str [],.slice .fit 1 [],.slice .fit 1 [],.slice .fit 1 [],.slice .fit 1 []] [(0,1,(cI 9)),(4,1,(.t 39))]),oO 41 (.bslice 1 (.int .i64 0) 1 [(0,(cI 4))]),oO 42 (.build [.int .i64 0,.int .i64 0,.int .i64 0,.str [],.slice .fit 1 [],.slice .fit 1 [],.slice .fit 1 [],.slice .fit 1 []] [(0,1,(cI 15)),(4,1,(.t 41))]),oO 43 (.bsliceS 8 (.agg [.int .i64 0,.int .i64 0,.int .i64 0,.str [],.slice .fit 1 [],.slice .fit 1 [],.slice .fit 1 [],.slice .fit 1 []]) 5 [(0,(.t 35)),(1,(.t 37)),(2,(.t 38)),(3,(.t 40)),(4,(.t 42))]),cF 44 15 [.t 33,.t 43],oO 3 (.boxL 3 (.c (.agg [.slice .fit 2 [],.slice .fit 5 []]))),oS 3 2 3 44] (sr [oA 45 1 3,oL 46 3 45,oO 47 (.iaddr 5 (.t 46) (cI 0)),oA 48 4 47,oG 49 48,oO 50 (.iaddr 8 (.t 49) (cI 0)),oA 51 2 50,oN (.store .any 1 (.t 51) (cI 8))] (.sealK [3] (sr [oLa 52 3 2 3,cP 53 16 [(.t 52),(.c (.slice .fit 1 [])),(cI 100)],oO 4 (.boxL 4 (.c (.agg [.int .i64 0,.int .i64 0,.slice .fit 1 [],.int .i64 0,.int .i64 0]))),oS 4 5 4 53] (sr [oLa 54 3 2 3,cP 55 16 [(.t 54),(.c (.slice .fit 1 [])),(cI 3)],oO 5 (.boxL 5 (.c (.agg [.int .i64 0,.int .i64 0,.slice .fit 1 [],.int .i64 0,.int .i64 0]))),oS 5 5 5 55] (sr [oA 56 0 4,oL 57 4 56,oD 58 .eql 57 1,oM 59 58,oT 59 60 (.faddr 1 (.t 4)),oT 59 61 (.load (.box 4) false 1 (.t 60)),oT 59 62 (.bin 0 [] .eql (.t 61) (cI 8)),oO 63 (.pick (.t 59) (.t 62) (.c bF)),oM 64 63,oT 64 65 (.faddr 2 (.t 4)),oT 64 66 (.load (.box 4) false 1 (.t 65)),oT 64 67 (.len 1 (.t 66)),oT 64 68 (.bin 0 [] .eql (.t 67) (cI 1)),oO 69 (.pick (.t 64) (.t 68) (.c bF)),oM 70 69,oT 70 71 (.faddr 2 (.t 4)),oT 70 72 (.load (.box 4) false 1 (.t 71)),oT 70 73 (.iaddr 1 (.t 72) (cI 0)),oT 70 74 (.load .any false 1 (.t 73)),oT 70 75 (.bin 0 [] .eql (.t 74) (cI 8)),oO 76 (.pick (.t 70) (.t 75) (.c bF)),oM 77 76,oT 77 78 (.faddr 3 (.t 4)),oT 77 79 (.load (.box 4) false 1 (.t 78)),oT 77 80 (.bin 0 [] .eql (.t 79) (cI 2)),oO 81 (.pick (.t 77) (.t 80) (.c bF)),oM 82 81,oT 82 83 (.faddr 0 (.t 5)),oT 82 84 (.load (.box 5) false 1 (.t 83)),oT 82 85 (.bin 0 [] .eql (.t 84) (cI 0)),oO 86 (.pick (.t 82) (.t 85) (.c bF)),oM 87 86,oT 87 88 (.faddr 4 (.t 5)),oT 87 89 (.load (.box 5) false 1 (.t 88)),oT 87 90 (.bin 0 [] .eql (.t 89) (cI 0)),oO 91 (.pick (.t 87) (.t 90) (.c bF)),oM 0 91] .ret)))))))))⟩
theorem ok18:zg Try.prog Try.f18 F18=true:=by kernel_rfl
def F5:IFn:=⟨76,3,[.tmp 6],true,false,(sr [oC 6 bF] (sr [oM 12 2,oO 13 (.conv .i64 (.t 12)),oD 14 .rem 13 11,oB 15 .add (cI 1) (.t 14),oM 7 15] (sr [oO 16 (.bslice 1 (.int .i64 0) 3 [(0,(cI 1)),(1,(cI 1)),(2,(cI 1))]),oO 17 (.bslice 1 (.int .i64 0) 1 [(0,(cI 0))]),oO 18 (.build [.int .i64 0,.int .i64 0,.int .i64 0,.str [],.slice .fit 1 [],.slice .fit 1 [],.slice .fit 1 [],.slice .fit 1 []] [(0,1,(cI 8)),(5,1,(.t 17))]),oO 19 (.bslice 1 (.int .i64 0) 1 [(0,(cI 1))]),oO 20 (.build [.int .i64 0,.int .i64 0,.int .i64 0,.str [],.slice .fit 1 [],.slice .fit 1 [],.slice .fit 1 [],.slice .fit 1 []] [(0,1,(cI 8)),(5,1,(.t 19))]),oM 21 7,oO 22 (.bslice 1 (.int .i64 0) 2 [(0,(cI 0)),(1,(cI 1))]),oO 23 (.bslice 1 (.int .i64 0) 1 [(0,(cI 2))]),oO 24 (.build [.int .i64 0,.int .i64 0,.int .i64 0,.str [],.slice .fit 1 [],.slice .fit 1 [],.slice .fit 1 [],.slice .fit 1 []] [(0,1,(cI 4)),(1,1,(.t 21)),(4,1,(.t 22)),(5,1,(.t 23))]),oO 25 (.bslice 1 (.int .i64 0) 1 [(0,(cI 2))]),oO 26 (.build [.int .i64 0,.int .i64 0,.int .i64 0,.str [],.slice .fit 1 [],.slice .fit 1 [],.slice .fit 1 [],.slice .fit 1 []] [(0,1,(cI 15)),(4,1,(.t 25))]),oO 27 (.bslice 8 (.agg [.int .i64 0,.int .i64 0,.int .i64 0,.str [],.slice .fit 1 [],.slice .fit 1 [],.slice .fit 1 [],.slice .fit 1 []]) 4 [(0,(.t 18)),(1,(.t 20)),(2,(.t 24)),(3,(.t 26))]),cF 28 15 [.t 16,.t 27],oO 8 (.boxL 8 (.c (.agg [.slice .fit 2 [],.slice .fit 5 []]))),oS 8 2 8 28] (.sealK [8] (sr [oLa 29 8 2 8,oM 30 0,oM 31 1,oO 32 (.bslice 1 (.int .i64 0) 2 [(0,(.t 30)),(1,(.t 31))]),cP 33 16 [.t 29,.t 32,cI 10],oO 9 (.boxL 9 (.c (.agg [.int .i64 0,.int .i64 0,.slice .fit 1 [],.int .i64 0,.int .i64 0]))),oS 9 5 9 33] (sr [oM 35 7,oM 36 0,oM 37 1,cP 38 17 [.t 35,.t 36,.t 37],oM 34 38,oX 39 34 0,oX 40 34 1,oM 10 39,oM 11 40] (.seq (sr [oM 41 11,oU 42 41] (.cond (.t 42) (sr [cP 43 18 [],oM 44 43,oT 44 45 (.faddr 0 (.t 9)),oT 44 46 (.load (.box 9) false 1 (.t 45)),oT 44 47 (.bin 0 [] .eql (.t 46) (cI 2)),oO 48 (.pick (.t 44) (.t 47) (.c bF)),oM 49 48,oT 49 50 (.faddr 3 (.t 9)),oT 49 51 (.load (.box 9) false 1 (.t 50)),oT 49 52 (.bin 0 [] .eql (.t 51) (cI 3)),oO 53 (.pick (.t 49) (.t 52) (.c bF)),oM 6 53] .ret) .skip)) (sr [cP 54 18 [],oM 55 54,oT 55 56 (.faddr 0 (.t 9)),oT 55 57 (.load (.box 9) false 1 (.t 56)),oT 55 58 (.bin 0 [] .eql (.t 57) (cI 1)),oO 59 (.pick (.t 55) (.t 58) (.c bF)),oM 60 59,oT 60 61 (.faddr 1 (.t 9)),oT 60 62 (.load (.box 9) false 1 (.t 61)),oTm 60 63 10,oT 60 64 (.bin 0 [] .eql (.t 62) (.t 63)),oO 65 (.pick (.t 60) (.t 64) (.c bF)),oM 66 65,oT 66 67 (.faddr 3 (.t 9)),oT 66 68 (.load (.box 9) false 1 (.t 67)),oT 66 69 (.bin 0 [] .eql (.t 68) (cI 3)),oO 70 (.pick (.t 66) (.t 69) (.c bF)),oM 71 70,oT 71 72 (.faddr 4 (.t 9)),oT 71 73 (.load (.box 9) false 1 (.t 72)),oT 71 74 (.bin 0 [] .eql (.t 73) (cI 6)),oO 75 (.pick (.t 71) (.t 74) (.c bF)),oM 6 75] .ret))))))))⟩
theorem ok5:zg Try.prog Try.f5 F5=true:=by kernel_rfl
def fns:Nat->Option IFn
 |15=>some F15
 |60=>some F60
 |80=>some F80
 |61=>some F61
 |62=>some F62
 |38=>some F38
 |39=>some F39
 |63=>some F63
 |64=>some F64
 |40=>some F40
 |23=>some F23
 |65=>some F65
 |41=>some F41
 |42=>some F42
 |49=>some F49
 |91=>some F91
 |72=>some F72
 |92=>some F92
 |74=>some F74
 |73=>some F73
 |50=>some F50
 |51=>some F51
 |29=>some F29
 |81=>some F81
 |110=>some F110
 |94=>some F94
 |111=>some F111
 |112=>some F112
 |95=>some F95
 |113=>some F113
 |97=>some F97
 |96=>some F96
 |82=>some F82
 |67=>some F67
 |83=>some F83
 |84=>some F84
 |114=>some F114
 |122=>some F122
 |115=>some F115
 |98=>some F98
 |123=>some F123
 |116=>some F116
 |117=>some F117
 |99=>some F99
 |85=>some F85
 |66=>some F66
 |43=>some F43
 |24=>some F24
 |9=>some F9
 |104=>some F104
 |105=>some F105
 |106=>some F106
 |107=>some F107
 |108=>some F108
 |124=>some F124
 |118=>some F118
 |126=>some F126
 |125=>some F125
 |119=>some F119
 |120=>some F120
 |121=>some F121
 |109=>some F109
 |93=>some F93
 |75=>some F75
 |53=>some F53
 |16=>some F16
 |32=>some F32
 |17=>some F17
 |18=>some F18
 |5=>some F5
 |_=>none
set_option maxRecDepth 100000 in
theorem fnsOk:∀f F,fns f=some F->∃fn,Try.prog.funcs[f]? =some fn/\zg Try.prog fn F=true:=by
 intro f F h;unfold fns at h;split at h
 ·cases h;exact⟨Try.f15,Try.func15,ok15⟩
 ·cases h;exact⟨Try.f60,Try.func60,ok60⟩
 ·cases h;exact⟨Try.f80,Try.func80,ok80⟩
 ·cases h;exact⟨Try.f61,Try.func61,ok61⟩
 ·cases h;exact⟨Try.f62,Try.func62,ok62⟩
 ·cases h;exact⟨Try.f38,Try.func38,ok38⟩
 ·cases h;exact⟨Try.f39,Try.func39,ok39⟩
 ·cases h;exact⟨Try.f63,Try.func63,ok63⟩
 ·cases h;exact⟨Try.f64,Try.func64,ok64⟩
 ·cases h;exact⟨Try.f40,Try.func40,ok40⟩
 ·cases h;exact⟨Try.f23,Try.func23,ok23⟩
 ·cases h;exact⟨Try.f65,Try.func65,ok65⟩
 ·cases h;exact⟨Try.f41,Try.func41,ok41⟩
 ·cases h;exact⟨Try.f42,Try.func42,ok42⟩
 ·cases h;exact⟨Try.f49,Try.func49,ok49⟩
 ·cases h;exact⟨Try.f91,Try.func91,ok91⟩
 ·cases h;exact⟨Try.f72,Try.func72,ok72⟩
 ·cases h;exact⟨Try.f92,Try.func92,ok92⟩
 ·cases h;exact⟨Try.f74,Try.func74,ok74⟩
 ·cases h;exact⟨Try.f73,Try.func73,ok73⟩
 ·cases h;exact⟨Try.f50,Try.func50,ok50⟩
 ·cases h;exact⟨Try.f51,Try.func51,ok51⟩
 ·cases h;exact⟨Try.f29,Try.func29,ok29⟩
 ·cases h;exact⟨Try.f81,Try.func81,ok81⟩
 ·cases h;exact⟨Try.f110,Try.func110,ok110⟩
 ·cases h;exact⟨Try.f94,Try.func94,ok94⟩
 ·cases h;exact⟨Try.f111,Try.func111,ok111⟩
 ·cases h;exact⟨Try.f112,Try.func112,ok112⟩
 ·cases h;exact⟨Try.f95,Try.func95,ok95⟩
 ·cases h;exact⟨Try.f113,Try.func113,ok113⟩
 ·cases h;exact⟨Try.f97,Try.func97,ok97⟩
 ·cases h;exact⟨Try.f96,Try.func96,ok96⟩
 ·cases h;exact⟨Try.f82,Try.func82,ok82⟩
 ·cases h;exact⟨Try.f67,Try.func67,ok67⟩
 ·cases h;exact⟨Try.f83,Try.func83,ok83⟩
 ·cases h;exact⟨Try.f84,Try.func84,ok84⟩
 ·cases h;exact⟨Try.f114,Try.func114,ok114⟩
 ·cases h;exact⟨Try.f122,Try.func122,ok122⟩
 ·cases h;exact⟨Try.f115,Try.func115,ok115⟩
 ·cases h;exact⟨Try.f98,Try.func98,ok98⟩
 ·cases h;exact⟨Try.f123,Try.func123,ok123⟩
 ·cases h;exact⟨Try.f116,Try.func116,ok116⟩
 ·cases h;exact⟨Try.f117,Try.func117,ok117⟩
 ·cases h;exact⟨Try.f99,Try.func99,ok99⟩
 ·cases h;exact⟨Try.f85,Try.func85,ok85⟩
 ·cases h;exact⟨Try.f66,Try.func66,ok66⟩
 ·cases h;exact⟨Try.f43,Try.func43,ok43⟩
 ·cases h;exact⟨Try.f24,Try.func24,ok24⟩
 ·cases h;exact⟨Try.f9,Try.func9,ok9⟩
 ·cases h;exact⟨Try.f104,Try.func104,ok104⟩
 ·cases h;exact⟨Try.f105,Try.func105,ok105⟩
 ·cases h;exact⟨Try.f106,Try.func106,ok106⟩
 ·cases h;exact⟨Try.f107,Try.func107,ok107⟩
 ·cases h;exact⟨Try.f108,Try.func108,ok108⟩
 ·cases h;exact⟨Try.f124,Try.func124,ok124⟩
 ·cases h;exact⟨Try.f118,Try.func118,ok118⟩
 ·cases h;exact⟨Try.f126,Try.func126,ok126⟩
 ·cases h;exact⟨Try.f125,Try.func125,ok125⟩
 ·cases h;exact⟨Try.f119,Try.func119,ok119⟩
 ·cases h;exact⟨Try.f120,Try.func120,ok120⟩
 ·cases h;exact⟨Try.f121,Try.func121,ok121⟩
 ·cases h;exact⟨Try.f109,Try.func109,ok109⟩
 ·cases h;exact⟨Try.f93,Try.func93,ok93⟩
 ·cases h;exact⟨Try.f75,Try.func75,ok75⟩
 ·cases h;exact⟨Try.f53,Try.func53,ok53⟩
 ·cases h;exact⟨Try.f16,Try.func16,ok16⟩
 ·cases h;exact⟨Try.f32,Try.func32,ok32⟩
 ·cases h;exact⟨Try.f17,Try.func17,ok17⟩
 ·cases h;exact⟨Try.f18,Try.func18,ok18⟩
 ·cases h;exact⟨Try.f5,Try.func5,ok5⟩
 ·cases h
def hand:Nat->Option HFn
 |31=>some H31
 |_=>none
set_option maxRecDepth 100000 in
theorem handOk:∀f H,hand f=some H->∃fn cl,Try.prog.funcs[f]? =some fn/\Try.prog.funcs[H.k]? =some cl/\checkH Try.prog fn cl H=true:=by
 intro f H h;unfold hand at h;split at h
 ·cases h;exact⟨Try.f31,Try.f52,Try.func31,Try.func52,okH31⟩
 ·cases h
noncomputable def E:Env:={fn:=fns,ext:=fun _=>none,hand:=hand}
theorem envOk:EnvOk Try.prog [] E:=⟨fnsOk,fun f g h args st r st' hg=>(nomatch h),handOk⟩
end PE.U

namespace PE.U
open Go PE
theorem zva(b:Bool)(σ:zb):zh E 124 [.bool b] σ=some (.ret (.int .i64 (if b then 1 else 0)),σ):=by
 refine ze rfl rfl rfl rfl ?_;cases b<;>simp[F124]
theorem zT(b:Bool)(σ:zb):zh E 32 [.bool b] σ=some (.ret (.int .i64 (if b then 1 else 0)),σ):=by
 refine ze rfl rfl rfl rfl ?_;cases b<;>simp[F32]
noncomputable def one(op a:Int):Int:=
 if op=20 then W (0-a)else if op=21 then xor64 (-1) a else if op=22 then(if a=0 then 1 else 0)
 else if op=23 then W (zW .i8 a)else if op=24 then W (zW .i16 a)else if op=25 then W (zW .i32 a)
 else if op=26 then W (zW .u8 a)else if op=27 then W (zW .u16 a)else if op=28 then W (zW .u32 a)else 0
theorem one_spec(op a:Int)(σ:zb):zh E 118 [.int .i64 op,.int .i64 a] σ=some (.ret (.int .i64 (one op a)),σ):=by
 refine ze rfl rfl rfl rfl ?_;by_cases h1:op=20
 ·subst h1;simp[F118,one]
 by_cases h2:op=21
 ·subst h2;simp[F118,one]
 by_cases h3:op=22
 ·subst h3;simp[F118,one,zva]
 by_cases h4:op=23
 ·subst h4;simp[F118,one,zva]
 by_cases h5:op=24
 ·subst h5;simp[F118,one,zva]
 by_cases h6:op=25
 ·subst h6;simp[F118,one,zva]
 by_cases h7:op=26
 ·subst h7;simp[F118,one,zva]
 by_cases h8:op=27
 ·subst h8;simp[F118,one,zva]
 by_cases h9:op=28
 ·subst h9;simp[F118,one,zva]
 simp[F118,one,h1,h2,h3,h4,h5,h6,h7,h8,h9]
def cmp(op a b:Int):Bool×Bool:=
 if op=12 then(decide (a<b),true)else if op=13 then(decide (a<=b),true)else if op=14 then(decide (b<a),true)
 else if op=15 then(decide (b<=a),true)else if op=16 then(decide (a=b),true)else if op=17 then(!decide (a=b),true)else(false,false)
theorem zY(op a b:Int)(σ:zb):zh E 126 [.int .i64 op,.int .i64 a,.int .i64 b] σ=some (.ret (.tup [.bool (cmp op a b).1,.bool (cmp op a b).2]),σ):=by
 refine ze rfl rfl rfl rfl ?_;by_cases h1:op=12
 ·subst h1;simp[F126,cmp]
 by_cases h2:op=13
 ·subst h2;simp[F126,cmp]
 by_cases h3:op=14
 ·subst h3;simp[F126,cmp]
 by_cases h4:op=15
 ·subst h4;simp[F126,cmp]
 by_cases h5:op=16
 ·subst h5;simp[F126,cmp]
 by_cases h6:op=17
 ·subst h6;simp[F126,cmp]
 simp[F126,cmp,h1,h2,h3,h4,h5,h6]
noncomputable def two(op a b:Int):Int×Bool:=
 if(cmp op a b).2=true then(if(cmp op a b).1=true then 1 else 0,true)
 else if op=1 then(W (a+b),true)else if op=2 then(W (a-b),true)else if op=3 then(W (a*b),true)
 else if op=6 then(and64 a b,true)else if op=7 then(or64 a b,true)else if op=8 then(xor64 a b,true)
 else if op=9 then(W (a*2^(min (and64 b 63).toNat 64)),true)else if op=10 then(shrK a (min (and64 b 63).toNat 64),true)
 else if op=11 then(W (shrK (zW .u64 a) (min (and64 b 63).toNat 64)),true)
 else if b=0 then(0,false)else if op=4 then(W (a.tdiv b),true)else if op=5 then(remK a b,true)else(0,false)
theorem wrap64(n:Int):W n=(yp 64 n).toInt:=by
 rw[BitVec.toInt_ofInt,W,zF,IntKind.wrap_i64];unfold Int.bmod;simp only;split<;>omega
theorem zmc(z:BitVec 64):W (z.toNat:Int)=z.toInt:=by
 rw[wrap64];simp
theorem and64_eq(a b:Int):and64 a b=(yp 64 a&&&yp 64 b).toInt:=(andK_eq .i64 a b).trans ((zF _ _).symm.trans (zmc (yp 64 a&&&yp 64 b)))
theorem or64_eq(a b:Int):or64 a b=(yp 64 a|||yp 64 b).toInt:=(orK_eq .i64 a b).trans ((zF _ _).symm.trans (zmc (yp 64 a|||yp 64 b)))
theorem xor64_eq(a b:Int):xor64 a b=(yp 64 a^^^yp 64 b).toInt:=(xorK_eq .i64 a b).trans ((zF _ _).symm.trans (zmc (yp 64 a^^^yp 64 b)))
theorem and_mask(a:Int)(m:Nat)(hm:m<63):and64 a (2^m-1)=a%2^m:=by
 rw[and64_eq];have e:(yp 64 (2^m-1)).toNat=2^m-1:=by
  have h1:(2:Nat)^m<2^63:=Nat.pow_lt_pow_right (by decide) hm;have h2:0<(2:Nat)^m:=Nat.pow_pos (by decide);have h3:((2:Int)^m-1)=(((2:Nat)^m-1:Nat):Int):=by
   rw[Int.natCast_sub h2];simp
  rw[h3,BitVec.ofInt_natCast,BitVec.toNat_ofNat];apply Nat.mod_eq_of_lt;omega
 have hN:(yp 64 a&&&yp 64 (2^m-1)).toNat=(yp 64 a).toNat%2^m:=by
  rw[BitVec.toNat_and,e,Nat.and_two_pow_sub_one_eq_mod]
 have hlt:(yp 64 a).toNat%2^m<2^63:=by
  have h1:(2:Nat)^m<2^63:=Nat.pow_lt_pow_right (by decide) hm;have:=Nat.mod_lt (yp 64 a).toNat (Nat.pow_pos (n:=m) (show 0<2 by decide));omega
 rw[BitVec.toInt_eq_toNat_cond,if_pos (by rw[hN];omega),hN,BitVec.toNat_ofInt,Int.natCast_emod,Int.toNat_of_nonneg (Int.emod_nonneg _ (by decide))];have:((2^m:Nat):Int)=(2:Int)^m:=by simp
 rw[this];apply Int.emod_emod_of_dvd;have hd:(2:Nat)^m∣2^64:=Nat.pow_dvd_pow 2 (by omega);have:=Int.natCast_dvd_natCast.2 hd;simpa using this
theorem and63(b:Int):0<=and64 b 63/\and64 b 63<64:=by
 have:=and_mask b 6 (by decide);simp at this;rw[this];omega
theorem zab(b:Int):¬and64 b 63<0:=by have:=(and63 b).1;omega
theorem two_spec(op a b:Int)(σ:zb):zh E 125 [.int .i64 op,.int .i64 a,.int .i64 b] σ=some (.ret (.tup [.int .i64 (two op a b).1,.bool (two op a b).2]),σ):=by
 refine ze rfl rfl rfl rfl ?_;by_cases hc:(cmp op a b).2=true
 ·simp[F125,two,zY,hc,zva]
 have hc':(cmp op a b).2=false:=by simpa using hc
 by_cases h1:op=1
 ·subst h1;simp[F125,two,zY,hc']
 by_cases h2:op=2
 ·subst h2;simp[F125,two,zY,hc']
 by_cases h3:op=3
 ·subst h3;simp[F125,two,zY,hc']
 by_cases h4:op=6
 ·subst h4;simp[F125,two,zY,hc']
 by_cases h5:op=7
 ·subst h5;simp[F125,two,zY,hc']
 by_cases h6:op=8
 ·subst h6;simp[F125,two,zY,hc']
 by_cases h7:op=9
 ·subst h7;simp[F125,two,zY,hc',zab,yC]
 by_cases h8:op=10
 ·subst h8;simp[F125,two,zY,hc',zab,yC]
 by_cases h9:op=11
 ·subst h9;simp[F125,two,zY,hc',zab,yC]
 by_cases h10:b=0
 ·subst h10;simp[F125,two,zY,hc',h1,h2,h3,h4,h5,h6,h7,h8,h9]
 by_cases h11:op=4
 ·subst h11;simp[F125,two,zY,hc',h10]
 by_cases h12:op=5
 ·subst h12;simp[F125,two,zY,hc',h10]
 simp[F125,two,zY,hc',h1,h2,h3,h4,h5,h6,h7,h8,h9,h10,h11,h12]
theorem rtwo_spec(op a b:Int)(σ:zb):zh E 17 [.int .i64 op,.int .i64 a,.int .i64 b] σ=some (.ret (.tup [.int .i64 (two op a b).1,.bool (two op a b).2]),σ):=by
 refine ze rfl rfl rfl rfl ?_;by_cases h1:op=1
 ·subst h1;simp[F17,two,cmp,zT,zab,yC]
 by_cases h2:op=2
 ·subst h2;simp[F17,two,cmp,zT,zab,yC]
 by_cases h3:op=3
 ·subst h3;simp[F17,two,cmp,zT,zab,yC]
 by_cases h4:op=4
 ·subst h4;by_cases hb:b=0
  ·subst hb;simp[F17,two,cmp]
  ·simp[F17,two,cmp,hb]
 by_cases h5:op=5
 ·subst h5;by_cases hb:b=0
  ·subst hb;simp[F17,two,cmp]
  ·simp[F17,two,cmp,hb]
 by_cases h6:op=6
 ·subst h6;simp[F17,two,cmp,zT,zab,yC]
 by_cases h7:op=7
 ·subst h7;simp[F17,two,cmp,zT,zab,yC]
 by_cases h8:op=8
 ·subst h8;simp[F17,two,cmp,zT,zab,yC]
 by_cases h9:op=9
 ·subst h9;simp[F17,two,cmp,zT,zab,yC]
 by_cases h10:op=10
 ·subst h10;simp[F17,two,cmp,zT,zab,yC]
 by_cases h11:op=11
 ·subst h11;simp[F17,two,cmp,zT,zab,yC]
 by_cases h12:op=12
 ·subst h12;simp[F17,two,cmp,zT,zab,yC]
 by_cases h13:op=13
 ·subst h13;simp[F17,two,cmp,zT,zab,yC]
 by_cases h14:op=14
 ·subst h14;simp[F17,two,cmp,zT,zab,yC]
 by_cases h15:op=15
 ·subst h15;simp[F17,two,cmp,zT,zab,yC]
 by_cases h16:op=16
 ·subst h16;simp[F17,two,cmp,zT,zab,yC]
 by_cases h17:op=17
 ·subst h17;simp[F17,two,cmp,zT,zab,yC]
 simp[F17,two,cmp,h1,h2,h3,h4,h5,h6,h7,h8,h9,h10,h11,h12,h13,h14,h15,h16,h17]
theorem W_id(n:Int)(h: -9223372036854775808<=n)(h':n<=9223372036854775807):W n=n:=by
 rw[W,zF,IntKind.wrap_i64];omega
theorem wrapK_i8(n:Int):zW .i8 n=(n+128)%256-128:=by
 rw[zF];simp[yB,yC,yya];split<;>omega
theorem wrapK_i16(n:Int):zW .i16 n=(n+32768)%65536-32768:=by
 rw[zF];simp[yB,yC,yya];split<;>omega
theorem wrapK_i32(n:Int):zW .i32 n=(n+2147483648)%4294967296-2147483648:=by
 rw[zF,IntKind.wrap_i32]
theorem wrapK_u8(n:Int):zW .u8 n=n%256:=by rw[zF,IntKind.wrap_u8]
theorem wrapK_u16(n:Int):zW .u16 n=n%65536:=by
 rw[zF];simp[yB,yC,yya]
theorem wrapK_u32(n:Int):zW .u32 n=n%4294967296:=by rw[zF,IntKind.wrap_u32]
theorem not64(a:Int):xor64 (-1) a=W (-1-a):=by
 rw[xor64_eq,wrap64];congr 1;have h1:yp 64 (-1)=BitVec.allOnes 64:=by decide
 rw[h1,BitVec.allOnes_xor];have h2:(-1-a)= -a-1:=by omega
 apply BitVec.eq_of_toInt_eq;rw[BitVec.toInt_not,BitVec.toInt_ofInt,BitVec.toNat_ofInt];have:0<=a%((2^64:Nat):Int):=Int.emod_nonneg _ (by decide);simp only[Int.bmod];omega
structure Node where
 kind:Int
 op:Int
 n:Int
 name:List UInt8
 args:List Int
 outs:List Int
 params:List Int
 kids:List (List Node)
structure Flow where
 name:List UInt8
 type:Int
 params:Int
 types:List Int
 body:List Node
structure Arr where
 name:List UInt8
 size:Int
structure Unt where
 arrays:List Arr
 flows:List Flow
abbrev int(n:Int):PV:= .int .i64 n
def ints(l:List Int):PV:= .slice .plain 1 (l.map (PV.int .i64))
mutual
def zP:Node->PV
 |⟨k,o,n,s,a,u,p,ks⟩=> .agg [.int .i64 k,.int .i64 o,.int .i64 n,.str s,ints a,ints u,ints p,.slice .plain 1 (encK ks)]
def encL:List Node->List PV
 | []=>[]
 |x::r=>zP x::encL r
def encK:List (List Node)->List PV
 | []=>[]
 |l::r=> .slice .plain 8 (encL l)::encK r
end
theorem encL_eq(l:List Node):encL l=l.map zP:=by
 induction l with
 |nil=>rfl
 |cons x r ih=>rw[encL,ih];rfl
def zy(l:List Node):PV:= .slice .plain 8 (l.map zP)
def kids(l:List (List Node)):PV:= .slice .plain 1 (l.map zy)
theorem encK_eq(l:List (List Node)):encK l=l.map zy:=by
 induction l with
 |nil=>rfl
 |cons x r ih=>rw[encK,ih,encL_eq];rfl
theorem za(x:Node):zP x= .agg [.int .i64 x.kind,.int .i64 x.op,.int .i64 x.n,.str x.name,ints x.args,ints x.outs,ints x.params,kids x.kids]:=by
 cases x;simp[zP,encK_eq,kids]
mutual
theorem flatN(k:Nat):∀x:Node,zm k (zP x)=true
 |⟨_,_,_,_,a,u,p,ks⟩=>by simp[zP,ints,flatK k ks]
theorem flatL(k:Nat):∀l:List Node,zI k (encL l)=true
 | []=>rfl
 |x::r=>by simp[encL,flatN k x,flatL k r]
theorem flatK(k:Nat):∀l:List (List Node),zI k (encK l)=true
 | []=>rfl
 |x::r=>by simp[encK,flatL k x,flatK k r]
end
def zj(f:Flow):PV:= .agg [.str f.name,.int .i64 f.type,.int .i64 f.params,ints f.types,zy f.body]
def zQ(a:Arr):PV:= .agg [.str a.name,.int .i64 a.size]
def flows(l:List Flow):PV:= .slice .plain 5 (l.map zj)
def arrs(l:List Arr):PV:= .slice .plain 2 (l.map zQ)
def zC(u:Unt):PV:= .agg [arrs u.arrays,flows u.flows]
section
variable (k:Nat)
@[simp] theorem flat_ints(l:List Int):zm k (ints l)=true:=by simp[ints]
@[simp] theorem flat_node(x:Node):zm k (zP x)=true:=flatN k x
@[simp] theorem flat_nodes(l:List Node):zm k (zy l)=true:=by simp[zy]
@[simp] theorem flat_kids(l:List (List Node)):zm k (kids l)=true:=by simp[kids]
@[simp] theorem flat_flow(f:Flow):zm k (zj f)=true:=by simp[zj]
@[simp] theorem flat_arr(f:Arr):zm k (zQ f)=true:=by simp[zQ]
@[simp] theorem flat_flows(f:List Flow):zm k (flows f)=true:=by simp[flows]
@[simp] theorem flat_arrs(f:List Arr):zm k (arrs f)=true:=by simp[arrs]
end
section
variable (n:Nat)
@[simp high] theorem bl_int(l:List Int):zI n (l.map (PV.int .i64))=true:=belowL_map _ _ _ (fun _=>rfl)
@[simp high] theorem bl_nodes(l:List (List Node)):zI n (l.map zy)=true:=belowL_map _ _ _ (flat_nodes n)
@[simp high] theorem bl_flow(l:List Flow):zI n (l.map zj)=true:=belowL_map _ _ _ (flat_flow n)
@[simp high] theorem bl_arr(l:List Arr):zI n (l.map zQ)=true:=belowL_map _ _ _ (flat_arr n)
end
section
@[simp high] theorem isVar_ints(l:List Int):zp (ints l)=true:=yd rfl rfl
@[simp high] theorem canon1_ints(l:List Int):canon1 (ints l)=ints l:=yd rfl rfl
@[simp high] theorem strip_ints(l:List Int):strip (ints l)=ints l:=yd rfl rfl
@[simp high] theorem stripA_ints(l:List Int):stripA (ints l)=ints l:=yd rfl rfl
@[simp high] theorem isVar_nodes(l:List Node):zp (zy l)=true:=yd rfl rfl
@[simp high] theorem canon1_nodes(l:List Node):canon1 (zy l)=zy l:=yd rfl rfl
@[simp high] theorem stripA_nodes(l:List Node):stripA (zy l)=zy l:=yd rfl rfl
@[simp high] theorem cellsOf_nodes(l:List Node):cellsOf (zy l)=[zy l]:=yd rfl rfl
@[simp high] theorem canon1_kids(l:List (List Node)):canon1 (kids l)=kids l:=yd rfl rfl
@[simp high] theorem canon1_flows(l:List Flow):canon1 (flows l)=flows l:=yd rfl rfl
@[simp high] theorem canon1_arrs(l:List Arr):canon1 (arrs l)=arrs l:=yd rfl rfl
end
mutual
def wtN:Node->Nat
 |⟨_,_,_,s,a,u,p,ks⟩=>1+s.length+a.length+u.length+p.length+wtK ks
def wtL:List Node->Nat
 | []=>0
 |x::r=>1+wtN x+wtL r
def wtK:List (List Node)->Nat
 | []=>0
 |l::r=>1+wtL l+wtK r
end
theorem zKb(x:Node):wtN x=1+x.name.length+x.args.length+x.outs.length+x.params.length+wtK x.kids:=by cases x;rfl
theorem len_wtL(l:List Node):l.length<=wtL l:=by
 induction l with
 |nil=>simp
 |cons x r ih=>simp[wtL];omega
theorem len_wtK(l:List (List Node)):l.length<=wtK l:=by
 induction l with
 |nil=>simp
 |cons x r ih=>simp[wtK];omega
theorem wt_kid{x:Node}{l:List Node}(h:l∈x.kids):wtL l+2<=wtN x:=by
 rw[zKb];have:∀ks:List (List Node),l∈ks->wtL l+1<=wtK ks:=by
  intro ks
  induction ks with
  |nil=>intro h;cases h
  |cons y r ih=>
   intro h;simp only[wtK];rcases yV.1 h with rfl|h
   ·omega
   ·have:=ih h;omega
 have:=this _ h;omega
theorem wt_mem{x:Node}{l:List Node}(h:x∈l):wtN x+1<=wtL l:=by
 induction l with
 |nil=>cases h
 |cons y r ih=>
  simp only[wtL];rcases yV.1 h with rfl|h
  ·omega
  ·have:=ih h;omega
def zwc(c:Int):Bool:=(decide (97<=c)&&decide (c<=122))||(decide (65<=c)&&decide (c<=90))||decide (c=95)
def digitN(c:Int):Bool:=decide (48<=c)&&decide (c<=57)
theorem zcb(c:Int)(σ:zb):zh E 60 [.int .i32 c] σ=some (.ret (.bool (zwc c)),σ):=by
 refine ze rfl rfl rfl (by simp) ?_
 (simp[*,F60,zwc])<;>(repeat' ((first|refine sP _ ?_ ?_|refine gP _ ?_ ?_|refine sN _ ?_ ?_|refine gN _ ?_ ?_|refine sM _ ?_ ?_|refine gM _ ?_ ?_|refine sB _ ?_ ?_|refine gB _ ?_ ?_)<;>intro hc<;>simp[*,F60,zwc]))
theorem digit_spec(c:Int)(σ:zb):zh E 80 [.int .i32 c] σ=some (.ret (.bool (digitN c)),σ):=by
 refine ze rfl rfl rfl (by simp) ?_
 (simp[*,F80,digitN])<;>(repeat' ((first|refine sP _ ?_ ?_|refine gP _ ?_ ?_|refine sN _ ?_ ?_|refine gN _ ?_ ?_|refine sM _ ?_ ?_|refine gM _ ?_ ?_|refine sB _ ?_ ?_|refine gB _ ?_ ?_)<;>intro hc<;>simp[*,F80,digitN]))
def words:List (List UInt8):=[[105,110,116],[98,111,111,108],[105,102],[101,108,115,101],[119,104,105,108,101],[98,114,101,97,107],[99,111,110,116,105,110,117,101],[114,101,116,117,114,110],
 [112,114,105,110,116],[114,101,97,100],[116,114,117,101],[102,97,108,115,101],[105,56],[105,49,54],[105,51,50],[117,56],[117,49,54],[117,51,50]]
def wordM(s:List UInt8):Bool:=words.contains s
theorem word_spec(s:List UInt8)(σ:zb):zh E 62 [.str s] σ=some (.ret (.bool (wordM s)),σ):=by
 refine ze rfl rfl rfl (by simp) ?_
 (simp[*,F62,wordM,words])<;>(repeat' ((first|refine sP _ ?_ ?_|refine gP _ ?_ ?_|refine sN _ ?_ ?_|refine gN _ ?_ ?_|refine sM _ ?_ ?_|refine gM _ ?_ ?_|refine sB _ ?_ ?_|refine gB _ ?_ ?_)<;>intro hc<;>simp[*,F62,wordM,words]))
def zhb(b:UInt8):Bool:=zwc b.toNat||digitN b.toNat
def runM(s:List UInt8):List UInt8:=s.takeWhile zhb
def nameM(s:List UInt8):Bool:=decide (s≠ [])&&(zwc ((s.head?.getD 0).toNat)&&(s.all zhb&&(decide (s.length<=20)&& !wordM s)))
theorem nameByte_high{b:UInt8}(h:128<=b.toNat):zhb b=false:=by
 simp[zhb,zwc,digitN];omega
theorem high_not{c:Nat}(h:128<=c):zwc c=false/\digitN c=false:=by
 simp[zwc,digitN];omega
theorem zVb{p:UInt8->Bool}:∀{s:List UInt8},s.takeWhile p=s<->s.all p=true
 | []=>by simp
 |b::r=>by
  rw[List.takeWhile_cons];cases h:p b
  ·simp[h]
  ·simp[h,zVb (s:=r)]
theorem run_spec(s:List UInt8)(σ:zb):zh E 61 [.str s] σ=some (.ret (.str (runM s)),σ):=by
 refine ze rfl rfl rfl (by simp) ?_;simp[F61];refine wp_while K61_0 B61_0 (fun d=>s.length-d) (fun d=>[]) (fun d=>[(6,.iter s d)]) (fun _=>σ) (fun d=>d<=s.length/\(s.take d).all zhb=true) 0 (by simp) ?_
 rintro d s1 ⟨hd,ha⟩ h1 h2 h3 h4 h5
 simp at h4;by_cases hlt:d<s.length
 ·have hs:d<(⟨s.toArray⟩:ByteArray).size:=by show d<s.toArray.size;simpa using hlt
  have hget:(⟨s.toArray⟩:ByteArray)[d]'hs=s[d]:=rfl;have htk:s.take (d+1)=s.take d++[s[d]]:=by simp
  by_cases hb:s[d].toNat<128
  ·have hdec:=decode_ascii ⟨s.toArray⟩ d hs (by rw[hget];exact hb);rw[hget]at hdec;cases hn:zhb s[d]
   ·have e:runM s=s.take d:=by
     have:s=s.take d++(s[d]::s.drop (d+1)):=by simp
     unfold runM;rw[this,List.takeWhile_append_of_pos (by simpa using ha),List.takeWhile_cons,hn];simp
    have hn2:=hn;simp only[zhb,Bool.or_eq_false_iff]at hn2;have hmin:min d s.length=d:=by omega
    simp[*,zcb,digit_spec]
   ·have hn2:=hn;simp only[zhb,yJ]at hn2;cases hl:zwc s[d].toNat
    ·rw[hl]at hn2;simp at hn2;simp[*,zcb,digit_spec];exact⟨d+1,by omega,rfl,by omega,by rw[<-yn,htk,List.all_append,ha];simp[hn]⟩
    ·simp[*,zcb,digit_spec];exact⟨d+1,by omega,rfl,by omega,by rw[<-yn,htk,List.all_append,ha];simp[hn]⟩
  ·obtain⟨hd1,hd2⟩:=decode_high ⟨s.toArray⟩ d hs (by rw[hget];omega);obtain⟨q1,q2⟩:=high_not hd1;have e:runM s=s.take d:=by
    have:s=s.take d++(s[d]::s.drop (d+1)):=by simp
    unfold runM;rw[this,List.takeWhile_append_of_pos (by simpa using ha),List.takeWhile_cons,nameByte_high (by omega)];simp
   simp[*,zcb,digit_spec]
 ·have hd':d=s.length:=by omega
  subst hd';simp at ha;have e:runM s=s:=by
   unfold runM;exact zVb.2 (by simpa using ha)
  simp[*]
theorem name_spec(s:List UInt8)(σ:zb):zh E 38 [.str s] σ=some (.ret (.bool (nameM s)),σ):=by
 refine ze rfl rfl rfl (by simp) ?_;have hr:decide (runM s=s)=s.all zhb:=by
  unfold runM;simp only[zVb,Bool.decide_eq_true]
 by_cases hne:s=[]
 ·subst hne;simp[F38,nameM]
 obtain⟨b,r,hs⟩:=List.exists_cons_of_ne_nil hne;have hb:s[0]? =some b:=by rw[hs];rfl
 have hd:s.head? =some b:=by rw[hs];rfl
 clear hs;generalize ha:s.all zhb=A at hr
 (simp[*,F38,nameM,zcb,run_spec,word_spec])<;>(repeat' ((first|refine sP _ ?_ ?_|refine gP _ ?_ ?_|refine sN _ ?_ ?_|refine gN _ ?_ ?_|refine sM _ ?_ ?_|refine gM _ ?_ ?_|refine sB _ ?_ ?_|refine gB _ ?_ ?_)<;>intro hc<;>simp[*,F38,nameM,zcb,run_spec,word_spec]))
 all_goals(try grind)
def idx{α:Type}(p:α->Bool)(l:List α):Int:=match l.findIdx? p with
 |some i=>(i:Int)
 |none=> -1
theorem idx_hit{α:Type}{p:α->Bool}{l d:List α}{x:α}{r:List α}(h:Split l d x r)(hd:∀y∈d,p y=false)(hx:p x=true):idx p l=d.length:=by
 have:l.findIdx? p=some d.length:=by
  rw[h.eq,List.findIdx?_append];have:d.findIdx? p=none:=by rw[yha];exact hd
  rw[this];simp[yDa,hx]
 simp[idx,this]
theorem idx_none{α:Type}{p:α->Bool}{l:List α}(hd:∀y∈l,p y=false):idx p l= -1:=by
 have:l.findIdx? p=none:=by rw[yha];exact hd
 simp[idx,this]
theorem idx_ge{α:Type}(p:α->Bool)(l:List α):decide (0<=idx p l)=l.any p:=by
 unfold idx;cases h:l.findIdx? p with
 |none=>
  rw[yha]at h;simp;exact h
 |some i=>
  have:(l.findIdx? p).isSome=true:=by rw[h];rfl
  rw[List.findIdx?_isSome]at this;simp[this]
theorem indexFuncFlow(l:List (Flow))(p:Flow->Bool)(k:Nat)(first caps:List PV)(σ:zb)(hl:l.length<1099511627776)(hf:∀x∈l,zh E k (first++[zj x]++caps) σ=some (.ret (.bool (p x)),σ)):
  zh E 63 [.slice .plain 5 (l.map (zj)),.fn k first caps] σ=some (.ret (.int .i64 (idx p l)),σ):=by
 refine ze rfl rfl rfl (by simp) ?_;simp[F63];refine zwa l K63_0 B63_0 (fun d=>[(8,.int .i64 d.length)]) (fun _=>σ) (fun d=>∀y∈d,p y=false) (by omega) (by simp) ?_ ?_
 ·intros d x r s hl' hlt hget hget' hw hp h1 h2 h3 h4;have hfx:=hf x hl'.mem;simp[zj]at h1 h3 hfx;clear h2 hf;cases hx:p x
  ·(simp[*,zj])<;>(repeat' ((first|refine sP _ ?_ ?_|refine gP _ ?_ ?_|refine sN _ ?_ ?_|refine gN _ ?_ ?_|refine sM _ ?_ ?_|refine gM _ ?_ ?_|refine sB _ ?_ ?_|refine gB _ ?_ ?_)<;>intro hc<;>simp[*,zj]))
   all_goals(try grind)
  ·have:=idx_hit hl' hp hx
   (simp[*,zj])<;>(repeat' ((first|refine sP _ ?_ ?_|refine gP _ ?_ ?_|refine sN _ ?_ ?_|refine gN _ ?_ ?_|refine sM _ ?_ ?_|refine gM _ ?_ ?_|refine sB _ ?_ ?_|refine gB _ ?_ ?_)<;>intro hc<;>simp[*,zj]))
 ·intros s hp h1 h2 h3 h4;have:=idx_none hp;simp at h1 h3
  (simp[*,zj])<;>(repeat' ((first|refine sP _ ?_ ?_|refine gP _ ?_ ?_|refine sN _ ?_ ?_|refine gN _ ?_ ?_|refine sM _ ?_ ?_|refine gM _ ?_ ?_|refine sB _ ?_ ?_|refine gB _ ?_ ?_)<;>intro hc<;>simp[*,zj]))
theorem indexFuncInt(l:List (Int))(p:Int->Bool)(k:Nat)(first caps:List PV)(σ:zb)(hl:l.length<1099511627776)(hf:∀x∈l,zh E k (first++[PV.int .i64 x]++caps) σ=some (.ret (.bool (p x)),σ)):
  zh E 65 [.slice .plain 1 (l.map (PV.int .i64)),.fn k first caps] σ=some (.ret (.int .i64 (idx p l)),σ):=by
 refine ze rfl rfl rfl (by simp) ?_;simp[F65];refine zwa l K65_0 B65_0 (fun d=>[(8,.int .i64 d.length)]) (fun _=>σ) (fun d=>∀y∈d,p y=false) (by omega) (by simp) ?_ ?_
 ·intros d x r s hl' hlt hget hget' hw hp h1 h2 h3 h4;have hfx:=hf x hl'.mem;simp at h1 h3 hfx;clear h2 hf;cases hx:p x
  ·(simp[*])<;>(repeat' ((first|refine sP _ ?_ ?_|refine gP _ ?_ ?_|refine sN _ ?_ ?_|refine gN _ ?_ ?_|refine sM _ ?_ ?_|refine gM _ ?_ ?_|refine sB _ ?_ ?_|refine gB _ ?_ ?_)<;>intro hc<;>simp[*]))
   all_goals(try grind)
  ·have:=idx_hit hl' hp hx
   (simp[*])<;>(repeat' ((first|refine sP _ ?_ ?_|refine gP _ ?_ ?_|refine sN _ ?_ ?_|refine gN _ ?_ ?_|refine sM _ ?_ ?_|refine gM _ ?_ ?_|refine sB _ ?_ ?_|refine gB _ ?_ ?_)<;>intro hc<;>simp[*]))
 ·intros s hp h1 h2 h3 h4;have:=idx_none hp;simp at h1 h3
  (simp[*])<;>(repeat' ((first|refine sP _ ?_ ?_|refine gP _ ?_ ?_|refine sN _ ?_ ?_|refine gN _ ?_ ?_|refine sM _ ?_ ?_|refine gM _ ?_ ?_|refine sB _ ?_ ?_|refine gB _ ?_ ?_)<;>intro hc<;>simp[*]))
theorem containsFuncInt(l:List (Int))(p:Int->Bool)(k:Nat)(first caps:List PV)(σ:zb)(hl:l.length<1099511627776)(hc:(first.map stripA)=first/\(caps.map stripA)=caps)(hf:∀x∈l,zh E k (first++[PV.int .i64 x]++caps) σ=some (.ret (.bool (p x)),σ)):
  zh E 41 [.slice .plain 1 (l.map (PV.int .i64)),.fn k first caps] σ=some (.ret (.bool (l.any p)),σ):=by
 refine ze rfl rfl rfl (by simp) ?_;have h:=indexFuncInt l p k first caps σ hl hf;have h2:=idx_ge p l;clear hf
 (simp[*,F41])<;>(repeat' ((first|refine sP _ ?_ ?_|refine gP _ ?_ ?_|refine sN _ ?_ ?_|refine gN _ ?_ ?_|refine sM _ ?_ ?_|refine gM _ ?_ ?_|refine sB _ ?_ ?_|refine gB _ ?_ ?_)<;>intro hc<;>simp[*,F41]))
theorem indexFuncNode(l:List (Node))(p:Node->Bool)(k:Nat)(first caps:List PV)(σ:zb)(hl:l.length<1099511627776)(hf:∀x∈l,zh E k (first++[zP x]++caps) σ=some (.ret (.bool (p x)),σ)):
  zh E 91 [.slice .plain 8 (l.map (zP)),.fn k first caps] σ=some (.ret (.int .i64 (idx p l)),σ):=by
 refine ze rfl rfl rfl (by simp) ?_;simp[F91];refine zwa l K91_0 B91_0 (fun d=>[(8,.int .i64 d.length)]) (fun _=>σ) (fun d=>∀y∈d,p y=false) (by omega) (by simp) ?_ ?_
 ·intros d x r s hl' hlt hget hget' hw hp h1 h2 h3 h4;have hfx:=hf x hl'.mem;simp[za]at h1 h3 hfx;clear h2 hf;cases hx:p x
  ·(simp[*,za])<;>(repeat' ((first|refine sP _ ?_ ?_|refine gP _ ?_ ?_|refine sN _ ?_ ?_|refine gN _ ?_ ?_|refine sM _ ?_ ?_|refine gM _ ?_ ?_|refine sB _ ?_ ?_|refine gB _ ?_ ?_)<;>intro hc<;>simp[*,za]))
   all_goals(try grind)
  ·have:=idx_hit hl' hp hx
   (simp[*,za])<;>(repeat' ((first|refine sP _ ?_ ?_|refine gP _ ?_ ?_|refine sN _ ?_ ?_|refine gN _ ?_ ?_|refine sM _ ?_ ?_|refine gM _ ?_ ?_|refine sB _ ?_ ?_|refine gB _ ?_ ?_)<;>intro hc<;>simp[*,za]))
 ·intros s hp h1 h2 h3 h4;have:=idx_none hp;simp at h1 h3
  (simp[*,za])<;>(repeat' ((first|refine sP _ ?_ ?_|refine gP _ ?_ ?_|refine sN _ ?_ ?_|refine gN _ ?_ ?_|refine sM _ ?_ ?_|refine gM _ ?_ ?_|refine sB _ ?_ ?_|refine gB _ ?_ ?_)<;>intro hc<;>simp[*,za]))
theorem containsFuncNode(l:List (Node))(p:Node->Bool)(k:Nat)(first caps:List PV)(σ:zb)(hl:l.length<1099511627776)(hc:(first.map stripA)=first/\(caps.map stripA)=caps)(hf:∀x∈l,zh E k (first++[zP x]++caps) σ=some (.ret (.bool (p x)),σ)):
  zh E 72 [.slice .plain 8 (l.map (zP)),.fn k first caps] σ=some (.ret (.bool (l.any p)),σ):=by
 refine ze rfl rfl rfl (by simp) ?_;have h:=indexFuncNode l p k first caps σ hl hf;have h2:=idx_ge p l;clear hf
 (simp[*,F72])<;>(repeat' ((first|refine sP _ ?_ ?_|refine gP _ ?_ ?_|refine sN _ ?_ ?_|refine gN _ ?_ ?_|refine sM _ ?_ ?_|refine gM _ ?_ ?_|refine sB _ ?_ ?_|refine gB _ ?_ ?_)<;>intro hc<;>simp[*,F72]))
theorem indexFuncArr(l:List (Arr))(p:Arr->Bool)(k:Nat)(first caps:List PV)(σ:zb)(hl:l.length<1099511627776)(hf:∀x∈l,zh E k (first++[zQ x]++caps) σ=some (.ret (.bool (p x)),σ)):
  zh E 123 [.slice .plain 2 (l.map (zQ)),.fn k first caps] σ=some (.ret (.int .i64 (idx p l)),σ):=by
 refine ze rfl rfl rfl (by simp) ?_;simp[F123];refine zwa l K123_0 B123_0 (fun d=>[(8,.int .i64 d.length)]) (fun _=>σ) (fun d=>∀y∈d,p y=false) (by omega) (by simp) ?_ ?_
 ·intros d x r s hl' hlt hget hget' hw hp h1 h2 h3 h4;have hfx:=hf x hl'.mem;simp[zQ]at h1 h3 hfx;clear h2 hf;cases hx:p x
  ·(simp[*,zQ])<;>(repeat' ((first|refine sP _ ?_ ?_|refine gP _ ?_ ?_|refine sN _ ?_ ?_|refine gN _ ?_ ?_|refine sM _ ?_ ?_|refine gM _ ?_ ?_|refine sB _ ?_ ?_|refine gB _ ?_ ?_)<;>intro hc<;>simp[*,zQ]))
   all_goals(try grind)
  ·have:=idx_hit hl' hp hx
   (simp[*,zQ])<;>(repeat' ((first|refine sP _ ?_ ?_|refine gP _ ?_ ?_|refine sN _ ?_ ?_|refine gN _ ?_ ?_|refine sM _ ?_ ?_|refine gM _ ?_ ?_|refine sB _ ?_ ?_|refine gB _ ?_ ?_)<;>intro hc<;>simp[*,zQ]))
 ·intros s hp h1 h2 h3 h4;have:=idx_none hp;simp at h1 h3
  (simp[*,zQ])<;>(repeat' ((first|refine sP _ ?_ ?_|refine gP _ ?_ ?_|refine sN _ ?_ ?_|refine gN _ ?_ ?_|refine sM _ ?_ ?_|refine gM _ ?_ ?_|refine sB _ ?_ ?_|refine gB _ ?_ ?_)<;>intro hc<;>simp[*,zQ]))
theorem containsFuncArr(l:List (Arr))(p:Arr->Bool)(k:Nat)(first caps:List PV)(σ:zb)(hl:l.length<1099511627776)(hc:(first.map stripA)=first/\(caps.map stripA)=caps)(hf:∀x∈l,zh E k (first++[zQ x]++caps) σ=some (.ret (.bool (p x)),σ)):
  zh E 116 [.slice .plain 2 (l.map (zQ)),.fn k first caps] σ=some (.ret (.bool (l.any p)),σ):=by
 refine ze rfl rfl rfl (by simp) ?_;have h:=indexFuncArr l p k first caps σ hl hf;have h2:=idx_ge p l;clear hf
 (simp[*,F116])<;>(repeat' ((first|refine sP _ ?_ ?_|refine gP _ ?_ ?_|refine sN _ ?_ ?_|refine gN _ ?_ ?_|refine sM _ ?_ ?_|refine gM _ ?_ ?_|refine sB _ ?_ ?_|refine gB _ ?_ ?_)<;>intro hc<;>simp[*,F116]))
theorem indexFuncList(l:List (List Node))(p:List Node->Bool)(k:Nat)(first caps:List PV)(σ:zb)(hl:l.length<1099511627776)(hf:∀x∈l,zh E k (first++[zy x]++caps) σ=some (.ret (.bool (p x)),σ)):
  zh E 92 [.slice .plain 1 (l.map (zy)),.fn k first caps] σ=some (.ret (.int .i64 (idx p l)),σ):=by
 refine ze rfl rfl rfl (by simp) ?_;simp[F92];refine zwa l K92_0 B92_0 (fun d=>[(8,.int .i64 d.length)]) (fun _=>σ) (fun d=>∀y∈d,p y=false) (by omega) (by simp) ?_ ?_
 ·intros d x r s hl' hlt hget hget' hw hp h1 h2 h3 h4;have hfx:=hf x hl'.mem;simp at h1 h3 hfx;clear h2 hf;cases hx:p x
  ·(simp[*])<;>(repeat' ((first|refine sP _ ?_ ?_|refine gP _ ?_ ?_|refine sN _ ?_ ?_|refine gN _ ?_ ?_|refine sM _ ?_ ?_|refine gM _ ?_ ?_|refine sB _ ?_ ?_|refine gB _ ?_ ?_)<;>intro hc<;>simp[*]))
   all_goals(try grind)
  ·have:=idx_hit hl' hp hx
   (simp[*])<;>(repeat' ((first|refine sP _ ?_ ?_|refine gP _ ?_ ?_|refine sN _ ?_ ?_|refine gN _ ?_ ?_|refine sM _ ?_ ?_|refine gM _ ?_ ?_|refine sB _ ?_ ?_|refine gB _ ?_ ?_)<;>intro hc<;>simp[*]))
 ·intros s hp h1 h2 h3 h4;have:=idx_none hp;simp at h1 h3
  (simp[*])<;>(repeat' ((first|refine sP _ ?_ ?_|refine gP _ ?_ ?_|refine sN _ ?_ ?_|refine gN _ ?_ ?_|refine sM _ ?_ ?_|refine gM _ ?_ ?_|refine sB _ ?_ ?_|refine gB _ ?_ ?_)<;>intro hc<;>simp[*]))
theorem containsFuncList(l:List (List Node))(p:List Node->Bool)(k:Nat)(first caps:List PV)(σ:zb)(hl:l.length<1099511627776)(hc:(first.map stripA)=first/\(caps.map stripA)=caps)(hf:∀x∈l,zh E k (first++[zy x]++caps) σ=some (.ret (.bool (p x)),σ)):
  zh E 74 [.slice .plain 1 (l.map (zy)),.fn k first caps] σ=some (.ret (.bool (l.any p)),σ):=by
 refine ze rfl rfl rfl (by simp) ?_;have h:=indexFuncList l p k first caps σ hl hf;have h2:=idx_ge p l;clear hf
 (simp[*,F74])<;>(repeat' ((first|refine sP _ ?_ ?_|refine gP _ ?_ ?_|refine sN _ ?_ ?_|refine gN _ ?_ ?_|refine sM _ ?_ ?_|refine gM _ ?_ ?_|refine sB _ ?_ ?_|refine gB _ ?_ ?_)<;>intro hc<;>simp[*,F74]))
def zaa(l:List Flow)(s:List UInt8):Int:=idx (fun f=>decide (f.name=s)) l
def zqb(l:List Arr)(s:List UInt8):Bool:=l.any fun a=>decide (a.name=s)
def arrAt(l:List Arr)(s:List UInt8):Int:=idx (fun f=>decide (f.name=s)) l
theorem place_spec(u:Unt)(s:List UInt8)(σ:zb)(hl:u.flows.length<1099511627776):zh E 40 [zC u,.str s] σ=some (.ret (.int .i64 (zaa u.flows s)),σ):=by
 refine ze rfl rfl rfl (by simp[zC]) ?_;have h:=indexFuncFlow u.flows (fun f=>decide (f.name=s)) 64 [] [.iptr [.str s] 0] σ hl (by
  intro x hx;refine ze rfl rfl rfl (by simp[zj]) ?_
  (simp[*,F64,zj])<;>(repeat' ((first|refine sP _ ?_ ?_|refine gP _ ?_ ?_|refine sN _ ?_ ?_|refine gN _ ?_ ?_|refine sM _ ?_ ?_|refine gM _ ?_ ?_|refine sB _ ?_ ?_|refine gB _ ?_ ?_)<;>intro hc<;>simp[*,F64,zj])))
 (simp[*,F40,zC,zaa,flows])<;>(repeat' ((first|refine sP _ ?_ ?_|refine gP _ ?_ ?_|refine sN _ ?_ ?_|refine gN _ ?_ ?_|refine sM _ ?_ ?_|refine gM _ ?_ ?_|refine sB _ ?_ ?_|refine gB _ ?_ ?_)<;>intro hc<;>simp[*,F40,zC,zaa,flows]))
theorem hasArray_spec(u:Unt)(s:List UInt8)(σ:zb)(hl:u.arrays.length<1099511627776):zh E 99 [zC u,.str s] σ=some (.ret (.bool (zqb u.arrays s)),σ):=by
 refine ze rfl rfl rfl (by simp[zC]) ?_;have h:=containsFuncArr u.arrays (fun f=>decide (f.name=s)) 117 [] [.iptr [.str s] 0] σ hl (by simp) (by
  intro x hx;refine ze rfl rfl rfl (by simp[zQ]) ?_
  (simp[*,F117,zQ])<;>(repeat' ((first|refine sP _ ?_ ?_|refine gP _ ?_ ?_|refine sN _ ?_ ?_|refine gN _ ?_ ?_|refine sM _ ?_ ?_|refine gM _ ?_ ?_|refine sB _ ?_ ?_|refine gB _ ?_ ?_)<;>intro hc<;>simp[*,F117,zQ])))
 (simp[*,F99,zC,zqb,arrs])<;>(repeat' ((first|refine sP _ ?_ ?_|refine gP _ ?_ ?_|refine sN _ ?_ ?_|refine gN _ ?_ ?_|refine sM _ ?_ ?_|refine gM _ ?_ ?_|refine sB _ ?_ ?_|refine gB _ ?_ ?_)<;>intro hc<;>simp[*,F99,zC,zqb,arrs]))
def Node.ends(n:Node):Bool:=decide (12<=n.kind)&&decide (n.kind<=15)
def zbb(l:List Node):Bool:=match l.getLast? with
 |some n=>decide (n.kind=12)
 |none=>false
mutual
def Node.leaves:Node->Bool
 |⟨k,_,_,_,_,_,_,ks⟩=>decide (k=14)||(decide (k=10)&&leavesK ks)
def zlb:List Node->Bool
 | []=>false
 |x::r=>x.leaves||zlb r
def leavesK:List (List Node)->Bool
 | []=>false
 |l::r=>zlb l||leavesK r
end
theorem zgc(l:List Node):zlb l=l.any Node.leaves:=by
 induction l with
 |nil=>rfl
 |cons x r ih=>simp[zlb,ih]
theorem leavesK_eq(l:List (List Node)):leavesK l=l.any zlb:=by
 induction l with
 |nil=>rfl
 |cons x r ih=>simp[leavesK,ih]
theorem leaves_eq(x:Node):x.leaves=(decide (x.kind=14)||(decide (x.kind=10)&&x.kids.any zlb)):=by
 cases x;simp[Node.leaves,leavesK_eq]
def zU(n:Node):Bool:=
 if n.kind=10/\n.kids.length=2 then n.kids.all fun l=> !zbb l
 else if n.kind=11/\n.kids.length=1 then n.kids.all fun l=> !zlb l
 else n.ends
def endK(k:Int):Bool:=decide (12<=k)&&decide (k<=15)
theorem ends_raw(k:Int)(a b c d e f g:PV)(σ:zb):zh E 51 [.agg [.int .i64 k,a,b,c,d,e,f,g]] σ=some (.ret (.bool (endK k)),σ):=by
 refine ze rfl rfl rfl (by simp) ?_
 (simp[*,F51,endK])<;>(repeat' ((first|refine sP _ ?_ ?_|refine gP _ ?_ ?_|refine sN _ ?_ ?_|refine gN _ ?_ ?_|refine sM _ ?_ ?_|refine gM _ ?_ ?_|refine sB _ ?_ ?_|refine gB _ ?_ ?_)<;>intro hc<;>simp[*,F51,endK]))
theorem yields_spec(l:List Node)(σ:zb)(hl:l.length<1099511627776):zh E 49 [zy l] σ=some (.ret (.bool (zbb l)),σ):=by
 refine ze rfl rfl rfl (by simp) ?_;rcases List.eq_nil_or_concat l with rfl|⟨d,x,rfl⟩
 ·(simp[*,F49,zy,zbb])<;>(repeat' ((first|refine sP _ ?_ ?_|refine gP _ ?_ ?_|refine sN _ ?_ ?_|refine gN _ ?_ ?_|refine sM _ ?_ ?_|refine gM _ ?_ ?_|refine sB _ ?_ ?_|refine gB _ ?_ ?_)<;>intro hc<;>simp[*,F49,zy,zbb]))
 ·have hw:zW .i64 (d.length:Int)=d.length:=zna (by omega) (by simp at hl;omega);have hp:(0:Int)<d.length+1:=by omega
  (simp[*,F49,zy,zbb,za])<;>(repeat' ((first|refine sP _ ?_ ?_|refine gP _ ?_ ?_|refine sN _ ?_ ?_|refine gN _ ?_ ?_|refine sM _ ?_ ?_|refine gM _ ?_ ?_|refine sB _ ?_ ?_|refine gB _ ?_ ?_)<;>intro hc<;>simp[*,F49,zy,zbb,za]))
theorem leaves_spec:∀(N:Nat) (l:List Node) (σ:zb),wtL l<=N->N<1099511627776->zh E 50 [zy l] σ=some (.ret (.bool (zlb l)),σ):=by
 intro N
 induction N using Nat.strongRecOn with
 |ind N ih=>
  intro l σ hl hN;refine ze rfl rfl rfl (by simp) ?_;have h:=containsFuncNode l Node.leaves 73 [] [] σ (by have:=len_wtL l;omega) (by simp) (by
   intro x hx;refine ze rfl rfl rfl (by simp[za]) ?_;have hw:=wt_mem hx;have hk:=zKb x;have hk2:=len_wtK x.kids;have h:=containsFuncList x.kids zlb 50 [] [] σ (by omega) (by simp) (by
    intro y hy;have:=wt_kid hy;exact ih (wtL y) (by omega) y σ (yl _) (by omega))
   (simp[*,F73,za,leaves_eq,kids])<;>(repeat' ((first|refine sP _ ?_ ?_|refine gP _ ?_ ?_|refine sN _ ?_ ?_|refine gN _ ?_ ?_|refine sM _ ?_ ?_|refine gM _ ?_ ?_|refine sB _ ?_ ?_|refine gB _ ?_ ?_)<;>intro hc<;>simp[*,F73,za,leaves_eq,kids])))
  (simp[*,F50,zgc,zy])<;>(repeat' ((first|refine sP _ ?_ ?_|refine gP _ ?_ ?_|refine sN _ ?_ ?_|refine gN _ ?_ ?_|refine sM _ ?_ ?_|refine gM _ ?_ ?_|refine sB _ ?_ ?_|refine gB _ ?_ ?_)<;>intro hc<;>simp[*,F50,zgc,zy]))
theorem zBc(x:Node)(σ:zb)(hx:wtN x<1099511627776):zh E 29 [zP x] σ=some (.ret (.bool (zU x)),σ):=by
 refine ze rfl rfl rfl (by simp[za]) ?_;have he:x.ends=endK x.kind:=rfl;have hk:∀l∈x.kids,wtL l+2<=wtN x:=fun l=>wt_kid
 have hy:∀l∈x.kids,zh E 49 [zy l] []=some (.ret (.bool (zbb l)),[]):=fun l hl=>yields_spec l [] (by have:=len_wtL l;have:=hk l hl;omega)
 have hv:∀l∈x.kids,zh E 50 [zy l] []=some (.ret (.bool (zlb l)),[]):=fun l hl=>leaves_spec (wtL l) l [] (yl _) (by have:=hk l hl;omega)
 have hks:zU x=if x.kind=10/\x.kids.length=2 then(x.kids.all fun l=> !zbb l)else if x.kind=11/\x.kids.length=1 then(x.kids.all fun l=> !zlb l)else x.ends:=rfl
 rcases hkk:x.kids with _|⟨a,_|⟨b,_|⟨c,t⟩⟩⟩
 all_goals
  rw[hkk]at hy hv;simp at hy hv
  (simp[*,F29,za,kids,ends_raw])<;>(repeat' ((first|refine sP _ ?_ ?_|refine gP _ ?_ ?_|refine sN _ ?_ ?_|refine gN _ ?_ ?_|refine sM _ ?_ ?_|refine gM _ ?_ ?_|refine sB _ ?_ ?_|refine gB _ ?_ ?_)<;>intro hc<;>simp[*,F29,za,kids,ends_raw]))
  all_goals(try grind)
abbrev St1:=List Int
def stO(S:List Int):Obj:= .arr 1 (S.map (PV.int .i64))
def chkV(u:Unt)(f:Flow)(n:Nat):PV:= .iptr [arrs u.arrays,flows u.flows,.str f.name,.int .i64 f.type,.int .i64 f.params,ints f.types,zy f.body,.mslice 0 0 n 1] 0
def at0(l:List Int)(v:Int):Int:=(l[v.toNat]?).getD 0
theorem at0_get{l:List Int}{v:Int}(h0:0<=v)(h1:v<l.length):l[v.toNat]? =some (at0 l v):=by
 unfold at0;have:v.toNat<l.length:=by omega
 simp[this]
theorem at0_get'{l:List Int}{v:Int}(h0:0<=v)(h1:v<l.length)(h:v.toNat<l.length):l[v.toNat]'h=at0 l v:=by
 unfold at0;simp[h]
def valM(ty:List Int)(v t:Int):Bool:=decide (0<=v)&&(decide (v<ty.length)&&(decide (t=0)||decide (at0 ty v=t)))
theorem value_spec(u:Unt)(f:Flow)(n:Nat)(v t:Int)(σ:zb):zh E 110 [chkV u f n,.int .i64 v,.int .i64 t] σ=some (.ret (.bool (valM f.types v t)),σ):=by
 refine ze rfl rfl rfl (by simp[chkV]) ?_;by_cases h0:0<=v
 ·by_cases h1:v<f.types.length
  ·have h2:=at0_get h0 h1;have h3:v.toNat<f.types.length:=by omega
   have h4:=at0_get' h0 h1 h3
   (simp[*,F110,chkV,ints,valM])<;>(repeat' ((first|refine sP _ ?_ ?_|refine gP _ ?_ ?_|refine sN _ ?_ ?_|refine gN _ ?_ ?_|refine sM _ ?_ ?_|refine gM _ ?_ ?_|refine sB _ ?_ ?_|refine gB _ ?_ ?_)<;>intro hc<;>simp[*,F110,chkV,ints,valM]))
  ·(simp[*,F110,chkV,ints,valM])<;>(repeat' ((first|refine sP _ ?_ ?_|refine gP _ ?_ ?_|refine sN _ ?_ ?_|refine gN _ ?_ ?_|refine sM _ ?_ ?_|refine gM _ ?_ ?_|refine sB _ ?_ ?_|refine gB _ ?_ ?_)<;>intro hc<;>simp[*,F110,chkV,ints,valM]))
 ·(simp[*,F110,chkV,ints,valM])<;>(repeat' ((first|refine sP _ ?_ ?_|refine gP _ ?_ ?_|refine sN _ ?_ ?_|refine gN _ ?_ ?_|refine sM _ ?_ ?_|refine gM _ ?_ ?_|refine sB _ ?_ ?_|refine gB _ ?_ ?_)<;>intro hc<;>simp[*,F110,chkV,ints,valM]))
def zN(ty l:List Int):List Int:=if l.all (fun v=>valM ty v 0)then l.map (at0 ty)else[]
theorem zAa{ty:List Int}{v t:Int}(h:valM ty v t=true):0<=v/\v<ty.length:=by
 simp[valM]at h;exact⟨h.1,h.2.1⟩
theorem types_spec(u:Unt)(f:Flow)(n:Nat)(l:List Int)(σ:zb)(hl:l.length<1099511627776):zh E 94 [chkV u f n,ints l] σ=some (.ret (ints (zN f.types l)),σ):=by
 refine ze rfl rfl rfl (by simp[chkV]) ?_;simp[F94,ints];refine zwa l K94_0 B94_0 (fun d=>[(9,.int .i64 d.length),(4,acc 1 (d.map fun v=> .int .i64 (at0 f.types v)))]) (fun _=>σ) (fun d=>d.all (fun v=>valM f.types v 0)=true) (by omega) (by simp) ?_ ?_
 ·intros d x r s hl' hlt hget hget' hw hp h1 h2 h3 h4;simp at h1 h3;clear h2;have hv:=value_spec u f n x 0 σ;cases hx:valM f.types x 0
  ·have:zN f.types l=[]:=by
    unfold zN;rw[if_neg];rw[hl'.eq];simp[hx]
   simp[chkV]at hv
   (simp[*,chkV])<;>(repeat' ((first|refine sP _ ?_ ?_|refine gP _ ?_ ?_|refine sN _ ?_ ?_|refine gN _ ?_ ?_|refine sM _ ?_ ?_|refine gM _ ?_ ?_|refine sB _ ?_ ?_|refine gB _ ?_ ?_)<;>intro hc<;>simp[*,chkV]))
  ·obtain⟨r0,r1⟩:=zAa hx;have q1:=at0_get r0 r1;have q2:x.toNat<f.types.length:=by omega
   have q3:=at0_get' r0 r1 q2;have q4:(d.length+1)*8<=zNa:=by simp only[zNa];omega
   simp[chkV,ints]at hv
   (simp[*,chkV,ints])<;>(repeat' ((first|refine sP _ ?_ ?_|refine gP _ ?_ ?_|refine sN _ ?_ ?_|refine gN _ ?_ ?_|refine sM _ ?_ ?_|refine gM _ ?_ ?_|refine sB _ ?_ ?_|refine gB _ ?_ ?_)<;>intro hc<;>simp[*,chkV,ints]))
 ·intros s hp h1 h2 h3 h4;simp at h1 h3;have:zN f.types l=l.map (at0 f.types):=by
   unfold zN;rw[if_pos hp]
  (simp[*,ints])<;>(repeat' ((first|refine sP _ ?_ ?_|refine gP _ ?_ ?_|refine sN _ ?_ ?_|refine gN _ ?_ ?_|refine sM _ ?_ ?_|refine gM _ ?_ ?_|refine sB _ ?_ ?_|refine gB _ ?_ ?_)<;>intro hc<;>simp[*,ints]))
def eqGo{S:Type}(g:S->Int->Int->Bool×S):S->List (Int×Int)->Bool×S
 |s,[]=>(true,s)
 |s,p::r=>if(g s p.1 p.2).1 then eqGo g (g s p.1 p.2).2 r else(false,(g s p.1 p.2).2)
theorem eqGo_append{S:Type}(g:S->Int->Int->Bool×S):∀(d r:List (Int×Int)) (s:S),eqGo g s (d++r)=if(eqGo g s d).1 then eqGo g (eqGo g s d).2 r else(false,(eqGo g s d).2)
 | [],r,s=>by simp[eqGo]
 |p::d,r,s=>by
  simp only[List.cons_append,eqGo];split
  ·rename_i h;simp[eqGo_append g d r]
  ·simp
def eqM{S:Type}(g:S->Int->Int->Bool×S)(s:S)(l ts:List Int):Bool×S:=if l.length=ts.length then eqGo g s (l.zip ts)else(false,s)
theorem equalFunc_spec{S:Type}(g:S->Int->Int->Bool×S)(e:S->zb)(J:S->Prop)(s0:S)(l ts:List Int)(k:Nat)(first caps:List PV)(hl:l.length<1099511627776)(hJ:J s0)
  (hg:∀s v t,J s->J (g s v t).2/\zh E k (first++[.int .i64 v,.int .i64 t]++caps) (e s)=some (.ret (.bool (g s v t).1),e (g s v t).2)):
  zh E 111 [ints l,ints ts,.fn k first caps] (e s0)=some (.ret (.bool (eqM g s0 l ts).1),e (eqM g s0 l ts).2):=by
 refine ze rfl rfl rfl (by simp) ?_;by_cases hlen:l.length=ts.length
 ·have hm:eqM g s0 l ts=eqGo g s0 (l.zip ts):=by simp[eqM,hlen]
  simp[F111,ints,hlen];refine zwa (l.zip ts) K111_0 B111_0 (fun d=>[(17,.int .i64 d.length)]) (fun d=>e (eqGo g s0 d).2) (fun d=>(eqGo g s0 d).1=true/\J (eqGo g s0 d).2) (by simp;omega) (by simp[eqGo,hJ]) ?_ ?_
  ·rintro d ⟨v,t⟩ r s hl' hlt hget hget' hw ⟨hp,hj⟩ h1 h2 h3 h4
   simp at h1 h3;clear h2;rw[List.getElem?_zip_eq_some]at hget;obtain⟨g1,g2⟩:=hget;have hlt1:d.length<l.length:=by simp at hlt;omega
   have hlt2:d.length<ts.length:=by omega
   have g1':l[d.length]=v:=by simpa[hlt1]using g1
   have g2':ts[d.length]=t:=by simpa[hlt2]using g2
   obtain⟨hj',hc⟩:=hg (eqGo g s0 d).2 v t hj;have e1:eqGo g s0 (d++[(v,t)])=((g (eqGo g s0 d).2 v t).1,(g (eqGo g s0 d).2 v t).2):=by
    rw[eqGo_append,hp];simp only[eqGo,if_true];cases(g (eqGo g s0 d).2 v t).1<;>rfl
   have e2:(g (eqGo g s0 d).2 v t).1=false->eqGo g s0 (l.zip ts)=(false,(g (eqGo g s0 d).2 v t).2):=by
    intro hf;rw[hl'.eq,eqGo_append,hp];simp[eqGo,hf]
   clear hg;simp at hc;rw[hm];cases hb:(g (eqGo g s0 d).2 v t).1
   ·have e3:=e2 hb;clear e2;rw[hb]at hc e1
    (simp[*,ints])<;>(repeat' ((first|refine sP _ ?_ ?_|refine gP _ ?_ ?_|refine sN _ ?_ ?_|refine gN _ ?_ ?_|refine sM _ ?_ ?_|refine gM _ ?_ ?_|refine sB _ ?_ ?_|refine gB _ ?_ ?_)<;>intro hc<;>simp[*,ints]))
   ·clear e2;rw[hb]at hc e1
    (simp[*,ints])<;>(repeat' ((first|refine sP _ ?_ ?_|refine gP _ ?_ ?_|refine sN _ ?_ ?_|refine gN _ ?_ ?_|refine sM _ ?_ ?_|refine gM _ ?_ ?_|refine sB _ ?_ ?_|refine gB _ ?_ ?_)<;>intro hc<;>simp[*,ints]))
  ·rintro s ⟨hp,hj⟩ h1 h2 h3 h4
   have hz:(l.zip ts).length=l.length:=by simp;omega
   rw[hz]at h3;simp at h1 h3;clear hg
   (simp[*,ints])<;>(repeat' ((first|refine sP _ ?_ ?_|refine gP _ ?_ ?_|refine sN _ ?_ ?_|refine gN _ ?_ ?_|refine sM _ ?_ ?_|refine gM _ ?_ ?_|refine sB _ ?_ ?_|refine gB _ ?_ ?_)<;>intro hc<;>simp[*,ints]))
 ·have hm:eqM g s0 l ts=(false,s0):=by simp[eqM,hlen]
  have hlen':¬(l.length:Int)=ts.length:=by omega
  clear hg
  (simp[*,F111,ints])<;>(repeat' ((first|refine sP _ ?_ ?_|refine gP _ ?_ ?_|refine sN _ ?_ ?_|refine gN _ ?_ ?_|refine sM _ ?_ ?_|refine gM _ ?_ ?_|refine sB _ ?_ ?_|refine gB _ ?_ ?_)<;>intro hc<;>simp[*,F111,ints]))
def useG(ty:List Int)(S:St1)(v t:Int):Bool×St1:=(valM ty v t&&decide (at0 S v=1),S)
def zoa(ty:List Int)(S:St1)(l ts:List Int):Bool:=(eqM (useG ty) S l ts).1
theorem eqGo_useG(ty:List Int)(S:St1):∀l,(eqGo (useG ty) S l).2=S
 | []=>rfl
 |p::r=>by
  simp only[eqGo];split
  ·exact eqGo_useG ty S r
  ·rfl
theorem eqM_useG(ty:List Int)(S:St1)(l ts:List Int):(eqM (useG ty) S l ts).2=S:=by
 unfold eqM;split
 ·exact eqGo_useG _ _ _
 ·rfl
theorem use1_spec(u:Unt)(f:Flow)(S:St1)(v t:Int)(hS:S.length=f.types.length):
  zh E 112 [.int .i64 v,.int .i64 t,.iptr [chkV u f f.types.length] 0] [stO S]=some (.ret (.bool (useG f.types S v t).1),[stO S]):=by
 refine ze rfl rfl rfl (by simp) ?_;have hv:=value_spec u f f.types.length v t [stO S];simp[chkV,ints,stO]at hv;cases hx:valM f.types v t
 ·(simp[*,F112,useG,chkV,stO,ints])<;>(repeat' ((first|refine sP _ ?_ ?_|refine gP _ ?_ ?_|refine sN _ ?_ ?_|refine gN _ ?_ ?_|refine sM _ ?_ ?_|refine gM _ ?_ ?_|refine sB _ ?_ ?_|refine gB _ ?_ ?_)<;>intro hc<;>simp[*,F112,useG,chkV,stO,ints]))
 ·obtain⟨r0,r1⟩:=zAa hx;have q0:v<S.length:=by omega
  have q1:=at0_get r0 q0;have q2:v.toNat<S.length:=by omega
  have q3:=at0_get' r0 q0 q2;have q4:v.toNat<f.types.length:=by omega
  (simp[*,F112,useG,chkV,stO,ints])<;>(repeat' ((first|refine sP _ ?_ ?_|refine gP _ ?_ ?_|refine sN _ ?_ ?_|refine gN _ ?_ ?_|refine sM _ ?_ ?_|refine gM _ ?_ ?_|refine sB _ ?_ ?_|refine gB _ ?_ ?_)<;>intro hc<;>simp[*,F112,useG,chkV,stO,ints]))
theorem zqa(u:Unt)(f:Flow)(S:St1)(l ts:List Int)(hS:S.length=f.types.length)(hl:l.length<1099511627776):
  zh E 95 [chkV u f f.types.length,ints l,ints ts] [stO S]=some (.ret (.bool (zoa f.types S l ts)),[stO S]):=by
 refine ze rfl rfl rfl (by simp[chkV]) ?_;have h:=equalFunc_spec (useG f.types) (fun S=>[stO S]) (fun S=>S.length=f.types.length) S l ts 112 [] [.iptr [chkV u f f.types.length] 0] hl hS (fun s v t hs=>⟨hs,use1_spec u f s v t hs⟩);simp only[eqM_useG]at h;simp[chkV]at h
 (simp[*,F95,chkV,zoa])<;>(repeat' ((first|refine sP _ ?_ ?_|refine gP _ ?_ ?_|refine sN _ ?_ ?_|refine gN _ ?_ ?_|refine sM _ ?_ ?_|refine gM _ ?_ ?_|refine sB _ ?_ ?_|refine gB _ ?_ ?_)<;>intro hc<;>simp[*,F95,chkV,zoa]))
def setG(ty:List Int)(S:St1)(v t:Int):Bool×St1:=if valM ty v t&&decide (at0 S v=0)then(true,S.set v.toNat 1)else(false,S)
def setM(ty:List Int)(S:St1)(l ts:List Int):Bool×St1:=eqM (setG ty) S l ts
theorem setG_len(ty:List Int)(S:St1)(v t:Int):(setG ty S v t).2.length=S.length:=by
 unfold setG;split<;>simp
theorem eqGo_setG_len(ty:List Int):∀(l:List (Int×Int)) (S:St1),(eqGo (setG ty) S l).2.length=S.length
 | [],S=>rfl
 |p::r,S=>by
  simp only[eqGo];split
  ·rw[eqGo_setG_len ty r,setG_len]
  ·rw[setG_len]
theorem zoc(ty:List Int)(S:St1)(l ts:List Int):(setM ty S l ts).2.length=S.length:=by
 unfold setM eqM;split
 ·exact eqGo_setG_len _ _ _
 ·rfl
theorem set1_spec(u:Unt)(f:Flow)(S:St1)(v t:Int)(hS:S.length=f.types.length):
  zh E 113 [.int .i64 v,.int .i64 t,.iptr [chkV u f f.types.length] 0] [stO S]=some (.ret (.bool (setG f.types S v t).1),[stO (setG f.types S v t).2]):=by
 refine ze rfl rfl rfl (by simp) ?_;have hv:=value_spec u f f.types.length v t [stO S];simp[chkV,ints,stO]at hv;cases hx:valM f.types v t
 ·(simp[*,F113,setG,chkV,stO,ints])<;>(repeat' ((first|refine sP _ ?_ ?_|refine gP _ ?_ ?_|refine sN _ ?_ ?_|refine gN _ ?_ ?_|refine sM _ ?_ ?_|refine gM _ ?_ ?_|refine sB _ ?_ ?_|refine gB _ ?_ ?_)<;>intro hc<;>simp[*,F113,setG,chkV,stO,ints]))
 ·obtain⟨r0,r1⟩:=zAa hx;have q0:v<S.length:=by omega
  have q1:=at0_get r0 q0;have q2:v.toNat<S.length:=by omega
  have q3:=at0_get' r0 q0 q2;have q4:v.toNat<f.types.length:=by omega
  (simp[*,F113,setG,chkV,stO,ints,zE,zRb,yma])<;>(repeat' ((first|refine sP _ ?_ ?_|refine gP _ ?_ ?_|refine sN _ ?_ ?_|refine gN _ ?_ ?_|refine sM _ ?_ ?_|refine gM _ ?_ ?_|refine sB _ ?_ ?_|refine gB _ ?_ ?_)<;>intro hc<;>simp[*,F113,setG,chkV,stO,ints,zE,zRb,yma]))
theorem set_spec(u:Unt)(f:Flow)(S:St1)(l ts:List Int)(hS:S.length=f.types.length)(hl:l.length<1099511627776):
  zh E 97 [chkV u f f.types.length,ints l,ints ts] [stO S]=some (.ret (.bool (setM f.types S l ts).1),[stO (setM f.types S l ts).2]):=by
 refine ze rfl rfl rfl (by simp[chkV]) ?_;have h:=equalFunc_spec (setG f.types) (fun S=>[stO S]) (fun S=>S.length=f.types.length) S l ts 113 [] [.iptr [chkV u f f.types.length] 0] hl hS (fun s v t hs=>⟨by rw[setG_len];exact hs,set1_spec u f s v t hs⟩);simp[chkV]at h
 (simp[*,F97,chkV,setM])<;>(repeat' ((first|refine sP _ ?_ ?_|refine gP _ ?_ ?_|refine sN _ ?_ ?_|refine gN _ ?_ ?_|refine sM _ ?_ ?_|refine gM _ ?_ ?_|refine sB _ ?_ ?_|refine gB _ ?_ ?_)<;>intro hc<;>simp[*,F97,chkV,setM]))
def zeros(n:Nat):List Int:=yg n 0
def allM(ty:List Int)(S:St1)(l:List Int):Bool×St1:=setM ty S l (zeros l.length)
theorem all_spec(u:Unt)(f:Flow)(S:St1)(l:List Int)(hS:S.length=f.types.length)(hl:l.length<1099511627776):
  zh E 96 [chkV u f f.types.length,ints l] [stO S]=some (.ret (.bool (allM f.types S l).1),[stO (allM f.types S l).2]):=by
 refine ze rfl rfl rfl (by simp[chkV]) ?_;have h:=set_spec u f S l (zeros l.length) hS hl;have h1:(0:Int)<=(l.length:Int):=by omega
 have h2:(l.length:Int)<=9223372036854775807:=by omega
 have h3:8*(l.length:Int)<=281474976710656:=by omega
 simp[chkV,ints,zeros]at h
 (simp[*,F96,chkV,allM,zeros,ints])<;>(repeat' ((first|refine sP _ ?_ ?_|refine gP _ ?_ ?_|refine sN _ ?_ ?_|refine gN _ ?_ ?_|refine sM _ ?_ ?_|refine gM _ ?_ ?_|refine sB _ ?_ ?_|refine gB _ ?_ ?_)<;>intro hc<;>simp[*,F96,chkV,allM,zeros,ints]))
def zmb(S:St1)(l:List Int):St1:=l.foldl (fun S v=>S.set v.toNat 2) S
theorem zic(l:List Int):∀S:St1,(zmb S l).length=S.length:=by
 induction l with
 |nil=>intro S;rfl
 |cons v r ih=>intro S;simp[zmb]at ih ⊢;rw[ih];simp
theorem hideM_snoc(S:St1)(l:List Int)(v:Int):zmb S (l++[v])=(zmb S l).set v.toNat 2:=by simp[zmb]
theorem hide_spec(u:Unt)(f:Flow)(S:St1)(l:List Int)(hS:S.length=f.types.length)(hl:l.length<1099511627776)(hv:∀v∈l,0<=v/\v<f.types.length):
  zh E 67 [chkV u f f.types.length,ints l] [stO S]=some (.ret (.tup []),[stO (zmb S l)]):=by
 refine ze rfl rfl rfl (by simp[chkV]) ?_;simp[F67,ints];refine zwa l K67_0 B67_0 (fun d=>[(8,.int .i64 d.length)]) (fun d=>[stO (zmb S d)]) (fun d=>True) (by omega) (by simp[zmb]) ?_ ?_
 ·intros d x r s hl' hlt hget hget' hw hp h1 h2 h3 h4;simp at h1 h3;clear h2;obtain⟨r0,r1⟩:=hv x hl'.mem;have hlen:=zic d S;have q2:x.toNat<S.length:=by omega
  have q4:x.toNat<f.types.length:=by omega
  have hsn:=hideM_snoc S d x;clear hv
  (simp[*,chkV,stO,zE,zRb,yma])<;>(repeat' ((first|refine sP _ ?_ ?_|refine gP _ ?_ ?_|refine sN _ ?_ ?_|refine gN _ ?_ ?_|refine sM _ ?_ ?_|refine gM _ ?_ ?_|refine sB _ ?_ ?_|refine gB _ ?_ ?_)<;>intro hc<;>simp[*,chkV,stO,zE,zRb,yma]))
 ·intros s hp h1 h2 h3 h4;simp at h1 h3;clear hv
  (simp[*])<;>(repeat' ((first|refine sP _ ?_ ?_|refine gP _ ?_ ?_|refine sN _ ?_ ?_|refine gN _ ?_ ?_|refine sM _ ?_ ?_|refine gM _ ?_ ?_|refine sB _ ?_ ?_|refine gB _ ?_ ?_)<;>intro hc<;>simp[*]))
def kidsN(k:Int):Int:=if k=10 then 2 else if k=11 then 1 else 0
def bareM(n:Node):Bool:=
 (decide (n.kind=3)||decide (n.kind=4)||decide (n.op=0))&&(decide (n.kind=1)||decide (n.kind=2)||decide (n.n=0))&&
 (decide (n.kind=5)||decide (n.kind=6)||decide (n.kind=7)||decide (n.name=[]))&&(decide (n.kind=11)||decide (n.params=[]))&&decide ((n.kids.length:Int)=kidsN n.kind)
theorem bare_spec(x:Node):zh E 81 [zP x] []=some (.ret (.bool (bareM x)),[]):=by
 refine ze rfl rfl rfl (by simp[za]) ?_;have hp:decide ((x.params.length:Int)=0)=decide (x.params=[]):=by simp
 by_cases h10:x.kind=10
 ·(simp[*,F81,za,ints,kids,bareM,kidsN])<;>(repeat' ((first|refine sP _ ?_ ?_|refine gP _ ?_ ?_|refine sN _ ?_ ?_|refine gN _ ?_ ?_|refine sM _ ?_ ?_|refine gM _ ?_ ?_|refine sB _ ?_ ?_|refine gB _ ?_ ?_)<;>intro hc<;>simp[*,F81,za,ints,kids,bareM,kidsN]))
  all_goals(try grind)
 ·by_cases h11:x.kind=11
  ·(simp[*,F81,za,ints,kids,bareM,kidsN])<;>(repeat' ((first|refine sP _ ?_ ?_|refine gP _ ?_ ?_|refine sN _ ?_ ?_|refine gN _ ?_ ?_|refine sM _ ?_ ?_|refine gM _ ?_ ?_|refine sB _ ?_ ?_|refine gB _ ?_ ?_)<;>intro hc<;>simp[*,F81,za,ints,kids,bareM,kidsN]))
   all_goals(try grind)
  ·(simp[*,F81,za,ints,kids,bareM,kidsN])<;>(repeat' ((first|refine sP _ ?_ ?_|refine gP _ ?_ ?_|refine sN _ ?_ ?_|refine gN _ ?_ ?_|refine sM _ ?_ ?_|refine gM _ ?_ ?_|refine sB _ ?_ ?_|refine gB _ ?_ ?_)<;>intro hc<;>simp[*,F81,za,ints,kids,bareM,kidsN]))
   all_goals(try grind)
def takes(op:Int):Int:=if op=22 then 2 else if op=16\/op=17 then 0 else 1
def makes(op:Int):Int:=if op=22\/(12<=op/\op<=17)then 2 else 1
theorem operand_spec(op:Int):zh E 114 [.int .i64 op] []=some (.ret (.tup [.int .i64 (takes op),.int .i64 (makes op)]),[]):=by
 refine ze rfl rfl rfl (by simp) ?_
 (simp[*,F114,takes,makes])<;>(repeat' ((first|refine sP _ ?_ ?_|refine gP _ ?_ ?_|refine sN _ ?_ ?_|refine gN _ ?_ ?_|refine sM _ ?_ ?_|refine gM _ ?_ ?_|refine sB _ ?_ ?_|refine gB _ ?_ ?_)<;>intro hc<;>simp[*,F114,takes,makes]))
 all_goals(try grind)
def signList:List (List UInt8):=[[],[43],[45],[42],[47],[37],[38],[124],[94],[60,60],[62,62],[62,62,62],[60],[60,61],[62],[62,61],[61,61],[33,61],[38,38],[124,124],[45],[126],[33],[105,56],[105,49,54],[105,51,50],[117,56],[117,49,54],[117,51,50]]
def zfc:List Int:=[0,9,9,10,10,10,5,3,4,8,8,8,7,7,7,7,6,6,2,1,0,0,0,0,0,0,0,0,0]
def sgn(op:Int):List UInt8:=if op<0 then[]else(signList[op.toNat]?).getD []
def lvl(op:Int):Int:=if op<0 then 0 else(zfc[op.toNat]?).getD 0
theorem rowCells:∀n:Nat,n<29->List.take 2 (List.drop (n*2) [.str [],.int .i64 0,.str [43],.int .i64 9,.str [45],.int .i64 9,.str [42],.int .i64 10,.str [47],.int .i64 10,.str [37],.int .i64 10,.str [38],.int .i64 5,.str [124],.int .i64 3,.str [94],.int .i64 4,.str [60,60],.int .i64 8,.str [62,62],.int .i64 8,.str [62,62,62],.int .i64 8,.str [60],.int .i64 7,.str [60,61],.int .i64 7,.str [62],.int .i64 7,.str [62,61],.int .i64 7,.str [61,61],.int .i64 6,.str [33,61],.int .i64 6,.str [38,38],.int .i64 2,.str [124,124],.int .i64 1,.str [45],.int .i64 0,.str [126],.int .i64 0,.str [33],.int .i64 0,.str [105,56],.int .i64 0,.str [105,49,54],.int .i64 0,.str [105,51,50],.int .i64 0,.str [117,56],.int .i64 0,.str [117,49,54],.int .i64 0,.str [117,51,50],.int .i64 0])=[PV.str ((signList[n]?).getD []),PV.int .i64 ((zfc[n]?).getD 0)]
 |0,_=>rfl
 |1,_=>rfl
 |2,_=>rfl
 |3,_=>rfl
 |4,_=>rfl
 |5,_=>rfl
 |6,_=>rfl
 |7,_=>rfl
 |8,_=>rfl
 |9,_=>rfl
 |10,_=>rfl
 |11,_=>rfl
 |12,_=>rfl
 |13,_=>rfl
 |14,_=>rfl
 |15,_=>rfl
 |16,_=>rfl
 |17,_=>rfl
 |18,_=>rfl
 |19,_=>rfl
 |20,_=>rfl
 |21,_=>rfl
 |22,_=>rfl
 |23,_=>rfl
 |24,_=>rfl
 |25,_=>rfl
 |26,_=>rfl
 |27,_=>rfl
 |28,_=>rfl
 |n+29,h=>by omega
set_option maxHeartbeats 4000000 in
theorem rowOf_spec(op:Int)(σ:zb):zh E 122 [.int .i64 op] σ=some (.ret (.agg [.str (sgn op),.int .i64 (lvl op)]),σ):=by
 refine ze rfl rfl rfl (by simp) ?_;by_cases h0:op<0
 ·simp[F122,h0,sgn,lvl]
 by_cases h1:29<=op
 ·have:29<=op.toNat:=by omega
  simp[F122,h0,h1,sgn,lvl,signList,zfc,yT,this]
 have h2:op.toNat<29:=by omega
 have h3:0<=op:=by omega
 have h4:op.toNat*2<=56:=by omega
 have e1:sgn op=((signList[op.toNat]?).getD []):=by simp[sgn,h0]
 have e2:lvl op=((zfc[op.toNat]?).getD 0):=by simp[lvl,h0]
 rw[e1,e2];have e3:=rowCells op.toNat h2;generalize((signList[op.toNat]?).getD [])=s at*;generalize((zfc[op.toNat]?).getD 0)=l at*;simp[F122,h0,h1,h2,h3,h4,e3]
theorem level_spec(op:Int)(σ:zb):zh E 115 [.int .i64 op] σ=some (.ret (.int .i64 (lvl op)),σ):=by
 refine ze rfl rfl rfl (by simp) ?_
 (simp[*,F115,rowOf_spec])<;>(repeat' ((first|refine sP _ ?_ ?_|refine gP _ ?_ ?_|refine sN _ ?_ ?_|refine gN _ ?_ ?_|refine sM _ ?_ ?_|refine gM _ ?_ ?_|refine sB _ ?_ ?_|refine gB _ ?_ ?_)<;>intro hc<;>simp[*,F115,rowOf_spec]))
theorem lvl_pos(op:Int):(0<lvl op/\op<=17)=(1<=op/\op<=17):=by
 apply propext;constructor
 ·rintro⟨h,h'⟩
  refine⟨?_,h'⟩;by_cases h0:op<0
  ·simp[lvl,h0]at h
  ·by_cases h1:op=0
   ·subst h1;simp[lvl,zfc]at h
   ·omega
 ·rintro⟨h,h'⟩
  refine⟨?_,h'⟩;have:op=1\/op=2\/op=3\/op=4\/op=5\/op=6\/op=7\/op=8\/op=9\/op=10\/op=11\/op=12\/op=13\/op=14\/op=15\/op=16\/op=17:=by omega
  rcases this with h|h|h|h|h|h|h|h|h|h|h|h|h|h|h|h|h<;>subst h<;>decide
structure Place where
 inIf:Bool
 inLoop:Bool
 yield:List Int
 next:List Int
 left:List Int
def zk(p:Place):PV:= .agg [.bool p.inIf,.bool p.inLoop,ints p.yield,ints p.next,ints p.left]
structure UOk(u:Unt):Prop where
 arrs:u.arrays.length<1099511627776
 flows:u.flows.length<1099511627776
 pars:∀f∈u.flows,0<=f.params/\f.params<=f.types.length
 types:∀f∈u.flows,f.types.length<1099511627776
def sumM(ty:List Int)(S:St1)(n:Node):Bool×St1:=
 if n.kind=3 then
  if 20<=n.op/\n.op<=28/\zoa ty S n.args [takes n.op]=true then setM ty S n.outs [makes n.op]else(false,S)
 else
  if 1<=n.op/\n.op<=17/\zoa ty S n.args [takes n.op,takes n.op]=true/\at0 ty (at0 n.args 0)=at0 ty (at0 n.args 1)then setM ty S n.outs [makes n.op]else(false,S)
theorem usesM_two{ty S l:List Int}{t t':Int}(h:zoa ty S l [t,t']=true):∃a b,l=[a,b]/\0<=a/\a<ty.length/\0<=b/\b<ty.length:=by
 unfold zoa eqM at h
 match l with
 | []=>simp at h
 | [_]=>simp at h
 |a::b::_::_=>simp at h
 | [a,b]=>
  simp[eqGo,useG]at h;split at h
  ·rename_i q;split at h
   ·rename_i q';obtain⟨r0,r1⟩:=zAa q.1;obtain⟨r2,r3⟩:=zAa q'.1;exact⟨a,b,rfl,r0,r1,r2,r3⟩
   ·simp at h
  ·simp at h
theorem sum_spec(u:Unt)(f:Flow)(S:St1)(x:Node)(hS:S.length=f.types.length)(hx:wtN x<1099511627776)(hk:x.kind=3\/x.kind=4):
  zh E 98 [chkV u f f.types.length,zP x] [stO S]=some (.ret (.bool (sumM f.types S x).1),[stO (sumM f.types S x).2]):=by
 refine ze rfl rfl rfl (by simp[za,chkV]) ?_;have hw:=zKb x;have h1:=zqa u f S x.args [takes x.op] hS (by omega);have h2:=zqa u f S x.args [takes x.op,takes x.op] hS (by omega);have h3:=set_spec u f S x.outs [makes x.op] hS (by omega);have h4:=operand_spec x.op;have h5:=level_spec x.op [];have h6:=lvl_pos x.op;simp[chkV,ints]at h1 h2 h3;rcases hk with hk|hk
 ·have e:sumM f.types S x=if 20<=x.op/\x.op<=28/\zoa f.types S x.args [takes x.op]=true then setM f.types S x.outs [makes x.op]else(false,S):=by simp[sumM,hk]
  (simp[*,F98,za,chkV,ints])<;>(repeat' ((first|refine sP _ ?_ ?_|refine gP _ ?_ ?_|refine sN _ ?_ ?_|refine gN _ ?_ ?_|refine sM _ ?_ ?_|refine gM _ ?_ ?_|refine sB _ ?_ ?_|refine gB _ ?_ ?_)<;>intro hc<;>simp[*,F98,za,chkV,ints]))
 ·have e:sumM f.types S x=if 1<=x.op/\x.op<=17/\zoa f.types S x.args [takes x.op,takes x.op]=true/\at0 f.types (at0 x.args 0)=at0 f.types (at0 x.args 1)then setM f.types S x.outs [makes x.op]else(false,S):=by simp[sumM,hk]
  by_cases hu:zoa f.types S x.args [takes x.op,takes x.op]=true
  ·obtain⟨a,b,e1,r0,r1,r2,r3⟩:=usesM_two hu;have q1:=at0_get r0 r1;have q2:a.toNat<f.types.length:=by omega
   have q3:=at0_get' r0 r1 q2;have q1':=at0_get r2 r3;have q2':b.toNat<f.types.length:=by omega
   have q3':=at0_get' r2 r3 q2';have z0:at0 [a,b] 0=a:=rfl;have z1:at0 [a,b] 1=b:=rfl;rw[e1]at h1 h2 e hu;rw[hu]at h2;clear h1 hw;simp at h2
   (simp[*,F98,za,chkV,ints])<;>(repeat' ((first|refine sP _ ?_ ?_|refine gP _ ?_ ?_|refine sN _ ?_ ?_|refine gN _ ?_ ?_|refine sM _ ?_ ?_|refine gM _ ?_ ?_|refine sB _ ?_ ?_|refine gB _ ?_ ?_)<;>intro hc<;>simp[*,F98,za,chkV,ints]))
   all_goals(try grind)
  ·have hu':zoa f.types S x.args [takes x.op,takes x.op]=false:=by simpa using hu
   rw[hu']at h2;clear h1 hw
   (simp[*,F98,za,chkV,ints])<;>(repeat' ((first|refine sP _ ?_ ?_|refine gP _ ?_ ?_|refine sN _ ?_ ?_|refine gN _ ?_ ?_|refine sM _ ?_ ?_|refine gM _ ?_ ?_|refine sB _ ?_ ?_|refine gB _ ?_ ?_)<;>intro hc<;>simp[*,F98,za,chkV,ints]))
   all_goals(try grind)
def endM(f:Flow)(S:St1)(n:Node)(p:Place):Bool:=
 decide (n.outs=[])&&(if n.kind=12 then p.inIf&&zoa f.types S n.args p.yield else if n.kind=13 then p.inLoop&&zoa f.types S n.args p.next
  else if n.kind=14 then p.inLoop&&zoa f.types S n.args p.left else zoa f.types S n.args [f.type])
theorem end_spec(u:Unt)(f:Flow)(S:St1)(x:Node)(p:Place)(hS:S.length=f.types.length)(hx:wtN x<1099511627776):
  zh E 84 [chkV u f f.types.length,zP x,zk p] [stO S]=some (.ret (.bool (endM f S x p)),[stO S]):=by
 refine ze rfl rfl rfl (by simp[za,chkV,zk]) ?_;have hw:=zKb x;have h1:=zqa u f S x.args p.yield hS (by omega);have h2:=zqa u f S x.args p.next hS (by omega);have h3:=zqa u f S x.args p.left hS (by omega);have h4:=zqa u f S x.args [f.type] hS (by omega);have ho:decide ((x.outs.length:Int)=0)=decide (x.outs=[]):=by simp
 simp[chkV,ints]at h1 h2 h3 h4;clear hw;by_cases h0:x.outs=[]
 ·(simp[*,F84,za,chkV,ints,zk,endM])<;>(repeat' ((first|refine sP _ ?_ ?_|refine gP _ ?_ ?_|refine sN _ ?_ ?_|refine gN _ ?_ ?_|refine sM _ ?_ ?_|refine gM _ ?_ ?_|refine sB _ ?_ ?_|refine gB _ ?_ ?_)<;>intro hc<;>simp[*,F84,za,chkV,ints,zk,endM]))
 ·(simp[*,F84,za,chkV,ints,zk,endM])<;>(repeat' ((first|refine sP _ ?_ ?_|refine gP _ ?_ ?_|refine sN _ ?_ ?_|refine gN _ ?_ ?_|refine sM _ ?_ ?_|refine gM _ ?_ ?_|refine sB _ ?_ ?_|refine gB _ ?_ ?_)<;>intro hc<;>simp[*,F84,za,chkV,ints,zk,endM]))
def pars(f:Flow):List Int:=f.types.take f.params.toNat
def zya(u:Unt)(f:Flow)(S:St1)(n:Node):Bool×St1:=
 let ty:=f.types
 if n.kind=1 then if zoa ty S n.args []then setM ty S n.outs [1]else(false,S)
 else if n.kind=2 then if(n.n=0\/n.n=1)/\zoa ty S n.args []=true then setM ty S n.outs [2]else(false,S)
 else if n.kind=3\/n.kind=4 then sumM ty S n
 else if n.kind=5 then if zqb u.arrays n.name&&zoa ty S n.args [1]then setM ty S n.outs [1]else(false,S)
 else if n.kind=6 then if zqb u.arrays n.name&&zoa ty S n.args [1,1]then setM ty S n.outs []else(false,S)
 else if n.kind=8 then if zoa ty S n.args []then setM ty S n.outs [1]else(false,S)
 else if n.kind=9 then if zoa ty S n.args [1]then setM ty S n.outs []else(false,S)
 else if n.kind=7 then
  match u.flows[(zaa u.flows n.name).toNat]? with
  |some g=>if 0<=zaa u.flows n.name/\zoa ty S n.args (pars g)=true then setM ty S n.outs [g.type]else(false,S)
  |none=>(false,S)
 else(false,S)
theorem place_get{l:List Flow}{s:List UInt8}(h:0<=zaa l s):∃g,l[(zaa l s).toNat]? =some g/\g∈l/\g.name=s/\(zaa l s).toNat<l.length:=by
 unfold zaa idx at h ⊢;cases hf:l.findIdx? (fun f=>decide (f.name=s))with
 |none=>rw[hf]at h;simp at h
 |some i=>
  rw[ysa]at hf;obtain⟨hi,h1,_⟩:=hf;refine⟨l[i],by simp[hi],List.getElem_mem hi,by simpa using h1,by simpa using hi⟩
theorem simple_spec(u:Unt)(f:Flow)(S:St1)(x:Node)(hu:UOk u)(hS:S.length=f.types.length)(hx:wtN x<1099511627776):
  zh E 85 [chkV u f f.types.length,zP x] [stO S]=some (.ret (.bool (zya u f S x).1),[stO (zya u f S x).2]):=by
 refine ze rfl rfl rfl (by simp[za,chkV]) ?_;have hw:=zKb x;have h0:=zqa u f S x.args [] hS (by omega);have h1:=zqa u f S x.args [1] hS (by omega);have h2:=zqa u f S x.args [1,1] hS (by omega);have h3:=set_spec u f S x.outs [] hS (by omega);have h4:=set_spec u f S x.outs [1] hS (by omega);have h5:=set_spec u f S x.outs [2] hS (by omega);have h6:=hasArray_spec u x.name [] hu.arrs;have h7:=place_spec u x.name [] hu.flows;simp[chkV,ints,zC,za]at h0 h1 h2 h3 h4 h5 h6 h7;clear hw;by_cases k34:x.kind=3\/x.kind=4
 ·have h8:=sum_spec u f S x hS hx k34;have e:zya u f S x=sumM f.types S x:=by rcases k34 with h|h<;>simp[zya,h]
  simp[chkV,ints,zC,za]at h8
  (simp[*,F85,za,chkV,ints])<;>(repeat' (first|((first|refine sP _ ?_ ?_|refine gP _ ?_ ?_|refine sN _ ?_ ?_|refine gN _ ?_ ?_)<;>intro hc<;>(first|replace hc:=eqn hc|replace hc:=eqp hc)<;>simp[*,F85,za,chkV,ints])|((first|refine sM _ ?_ ?_|refine gM _ ?_ ?_|refine sB _ ?_ ?_|refine gB _ ?_ ?_)<;>intro hc<;>simp[*,F85,za,chkV,ints])))
  all_goals(try grind)
 by_cases k7:x.kind=7
 ·by_cases hp:0<=zaa u.flows x.name
  ·obtain⟨g,q1,q2,q3,q4⟩:=place_get hp;obtain⟨p1,p2⟩:=hu.pars g q2;have q5:u.flows[(zaa u.flows x.name).toNat]=g:=by simpa[q4]using q1
   have e:zya u f S x=if 0<=zaa u.flows x.name/\zoa f.types S x.args (pars g)=true then setM f.types S x.outs [g.type]else(false,S):=by simp[zya,k7,q1]
   have h8:=zqa u f S x.args (pars g) hS (by have:=zKb x;omega);have h9:=set_spec u f S x.outs [g.type] hS (by have:=zKb x;omega);have p3:g.params.toNat<=g.types.length:=by omega
   have p4:¬zaa u.flows x.name<0:=by omega
   simp[chkV,ints,zC,za,k7,flows,pars,List.map_take]at h8 h9 h7;clear h0 h1 h2 h3 h4 h5 h6 hu
   (simp[*,F85,za,chkV,ints,flows,zj,pars,List.map_take])<;>(repeat' ((first|refine sP _ ?_ ?_|refine gP _ ?_ ?_|refine sN _ ?_ ?_|refine gN _ ?_ ?_|refine sM _ ?_ ?_|refine gM _ ?_ ?_|refine sB _ ?_ ?_|refine gB _ ?_ ?_)<;>intro hc<;>simp[*,F85,za,chkV,ints,flows,zj,pars,List.map_take]))
  ·have e:zya u f S x=(false,S):=by
    simp only[zya,k7];simp;split<;>simp[hp]
   have p4:zaa u.flows x.name<0:=by omega
   (simp[*,F85,za,chkV,ints])<;>(repeat' ((first|refine sP _ ?_ ?_|refine gP _ ?_ ?_|refine sN _ ?_ ?_|refine gN _ ?_ ?_|refine sM _ ?_ ?_|refine gM _ ?_ ?_|refine sB _ ?_ ?_|refine gB _ ?_ ?_)<;>intro hc<;>simp[*,F85,za,chkV,ints]))
 have k3:¬x.kind=3:=fun h=>k34 (.inl h)
 have k4:¬x.kind=4:=fun h=>k34 (.inr h)
 have hs:zya u f S x=if x.kind=1 then if zoa f.types S x.args []then setM f.types S x.outs [1]else(false,S)
  else if x.kind=2 then if(x.n=0\/x.n=1)/\zoa f.types S x.args []=true then setM f.types S x.outs [2]else(false,S)
  else if x.kind=5 then if zqb u.arrays x.name&&zoa f.types S x.args [1]then setM f.types S x.outs [1]else(false,S)
  else if x.kind=6 then if zqb u.arrays x.name&&zoa f.types S x.args [1,1]then setM f.types S x.outs []else(false,S)
  else if x.kind=8 then if zoa f.types S x.args []then setM f.types S x.outs [1]else(false,S)
  else if x.kind=9 then if zoa f.types S x.args [1]then setM f.types S x.outs []else(false,S)
  else(false,S):=by simp[zya,k34,k7]
 (simp[*,F85,za,chkV,ints,zC])<;>(repeat' ((first|refine sP _ ?_ ?_|refine gP _ ?_ ?_|refine sN _ ?_ ?_|refine gN _ ?_ ?_|refine sM _ ?_ ?_|refine gM _ ?_ ?_|refine sB _ ?_ ?_|refine gB _ ?_ ?_)<;>intro hc<;>simp[*,F85,za,chkV,ints,zC]))
 all_goals(try grind)
def listE(l:List Node)(q:Bool×St1):Bool×St1:=if q.1 then(!l.isEmpty,zmb q.2 (l.flatMap Node.outs))else(false,q.2)
def zIb(ty:List Int)(x:Node)(q:Bool×St1):Bool×St1:=if q.1&&(decide (x.outs=[])|| !zU x)then allM ty q.2 x.outs else(false,q.2)
def loopE(ty:List Int)(x:Node)(q:Bool×St1):Bool×St1:=if q.1 then(if decide (x.outs=[])|| !zU x then allM ty (zmb q.2 x.params) x.outs else(false,zmb q.2 x.params))else(false,q.2)
mutual
def nodeM(u:Unt)(f:Flow):Node->Place->Int->St1->Bool×St1
 |⟨k,o,n,s,a,us,ps,ks⟩,p,deep,S=>
  if !bareM ⟨k,o,n,s,a,us,ps,ks⟩then(false,S)
  else if k=10 then
   if zoa f.types S a [2]then zIb f.types ⟨k,o,n,s,a,us,ps,ks⟩ (zxc u f ks {p with inIf:=true,yield:=zN f.types us} (deep+1) S)else(false,S)
  else if k=11 then
   if zoa f.types S a (zN f.types ps)then
    if(allM f.types S ps).1 then loopE f.types ⟨k,o,n,s,a,us,ps,ks⟩ (zxc u f ks ⟨false,true,[],zN f.types ps,zN f.types us⟩ (deep+1) (allM f.types S ps).2)
    else(false,(allM f.types S ps).2)
   else(false,S)
  else if endK k then(endM f S ⟨k,o,n,s,a,us,ps,ks⟩ p,S)
  else zya u f S ⟨k,o,n,s,a,us,ps,ks⟩
def zxc(u:Unt)(f:Flow):List (List Node)->Place->Int->St1->Bool×St1
 | [],p,deep,S=>(true,S)
 |l::r,p,deep,S=>if(listE l (goM u f l p deep S)).1 then zxc u f r p deep (listE l (goM u f l p deep S)).2 else(false,(listE l (goM u f l p deep S)).2)
def goM(u:Unt)(f:Flow):List Node->Place->Int->St1->Bool×St1
 | [],p,deep,S=>(true,S)
 |x::r,p,deep,S=>if 100<deep then(false,S)else
   if(nodeM u f x p deep S).1 then(if zU x=r.isEmpty then goM u f r p deep (nodeM u f x p deep S).2 else(false,(nodeM u f x p deep S).2))else(false,(nodeM u f x p deep S).2)
end
def zHa(u:Unt)(f:Flow)(l:List Node)(p:Place)(deep:Int)(S:St1):Bool×St1:=listE l (goM u f l p deep S)
theorem nodeM_eq(u:Unt)(f:Flow)(x:Node)(p:Place)(deep:Int)(S:St1):nodeM u f x p deep S=
  if !bareM x then(false,S)
  else if x.kind=10 then
   if zoa f.types S x.args [2]then zIb f.types x (zxc u f x.kids {p with inIf:=true,yield:=zN f.types x.outs} (deep+1) S)else(false,S)
  else if x.kind=11 then
   if zoa f.types S x.args (zN f.types x.params)then
    if(allM f.types S x.params).1 then loopE f.types x (zxc u f x.kids ⟨false,true,[],zN f.types x.params,zN f.types x.outs⟩ (deep+1) (allM f.types S x.params).2)
    else(false,(allM f.types S x.params).2)
   else(false,S)
  else if endK x.kind then(endM f S x p,S)
  else zya u f S x:=by
 cases x;rw[nodeM]
theorem sumM_len(ty:List Int)(S:St1)(x:Node):(sumM ty S x).2.length=S.length:=by
 unfold sumM;split<;>split<;>simp[zoc]
theorem simpleM_len(u:Unt)(f:Flow)(S:St1)(x:Node):(zya u f S x).2.length=S.length:=by
 simp only[zya]
 repeat' split
 all_goals simp[zoc,sumM_len]
theorem choiceE_len(ty:List Int)(x:Node)(q:Bool×St1):(zIb ty x q).2.length=q.2.length:=by
 unfold zIb;split<;>simp[allM,zoc]
theorem loopE_len(ty:List Int)(x:Node)(q:Bool×St1):(loopE ty x q).2.length=q.2.length:=by
 unfold loopE;split
 ·split<;>simp[allM,zoc,zic]
 ·rfl
theorem listE_len(l:List Node)(q:Bool×St1):(listE l q).2.length=q.2.length:=by
 unfold listE;split<;>simp[zic]
mutual
theorem nodeM_len(u:Unt)(f:Flow):∀(x:Node) (p:Place) (deep:Int) (S:St1),(nodeM u f x p deep S).2.length=S.length
 |⟨k,o,n,s,a,us,ps,ks⟩,p,deep,S=>by
  rw[nodeM];split
  ·rfl
  split
  ·split
   ·rw[choiceE_len,kidsM_len u f ks]
   ·rfl
  split
  ·split
   ·split
    ·rw[loopE_len,kidsM_len u f ks];simp[allM,zoc]
    ·simp[allM,zoc]
   ·rfl
  split
  ·rfl
  ·exact simpleM_len _ _ _ _
theorem kidsM_len(u:Unt)(f:Flow):∀(ks:List (List Node)) (p:Place) (deep:Int) (S:St1),(zxc u f ks p deep S).2.length=S.length
 | [],p,deep,S=>rfl
 |l::r,p,deep,S=>by
  rw[zxc];split
  ·rw[kidsM_len u f r,listE_len,goM_len u f l]
  ·simp only;rw[listE_len,goM_len u f l]
theorem goM_len(u:Unt)(f:Flow):∀(l:List Node) (p:Place) (deep:Int) (S:St1),(goM u f l p deep S).2.length=S.length
 | [],p,deep,S=>rfl
 |x::r,p,deep,S=>by
  rw[goM];split
  ·rfl
  split
  ·split
   ·rw[goM_len u f r,nodeM_len u f x]
   ·exact nodeM_len u f x p deep S
  ·exact nodeM_len u f x p deep S
end
theorem listM_len(u:Unt)(f:Flow)(l:List Node)(p:Place)(deep:Int)(S:St1):(zHa u f l p deep S).2.length=S.length:=by
 unfold zHa;rw[listE_len,goM_len]
theorem eqGo_setG_ok{ty:List Int}:∀{l:List (Int×Int)} {S:St1},(eqGo (setG ty) S l).1=true->∀q∈l,0<=q.1/\q.1<ty.length
 | [],S,_,q,hq=>by cases hq
 |p::r,S,h,q,hq=>by
  simp only[eqGo]at h;split at h
  ·rename_i hp;rcases yV.1 hq with rfl|hq
   ·unfold setG at hp;split at hp
    ·rename_i hv;simp only[ya]at hv;exact zAa hv.1
    ·cases hp
   ·exact eqGo_setG_ok h q hq
  ·cases h
theorem setM_ok{ty:List Int}{S:St1}{l ts:List Int}(h:(setM ty S l ts).1=true):∀v∈l,0<=v/\v<ty.length:=by
 unfold setM eqM at h;split at h
 ·rename_i hl;intro v hv;have:=eqGo_setG_ok h;obtain⟨i,hi,rfl⟩:=List.getElem_of_mem hv;exact this (l[i],ts[i]) (List.mem_iff_getElem.2 ⟨i,by simp;omega,by simp⟩)
 ·cases h
theorem nodeM_outs{u:Unt}{f:Flow}{x:Node}{p:Place}{deep:Int}{S:St1}(h:(nodeM u f x p deep S).1=true):∀v∈x.outs,0<=v/\v<f.types.length:=by
 rw[nodeM_eq]at h;split at h
 ·cases h
 split at h
 ·split at h
  ·unfold zIb at h;split at h
   ·exact setM_ok h
   ·cases h
  ·cases h
 split at h
 ·split at h
  ·split at h
   ·unfold loopE at h;split at h
    ·split at h
     ·exact setM_ok h
     ·cases h
    ·cases h
   ·cases h
  ·cases h
 split at h
 ·simp only[endM,ya,decide_eq_true_eq]at h;rw[h.1];simp
 ·simp only[zya]at h
  repeat' split at h
  all_goals first|(cases h;done)|exact setM_ok h|skip
  all_goals
   simp only[sumM]at h
   repeat' split at h
   all_goals first|(cases h;done)|exact setM_ok h
theorem kidsM_nil(u:Unt)(f:Flow)(p:Place)(deep:Int)(S:St1):zxc u f [] p deep S=(true,S):=by rw[zxc]
theorem kidsM_cons(u:Unt)(f:Flow)(l:List Node)(r:List (List Node))(p:Place)(deep:Int)(S:St1):zxc u f (l::r) p deep S=if(zHa u f l p deep S).1 then zxc u f r p deep (zHa u f l p deep S).2 else(false,(zHa u f l p deep S).2):=by rw[zxc];rfl
def ListOk(u:Unt)(f:Flow)(deep:Int)(l:List Node):Prop:=∀p S,S.length=f.types.length→
 zh E 43 [chkV u f f.types.length,zy l,zk p,.int .i64 deep] [stO S]=some (.ret (.bool (zHa u f l p deep S).1),[stO (zHa u f l p deep S).2])
theorem choice_spec(u:Unt)(f:Flow)(S:St1)(x:Node)(p:Place)(deep:Int)(hS:S.length=f.types.length)(hx:wtN x<1099511627776)(hk:x.kids.length=2)(hl:∀l∈x.kids,ListOk u f deep l):
  zh E 82 [chkV u f f.types.length,zP x,zk p,.int .i64 deep] [stO S]=
   let q:=if zoa f.types S x.args [2]then zIb f.types x (zxc u f x.kids {p with inIf:=true,yield:=zN f.types x.outs} deep S)else(false,S)
   some (.ret (.bool q.1),[stO q.2]):=by
 refine ze rfl rfl rfl (by simp[za,chkV,zk]) ?_;have hw:=zKb x;obtain⟨a,b,hab⟩:∃a b,x.kids=[a,b]:=by
  match hh:x.kids with
  | []=>rw[hh]at hk;cases hk
  | [_]=>rw[hh]at hk;cases hk
  | [a,b]=>exact⟨a,b,rfl⟩
  |_::_::_::_=>rw[hh]at hk;simp at hk
 generalize hp':({p with inIf:=true,yield:=zN f.types x.outs}:Place)=p';have e1:p'.inIf=true:=by rw[<-hp']
 have e2:p'.inLoop=p.inLoop:=by rw[<-hp']
 have e3:p'.yield=zN f.types x.outs:=by rw[<-hp']
 have e4:p'.next=p.next:=by rw[<-hp']
 have e5:p'.left=p.left:=by rw[<-hp']
 have h0:=types_spec u f f.types.length x.outs [stO S] (by omega);have h1:=zqa u f S x.args [2] hS (by omega);have h2:=hl a (by rw[hab];simp) p' S hS;have hS2:(zHa u f a p' deep S).2.length=f.types.length:=by rw[listM_len];exact hS
 have h3:=hl b (by rw[hab];simp) p' _ hS2;have hS3:(zHa u f b p' deep (zHa u f a p' deep S).2).2.length=f.types.length:=by rw[listM_len];exact hS2
 have h4:=all_spec u f _ x.outs hS3 (by omega);have h5:=zBc x [] hx;have ho:decide ((x.outs.length:Int)=0)=decide (x.outs=[]):=by simp
 have ek:zxc u f [a,b] p' deep S=if(zHa u f a p' deep S).1 then if(zHa u f b p' deep (zHa u f a p' deep S).2).1 then(true,(zHa u f b p' deep (zHa u f a p' deep S).2).2)else(false,(zHa u f b p' deep (zHa u f a p' deep S).2).2)else(false,(zHa u f a p' deep S).2):=by
  rw[kidsM_cons,kidsM_cons,kidsM_nil]
 simp[chkV,ints,za,zk,kids,hab,e1,e2,e3,e4,e5]at h0 h1 h2 h3 h4 h5;generalize zHa u f a p' deep S=ra at*;generalize zHa u f b p' deep ra.2=rb at*;clear hw hl;simp only[hab]
 (simp[*,F82,za,chkV,ints,zk,kids,zIb])<;>(repeat' (first|((first|refine sP _ ?_ ?_|refine gP _ ?_ ?_|refine sN _ ?_ ?_|refine gN _ ?_ ?_)<;>intro hc<;>(first|replace hc:=eqn hc|replace hc:=eqp hc)<;>simp[*,F82,za,chkV,ints,zk,kids,zIb])|((first|refine sM _ ?_ ?_|refine gM _ ?_ ?_|refine sB _ ?_ ?_|refine gB _ ?_ ?_)<;>intro hc<;>simp[*,F82,za,chkV,ints,zk,kids,zIb])))
 all_goals(try grind)
theorem loop_spec(u:Unt)(f:Flow)(S:St1)(x:Node)(deep:Int)(hS:S.length=f.types.length)(hx:wtN x<1099511627776)(hk:x.kids.length=1)(hl:∀l∈x.kids,ListOk u f deep l):
  zh E 83 [chkV u f f.types.length,zP x,.int .i64 deep] [stO S]=
   let q:=if zoa f.types S x.args (zN f.types x.params)then
     if(allM f.types S x.params).1 then loopE f.types x (zxc u f x.kids ⟨false,true,[],zN f.types x.params,zN f.types x.outs⟩ deep (allM f.types S x.params).2)
     else(false,(allM f.types S x.params).2)
    else(false,S)
   some (.ret (.bool q.1),[stO q.2]):=by
 refine ze rfl rfl rfl (by simp[za,chkV,zk]) ?_;have hw:=zKb x;obtain⟨a,hab⟩:∃a,x.kids=[a]:=by
  match hh:x.kids with
  | []=>rw[hh]at hk;cases hk
  | [a]=>exact⟨a,rfl⟩
  |_::_::_=>rw[hh]at hk;simp at hk
 generalize hp':(⟨false,true,[],zN f.types x.params,zN f.types x.outs⟩:Place)=p';have e1:p'.inIf=false:=by rw[<-hp']
 have e2:p'.inLoop=true:=by rw[<-hp']
 have e3:p'.yield=[]:=by rw[<-hp']
 have e4:p'.next=zN f.types x.params:=by rw[<-hp']
 have e5:p'.left=zN f.types x.outs:=by rw[<-hp']
 have h0:=types_spec u f f.types.length x.outs [stO S] (by omega);have h0':=types_spec u f f.types.length x.params [stO S] (by omega);have h1:=zqa u f S x.args (zN f.types x.params) hS (by omega);have h6:=all_spec u f S x.params hS (by omega);have hS1:(allM f.types S x.params).2.length=f.types.length:=by simp only[allM,zoc];exact hS
 have h2:=hl a (by rw[hab];simp) p' _ hS1;have hS2:(zHa u f a p' deep (allM f.types S x.params).2).2.length=f.types.length:=by rw[listM_len];exact hS1
 have h5:=zBc x [] hx;have ho:decide ((x.outs.length:Int)=0)=decide (x.outs=[]):=by simp
 have ek:zxc u f [a] p' deep (allM f.types S x.params).2=if(zHa u f a p' deep (allM f.types S x.params).2).1 then(true,(zHa u f a p' deep (allM f.types S x.params).2).2)else(false,(zHa u f a p' deep (allM f.types S x.params).2).2):=by
  rw[kidsM_cons,kidsM_nil]
 cases hok:(allM f.types S x.params).1
 ·simp[chkV,ints,za,zk,kids,hab,e1,e2,e3,e4,e5,hok]at h0 h0' h1 h2 h5 h6;clear hw hl;simp only[hab]
  (simp[*,F83,za,chkV,ints,zk,kids,loopE])<;>(repeat' (first|((first|refine sP _ ?_ ?_|refine gP _ ?_ ?_|refine sN _ ?_ ?_|refine gN _ ?_ ?_)<;>intro hc<;>(first|replace hc:=eqn hc|replace hc:=eqp hc)<;>simp[*,F83,za,chkV,ints,zk,kids,loopE])|((first|refine sM _ ?_ ?_|refine gM _ ?_ ?_|refine sB _ ?_ ?_|refine gB _ ?_ ?_)<;>intro hc<;>simp[*,F83,za,chkV,ints,zk,kids,loopE])))
  all_goals(try grind)
 ·have h7:=hide_spec u f _ x.params hS2 (by omega) (setM_ok hok);have hS3:(zmb (zHa u f a p' deep (allM f.types S x.params).2).2 x.params).length=f.types.length:=by rw[zic];exact hS2
  have h4:=all_spec u f _ x.outs hS3 (by omega);simp[chkV,ints,za,zk,kids,hab,e1,e2,e3,e4,e5,hok]at h0 h0' h1 h2 h4 h5 h6 h7;generalize zHa u f a p' deep (allM f.types S x.params).2=ra at*;clear hw hl;simp only[hab]
  (simp[*,F83,za,chkV,ints,zk,kids,loopE])<;>(repeat' (first|((first|refine sP _ ?_ ?_|refine gP _ ?_ ?_|refine sN _ ?_ ?_|refine gN _ ?_ ?_)<;>intro hc<;>(first|replace hc:=eqn hc|replace hc:=eqp hc)<;>simp[*,F83,za,chkV,ints,zk,kids,loopE])|((first|refine sM _ ?_ ?_|refine gM _ ?_ ?_|refine sB _ ?_ ?_|refine gB _ ?_ ?_)<;>intro hc<;>simp[*,F83,za,chkV,ints,zk,kids,loopE])))
  all_goals(try grind)
theorem node_spec(u:Unt)(f:Flow)(S:St1)(x:Node)(p:Place)(deep:Int)(hu:UOk u)(hS:S.length=f.types.length)(hx:wtN x<1099511627776)(hd:0<=deep/\deep<=100)(hl:∀l∈x.kids,ListOk u f (deep+1) l):
  zh E 66 [chkV u f f.types.length,zP x,zk p,.int .i64 deep] [stO S]=some (.ret (.bool (nodeM u f x p deep S).1),[stO (nodeM u f x p deep S).2]):=by
 refine ze rfl rfl rfl (by simp[za,chkV,zk]) ?_;have hw:zW .i64 (deep+1)=deep+1:=zna (by omega) (by omega);have h0:=bare_spec x;have h1:=ends_raw x.kind;have h2:=end_spec u f S x p hS hx;have h3:=simple_spec u f S x hu hS hx;have he:=nodeM_eq u f x p deep S;rw[he];clear he;have hb:bareM x=true->(x.kids.length:Int)=kidsN x.kind:=by
  intro h;simp only[bareM,ya,decide_eq_true_eq]at h;exact h.2
 cases hbx:bareM x
 ·simp[chkV,za,zk,hbx]at h0 h2 h3;clear hl hb
  (simp[*,F66,za,chkV,zk])<;>(repeat' (first|((first|refine sP _ ?_ ?_|refine gP _ ?_ ?_|refine sN _ ?_ ?_|refine gN _ ?_ ?_)<;>intro hc<;>(first|replace hc:=eqn hc|replace hc:=eqp hc)<;>simp[*,F66,za,chkV,zk])|((first|refine sM _ ?_ ?_|refine gM _ ?_ ?_|refine sB _ ?_ ?_|refine gB _ ?_ ?_)<;>intro hc<;>simp[*,F66,za,chkV,zk])))
 have hb:=hb hbx;by_cases h10:x.kind=10
 ·have hk:x.kids.length=2:=by simp[kidsN,h10]at hb;omega
  have h4:=choice_spec u f S x p (deep+1) hS hx hk hl;simp[chkV,za,zk,hbx,h10]at h0 h2 h3 h4;clear hl hb
  (simp[*,F66,za,chkV,zk])<;>(repeat' ((first|refine sP _ ?_ ?_|refine gP _ ?_ ?_|refine sN _ ?_ ?_|refine gN _ ?_ ?_|refine sM _ ?_ ?_|refine gM _ ?_ ?_|refine sB _ ?_ ?_|refine gB _ ?_ ?_)<;>intro hc<;>simp[*,F66,za,chkV,zk]))
 by_cases h11:x.kind=11
 ·have hk:x.kids.length=1:=by simp[kidsN,h11]at hb;omega
  have h4:=loop_spec u f S x (deep+1) hS hx hk hl;simp[chkV,za,zk,hbx,h11]at h0 h2 h3 h4;clear hl hb
  (simp[*,F66,za,chkV,zk])<;>(repeat' ((first|refine sP _ ?_ ?_|refine gP _ ?_ ?_|refine sN _ ?_ ?_|refine gN _ ?_ ?_|refine sM _ ?_ ?_|refine gM _ ?_ ?_|refine sB _ ?_ ?_|refine gB _ ?_ ?_)<;>intro hc<;>simp[*,F66,za,chkV,zk]))
 simp[chkV,za,zk,hbx]at h0 h2 h3;clear hl hb;cases hek:endK x.kind
 ·(simp[*,F66,za,chkV,zk])<;>(repeat' ((first|refine sP _ ?_ ?_|refine gP _ ?_ ?_|refine sN _ ?_ ?_|refine gN _ ?_ ?_|refine sM _ ?_ ?_|refine gM _ ?_ ?_|refine sB _ ?_ ?_|refine gB _ ?_ ?_)<;>intro hc<;>simp[*,F66,za,chkV,zk]))
 ·(simp[*,F66,za,chkV,zk])<;>(repeat' ((first|refine sP _ ?_ ?_|refine gP _ ?_ ?_|refine sN _ ?_ ?_|refine gN _ ?_ ?_|refine sM _ ?_ ?_|refine gM _ ?_ ?_|refine sB _ ?_ ?_|refine gB _ ?_ ?_)<;>intro hc<;>simp[*,F66,za,chkV,zk]))
def sdM(u:Unt)(f:Flow)(p:Place)(deep:Int)(S:St1)(d:List Node):St1:=d.foldl (fun S x=>(nodeM u f x p deep S).2) S
theorem sdM_snoc(u:Unt)(f:Flow)(p:Place)(deep:Int)(S:St1)(d:List Node)(x:Node):sdM u f p deep S (d++[x])=(nodeM u f x p deep (sdM u f p deep S d)).2:=by simp[sdM]
theorem sdM_len(u:Unt)(f:Flow)(p:Place)(deep:Int)(d:List Node):∀S:St1,(sdM u f p deep S d).length=S.length:=by
 induction d with
 |nil=>intro S;rfl
 |cons x r ih=>intro S;simp only[sdM,List.foldl_cons];rw[<-sdM,ih,nodeM_len]
section
variable (u:Unt) (f:Flow) (n:Nat)
@[simp] theorem strip_chk:strip (chkV u f n)=chkV u f n:=yd rfl rfl
@[simp] theorem stripA_chk:stripA (chkV u f n)=chkV u f n:=yd rfl rfl
@[simp] theorem isVar_chk:zp (chkV u f n)=true:=yd rfl rfl
end
@[simp] theorem avoids_chk(dead:List Nat)(u:Unt)(f:Flow)(n:Nat):avoids dead (chkV u f n)=true:=yd rfl rfl
theorem split_of{α:Type}{l d r:List α}{x:α}(h:Split l d x r):∀{r'},l=d++r'->r'=x::r:=by
 intro r' h';have:=h.eq;rw[h']at this;exact List.append_cancel_left this
theorem split_last{α:Type}{l d r:List α}{x:α}(h:Split l d x r):decide ((d.length:Int)=(l.length:Int)-1)=r.isEmpty:=by
 have:=congrArg List.length h.eq;simp at this;cases r with
 |nil=>simp at this ⊢;omega
 |cons y t=>simp at this ⊢;omega
theorem list_spec(u:Unt)(f:Flow)(hu:UOk u):∀(N:Nat) (l:List Node) (deep:Int),wtL l<=N->N<1099511627776->0<=deep->deep<=101->ListOk u f deep l:=by
 intro N
 induction N using Nat.strongRecOn with
 |ind N ih=>
  intro l deep hl hN hd0 hd1 p S hS;refine ze rfl rfl rfl (by simp[chkV,zk]) ?_;have hll:=len_wtL l;simp[F43,zk,zy];refine zwa l K43_0 B43_0 (fun d=>[(15,.int .i64 d.length)]) (fun d=>[stO (sdM u f p deep S d)]) (fun d=>(∃r,l=d++r/\goM u f l p deep S=goM u f r p deep (sdM u f p deep S d))/\∀y∈d,∀v∈y.outs,0<=v/\v<f.types.length) (by omega) (by simp[sdM]) ?_ ?_
  ·rintro d x r s hl' hlt hget hget' hw ⟨⟨r',hr1,hr2⟩,hp⟩ h1 h2 h3 h4
   have:=split_of hl' hr1;subst this;simp at h1 h2 h3;have hwx:=wt_mem hl'.mem;have hS1:(sdM u f p deep S d).length=f.types.length:=by rw[sdM_len];exact hS
   rw[goM]at hr2;have hsn:=sdM_snoc u f p deep S d x;have hlast:=split_last hl';have hw2:zW .i64 ((l.length:Int)-1)=(l.length:Int)-1:=zna (by omega) (by omega);have hc:=zBc x [] (by omega);have hout:=nodeM_outs (u:=u) (f:=f) (x:=x) (p:=p) (deep:=deep) (S:=sdM u f p deep S d);have hlm:zHa u f l p deep S=listE l (goM u f l p deep S):=rfl;by_cases hdeep:100<deep
   ·have e:zHa u f l p deep S=(false,sdM u f p deep S d):=by rw[hlm,hr2,if_pos hdeep];rfl
    clear ih hout hr1 hlm
    (simp[*,za,zy])<;>(repeat' (first|((first|refine sP _ ?_ ?_|refine gP _ ?_ ?_|refine sN _ ?_ ?_|refine gN _ ?_ ?_)<;>intro hc<;>(first|replace hc:=eqn hc|replace hc:=eqp hc)<;>simp[*,za,zy])|((first|refine sM _ ?_ ?_|refine gM _ ?_ ?_|refine sB _ ?_ ?_|refine gB _ ?_ ?_)<;>intro hc<;>simp[*,za,zy])))
   have hn:=node_spec u f (sdM u f p deep S d) x p deep hu hS1 (by omega) (by omega) (fun k hk=>by
    have:=wt_kid hk;exact ih (wtL k) (by omega) k (deep+1) (yl _) (by omega) (by omega) (by omega))
   rw[if_neg hdeep]at hr2;simp[za,zk]at hn hc;generalize hq:nodeM u f x p deep (sdM u f p deep S d)=q at*;cases hq1:q.1
   ·rw[hq1]at hr2 hn;have e:zHa u f l p deep S=(false,q.2):=by rw[hlm,hr2];rfl
    clear ih hout hr1 hlm
    (simp[*,za,zy])<;>(repeat' (first|((first|refine sP _ ?_ ?_|refine gP _ ?_ ?_|refine sN _ ?_ ?_|refine gN _ ?_ ?_)<;>intro hc<;>(first|replace hc:=eqn hc|replace hc:=eqp hc)<;>simp[*,za,zy])|((first|refine sM _ ?_ ?_|refine gM _ ?_ ?_|refine sB _ ?_ ?_|refine gB _ ?_ ?_)<;>intro hc<;>simp[*,za,zy])))
   rw[hq1]at hr2 hn;simp at hr2;by_cases hcl:zU x=r.isEmpty
   ·rw[if_pos hcl]at hr2;have hout':=hout hq1;clear ih hout hc hr1 hlm;have hc:=zBc x [] (by omega);simp[za]at hc;rw[hcl]at hc;have e:∃r',l=d++([x]++r')/\goM u f l p deep S=goM u f r' p deep q.2:=⟨r,by rw[hl'.eq];rfl,hr2⟩
    have e':∃r',l=d++x::r'/\goM u f l p deep S=goM u f r' p deep q.2:=⟨r,by rw[hl'.eq],hr2⟩
    (simp[*,za,zy])<;>(repeat' (first|((first|refine sP _ ?_ ?_|refine gP _ ?_ ?_|refine sN _ ?_ ?_|refine gN _ ?_ ?_)<;>intro hc<;>(first|replace hc:=eqn hc|replace hc:=eqp hc)<;>simp[*,za,zy])|((first|refine sM _ ?_ ?_|refine gM _ ?_ ?_|refine sB _ ?_ ?_|refine gB _ ?_ ?_)<;>intro hc<;>simp[*,za,zy])))
    all_goals(try grind)
   ·rw[if_neg hcl]at hr2;have e:zHa u f l p deep S=(false,q.2):=by rw[hlm,hr2];rfl
    clear ih hout hr1 hlm
    (simp[*,za,zy])<;>(repeat' (first|((first|refine sP _ ?_ ?_|refine gP _ ?_ ?_|refine sN _ ?_ ?_|refine gN _ ?_ ?_)<;>intro hc<;>(first|replace hc:=eqn hc|replace hc:=eqp hc)<;>simp[*,za,zy])|((first|refine sM _ ?_ ?_|refine gM _ ?_ ?_|refine sB _ ?_ ?_|refine gB _ ?_ ?_)<;>intro hc<;>simp[*,za,zy])))
    all_goals exact absurd (of_eq_true (by assumption)) hcl
  ·rintro s ⟨⟨r',hr1,hr2⟩,hp⟩ h1 h2 h3 h4
   have:r'=[]:=by
    have:=congrArg List.length hr1;simp at this;exact this
   subst this;simp at h1 h2 h3;rw[goM]at hr2;have hlm:zHa u f l p deep S=(!l.isEmpty,zmb (sdM u f p deep S l) (l.flatMap Node.outs)):=by
    show listE l (goM u f l p deep S)=_
    rw[hr2];rfl
   clear ih hr1;simp[*,zk,zy];refine zwa l K43_1 B43_1 (fun d=>[(43,.int .i64 d.length)]) (fun d=>[stO (zmb (sdM u f p deep S l) (d.flatMap Node.outs))]) (fun d=>True) (by omega) (by simp[zmb]) ?_ ?_
   ·intros d x r s' hl' hlt hget hget' hw _ h1' h2' h3' h4';have hwx:=wt_mem hl'.mem;have hxe:=zKb x;have hh:=hide_spec u f (zmb (sdM u f p deep S l) (d.flatMap Node.outs)) x.outs (by rw[zic,sdM_len];exact hS) (by omega) (hp x hl'.mem);have hh2:zmb (zmb (sdM u f p deep S l) (d.flatMap Node.outs)) x.outs=zmb (sdM u f p deep S l) (d.flatMap Node.outs++x.outs):=by simp[zmb]
    rw[hh2]at hh;simp at h1' h3';clear h2' hp h1 h2
    (simp[*,za,zy])<;>(repeat' (first|((first|refine sP _ ?_ ?_|refine gP _ ?_ ?_|refine sN _ ?_ ?_|refine gN _ ?_ ?_)<;>intro hc<;>(first|replace hc:=eqn hc|replace hc:=eqp hc)<;>simp[*,za,zy])|((first|refine sM _ ?_ ?_|refine gM _ ?_ ?_|refine sB _ ?_ ?_|refine gB _ ?_ ?_)<;>intro hc<;>simp[*,za,zy])))
   ·intros s' _ h1' h2' h3' h4';simp at h1' h3';clear h2' hp h1 h2;have hz:decide (0<l.length)= !l.isEmpty:=by cases l<;>simp
    (simp[*,zy])<;>(repeat' (first|((first|refine sP _ ?_ ?_|refine gP _ ?_ ?_|refine sN _ ?_ ?_|refine gN _ ?_ ?_)<;>intro hc<;>(first|replace hc:=eqn hc|replace hc:=eqp hc)<;>simp[*,zy])|((first|refine sM _ ?_ ?_|refine gM _ ?_ ?_|refine sB _ ?_ ?_|refine gB _ ?_ ?_)<;>intro hc<;>simp[*,zy])))
def tyOk(t:Int):Bool:=decide (t=1)||decide (t=2)
theorem isType_spec(t:Int)(σ:zb):zh E 39 [.int .i64 t] σ=some (.ret (.bool (tyOk t)),σ):=by
 refine ze rfl rfl rfl (by simp) ?_
 (simp[*,F39,tyOk])<;>(repeat' ((first|refine sP _ ?_ ?_|refine gP _ ?_ ?_|refine sN _ ?_ ?_|refine gN _ ?_ ?_|refine sM _ ?_ ?_|refine gM _ ?_ ?_|refine sB _ ?_ ?_|refine gB _ ?_ ?_)<;>intro hc<;>simp[*,F39,tyOk]))
theorem notType_spec(t:Int)(σ:zb):zh E 42 [.int .i64 t] σ=some (.ret (.bool (!tyOk t)),σ):=by
 refine ze rfl rfl rfl (by simp) ?_
 (simp[*,F42,isType_spec])<;>(repeat' ((first|refine sP _ ?_ ?_|refine gP _ ?_ ?_|refine sN _ ?_ ?_|refine gN _ ?_ ?_|refine sM _ ?_ ?_|refine gM _ ?_ ?_|refine sB _ ?_ ?_|refine gB _ ?_ ?_)<;>intro hc<;>simp[*,F42,isType_spec]))
def initM(f:Flow)(k:Nat):St1:=yg k 1++yg (f.types.length-k) 0
def place0:Place:=⟨false,false,[],[],[]⟩
def flowM(u:Unt)(f:Flow):Bool:=
 !(decide (8<f.params)||decide (20000<f.types.length)||f.types.any (fun t=> !tyOk t))&&(zHa u f f.body place0 1 (initM f f.params.toNat)).1
theorem initM_len(f:Flow)(k:Nat)(h:k<=f.types.length):(initM f k).length=f.types.length:=by simp[initM];omega
theorem initM_set(f:Flow)(k:Nat)(h:k<f.types.length):(initM f k).set k 1=initM f (k+1):=by
 unfold initM;have:f.types.length-k=(f.types.length-(k+1))+1:=by omega
 rw[this,List.replicate_succ,yia _ _ (by simp)];simp[List.replicate_succ']
theorem flow_spec(u:Unt)(f:Flow)(hu:UOk u)(hp:0<=f.params/\f.params<=f.types.length)(ht:f.types.length<1099511627776)(hb:wtL f.body<1099511627776):
  zh E 24 [zC u,zj f] []=some (.ret (.bool (flowM u f)),[]):=by
 refine ze rfl rfl rfl (by simp[zC,zj]) ?_;have h1:=containsFuncInt f.types (fun t=> !tyOk t) 42 [] [] [] ht (by simp) (fun x _=>notType_spec x []);have h2:=list_spec u f hu (wtL f.body) f.body 1 (yl _) hb (by omega) (by omega) place0 (initM f f.params.toNat) (initM_len f _ (by omega));simp[zk,place0]at h2;have ho:decide ((20000:Int)<f.types.length)=decide (20000<f.types.length):=by simp;omega
 have l1:(0:Int)<=(f.types.length:Int):=by omega
 have l2:(f.types.length:Int)<=9223372036854775807:=by omega
 have l3:8*(f.types.length:Int)<=281474976710656:=by omega
 (simp[*,F24,zC,zj,ints,flowM,place0])<;>(repeat' (first|((first|refine sP _ ?_ ?_|refine gP _ ?_ ?_|refine sN _ ?_ ?_|refine gN _ ?_ ?_)<;>intro hc<;>(first|replace hc:=eqn hc|replace hc:=eqp hc)<;>simp[*,F24,zC,zj,ints,flowM,place0])|((first|refine sM _ ?_ ?_|refine gM _ ?_ ?_|refine sB _ ?_ ?_|refine gB _ ?_ ?_)<;>intro hc<;>simp[*,F24,zC,zj,ints,flowM,place0])))
 all_goals first
  |refine zwa (yS f.params.toNat) K24_0 B24_0 (fun d=>[(31,.int .i64 d.length)]) (fun d=>[stO (initM f d.length)]) (fun _=>True) (by simp;omega) (by simp[initM,stO]) ?_ ?_
  |(try grind)
 ·intros d x r s hl' hlt hget hget' hw _ q1 q2 q3 q4;simp at hlt;have e1:(d.length:Int)<f.params:=by omega
  have e2:d.length<f.types.length:=by omega
  have e3:=initM_set f d.length e2;have e4:=initM_len f d.length (by omega);have e5:(initM f (d.length+1)).map (PV.int .i64)=((initM f d.length).map (PV.int .i64)).set d.length (.int .i64 1):=by rw[<-e3,yma]
  simp at q1 q2 q3 q4;clear h1 h2 hget hget' e3
  (simp[*,zj,ints,zE,zRb,stO])<;>(repeat' (first|((first|refine sP _ ?_ ?_|refine gP _ ?_ ?_|refine sN _ ?_ ?_|refine gN _ ?_ ?_)<;>intro hc<;>(first|replace hc:=eqn hc|replace hc:=eqp hc)<;>simp[*,zj,ints,zE,zRb,stO])|((first|refine sM _ ?_ ?_|refine gM _ ?_ ?_|refine sB _ ?_ ?_|refine gB _ ?_ ?_)<;>intro hc<;>simp[*,zj,ints,zE,zRb,stO])))
 ·intros s _ q1 q2 q3 q4;have e0:(f.params.toNat:Int)=f.params:=by omega
  simp at q1 q2 q3 q4;clear h1;simp[chkV,ints,flowM,place0,stO]at h2
  (simp[*,zj,ints,stO])<;>(repeat' (first|((first|refine sP _ ?_ ?_|refine gP _ ?_ ?_|refine sN _ ?_ ?_|refine gN _ ?_ ?_)<;>intro hc<;>(first|replace hc:=eqn hc|replace hc:=eqp hc)<;>simp[*,zj,ints,stO])|((first|refine sM _ ?_ ?_|refine gM _ ?_ ?_|refine sB _ ?_ ?_|refine gB _ ?_ ?_)<;>intro hc<;>simp[*,zj,ints,stO])))
  all_goals(try grind)
def bump:List (List UInt8×Int)->List UInt8->List (List UInt8×Int)
 | [],s=>[(s,yB .i64 (0+1))]
 |(k,v)::r,s=>if s=k then(s,yB .i64 (v+1))::r else(k,v)::bump r s
def bumps(l:List (List UInt8)):List (List UInt8×Int):=l.foldl bump []
def encM(m:List (List UInt8×Int)):List (PV×PV):=m.map fun p=>(.str p.1,.int .i64 p.2)
def findC(s:List UInt8):List (List UInt8×Int)->Option Int
 | []=>none
 |(k,v)::r=>if s=k then some v else findC s r
theorem mapFind_enc(s:List UInt8):∀m,zR true (.str s) (encM m)=some ((findC s m).map (PV.int .i64))
 | []=>rfl
 |(k,v)::r=>by
  have ih:=mapFind_enc s r;simp only[encM]at ih;simp only[encM,yba,zR,keyEq,findC];by_cases h:s=k
  ·simp[h]
  ·simp[h,ih]
theorem mapSet_enc(s:List UInt8):∀m,zib true (.str s) (.int .i64 (zW .i64 ((findC s m).getD 0+1))) (encM m)=some (encM (bump m s))
 | []=>by simp[encM,zib,findC,bump,zF]
 |(k,v)::r=>by
  have ih:=mapSet_enc s r;simp only[encM]at ih;simp only[encM,yba,zib,keyEq,findC,bump];by_cases h:s=k
  ·simp[h,zF]
  ·simp[h,ih]
theorem bump_keys(s:List UInt8):∀m,(bump m s).map yAa=if s∈m.map yAa then m.map yAa else m.map yAa++[s]
 | []=>by simp[bump]
 |(k,v)::r=>by
  have ih:=bump_keys s r;simp only[bump];by_cases h:s=k
  ·simp[h]
  ·simp only[h,if_false,yba,ih,yV,false_or];split<;>simp
def dist(l:List (List UInt8)):List (List UInt8):=l.foldl (fun d s=>if s∈d then d else d++[s]) []
theorem bumps_keys(l:List (List UInt8)):(bumps l).map yAa=dist l:=by
 have:∀(l:List (List UInt8)) m,(l.foldl bump m).map yAa=l.foldl (fun d s=>if s∈d then d else d++[s]) (m.map yAa):=by
  intro l
  induction l with
  |nil=>intro m;rfl
  |cons s r ih=>intro m;simp only[List.foldl_cons,ih,bump_keys]
 exact this l []
theorem dist_nodup(l:List (List UInt8)):decide ((dist l).length=l.length)=decide l.Nodup:=by
 have key:∀(l d:List (List UInt8)),d.Nodup->(l.foldl (fun d s=>if s∈d then d else d++[s]) d).length<=d.length+l.length∧
   ((l.foldl (fun d s=>if s∈d then d else d++[s]) d).length=d.length+l.length<->(d++l).Nodup):=by
  intro l
  induction l with
  |nil=>intro d hd;simp[hd]
  |cons s r ih=>
   intro d hd;simp only[List.foldl_cons];by_cases h:s∈d
   ·rw[if_pos h];obtain⟨h1,h2⟩:=ih d hd;refine⟨by simp;omega,⟨fun e=>by simp at e;omega,fun e=>?_⟩⟩;rw[List.nodup_append]at e;exact absurd rfl (e.2.2 s h s (by simp))
   ·rw[if_neg h];have hd':(d++[s]).Nodup:=by
     rw[List.nodup_append];exact⟨hd,by simp,fun a ha b hb e=>by simp at hb;subst hb;subst e;exact h ha⟩
    obtain⟨h1,h2⟩:=ih (d++[s]) hd';refine⟨by simp at h1 ⊢;omega,?_⟩;rw[show d++s::r=d++[s]++r by simp,<-h2];simp;omega
 have:=(key l [] (by simp)).2;simp only[List.nil_append,List.length_nil,yE]at this;unfold dist;simp only[decide_eq_decide];exact this
theorem bumps_snoc(l:List (List UInt8))(s:List UInt8):bumps (l++[s])=bump (bumps l) s:=by simp[bumps]
theorem encM_len(m:List (List UInt8×Int)):(encM m).length=(m.map yAa).length:=by simp[encM]
def unames(u:Unt):List (List UInt8):=u.arrays.map Arr.name++u.flows.map Flow.name
def arrOk(a:Arr):Bool:=nameM a.name&&decide (1<=a.size)&&decide (a.size<=1000)
def zrb(f:Flow):Bool:=nameM f.name&&tyOk f.type&&decide (0<=f.params)&&decide (f.params<=f.types.length)
def zG:List UInt8:=[109,97,105,110]
def mainOk(u:Unt):Bool:=match u.flows[(zaa u.flows zG).toNat]? with
 |some g=>decide (0<=zaa u.flows zG)&&decide (g.type=1)&&decide (g.params=0)
 |none=>false
def zXb(u:Unt):Bool:=u.arrays.all arrOk&&u.flows.all zrb&&decide (unames u).Nodup&&mainOk u
theorem findC_cases(s:List UInt8)(m:List (List UInt8×Int)):∃o,findC s m=o/\zR true (.str s) (encM m)=some (o.map (PV.int .i64))/\zib true (.str s) (.int .i64 (zW .i64 (o.getD 0+1))) (encM m)=some (encM (bump m s)):=
 ⟨_,rfl,mapFind_enc s m,mapSet_enc s m⟩
theorem head_spec(u:Unt)(hu1:u.arrays.length<1099511627776)(hu2:u.flows.length<1099511627776):zh E 23 [zC u] []=some (.ret (.bool (zXb u)),[]):=by
 refine ze rfl rfl rfl (by simp[zC]) ?_;simp[F23,zC,arrs];refine zwa u.arrays K23_0 B23_0 (fun d=>[(13,.int .i64 d.length)]) (fun d=>[.mp (encM (bumps (d.map Arr.name)))]) (fun d=>d.all arrOk=true) (by omega) (by simp[bumps,encM]) ?_ ?_
 ·intros d x r s hl' hlt hget hget' hw hp h1 h2 h3 h4;simp at h1 h2 h3;have hn:=name_spec x.name [];have hall:u.arrays.all arrOk=(d.all arrOk&&(arrOk x&&r.all arrOk)):=by rw[hl'.eq];simp
  have hsn:bumps (List.map Arr.name d++[x.name])=bump (bumps (List.map Arr.name d)) x.name:=bumps_snoc _ _;obtain⟨o,o1,o2,o3⟩:=findC_cases x.name (bumps (d.map Arr.name));clear o1;cases hnm:nameM x.name
  ·have hx:arrOk x=false:=by simp[arrOk,hnm]
   have hh:zXb u=false:=by simp only[zXb,hall,hx];simp
   cases o<;>(simp at o3;(simp[*,zQ,arrs])<;>(repeat' (first|((first|refine sP _ ?_ ?_|refine gP _ ?_ ?_|refine sN _ ?_ ?_|refine gN _ ?_ ?_)<;>intro hc<;>(first|replace hc:=eqn hc|replace hc:=eqp hc)<;>simp[*,zQ,arrs])|((first|refine sM _ ?_ ?_|refine gM _ ?_ ?_|refine sB _ ?_ ?_|refine gB _ ?_ ?_)<;>intro hc<;>simp[*,zQ,arrs]))))
  ·by_cases hs1:x.size<1
   ·have hx:arrOk x=false:=by simp[arrOk];omega
    have hh:zXb u=false:=by simp only[zXb,hall,hx];simp
    cases o<;>(simp at o3;(simp[*,zQ,arrs])<;>(repeat' (first|((first|refine sP _ ?_ ?_|refine gP _ ?_ ?_|refine sN _ ?_ ?_|refine gN _ ?_ ?_)<;>intro hc<;>(first|replace hc:=eqn hc|replace hc:=eqp hc)<;>simp[*,zQ,arrs])|((first|refine sM _ ?_ ?_|refine gM _ ?_ ?_|refine sB _ ?_ ?_|refine gB _ ?_ ?_)<;>intro hc<;>simp[*,zQ,arrs]))))
   ·by_cases hs2:1000<x.size
    ·have hx:arrOk x=false:=by simp[arrOk];omega
     have hh:zXb u=false:=by simp only[zXb,hall,hx];simp
     cases o<;>(simp at o3;(simp[*,zQ,arrs])<;>(repeat' (first|((first|refine sP _ ?_ ?_|refine gP _ ?_ ?_|refine sN _ ?_ ?_|refine gN _ ?_ ?_)<;>intro hc<;>(first|replace hc:=eqn hc|replace hc:=eqp hc)<;>simp[*,zQ,arrs])|((first|refine sM _ ?_ ?_|refine gM _ ?_ ?_|refine sB _ ?_ ?_|refine gB _ ?_ ?_)<;>intro hc<;>simp[*,zQ,arrs]))))
    ·have hx:arrOk x=true:=by simp[arrOk,hnm];omega
     have hpp:∀y∈d,arrOk y=true:=by simpa using hp
     clear hall;cases o<;>(simp at o3;(simp[*,zQ,arrs])<;>(repeat' (first|((first|refine sP _ ?_ ?_|refine gP _ ?_ ?_|refine sN _ ?_ ?_|refine gN _ ?_ ?_)<;>intro hc<;>(first|replace hc:=eqn hc|replace hc:=eqp hc)<;>simp[*,zQ,arrs])|((first|refine sM _ ?_ ?_|refine gM _ ?_ ?_|refine sB _ ?_ ?_|refine gB _ ?_ ?_)<;>intro hc<;>simp[*,zQ,arrs]))))<;>(try grind)
 intros s0 hpa h1 h2 h3 h4;simp at h1 h2 h3;simp[*,arrs,flows];refine zwa u.flows K23_1 B23_1 (fun d=>[(40,.int .i64 d.length)]) (fun d=>[.mp (encM (bumps (u.arrays.map Arr.name++d.map Flow.name)))]) (fun d=>d.all zrb=true) (by omega) (by simp) ?_ ?_
 ·intros d x r s hl' hlt hget hget' hw hp h1' h2' h3' h4';simp at h1' h2' h3';clear h1 h2 h3 h4;have hn:=name_spec x.name [];have ht:=isType_spec x.type [];have hall:u.flows.all zrb=(d.all zrb&&(zrb x&&r.all zrb)):=by rw[hl'.eq];simp
  have hsn:bumps (List.map Arr.name u.arrays++(List.map Flow.name d++[x.name]))=bump (bumps (List.map Arr.name u.arrays++List.map Flow.name d)) x.name:=by rw[<-yga];exact bumps_snoc _ _
  obtain⟨o,o1,o2,o3⟩:=findC_cases x.name (bumps (u.arrays.map Arr.name++d.map Flow.name));clear o1;have hh:zrb x=false->zXb u=false:=fun hx=>by simp only[zXb,hall,hx];simp
  have hpp:∀y∈d,zrb y=true:=by simpa using hp
  cases hx:zrb x
  ·have hh:=hh hx;simp only[zrb]at hx;clear hall;cases o<;>(simp at o3;(simp[*,zj,flows,ints])<;>(repeat' (first|((first|refine sP _ ?_ ?_|refine gP _ ?_ ?_|refine sN _ ?_ ?_|refine gN _ ?_ ?_)<;>intro hc<;>(first|replace hc:=eqn hc|replace hc:=eqp hc)<;>simp[*,zj,flows,ints])|((first|refine sM _ ?_ ?_|refine gM _ ?_ ?_|refine sB _ ?_ ?_|refine gB _ ?_ ?_)<;>intro hc<;>simp[*,zj,flows,ints]))))<;>(try grind)
  ·have hx2:=hx;simp only[zrb,ya,decide_eq_true_eq]at hx2;obtain⟨⟨⟨n1,n2⟩,n3⟩,n4⟩:=hx2;have n3':¬x.params<0:=by omega
   have n4':¬(x.types.length:Int)<x.params:=by omega
   clear hall hh;cases o<;>(simp at o3;(simp[*,zj,flows,ints])<;>(repeat' (first|((first|refine sP _ ?_ ?_|refine gP _ ?_ ?_|refine sN _ ?_ ?_|refine gN _ ?_ ?_)<;>intro hc<;>(first|replace hc:=eqn hc|replace hc:=eqp hc)<;>simp[*,zj,flows,ints])|((first|refine sM _ ?_ ?_|refine gM _ ?_ ?_|refine sB _ ?_ ?_|refine gB _ ?_ ?_)<;>intro hc<;>simp[*,zj,flows,ints]))))<;>(try grind)
 ·intros s hp h1' h2' h3' h4';simp at h1' h2' h3';clear h1 h2 h3 h4;have hpl:=place_spec u zG [] hu2;simp[zC,zG,arrs,flows]at hpl;have hk:(encM (bumps (u.arrays.map Arr.name++u.flows.map Flow.name))).length=(dist (unames u)).length:=by rw[encM_len,bumps_keys];rfl
  have hd:=dist_nodup (unames u);have hul:(unames u).length=u.arrays.length+u.flows.length:=by simp[unames]
  have hw:zW .i64 ((u.arrays.length:Int)+u.flows.length)=(u.arrays.length:Int)+u.flows.length:=zna (by omega) (by omega);have hh:zXb u=(decide (unames u).Nodup&&mainOk u):=by simp only[zXb,hpa,hp];simp
  have hz:decide (((dist (unames u)).length:Int)=(u.arrays.length:Int)+u.flows.length)=decide (unames u).Nodup:=by
   rw[<-hd,hul];simp;omega
  by_cases hp0:0<=zaa u.flows zG
  ·obtain⟨g,q1,q2,q3,q4⟩:=place_get hp0;have q5:u.flows[(zaa u.flows zG).toNat]=g:=by simpa[q4]using q1
   have hm:mainOk u=(decide (g.type=1)&&decide (g.params=0)):=by simp[mainOk,q1,hp0]
   simp[zG]at hp0 q1 q4 q5;clear hd hul hpa hp;cases hnd:decide (unames u).Nodup
   ·rw[hnd]at hz hh
    (simp[*,flows,zj,arrs])<;>(repeat' (first|((first|refine sP _ ?_ ?_|refine gP _ ?_ ?_|refine sN _ ?_ ?_|refine gN _ ?_ ?_)<;>intro hc<;>(first|replace hc:=eqn hc|replace hc:=eqp hc)<;>simp[*,flows,zj,arrs])|((first|refine sM _ ?_ ?_|refine gM _ ?_ ?_|refine sB _ ?_ ?_|refine gB _ ?_ ?_)<;>intro hc<;>simp[*,flows,zj,arrs])))
   ·rw[hnd]at hz hh
    (simp[*,flows,zj,arrs])<;>(repeat' (first|((first|refine sP _ ?_ ?_|refine gP _ ?_ ?_|refine sN _ ?_ ?_|refine gN _ ?_ ?_)<;>intro hc<;>(first|replace hc:=eqn hc|replace hc:=eqp hc)<;>simp[*,flows,zj,arrs])|((first|refine sM _ ?_ ?_|refine gM _ ?_ ?_|refine sB _ ?_ ?_|refine gB _ ?_ ?_)<;>intro hc<;>simp[*,flows,zj,arrs])))
  ·have hm:mainOk u=false:=by
    unfold mainOk;split<;>simp;omega
   simp only[zG]at hp0;clear hd hul hpa hp;cases hnd:decide (unames u).Nodup
   ·rw[hnd]at hz hh
    (simp[*,flows,zj,arrs])<;>(repeat' (first|((first|refine sP _ ?_ ?_|refine gP _ ?_ ?_|refine sN _ ?_ ?_|refine gN _ ?_ ?_)<;>intro hc<;>(first|replace hc:=eqn hc|replace hc:=eqp hc)<;>simp[*,flows,zj,arrs])|((first|refine sM _ ?_ ?_|refine gM _ ?_ ?_|refine sB _ ?_ ?_|refine gB _ ?_ ?_)<;>intro hc<;>simp[*,flows,zj,arrs])))
   ·rw[hnd]at hz hh
    (simp[*,flows,zj,arrs])<;>(repeat' (first|((first|refine sP _ ?_ ?_|refine gP _ ?_ ?_|refine sN _ ?_ ?_|refine gN _ ?_ ?_)<;>intro hc<;>(first|replace hc:=eqn hc|replace hc:=eqp hc)<;>simp[*,flows,zj,arrs])|((first|refine sM _ ?_ ?_|refine gM _ ?_ ?_|refine sB _ ?_ ?_|refine gB _ ?_ ?_)<;>intro hc<;>simp[*,flows,zj,arrs])))
structure USz(u:Unt):Prop where
 arrs:u.arrays.length<1099511627776
 flows:u.flows.length<1099511627776
 types:∀f∈u.flows,f.types.length<1099511627776
 body:∀f∈u.flows,wtL f.body<1099511627776
theorem USz.ok{u:Unt}(h:USz u)(hh:zXb u=true):UOk u:=by
 refine⟨h.arrs,h.flows,fun f hf=>?_,h.types⟩;simp only[zXb,ya,yn]at hh;have:=hh.1.1.2 f hf;simp only[zrb,ya,decide_eq_true_eq]at this;exact⟨this.1.2,this.2⟩
def zsb(u:Unt):Int×Int:=if zXb u then(match u.flows.findIdx? (fun f=> !flowM u f)with
 |some i=>(80,(i:Int))
 |none=>(0,0))else(1,0)
theorem check_spec(u:Unt)(hu:USz u):zh E 9 [zC u] []=some (.ret (.tup [.int .i64 (zsb u).1,.int .i64 (zsb u).2]),[]):=by
 refine ze rfl rfl rfl (by simp[zC]) ?_;have h1:=head_spec u hu.arrs hu.flows;cases hh:zXb u
 ·simp[zC,hh,flows]at h1;have hc:zsb u=(1,0):=by simp[zsb,hh]
  (simp[*,F9,zC,flows])<;>(repeat' (first|((first|refine sP _ ?_ ?_|refine gP _ ?_ ?_|refine sN _ ?_ ?_|refine gN _ ?_ ?_)<;>intro hc<;>(first|replace hc:=eqn hc|replace hc:=eqp hc)<;>simp[*,F9,zC,flows])|((first|refine sM _ ?_ ?_|refine gM _ ?_ ?_|refine sB _ ?_ ?_|refine gB _ ?_ ?_)<;>intro hc<;>simp[*,F9,zC,flows])))
 ·have ho:=hu.ok hh;simp[zC,hh,flows]at h1;have hf:∀f∈u.flows,zh E 24 [zC u,zj f] []=some (.ret (.bool (flowM u f)),[]):=fun f hf=>flow_spec u f ho (ho.pars f hf) (hu.types f hf) (hu.body f hf)
  have hfl:=hu.flows;simp[F9,zC,flows,h1];refine zwa u.flows K9_0 B9_0 (fun d=>[(12,.int .i64 d.length)]) (fun d=>[]) (fun d=>∀f∈d,flowM u f=true) (by omega) (by simp) ?_ ?_
  ·intros d x r s hl' hlt hget hget' hw hp q1 q2 q3 q4;simp at q1 q2 q3;have hfx:=hf x hl'.mem;simp[zC,flows,zj]at hfx;clear hf hu ho h1;cases hx:flowM u x
   ·have hi:=idx_hit (p:=fun f=> !flowM u f) hl' (by simpa using hp) (by simp[hx]);have hcx:zsb u=(80,(d.length:Int)):=by
     unfold idx at hi;simp only[zsb,hh,if_true];cases hfi:u.flows.findIdx? (fun f=> !flowM u f)with
     |none=>rw[hfi]at hi;simp at hi
     |some i=>rw[hfi]at hi;simp at hi;simp[hi]
    (simp[*,zj,flows])<;>(repeat' (first|((first|refine sP _ ?_ ?_|refine gP _ ?_ ?_|refine sN _ ?_ ?_|refine gN _ ?_ ?_)<;>intro hc<;>(first|replace hc:=eqn hc|replace hc:=eqp hc)<;>simp[*,zj,flows])|((first|refine sM _ ?_ ?_|refine gM _ ?_ ?_|refine sB _ ?_ ?_|refine gB _ ?_ ?_)<;>intro hc<;>simp[*,zj,flows])))
   ·(simp[*,zj,flows])<;>(repeat' (first|((first|refine sP _ ?_ ?_|refine gP _ ?_ ?_|refine sN _ ?_ ?_|refine gN _ ?_ ?_)<;>intro hc<;>(first|replace hc:=eqn hc|replace hc:=eqp hc)<;>simp[*,zj,flows])|((first|refine sM _ ?_ ?_|refine gM _ ?_ ?_|refine sB _ ?_ ?_|refine gB _ ?_ ?_)<;>intro hc<;>simp[*,zj,flows])))
    all_goals(try grind)
  ·intros s hp q1 q2 q3 q4;simp at q1 q2 q3;have hcx:zsb u=(0,0):=by
    have:u.flows.findIdx? (fun f=> !flowM u f)=none:=by rw[yha];simpa using hp
    simp[zsb,hh,this]
   clear hf hu ho hh h1 hp
   (simp[*])<;>(repeat' (first|((first|refine sP _ ?_ ?_|refine gP _ ?_ ?_|refine sN _ ?_ ?_|refine gN _ ?_ ?_)<;>intro hc<;>(first|replace hc:=eqn hc|replace hc:=eqp hc)<;>simp[*])|((first|refine sM _ ?_ ?_|refine gM _ ?_ ?_|refine sB _ ?_ ?_|refine gB _ ?_ ?_)<;>intro hc<;>simp[*])))
structure RS where
 inp:List Int
 arrs:List (List Int)
 out:List Int
 cost:Int
 fuel:Nat
inductive Rt(α:Type) where
 |ok (a:α)
 |stop (k:Int)
structure Wy where
 kind:Int
 l:List Int
abbrev NEv:=Node->List Int->RS->Rt Wy×List Int×RS
def oneC(op a:Int):Int:=
 if op=20 then yB .i64 (0-a)else if op=21 then yB .i64 (-1-a)else if op=22 then(if a=0 then 1 else 0)
 else if op=23 then(a+128)%256-128 else if op=24 then(a+32768)%65536-32768 else if op=25 then(a+2147483648)%4294967296-2147483648
 else if op=26 then a%256 else if op=27 then a%65536 else if op=28 then a%4294967296 else 0
def and64C(a b:Int):Int:=(yp 64 a&&&yp 64 b).toInt
def or64C(a b:Int):Int:=(yp 64 a|||yp 64 b).toInt
def xor64C(a b:Int):Int:=(yp 64 a^^^yp 64 b).toInt
def twoC(op a b:Int):Int×Bool:=
 if(cmp op a b).2=true then(if(cmp op a b).1=true then 1 else 0,true)
 else if op=1 then(yB .i64 (a+b),true)else if op=2 then(yB .i64 (a-b),true)else if op=3 then(yB .i64 (a*b),true)
 else if op=6 then(and64C a b,true)else if op=7 then(or64C a b,true)else if op=8 then(xor64C a b,true)
 else if op=9 then(yB .i64 (a*2^(b%64).toNat),true)else if op=10 then(a.fdiv (2^(b%64).toNat),true)
 else if op=11 then(yB .i64 ((a%18446744073709551616).fdiv (2^(b%64).toNat)),true)
 else if b=0 then(0,false)else if op=4 then(yB .i64 (a.tdiv b),true)else if op=5 then(a.tmod b,true)else(0,false)
theorem one_eqC(op a:Int):one op a=oneC op a:=by
 unfold one oneC;by_cases h1:op=20
 ·subst h1;simp[W,zF]
 by_cases h2:op=21
 ·subst h2;simp[not64,W,zF]
 by_cases h3:op=22
 ·subst h3;simp
 by_cases h4:op=26
 ·subst h4;simp only[wrapK_u8];simp;rw[W_id]<;>omega
 by_cases h5:op=27
 ·subst h5;simp only[wrapK_u16];simp;rw[W_id]<;>omega
 by_cases h6:op=28
 ·subst h6;simp only[wrapK_u32];simp;rw[W_id]<;>omega
 by_cases h7:op=23
 ·subst h7;simp only[wrapK_i8];simp;rw[W_id]<;>omega
 by_cases h8:op=24
 ·subst h8;simp only[wrapK_i16];simp;rw[W_id]<;>omega
 by_cases h9:op=25
 ·subst h9;simp only[wrapK_i32];simp;rw[W_id]<;>omega
 simp[h1,h2,h3,h4,h5,h6,h7,h8,h9]
theorem wrap64u(n:Int):yB .u64 n=n%18446744073709551616:=by simp[yB,yC,yya]
theorem two_eqC(op a b:Int):two op a b=twoC op a b:=by
 have h63:and64 b 63=b%64:=by have:=and_mask b 6 (by decide);simpa using this
 have hm:min (b%64).toNat 64=(b%64).toNat:=by omega
 unfold two twoC;rw[h63,hm];simp only[W,zF,and64_eq,or64_eq,xor64_eq,remK_eq,shrK_eq,and64C,or64C,xor64C,wrap64u]
def zV(S:RS):RS:={S with cost:=yB .i64 (S.cost+1)}
def atA(l:List Int)(i:Nat):Int:=(l[i]?).getD 0
def cellAt(u:Unt)(S:RS)(nm:List UInt8)(n:Int):Option Int:=
 if n<0 then none else(S.arrs[(arrAt u.arrays nm).toNat]?).bind fun l=>l[n.toNat]?
def putAt(u:Unt)(S:RS)(nm:List UInt8)(n m:Int):Option RS:=
 if n<0 then none else(S.arrs[(arrAt u.arrays nm).toNat]?).bind fun l=>if n.toNat<l.length then some {S with arrs:=S.arrs.set (arrAt u.arrays nm).toNat (l.set n.toNat m)}else none
def flowAt(u:Unt)(nm:List UInt8):Option Flow:=u.flows[(zaa u.flows nm).toNat]?
def setW:List Int->List Int->List Int->List Int
 |v,o::os,n::ns=>setW (v.set o.toNat n) os ns
 |v,_,_=>v
def ofW(v l:List Int):List Int:=l.map (at0 v)
def kid0(n:Node):List Node:=(n.kids[0]?).getD []
def kid1(n:Node):List Node:=(n.kids[1]?).getD []
section
variable (u:Unt) (ev:NEv)
def zkb:List Node->List Int->RS->Rt Wy×List Int×RS
 | [],v,S=>(.ok ⟨0,[]⟩,v,S)
 |n::r,v,S=>match ev n v S with
  |(.ok w,v1,S1)=>if w.kind=0 then zkb r v1 S1 else(.ok w,v1,S1)
  |(.stop k,v1,S1)=>(.stop k,v1,S1)
def callW(f:Flow)(l:List Int)(S:RS):Rt Int×RS:=match zkb ev f.body (l++yg (f.types.length-l.length) 0) S with
 |(.ok w,_,S1)=>(.ok (atA w.l 0),S1)
 |(.stop k,_,S1)=>(.stop k,S1)
def plainW(n:Node)(l:List Int)(S:RS):Rt (List Int)×RS:=
 if n.kind=3 then(.ok [oneC n.op (atA l 0)],S)
 else if n.kind=4 then(if(twoC n.op (atA l 0) (atA l 1)).2 then(.ok [(twoC n.op (atA l 0) (atA l 1)).1],S)else(.stop 2,S))
 else if n.kind=5 then(match cellAt u S n.name (atA l 0)with
  |some m=>(.ok [m],S)
  |none=>(.stop 3,S))
 else if n.kind=6 then(match putAt u S n.name (atA l 0) (atA l 1)with
  |some S1=>(.ok [],S1)
  |none=>(.stop 3,S))
 else if n.kind=7 then(match flowAt u n.name with
  |some f=>match callW ev f l S with
   |(.ok m,S1)=>(.ok [m],S1)
   |(.stop k,S1)=>(.stop k,S1)
  |none=>(.ok [],S))
 else if n.kind=8 then(match S.inp with
  | []=>(.stop 4,S)
  |m::r=>(.ok [m],{S with inp:=r}))
 else if n.kind=9 then(.ok [],{S with out:=S.out++[atA l 0]})
 else(.ok [],S)
def zZb(n:Node)(c:Int)(v:List Int)(S:RS):Rt Wy×List Int×RS:=match zkb ev (if c=0 then kid1 n else kid0 n) v S with
 |(.ok w,v1,S1)=>if w.kind=12 then(.ok ⟨0,[]⟩,setW v1 n.outs w.l,S1)else(.ok w,v1,S1)
 |(.stop k,v1,S1)=>(.stop k,v1,S1)
def loopW(n:Node):Nat->List Int->List Int->RS->Rt Wy×List Int×RS
 |0,_,v,S=>(.stop 0,v,S)
 |k+1,l,v,S=>match zkb ev (kid0 n) (setW v n.params l) S with
  |(.ok w,v1,S1)=>if w.kind=15 then(.ok w,v1,S1)else if w.kind=14 then(.ok ⟨0,[]⟩,setW v1 n.outs w.l,S1)else loopW n k w.l v1 S1
  |(.stop j,v1,S1)=>(.stop j,v1,S1)
def nodeW(w:Nat)(n:Node)(v:List Int)(S:RS):Rt Wy×List Int×RS:=
 if n.kind=1\/n.kind=2 then(.ok ⟨0,[]⟩,setW v n.outs [n.n],S)
 else if 12<=n.kind/\n.kind<=15 then(.ok ⟨n.kind,ofW v n.args⟩,v,S)
 else if n.kind=10 then zZb ev n (atA (ofW v n.args) 0) v S
 else if n.kind=11 then loopW ev n (w+1) (ofW v n.args) v S
 else match plainW u ev n (ofW v n.args) (zV S)with
  |(.ok m,S1)=>(.ok ⟨0,[]⟩,setW v n.outs m,S1)
  |(.stop k,S1)=>(.stop k,v,S1)
end
def evN(u:Unt):Nat->NEv
 |0=>fun _ v S=>(.stop 0,v,S)
 |w+1=>fun n v S=>match S.fuel with
  |0=>(.stop 0,v,S)
  |k+1=>nodeW u (evN u w) w n v {S with fuel:=k}
structure Rn where
 status:Int
 code:Int
 out:List Int
 cost:Int
 fuel:Nat
def run0(u:Unt)(inp:List Int)(fuel:Int):RS:=⟨inp,u.arrays.map (fun a=>yg a.size.toNat 0),[],0,fuel.toNat⟩
def runEnd:Rt Int×RS->Rn
 |(.ok n,S)=>⟨1,n,S.out,S.cost,S.fuel⟩
 |(.stop k,S)=>⟨k,0,S.out,S.cost,S.fuel⟩
def mainW(u:Unt)(S:RS):Rt Int×RS:=match flowAt u zG with
 |some f=>callW (evN u S.fuel) f [] S
 |none=>(.ok 0,S)
def playM(u:Unt)(inp:List Int)(fuel:Int):Rn:=
 if(zsb u).1=0 then runEnd (mainW u (run0 u inp fuel))else⟨0,0,[],0,0⟩
abbrev Set1:=List Bool
def atB(l:List Bool)(v:Int):Bool:=(l[v.toNat]?).getD false
def useR(ty:List Int)(seen:List Int)(v t:Int):Bool:=decide (0<=v)&&(decide (v<ty.length)&&(seen.contains v&&(decide (t=0)||decide (at0 ty v=t))))
def zua(ty:List Int)(seen:List Int)(l want:List Int):Bool:=decide (l.length=want.length)&&(l.zip want).all fun p=>useR ty seen p.1 p.2
def setRG(ty:List Int)(Z:Set1)(v t:Int):Bool×Set1:=if valM ty v t&& !atB Z v then(true,Z.set v.toNat true)else(false,Z)
def setsR(ty:List Int)(Z:Set1)(l want:List Int):Bool×Set1:=eqM (setRG ty) Z l want
def isOne(op:Int):Bool:=decide (20<=op)&&decide (op<=28)
def isTwo(op:Int):Bool:=decide (1<=op)&&decide (op<=17)
def simpleR(u:Unt)(f:Flow)(seen:List Int)(w:Place)(Z:Set1)(n:Node):Bool×Set1:=
 let ty:=f.types
 if n.kind=1 then if zua ty seen n.args []then setsR ty Z n.outs [1]else(false,Z)
 else if n.kind=2 then if(n.n=0\/n.n=1)/\zua ty seen n.args []=true then setsR ty Z n.outs [2]else(false,Z)
 else if n.kind=3 then if isOne n.op&&zua ty seen n.args [takes n.op]then setsR ty Z n.outs [makes n.op]else(false,Z)
 else if n.kind=4 then if(isTwo n.op&&zua ty seen n.args [takes n.op,takes n.op])=true/\at0 ty (at0 n.args 0)=at0 ty (at0 n.args 1)then setsR ty Z n.outs [makes n.op]else(false,Z)
 else if n.kind=5 then if zqb u.arrays n.name&&zua ty seen n.args [1]then setsR ty Z n.outs [1]else(false,Z)
 else if n.kind=6 then(zqb u.arrays n.name&&(zua ty seen n.args [1,1]&&decide (n.outs=[])),Z)
 else if n.kind=7 then
  match u.flows[(zaa u.flows n.name).toNat]? with
  |some g=>if 0<=zaa u.flows n.name/\zua ty seen n.args (pars g)=true then setsR ty Z n.outs [g.type]else(false,Z)
  |none=>(false,Z)
 else if n.kind=8 then if n.args=[]then setsR ty Z n.outs [1]else(false,Z)
 else if n.kind=9 then(zua ty seen n.args [1]&&decide (n.outs=[]),Z)
 else if n.kind=12 then(w.inIf&&(zua ty seen n.args w.yield&&decide (n.outs=[])),Z)
 else if n.kind=13 then(w.inLoop&&(zua ty seen n.args w.next&&decide (n.outs=[])),Z)
 else if n.kind=14 then(w.inLoop&&(zua ty seen n.args w.left&&decide (n.outs=[])),Z)
 else if n.kind=15 then(zua ty seen n.args [f.type]&&decide (n.outs=[]),Z)
 else(false,Z)
theorem arrAt_has(l:List Arr)(s:List UInt8):decide (0<=arrAt l s)=zqb l s:=idx_ge _ _
def lastE(l:List Node)(q:Bool×Set1):Bool×Set1:=if q.1 then(!l.isEmpty,q.2)else(false,q.2)
def endR(ty:List Int)(x:Node)(q:Bool×Set1):Bool×Set1:=if q.1&&(decide (x.outs=[])|| !zU x)then setsR ty q.2 x.outs (zeros x.outs.length)else(false,q.2)
mutual
def nodeR(u:Unt)(f:Flow):Node->List Int->Place->Int->Set1->Bool×Set1
 |⟨k,o,n,s,a,us,ps,ks⟩,seen,w,deep,Z=>
  if !bareM ⟨k,o,n,s,a,us,ps,ks⟩then(false,Z)
  else if k=10 then
   if zua f.types seen a [2]then endR f.types ⟨k,o,n,s,a,us,ps,ks⟩ (kidsR u f ks seen {w with inIf:=true,yield:=zN f.types us} (deep+1) Z)else(false,Z)
  else if k=11 then
   if zua f.types seen a (zN f.types ps)then
    if(setsR f.types Z ps (zeros ps.length)).1 then endR f.types ⟨k,o,n,s,a,us,ps,ks⟩ (kidsR u f ks (seen++ps) ⟨false,true,[],zN f.types ps,zN f.types us⟩ (deep+1) (setsR f.types Z ps (zeros ps.length)).2)
    else(false,(setsR f.types Z ps (zeros ps.length)).2)
   else(false,Z)
  else simpleR u f seen w Z ⟨k,o,n,s,a,us,ps,ks⟩
def kidsR(u:Unt)(f:Flow):List (List Node)->List Int->Place->Int->Set1->Bool×Set1
 | [],seen,w,deep,Z=>(true,Z)
 |l::r,seen,w,deep,Z=>if(lastE l (goR u f l seen w deep Z)).1 then kidsR u f r seen w deep (lastE l (goR u f l seen w deep Z)).2 else(false,(lastE l (goR u f l seen w deep Z)).2)
def goR(u:Unt)(f:Flow):List Node->List Int->Place->Int->Set1->Bool×Set1
 | [],seen,w,deep,Z=>(true,Z)
 |x::r,seen,w,deep,Z=>if 100<deep then(false,Z)else
   if(nodeR u f x seen w deep Z).1 then(if zU x=r.isEmpty then goR u f r (seen++x.outs) w deep (nodeR u f x seen w deep Z).2 else(false,(nodeR u f x seen w deep Z).2))else(false,(nodeR u f x seen w deep Z).2)
end
def listR(u:Unt)(f:Flow)(l:List Node)(seen:List Int)(w:Place)(deep:Int)(Z:Set1):Bool×Set1:=lastE l (goR u f l seen w deep Z)
def louts(l:List Node):List Int:=l.flatMap fun x=>x.outs
@[simp] theorem louts_nil:louts []=[]:=rfl
theorem louts_cons(a:List Node)(x:Node):louts (x::a)=x.outs++louts a:=by simp[louts]
def initR(f:Flow)(k:Nat):Set1:=yg k true++yg (f.types.length-k) false
def firsts(k:Nat):List Int:=(yS k).map fun(i:Nat)=>(i:Int)
def flowR(u:Unt)(f:Flow):Bool:=
 !(decide (f.params<0)||decide (8<f.params)||decide ((f.types.length:Int)<f.params)||decide (20000<f.types.length)||f.types.any (fun t=> !tyOk t))&&
  (listR u f f.body (firsts f.params.toNat) place0 1 (initR f f.params.toNat)).1
theorem initR_len(f:Flow)(k:Nat)(h:k<=f.types.length):(initR f k).length=f.types.length:=by simp[initR];omega
def arrGood(u:Unt)(p:Arr×Nat):Bool:=arrOk p.1&&(decide (arrAt u.arrays p.1.name=p.2)&&decide (zaa u.flows p.1.name<0))
def flowGood(u:Unt)(p:Flow×Nat):Bool:=zrb p.1&&decide (zaa u.flows p.1.name=p.2)
def rheadM(u:Unt):Bool:=u.arrays.zipIdx.all (arrGood u)&&(u.flows.zipIdx.all (flowGood u)&&mainOk u)
theorem idx_first{α:Type}{p:α->Bool}{l:List α}{k:Nat}(h:idx p l=k):∀j (hj:j<l.length),j<k->p l[j]=false:=by
 unfold idx at h;cases hf:l.findIdx? p with
 |none=>rw[hf]at h;simp at h
 |some i=>
  rw[hf]at h;have h:i=k:=by simp at h;omega
  subst h;rw[ysa]at hf;obtain⟨hi,h1,h2⟩:=hf;intro j hj hji;have:=h2 j hji;simpa using this
theorem idx_nodup{α:Type}(g:α->List UInt8)(l:List α):(∀p∈l.zipIdx,idx (fun y=>decide (g y=g p.1)) l=p.2)<->(l.map g).Nodup:=by
 rw[List.nodup_iff_pairwise_ne,List.pairwise_map,List.pairwise_iff_getElem];constructor
 ·intro h i j hi hj hij e;have h1:=h (l[j],j) (by rw[yca];simp[hj]);have h2:=idx_first h1 i hi hij;simp at h2;exact h2 e
 ·rintro h ⟨x,i⟩ hp
  rw[yca]at hp;simp only at hp;obtain⟨hi,rfl⟩:=yb.1 hp;have hs:Split l (l.take i) l[i] (l.drop (i+1)):=by
   show l=_
   simp
  have:=idx_hit (p:=fun y=>decide (g y=g l[i])) hs (by
   intro y hy;obtain⟨j,hj,rfl⟩:=List.getElem_of_mem hy;simp at hj;rw[List.getElem_take];have:=h j i (by omega) hi (by omega);simpa using this) (by simp)
  simp only;rw[this];simp;omega
theorem place_neg(l:List Flow)(s:List UInt8):zaa l s<0<->s ∉ l.map Flow.name:=by
 have h:=idx_ge (fun f=>decide (f.name=s)) l;unfold zaa;constructor
 ·intro h0 hm;obtain⟨f,hf,rfl⟩:=yua.1 hm;have:l.any (fun g=>decide (g.name=f.name))=true:=by rw[List.any_eq_true];exact⟨f,hf,by simp⟩
  rw[this]at h;simp at h;omega
 ·intro hm;have:l.any (fun g=>decide (g.name=s))=false:=by
   rw[List.any_eq_false];intro f hf;simp;rintro rfl;exact hm (yua.2 ⟨f,hf,rfl⟩)
  rw[this]at h;simp at h;omega
theorem zip_all{α:Type}{l:List α}{p:α->Bool}:(∀x∈l,p x=true)<->∀q∈l.zipIdx,p q.1=true:=by
 constructor
 ·rintro h ⟨x,i⟩ hq
  rw[yca]at hq;exact h x (yK hq)
 ·intro h x hx;obtain⟨i,hi,rfl⟩:=List.getElem_of_mem hx;exact h (l[i],i) (by rw[yca];simp[hi])
theorem rhead_eq(u:Unt):rheadM u=zXb u:=by
 unfold rheadM zXb;rw[Bool.eq_iff_iff];simp only[ya,yn,decide_eq_true_eq,arrGood,flowGood,unames,List.nodup_append];have h1:=idx_nodup Arr.name u.arrays;have h2:=idx_nodup Flow.name u.flows;have h3:(∀p∈u.arrays.zipIdx,zaa u.flows p.1.name<0)<->∀a∈u.arrays.map Arr.name,∀b∈u.flows.map Flow.name,a≠b:=by
  constructor
  ·intro h a ha b hb e;obtain⟨x,hx,rfl⟩:=yua.1 ha;have:=(zip_all (p:=fun x=>decide (zaa u.flows x.name<0))).2 (fun q hq=>by simpa using h q hq) x hx;simp[place_neg]at this;subst e;obtain⟨y,hy,e⟩:=yua.1 hb;exact this y hy e
  ·rintro h ⟨x,i⟩ hq
   rw[yca]at hq;rw[place_neg];intro hm;exact h x.name (yua.2 ⟨x,yK hq,rfl⟩) x.name hm rfl
 have h4:=zip_all (l:=u.arrays) (p:=arrOk);have h5:=zip_all (l:=u.flows) (p:=zrb);have h6:∀p∈u.arrays.zipIdx,(arrAt u.arrays p.1.name=p.2<->idx (fun y=>decide (y.name=p.1.name)) u.arrays=p.2):=fun p _=>Iff.rfl
 have h7:∀p∈u.flows.zipIdx,(zaa u.flows p.1.name=p.2<->idx (fun y=>decide (y.name=p.1.name)) u.flows=p.2):=fun p _=>Iff.rfl
 constructor
 ·rintro⟨a,b,c⟩
  exact⟨⟨⟨h4.2 fun q hq=>(a q hq).1,h5.2 fun q hq=>(b q hq).1⟩,h1.1 fun q hq=>(a q hq).2.1,h2.1 fun q hq=>(b q hq).2,h3.1 fun q hq=>(a q hq).2.2⟩,c⟩
 ·rintro⟨⟨⟨a,b⟩,c,d,e⟩,m⟩
  exact⟨fun q hq=>⟨h4.1 a q hq,h1.2 c q hq,h3.2 e q hq⟩,fun q hq=>⟨h5.1 b q hq,h2.2 d q hq⟩,m⟩
def rcheckM(u:Unt):Int×Int:=if rheadM u then(match u.flows.findIdx? (fun f=> !flowR u f)with
 |some i=>(80,(i:Int))
 |none=>(0,0))else(1,0)
structure Rel(ty:List Int)(S:St1)(seen:List Int)(Z:Set1):Prop where
 s:S.length=ty.length
 z:Z.length=ty.length
 set:∀v,0<=v->v<(ty.length:Int)->(atB Z v=true<->at0 S v≠0)
 seen:∀v,0<=v->v<(ty.length:Int)->(v∈seen<->at0 S v=1)
theorem at0_set{S:St1}{v w c:Int}(hv:0<=v)(hv':v<S.length)(hw:0<=w)(hw':w<S.length):at0 (S.set v.toNat c) w=if w=v then c else at0 S w:=by
 unfold at0;rw[List.getElem?_set];by_cases h:w=v
 ·subst h;have:w.toNat<S.length:=by omega
  simp[this]
 ·have:v.toNat≠w.toNat:=by omega
  simp[h,this]
theorem atB_set{S:Set1}{v w:Int}{c:Bool}(hv:0<=v)(hv':v<S.length)(hw:0<=w)(hw':w<S.length):atB (S.set v.toNat c) w=if w=v then c else atB S w:=by
 unfold atB;rw[List.getElem?_set];by_cases h:w=v
 ·subst h;have:w.toNat<S.length:=by omega
  simp[this]
 ·have:v.toNat≠w.toNat:=by omega
  simp[h,this]
theorem eqGo_use{ty:List Int}{S:St1}:∀l,(eqGo (useG ty) S l).1=l.all fun p=>(useG ty S p.1 p.2).1
 | []=>rfl
 |p::r=>by
  simp only[eqGo,List.all_cons];split
  ·rename_i h;rw[h,yxa];exact eqGo_use r
  ·rename_i h;simp only[Bool.not_eq_true]at h;rw[h];rfl
theorem use_rel{ty:List Int}{S:St1}{seen:List Int}{Z:Set1}(h:Rel ty S seen Z)(l ts:List Int):zoa ty S l ts=zua ty seen l ts:=by
 have key:∀v t,(useG ty S v t).1=useR ty seen v t:=by
  intro v t;simp only[useG,useR,valM];by_cases h0:0<=v
  ·by_cases h1:v<(ty.length:Int)
   ·have:=h.seen v h0 h1;have e:seen.contains v=decide (at0 S v=1):=by rw[Bool.eq_iff_iff];simpa using this
    rw[e];simp[h0,h1];grind
   ·simp[h1]
  ·simp[h0]
 unfold zoa eqM zua;by_cases hl:l.length=ts.length
 ·rw[if_pos hl,eqGo_use];simp only[hl,decide_true,yxa];congr 1;funext p;exact key _ _
 ·rw[if_neg hl];simp[hl]
theorem setGo_rel{ty:List Int}:∀(zs:List (Int×Int)) (S:St1) (seen:List Int) (Z:Set1),Rel ty S seen Z→
  (eqGo (setG ty) S zs).1=(eqGo (setRG ty) Z zs).1/\((eqGo (setG ty) S zs).1=true->Rel ty (eqGo (setG ty) S zs).2 (seen++zs.map yAa) (eqGo (setRG ty) Z zs).2/\∀v∈zs.map yAa,0<=v/\v<ty.length/\at0 S v=0)
 | [],S,seen,Z,h=>⟨rfl,fun _=>⟨by simpa[eqGo]using h,fun v hv=>by simp at hv⟩⟩
 |(v,t)::r,S,seen,Z,h=>by
  have hc:(valM ty v t&&decide (at0 S v=0))=(valM ty v t&& !atB Z v):=by
   cases hv:valM ty v t
   ·rfl
   ·obtain⟨h0,h1⟩:=zAa hv;have:=h.set v h0 h1;cases hz:atB Z v<;>simp[hz]at this ⊢ <;>omega
  simp only[eqGo,setG,setRG,hc];by_cases hb:(valM ty v t&& !atB Z v)=true
  ·simp only[hb,if_true];have hb':=hb;rw[<-hc]at hb';simp only[ya,decide_eq_true_eq]at hb';obtain⟨h0,h1⟩:=zAa hb'.1;have hr:Rel ty (S.set v.toNat 1) (seen++[v]) (Z.set v.toNat true):=by
    refine⟨by simp[h.s],by simp[h.z],fun w hw hw'=>?_,fun w hw hw'=>?_⟩
    ·rw[at0_set h0 (by rw[h.s];exact h1) hw (by rw[h.s];exact hw'),atB_set h0 (by rw[h.z];exact h1) hw (by rw[h.z];exact hw')];by_cases e:w=v
     ·simp[e]
     ·simp only[e,if_false];exact h.set w hw hw'
    ·rw[at0_set h0 (by rw[h.s];exact h1) hw (by rw[h.s];exact hw')];by_cases e:w=v
     ·simp[e]
     ·simp only[yQ,List.mem_singleton,e,or_false,if_false];exact h.seen w hw hw'
   obtain⟨q1,q2⟩:=setGo_rel r _ _ _ hr;refine⟨q1,fun hok=>?_⟩;obtain⟨q3,q4⟩:=q2 hok;refine⟨by simpa using q3,fun w hw=>?_⟩;simp only[yba,yV]at hw;rcases hw with rfl|hw
   ·exact⟨h0,h1,hb'.2⟩
   ·obtain⟨p1,p2,p3⟩:=q4 w hw;rw[at0_set h0 (by rw[h.s];exact h1) p1 (by rw[h.s];exact p2)]at p3;split at p3
    ·omega
    ·exact⟨p1,p2,p3⟩
  ·simp only[Bool.not_eq_true]at hb;simp[hb]
theorem zip_fst{l ts:List Int}(h:l.length=ts.length):(l.zip ts).map yAa=l:=by
 rw[List.map_fst_zip];omega
def zea(ty:List Int)(seen outs:List Int)(q:Bool×St1)(r:Bool×Set1):Prop:=
 q.1=r.1/\(q.1=true->Rel ty q.2 (seen++outs) r.2/\∀v∈outs,0<=v/\v<(ty.length:Int)/\v ∉ seen)
theorem zWb{ty:List Int}{S:St1}{seen:List Int}{Z:Set1}(h:Rel ty S seen Z)(l ts:List Int):zea ty seen l (setM ty S l ts) (setsR ty Z l ts):=by
 unfold setM setsR eqM;by_cases hl:l.length=ts.length
 ·rw[if_pos hl,if_pos hl];obtain⟨q1,q2⟩:=setGo_rel (l.zip ts) S seen Z h;refine⟨q1,fun hok=>?_⟩;obtain⟨q3,q4⟩:=q2 hok;rw[zip_fst hl]at q3 q4;refine⟨q3,fun v hv=>?_⟩;obtain⟨p1,p2,p3⟩:=q4 v hv;exact⟨p1,p2,fun hm=>by have:=(h.seen v p1 p2).1 hm;omega⟩
 ·rw[if_neg hl,if_neg hl];exact⟨rfl,fun h=>by cases h⟩
theorem zea.fail{ty:List Int}{seen outs:List Int}{S:St1}{Z:Set1}:zea ty seen outs (false,S) (false,Z):=⟨rfl,fun h=>by cases h⟩
theorem zea.nil{ty:List Int}{seen:List Int}{S:St1}{Z:Set1}{outs:List Int}{b:Bool}(h:Rel ty S seen Z)(ho:b=true->outs=[]):zea ty seen outs (b,S) (b,Z):=
 ⟨rfl,fun hb=>by simp only at hb;rw[ho hb];exact⟨by simpa using h,fun v hv=>by simp at hv⟩⟩
theorem setM_nil(ty:List Int)(S:St1)(l:List Int):setM ty S l []=(decide (l=[]),S):=by
 unfold setM eqM;cases l with
 |nil=>rfl
 |cons x r=>simp
theorem usesM_nil(ty:List Int)(S:St1)(l:List Int):zoa ty S l []=decide (l=[]):=by
 unfold zoa eqM;cases l with
 |nil=>rfl
 |cons x r=>simp
theorem zea.ite{ty:List Int}{seen outs:List Int}{q:Bool×St1}{r:Bool×Set1}{S:St1}{Z:Set1}{b c:Prop}[Decidable b][Decidable c](hbc:b<->c)(h:zea ty seen outs q r):zea ty seen outs (if b then q else(false,S)) (if c then r else(false,Z)):=by
 by_cases hb:b
 ·rw[if_pos hb,if_pos (hbc.1 hb)];exact h
 ·rw[if_neg hb,if_neg (fun hc=>hb (hbc.2 hc))];exact zea.fail
theorem simple_rel{u:Unt}{f:Flow}{S:St1}{seen:List Int}{Z:Set1}(h:Rel f.types S seen Z)(x:Node)(w:Place)(hk:endK x.kind=false):zea f.types seen x.outs (zya u f S x) (simpleR u f seen w Z x):=by
 have hu:=use_rel h;have k12:¬x.kind=12:=by rintro e;simp[endK,e]at hk
 have k13:¬x.kind=13:=by rintro e;simp[endK,e]at hk
 have k14:¬x.kind=14:=by rintro e;simp[endK,e]at hk
 have k15:¬x.kind=15:=by rintro e;simp[endK,e]at hk
 unfold zya simpleR;simp only[hu,k12,k13,k14,k15,if_false];by_cases k1:x.kind=1
 ·simp only[k1,if_true];exact zea.ite Iff.rfl (zWb h _ _)
 by_cases k2:x.kind=2
 ·simp only[k2,if_true];simp;exact zea.ite Iff.rfl (zWb h _ _)
 by_cases k3:x.kind=3
 ·simp[k3,sumM,hu];refine zea.ite ?_ (zWb h _ _);simp[isOne];grind
 by_cases k4:x.kind=4
 ·simp[k4,sumM,hu];refine zea.ite ?_ (zWb h _ _);simp[isTwo];grind
 by_cases k5:x.kind=5
 ·simp[k5];exact zea.ite Iff.rfl (zWb h _ _)
 by_cases k6:x.kind=6
 ·simp[k6,setM_nil];by_cases hc:zqb u.arrays x.name=true/\zua f.types seen x.args [1,1]=true
  ·rw[if_pos hc];simp[hc.1,hc.2];exact zea.nil h (by simp)
  ·rw[if_neg hc];have:(zqb u.arrays x.name&&(zua f.types seen x.args [1,1]&&decide (x.outs=[])))=false:=by
    cases h1:zqb u.arrays x.name<;>cases h2:zua f.types seen x.args [1,1]<;>simp_all
   rw[this];exact zea.fail
 by_cases k7:x.kind=7
 ·simp[k7];cases hfl:u.flows[(zaa u.flows x.name).toNat]? with
  |none=>exact zea.fail
  |some g=>exact zea.ite Iff.rfl (zWb h _ _)
 by_cases k8:x.kind=8
 ·simp[k8];have:(zua f.types seen x.args []=true)<->x.args=[]:=by rw[<-hu,usesM_nil];simp
  exact zea.ite this (zWb h _ _)
 by_cases k9:x.kind=9
 ·simp[k9,setM_nil];cases hc:zua f.types seen x.args [1]
  ·simp;exact zea.fail
  ·simp;exact zea.nil h (by simp)
 simp[k1,k2,k3,k4,k5,k6,k7,k8,k9];exact zea.fail
theorem end_rel{u:Unt}{f:Flow}{S:St1}{seen:List Int}{Z:Set1}(h:Rel f.types S seen Z)(x:Node)(w:Place)(hk:endK x.kind=true):zea f.types seen x.outs (endM f S x w,S) (simpleR u f seen w Z x):=by
 have hu:=use_rel h;have e:simpleR u f seen w Z x=(endM f S x w,Z):=by
  simp only[endK,ya,decide_eq_true_eq]at hk;have:x.kind=12\/x.kind=13\/x.kind=14\/x.kind=15:=by omega
  unfold simpleR endM;rcases this with k|k|k|k<;>simp[k,hu]<;>grind
 rw[e];refine zea.nil h (fun hb=>?_);simp only[endM,ya,decide_eq_true_eq]at hb;exact hb.1
theorem at0_hide(S:St1)(l:List Int):∀{n:Nat},S.length=n->(∀v∈l,0<=v/\v<(n:Int))->∀w,0<=w->w<(n:Int)->at0 (zmb S l) w=if w∈l then 2 else at0 S w:=by
 induction l generalizing S with
 |nil=>intro n hS hl w h0 h1;simp[zmb]
 |cons v r ih=>
  intro n hS hl w h0 h1;obtain⟨v0,v1⟩:=hl v (by simp);have e:zmb S (v::r)=zmb (S.set v.toNat 2) r:=rfl;rw[e,ih (S.set v.toNat 2) (by simpa using hS) (fun x hx=>hl x (yea _ hx)) w h0 h1];rw[at0_set v0 (by omega) h0 (by omega)];by_cases hw:w=v
  ·subst hw;by_cases hr:w∈r<;>simp[hr]
  ·by_cases hr:w∈r<;>simp[hr,hw]
theorem Rel.hide{ty:List Int}{S:St1}{seen:List Int}{Z:Set1}{l:List Int}(h:Rel ty S (seen++l) Z)(hl:∀v∈l,0<=v/\v<(ty.length:Int)/\v ∉ seen):Rel ty (zmb S l) seen Z:=by
 have hh:=at0_hide S l h.s (fun v hv=>⟨(hl v hv).1,(hl v hv).2.1⟩);refine⟨by rw[zic];exact h.s,h.z,fun v h0 h1=>?_,fun v h0 h1=>?_⟩
 ·rw[hh v h0 h1,h.set v h0 h1];by_cases hv:v∈l
  ·have:=(h.seen v h0 h1).1 (List.mem_append_right _ hv);simp[hv,this]
  ·simp[hv]
 ·rw[hh v h0 h1];have hs:=h.seen v h0 h1;rw[yQ]at hs;by_cases hv:v∈l
  ·simp[hv,(hl v hv).2.2]
  ·simp only[hv,or_false,if_false]at hs ⊢;exact hs
def Same1(ty:List Int)(seen:List Int)(q:Bool×St1)(r:Bool×Set1):Prop:=q.1=r.1/\(q.1=true->Rel ty q.2 seen r.2)
theorem list_rel{ty:List Int}{seen:List Int}{l:List Node}{q:Bool×St1}{r:Bool×Set1}(h:zea ty seen (louts l) q r):Same1 ty seen (listE l q) (lastE l r):=by
 obtain⟨h1,h2⟩:=h;unfold listE lastE;rw[<-h1];cases hq:q.1
 ·exact⟨rfl,fun h=>by cases h⟩
 ·simp only[if_true];refine⟨rfl,fun _=>?_⟩;obtain⟨h3,h4⟩:=h2 hq;exact h3.hide h4
theorem choice_rel{ty:List Int}{seen:List Int}{x:Node}{q:Bool×St1}{r:Bool×Set1}(h:Same1 ty seen q r):zea ty seen x.outs (zIb ty x q) (endR ty x r):=by
 obtain⟨h1,h2⟩:=h;unfold zIb endR;rw[<-h1];cases hq:q.1
 ·simp;exact zea.fail
 ·by_cases hb:(decide (x.outs=[])|| !zU x)=true
  ·simp only[hb,Bool.and_self,if_true];exact zWb (h2 hq) _ _
  ·simp only[hb,yxa];exact zea.fail
theorem loop_rel{ty:List Int}{seen:List Int}{x:Node}{q:Bool×St1}{r:Bool×Set1}(h:Same1 ty (seen++x.params) q r)(hp:∀v∈x.params,0<=v/\v<(ty.length:Int)/\v ∉ seen):zea ty seen x.outs (loopE ty x q) (endR ty x r):=by
 obtain⟨h1,h2⟩:=h;unfold loopE endR;rw[<-h1];cases hq:q.1
 ·simp;exact zea.fail
 ·by_cases hb:(decide (x.outs=[])|| !zU x)=true
  ·simp only[hb,Bool.and_self,if_true];exact zWb ((h2 hq).hide hp) _ _
  ·simp only[hb,yxa,if_true];exact zea.fail
mutual
theorem node_rel(u:Unt)(f:Flow):∀(x:Node) (w:Place) (deep:Int) (S:St1) (seen:List Int) (Z:Set1),Rel f.types S seen Z->zea f.types seen x.outs (nodeM u f x w deep S) (nodeR u f x seen w deep Z)
 |⟨k,o,n,s,a,us,ps,ks⟩,w,deep,S,seen,Z,h=>by
  have hu:=use_rel h;rw[nodeM,nodeR];cases hb:bareM ⟨k,o,n,s,a,us,ps,ks⟩
  ·simp;exact zea.fail
  simp only[Bool.not_true,yI,if_false];by_cases k10:k=10
  ·simp only[k10,if_true];refine zea.ite (by rw[hu]) ?_;exact choice_rel (kids_rel u f ks _ _ S seen Z h)
  simp only[k10,if_false];by_cases k11:k=11
  ·simp only[k11,if_true];rw[hu];cases hc:zua f.types seen a (zN f.types ps)
   ·simp;exact zea.fail
   simp only[if_true];obtain⟨p1,p2⟩:=zWb h ps (zeros ps.length);have e:allM f.types S ps=setM f.types S ps (zeros ps.length):=rfl;rw[e,<-p1];cases hok:(setM f.types S ps (zeros ps.length)).1
   ·simp;exact zea.fail
   simp only[if_true];obtain⟨p3,p4⟩:=p2 hok;exact loop_rel (kids_rel u f ks _ _ _ _ _ p3) p4
  simp only[k11,if_false];cases hk:endK k
  ·simp only[yI,if_false];exact simple_rel h _ w hk
  ·simp only[if_true];exact end_rel h _ w hk
theorem kids_rel(u:Unt)(f:Flow):∀(ks:List (List Node)) (w:Place) (deep:Int) (S:St1) (seen:List Int) (Z:Set1),Rel f.types S seen Z->Same1 f.types seen (zxc u f ks w deep S) (kidsR u f ks seen w deep Z)
 | [],w,deep,S,seen,Z,h=>by rw[zxc,kidsR];exact⟨rfl,fun _=>h⟩
 |l::r,w,deep,S,seen,Z,h=>by
  rw[zxc,kidsR];obtain⟨h1,h2⟩:=list_rel (go_rel u f l w deep S seen Z h);rw[<-h1];cases hq:(listE l (goM u f l w deep S)).1
  ·simp only[yI,if_false];exact⟨rfl,fun h=>by cases h⟩
  ·simp only[if_true];exact kids_rel u f r w deep _ seen _ (h2 hq)
theorem go_rel(u:Unt)(f:Flow):∀(l:List Node) (w:Place) (deep:Int) (S:St1) (seen:List Int) (Z:Set1),Rel f.types S seen Z->zea f.types seen (louts l) (goM u f l w deep S) (goR u f l seen w deep Z)
 | [],w,deep,S,seen,Z,h=>by rw[goM,goR];exact zea.nil h (fun _=>rfl)
 |x::r,w,deep,S,seen,Z,h=>by
  rw[goM,goR];by_cases hd:100<deep
  ·rw[if_pos hd,if_pos hd];exact zea.fail
  rw[if_neg hd,if_neg hd];obtain⟨h1,h2⟩:=node_rel u f x w deep S seen Z h;rw[<-h1];cases hq:(nodeM u f x w deep S).1
  ·simp only[yI,if_false];exact zea.fail
  simp only[if_true];obtain⟨h3,h4⟩:=h2 hq;by_cases hc:zU x=r.isEmpty
  ·rw[if_pos hc,if_pos hc];obtain⟨q1,q2⟩:=go_rel u f r w deep _ _ _ h3;refine⟨q1,fun hok=>?_⟩;obtain⟨q3,q4⟩:=q2 hok;rw[louts_cons];refine⟨by simpa[yga]using q3,fun v hv=>?_⟩;rcases yQ.1 hv with hv|hv
   ·exact h4 v hv
   ·obtain⟨p1,p2,p3⟩:=q4 v hv;exact⟨p1,p2,fun hm=>p3 (List.mem_append_left _ hm)⟩
  ·rw[if_neg hc,if_neg hc];exact zea.fail
end
theorem init_rel(f:Flow)(hp:0<=f.params/\f.params<=f.types.length):Rel f.types (initM f f.params.toNat) (firsts f.params.toNat) (initR f f.params.toNat):=by
 have hk:f.params.toNat<=f.types.length:=by omega
 refine⟨initM_len f _ hk,initR_len f _ hk,fun v h0 h1=>?_,fun v h0 h1=>?_⟩
 ·have hv:v.toNat<f.types.length:=by omega
  unfold at0 atB initM initR;rw[List.getElem?_append,List.getElem?_append];by_cases h:v.toNat<f.params.toNat
  ·simp[h]
  ·have:v.toNat-f.params.toNat<f.types.length-f.params.toNat:=by omega
   simp[h,this]
 ·have hv:v.toNat<f.types.length:=by omega
  have hm:v∈firsts f.params.toNat<->v.toNat<f.params.toNat:=by
   simp only[firsts,yua,yka];constructor
   ·rintro⟨i,hi,rfl⟩;simpa using hi
   ·intro h;exact⟨v.toNat,h,by omega⟩
  rw[hm];unfold at0 initM;rw[List.getElem?_append];by_cases h:v.toNat<f.params.toNat
  ·simp[h]
  ·have:v.toNat-f.params.toNat<f.types.length-f.params.toNat:=by omega
   simp[h,this]
theorem flow_eq(u:Unt)(f:Flow)(hp:0<=f.params/\f.params<=f.types.length):flowM u f=flowR u f:=by
 have h:=list_rel (go_rel u f f.body place0 1 _ _ _ (init_rel f hp));have h1:¬f.params<0:=by omega
 have h2:¬(f.types.length:Int)<f.params:=by omega
 have h3:(zHa u f f.body place0 1 (initM f f.params.toNat)).1=(listR u f f.body (firsts f.params.toNat) place0 1 (initR f f.params.toNat)).1:=h.1;simp only[flowM,flowR,h1,h2,h3,decide_false,ywa,Bool.or_false]
theorem findIdx_congr{α:Type}{p q:α->Bool}:∀{l:List α},(∀x∈l,p x=q x)->l.findIdx? p=l.findIdx? q
 | [],_=>rfl
 |x::r,h=>by
  rw[yDa,yDa,h x (by simp),findIdx_congr (fun y hy=>h y (yea _ hy))]
theorem check_eq(u:Unt):zsb u=rcheckM u:=by
 unfold zsb rcheckM;rw[rhead_eq];cases hh:zXb u
 ·rfl
 ·have:u.flows.findIdx? (fun f=> !flowM u f)=u.flows.findIdx? (fun f=> !flowR u f):=by
   refine findIdx_congr (fun f hf=>?_);simp only[zXb,ya,yn]at hh;have:=hh.1.1.2 f hf;simp only[zrb,ya,decide_eq_true_eq]at this;rw[flow_eq u f ⟨this.1.2,this.2⟩]
  rw[this]<;>rfl
def inR(m:Nat)(l:List Int):Prop:=∀v∈l,0<=v/\v<(m:Int)
structure Pl where
 y:Option Nat
 x:Option Nat
 l:Option Nat
structure okH(u:Unt)(m:Nat)(p:Pl)(n:Node):Prop where
 args:inR m n.args
 outs:inR m n.outs
 prs:inR m n.params
 k12:(n.kind=1\/n.kind=2)->n.outs.length=1
 k3:n.kind=3->n.args.length=1/\n.outs.length=1
 k4:n.kind=4->n.args.length=2/\n.outs.length=1
 k5:n.kind=5->zqb u.arrays n.name=true/\n.args.length=1/\n.outs.length=1
 k6:n.kind=6->zqb u.arrays n.name=true/\n.args.length=2/\n.outs.length=0
 k7:n.kind=7->∃g,flowAt u n.name=some g/\0<=zaa u.flows n.name/\n.args.length=(pars g).length/\n.outs.length=1
 k8:n.kind=8->n.outs.length=1
 k9:n.kind=9->n.args.length=1/\n.outs.length=0
 k10:n.kind=10->n.args.length=1/\n.kids.length=2
 k11:n.kind=11->n.args.length=n.params.length/\n.kids.length=1
 k12':n.kind=12->p.y=some n.args.length
 k13:n.kind=13->p.x=some n.args.length
 k14:n.kind=14->p.l=some n.args.length
 k15:n.kind=15->n.args.length=1
 k:1<=n.kind/\n.kind<=15
def plIn(p:Pl)(k:Int)(us ps:List Int):Pl:=if k=11 then⟨none,some ps.length,some us.length⟩else{p with y:=some us.length}
mutual
def okN(u:Unt)(m:Nat):Pl->Node->Prop
 |p,⟨k,o,n,s,a,us,ps,ks⟩=>okH u m p ⟨k,o,n,s,a,us,ps,ks⟩/\okK u m (plIn p k us ps) ks
def okK(u:Unt)(m:Nat):Pl->List (List Node)->Prop
 |p,[]=>True
 |p,l::r=>(l≠ []/\okL u m p l)/\okK u m p r
def okL(u:Unt)(m:Nat):Pl->List Node->Prop
 |p,[]=>True
 |p,x::r=>okN u m p x/\zU x=r.isEmpty/\okL u m p r
end
theorem okN_eq(u:Unt)(m:Nat)(p:Pl)(x:Node):okN u m p x=(okH u m p x/\okK u m (plIn p x.kind x.outs x.params) x.kids):=by
 cases x;rw[okN]
theorem okK_mem{u:Unt}{m:Nat}{p:Pl}:∀{ks:List (List Node)},okK u m p ks->∀l∈ks,l≠ []/\okL u m p l
 | [],_,l,h=>by cases h
 |k::r,h,l,hl=>by
  rw[okK]at h;rcases yV.1 hl with rfl|hl
  ·exact h.1
  ·exact okK_mem h.2 l hl
def plOf(w:Place):Pl:=⟨if w.inIf then some w.yield.length else none,if w.inLoop then some w.next.length else none,if w.inLoop then some w.left.length else none⟩
theorem zZ{ty seen l want:List Int}(h:zua ty seen l want=true):inR ty.length l/\l.length=want.length:=by
 unfold zua at h;rw[ya,decide_eq_true_eq,yn]at h;refine⟨fun v hv=>?_,h.1⟩;obtain⟨i,hi⟩:=List.getElem?_of_mem hv;have hlt:=(yb.1 hi).1;obtain⟨t,ht⟩:∃t,want[i]? =some t:=⟨_,ye (by omega)⟩
 have hm:(v,t)∈l.zip want:=yK (i:=i) (by rw[List.getElem?_zip_eq_some];exact⟨hi,ht⟩);have:=h.2 _ hm;simp only[useR,ya,decide_eq_true_eq]at this;exact⟨this.1,this.2.1⟩
theorem setRG_go{ty:List Int}:∀{l:List (Int×Int)} {S:Set1},(eqGo (setRG ty) S l).1=true->∀q∈l,0<=q.1/\q.1<ty.length
 | [],_,_,q,hq=>by cases hq
 |(v,t)::r,S,h,q,hq=>by
  simp only[eqGo,setRG]at h;by_cases hb:(valM ty v t&& !atB S v)=true
  ·simp only[hb,if_true]at h;rcases yV.1 hq with rfl|hq
   ·rw[ya]at hb;exact zAa hb.1
   ·exact setRG_go h q hq
  ·simp only[Bool.not_eq_true]at hb;simp[hb]at h
theorem ztb{ty:List Int}{Z:Set1}{l want:List Int}(h:(setsR ty Z l want).1=true):inR ty.length l/\l.length=want.length:=by
 unfold setsR eqM at h;split at h
 ·rename_i hl;refine⟨fun v hv=>?_,hl⟩;have:v∈(l.zip want).map yAa:=by rw[zip_fst hl];exact hv
  obtain⟨q,hq,rfl⟩:=yua.1 this;exact setRG_go h q hq
 ·cases h
theorem typesM_len{ty l:List Int}(h:inR ty.length l):(zN ty l).length=l.length:=by
 unfold zN;rw[if_pos,yY];rw[yn];intro v hv;obtain⟨h0,h1⟩:=h v hv;simp[valM,h0,h1]
theorem zyc(m:Nat):inR m []:=fun v h=>by cases h
theorem endR_ok{ty:List Int}{x:Node}{q:Bool×Set1}(h:(endR ty x q).1=true):q.1=true/\inR ty.length x.outs:=by
 unfold endR at h;split at h
 ·rename_i hc;rw[ya]at hc;exact⟨hc.1,(ztb h).1⟩
 ·cases h
theorem bareM_ok{x:Node}(h:bareM x=true):(x.kids.length:Int)=kidsN x.kind/\(x.kind=11\/x.params=[]):=by
 simp only[bareM,ya,yJ,decide_eq_true_eq]at h;exact⟨h.2,h.1.2⟩
theorem simpleR_ok{u:Unt}{f:Flow}{seen:List Int}{w:Place}{Z:Set1}{x:Node}(hb:bareM x=true)(h10:x.kind≠10)(h11:x.kind≠11)(h:(simpleR u f seen w Z x).1=true):okH u f.types.length (plOf w) x:=by
 obtain⟨_,hp⟩:=bareM_ok hb;have hp:x.params=[]:=hp.resolve_left h11;have hpar:inR f.types.length x.params:=by rw[hp];exact zyc _
 unfold simpleR at h;dsimp only at h;by_cases k1:x.kind=1
 ·rw[if_pos k1]at h;split at h
  ·rename_i ha;have a:=zZ ha;have o:=ztb h;refine⟨a.1,o.1,hpar,?_,?_,?_,?_,?_,?_,?_,?_,?_,?_,?_,?_,?_,?_,?_⟩<;>intros<;>first|omega|(simp_all;done)|skip
  ·cases h
 rw[if_neg k1]at h;by_cases k2:x.kind=2
 ·rw[if_pos k2]at h;split at h
  ·rename_i ha;have a:=zZ ha.2;have o:=ztb h;refine⟨a.1,o.1,hpar,?_,?_,?_,?_,?_,?_,?_,?_,?_,?_,?_,?_,?_,?_,?_⟩<;>intros<;>first|omega|(simp_all;done)|skip
  ·cases h
 rw[if_neg k2]at h;by_cases k3:x.kind=3
 ·rw[if_pos k3]at h;split at h
  ·rename_i ha;rw[ya]at ha;have a:=zZ ha.2;have o:=ztb h;refine⟨a.1,o.1,hpar,?_,?_,?_,?_,?_,?_,?_,?_,?_,?_,?_,?_,?_,?_,?_⟩<;>intros<;>first|omega|(simp_all;done)|skip
  ·cases h
 rw[if_neg k3]at h;by_cases k4:x.kind=4
 ·rw[if_pos k4]at h;split at h
  ·rename_i ha;have ha:=ha.1;rw[ya]at ha;have a:=zZ ha.2;have o:=ztb h;refine⟨a.1,o.1,hpar,?_,?_,?_,?_,?_,?_,?_,?_,?_,?_,?_,?_,?_,?_,?_⟩<;>intros<;>first|omega|(simp_all;done)|skip
  ·cases h
 rw[if_neg k4]at h;by_cases k5:x.kind=5
 ·rw[if_pos k5]at h;split at h
  ·rename_i ha;rw[ya]at ha;have a:=zZ ha.2;have o:=ztb h;refine⟨a.1,o.1,hpar,?_,?_,?_,?_,?_,?_,?_,?_,?_,?_,?_,?_,?_,?_,?_⟩<;>intros<;>first|omega|(simp_all;done)|skip
  ·cases h
 rw[if_neg k5]at h;by_cases k6:x.kind=6
 ·rw[if_pos k6]at h;simp only[ya,decide_eq_true_eq]at h;have a:=zZ h.2.1;have o:inR f.types.length x.outs:=by rw[h.2.2];exact zyc _
  have o2:x.outs.length=0:=by rw[h.2.2];rfl
  refine⟨a.1,o,hpar,?_,?_,?_,?_,?_,?_,?_,?_,?_,?_,?_,?_,?_,?_,?_⟩<;>intros<;>first|omega|(simp_all;done)|skip
 rw[if_neg k6]at h;by_cases k7:x.kind=7
 ·rw[if_pos k7]at h;split at h
  ·rename_i g hg;split at h
   ·rename_i ha;have a:=zZ ha.2;have o:=ztb h;have hk:∃g,flowAt u x.name=some g/\0<=zaa u.flows x.name/\x.args.length=(pars g).length/\x.outs.length=1:=⟨g,hg,ha.1,a.2,o.2⟩
    refine⟨a.1,o.1,hpar,?_,?_,?_,?_,?_,fun _=>hk,?_,?_,?_,?_,?_,?_,?_,?_,?_⟩<;>intros<;>omega
   ·cases h
  ·cases h
 rw[if_neg k7]at h;by_cases k8:x.kind=8
 ·rw[if_pos k8]at h;split at h
  ·rename_i ha;have o:=ztb h;have a:inR f.types.length x.args:=by rw[ha];exact zyc _
   refine⟨a,o.1,hpar,?_,?_,?_,?_,?_,?_,?_,?_,?_,?_,?_,?_,?_,?_,?_⟩<;>intros<;>first|omega|(simp_all;done)|skip
  ·cases h
 rw[if_neg k8]at h;by_cases k9:x.kind=9
 ·rw[if_pos k9]at h;simp only[ya,decide_eq_true_eq]at h;have a:=zZ h.1;have o:inR f.types.length x.outs:=by rw[h.2];exact zyc _
  have o2:x.outs.length=0:=by rw[h.2];rfl
  refine⟨a.1,o,hpar,?_,?_,?_,?_,?_,?_,?_,?_,?_,?_,?_,?_,?_,?_,?_⟩<;>intros<;>first|omega|(simp_all;done)|skip
 rw[if_neg k9]at h;by_cases k12:x.kind=12
 ·rw[if_pos k12]at h;simp only[ya,decide_eq_true_eq]at h;have a:=zZ h.2.1;have o:inR f.types.length x.outs:=by rw[h.2.2];exact zyc _
  have hy:(plOf w).y=some x.args.length:=by simp only[plOf,h.1,if_true,a.2]
  refine⟨a.1,o,hpar,?_,?_,?_,?_,?_,?_,?_,?_,?_,?_,?_,?_,?_,?_,?_⟩<;>intros<;>first|omega|(simp_all;done)|skip
 rw[if_neg k12]at h;by_cases k13:x.kind=13
 ·rw[if_pos k13]at h;simp only[ya,decide_eq_true_eq]at h;have a:=zZ h.2.1;have o:inR f.types.length x.outs:=by rw[h.2.2];exact zyc _
  have hy:(plOf w).x=some x.args.length:=by simp only[plOf,h.1,if_true,a.2]
  refine⟨a.1,o,hpar,?_,?_,?_,?_,?_,?_,?_,?_,?_,?_,?_,?_,?_,?_,?_⟩<;>intros<;>first|omega|(simp_all;done)|skip
 rw[if_neg k13]at h;by_cases k14:x.kind=14
 ·rw[if_pos k14]at h;simp only[ya,decide_eq_true_eq]at h;have a:=zZ h.2.1;have o:inR f.types.length x.outs:=by rw[h.2.2];exact zyc _
  have hy:(plOf w).l=some x.args.length:=by simp only[plOf,h.1,if_true,a.2]
  refine⟨a.1,o,hpar,?_,?_,?_,?_,?_,?_,?_,?_,?_,?_,?_,?_,?_,?_,?_⟩<;>intros<;>first|omega|(simp_all;done)|skip
 rw[if_neg k14]at h;by_cases k15:x.kind=15
 ·rw[if_pos k15]at h;simp only[ya,decide_eq_true_eq]at h;have a:=zZ h.1;have o:inR f.types.length x.outs:=by rw[h.2];exact zyc _
  refine⟨a.1,o,hpar,?_,?_,?_,?_,?_,?_,?_,?_,?_,?_,?_,?_,?_,?_,?_⟩<;>intros<;>first|omega|(simp_all;done)|skip
 rw[if_neg k15]at h;cases h
theorem plOf_if{w:Place}{ty us ps:List Int}(h:inR ty.length us):plOf {w with inIf:=true,yield:=zN ty us}=plIn (plOf w) 10 us ps:=by
 simp[plOf,plIn,typesM_len h]
theorem plOf_loop{p:Pl}{ty us ps:List Int}(h:inR ty.length us)(h':inR ty.length ps):plOf ⟨false,true,[],zN ty ps,zN ty us⟩=plIn p 11 us ps:=by
 simp[plOf,plIn,typesM_len h,typesM_len h']
mutual
theorem nodeR_ok(u:Unt)(f:Flow):∀(x:Node) (seen:List Int) (w:Place) (deep:Int) (Z:Set1),(nodeR u f x seen w deep Z).1=true->okN u f.types.length (plOf w) x
 |⟨k,o,n,s,a,us,ps,ks⟩,seen,w,deep,Z,h=>by
  rw[okN];rw[nodeR]at h;by_cases hb:bareM ⟨k,o,n,s,a,us,ps,ks⟩=true
  ·rw[hb]at h;simp only[Bool.not_true,yI,if_false]at h;obtain⟨hk,hp⟩:=bareM_ok hb;simp only at hk hp;by_cases k10:k=10
   ·rw[if_pos k10]at h;split at h
    ·rename_i ha;have a1:=zZ ha;obtain⟨q1,q2⟩:=endR_ok h;simp only at q2;have hp0:ps=[]:=hp.resolve_left (by omega);have hk2:ks.length=2:=by rw[k10]at hk;simp[kidsN]at hk;omega
     have hkid:=kidsR_ok u f ks _ _ _ _ q1;rw[plOf_if (ps:=ps) q2]at hkid;rw[k10];refine⟨⟨a1.1,q2,by simp only[hp0];exact zyc _,?_,?_,?_,?_,?_,?_,?_,?_,?_,?_,?_,?_,?_,?_,?_⟩,hkid⟩<;>intros<;>(try dsimp only at*)<;>first|omega|exact⟨a1.2,hk2⟩|exact⟨by simpa using a1.2,hk2⟩
    ·cases h
   ·rw[if_neg k10]at h;by_cases k11:k=11
    ·rw[if_pos k11]at h;split at h
     ·rename_i ha;split at h
      ·rename_i hs;have s1:=ztb hs;have a1:=zZ ha;rw[typesM_len s1.1]at a1;obtain⟨q1,q2⟩:=endR_ok h;simp only at q2;have hk2:ks.length=1:=by rw[k11]at hk;simp[kidsN]at hk;omega
       have hkid:=kidsR_ok u f ks _ _ _ _ q1;rw[plOf_loop (p:=plOf w) q2 s1.1]at hkid;rw[k11];refine⟨⟨a1.1,q2,s1.1,?_,?_,?_,?_,?_,?_,?_,?_,?_,?_,?_,?_,?_,?_,?_⟩,hkid⟩<;>intros<;>(try dsimp only at*)<;>first|omega|exact⟨a1.2,hk2⟩|exact⟨by simpa using a1.2,hk2⟩
      ·cases h
     ·cases h
    ·rw[if_neg k11]at h;have hh:=simpleR_ok hb k10 k11 h;have hk0:ks=[]:=by
      simp[kidsN,k10,k11]at hk;exact hk
     exact⟨hh,by rw[hk0,okK];trivial⟩
  ·simp only[Bool.not_eq_true]at hb;rw[hb]at h;simp at h
theorem kidsR_ok(u:Unt)(f:Flow):∀(ks:List (List Node)) (seen:List Int) (w:Place) (deep:Int) (Z:Set1),(kidsR u f ks seen w deep Z).1=true->okK u f.types.length (plOf w) ks
 | [],seen,w,deep,Z,h=>by rw[okK];trivial
 |l::r,seen,w,deep,Z,h=>by
  rw[okK];rw[kidsR]at h;split at h
  ·rename_i hl;refine⟨?_,kidsR_ok u f r _ _ _ _ h⟩;unfold lastE at hl;split at hl
   ·rename_i hg;refine⟨?_,goR_ok u f l _ _ _ _ hg⟩
    rintro rfl
    simp at hl
   ·cases hl
  ·cases h
theorem goR_ok(u:Unt)(f:Flow):∀(l:List Node) (seen:List Int) (w:Place) (deep:Int) (Z:Set1),(goR u f l seen w deep Z).1=true->okL u f.types.length (plOf w) l
 | [],seen,w,deep,Z,h=>by rw[okL];trivial
 |x::r,seen,w,deep,Z,h=>by
  rw[okL];rw[goR]at h;split at h
  ·cases h
  ·split at h
   ·rename_i hn;split at h
    ·rename_i hc;exact⟨nodeR_ok u f x _ _ _ _ hn,hc,goR_ok u f r _ _ _ _ h⟩
    ·cases h
   ·cases h
end
structure OkU(u:Unt):Prop where
 sz:USz u
 body:∀f∈u.flows,f.body≠ []/\okL u f.types.length ⟨none,none,none⟩ f.body
 pars:∀f∈u.flows,0<=f.params/\f.params<=f.types.length
 arrs:∀a∈u.arrays,1<=a.size/\a.size<=1000
 names:(u.arrays.map Arr.name).Nodup
 main:∃f,flowAt u zG=some f/\f∈u.flows/\0<=zaa u.flows zG/\f.params=0
theorem checkM_ok{u:Unt}(hz:USz u)(h:(zsb u).1=0):OkU u:=by
 have h2:=h;rw[check_eq]at h2;unfold rcheckM at h2;rw[rhead_eq]at h2;cases hh:zXb u
 ·rw[hh]at h2;simp at h2
 ·rw[hh]at h2;simp only[if_true]at h2;have hfl:∀f∈u.flows,flowR u f=true:=by
   cases hx:u.flows.findIdx? (fun f=> !flowR u f)with
   |some i=>rw[hx]at h2;simp at h2
   |none=>rw[yha]at hx;simpa using hx
  simp only[zXb,ya,yn,decide_eq_true_eq]at hh;obtain⟨⟨⟨ha,hf⟩,hn⟩,hm⟩:=hh;refine⟨hz,fun f hf'=>?_,fun f hf'=>?_,fun a ha'=>?_,?_,?_⟩
  ·have h3:=hfl f hf';unfold flowR at h3;rw[ya]at h3;have h4:=h3.2;unfold listR lastE at h4;split at h4
   ·rename_i hg;refine⟨?_,goR_ok u f f.body _ _ _ _ hg⟩;intro e;rw[e]at h4;simp at h4
   ·cases h4
  ·have:=hf f hf';simp only[zrb,ya,decide_eq_true_eq]at this;exact⟨this.1.2,this.2⟩
  ·have:=ha a ha';simp only[arrOk,ya,decide_eq_true_eq]at this;exact⟨this.1.2,this.2⟩
  ·unfold unames at hn;rw[List.nodup_append]at hn;exact hn.1
  ·unfold mainOk at hm;unfold flowAt;split at hm
   ·rename_i f hf';simp only[ya,decide_eq_true_eq]at hm;exact⟨f,hf',yK hf',by grind,by grind⟩
   ·cases hm
structure Mono(S S1:RS):Prop where
 fuel:S1.fuel<=S.fuel
 out:S1.out.length+S1.fuel<=S.out.length+S.fuel
 arrs:S1.arrs.map List.length=S.arrs.map List.length
theorem Mono.refl(S:RS):Mono S S:=⟨yl _,yl _,rfl⟩
theorem Mono.trans{a b c:RS}(h:Mono a b)(k:Mono b c):Mono a c:=⟨yfa k.1 h.1,yfa k.2 h.2,k.3.trans h.3⟩
structure Mono1(S S1:RS):Prop where
 fuel:S1.fuel<=S.fuel
 out:S1.out.length+S1.fuel<=S.out.length+S.fuel+1
 arrs:S1.arrs.map List.length=S.arrs.map List.length
theorem Mono.one{a b:RS}(h:Mono a b):Mono1 a b:=⟨h.1,by have:=h.2;omega,h.3⟩
theorem zMb:∀(v o n:List Int),(setW v o n).length=v.length
 |v,[],n=>by simp[setW]
 |v,_::_,[]=>by simp[setW]
 |v,o::os,n::ns=>by rw[setW,zMb];simp
theorem zuc(v l:List Int):(ofW v l).length=l.length:=by simp[ofW]
def Ended(p:Pl)(r:Wy):Prop:=
 (r.kind=12/\p.y=some r.l.length)\/(r.kind=13/\p.x=some r.l.length)\/(r.kind=14/\p.l=some r.l.length)\/(r.kind=15/\r.l.length=1)
theorem Ended.ne{p:Pl}{r:Wy}(h:Ended p r):r.kind≠0:=by
 rcases h with h|h|h|h<;>omega
def NodeOk(m:Nat)(p:Pl)(x:Node)(S:RS)(q:Rt Wy×List Int×RS):Prop:=
 Mono S q.2.2/\q.2.1.length=m/\∀r,q.1= .ok r->q.2.2.fuel<S.fuel/\((r.kind=0/\zU x=false)\/(Ended p r/\(r.kind=12->x.kind=12)/\(r.kind=14->x.leaves=true)))
def ListRun(m:Nat)(p:Pl)(l:List Node)(S:RS)(q:Rt Wy×List Int×RS):Prop:=
 Mono S q.2.2/\q.2.1.length=m/\∀r,q.1= .ok r->q.2.2.fuel<S.fuel/\Ended p r/\(r.kind=12->zbb l=true)/\(r.kind=14->zlb l=true)
def EvOk(u:Unt)(ev:NEv):Prop:=∀m p x v S,okN u m p x->v.length=m->NodeOk m p x S (ev x v S)
theorem closed_ends{x:Node}(h:12<=x.kind/\x.kind<=15):zU x=true:=by
 unfold zU;rw[if_neg (by omega),if_neg (by omega)];simp[Node.ends,h.1,h.2]
theorem yields_cons{x:Node}{r:List Node}(h:r≠ []):zbb (x::r)=zbb r:=by
 unfold zbb;cases r with
 |nil=>exact absurd rfl h
 |cons y r=>rw[List.getLast?_cons_cons]
section
variable {u:Unt} {ev:NEv} (H:EvOk u ev)
include H
theorem zvc{m:Nat}{p:Pl}:∀(l:List Node) (v:List Int) (S:RS),l≠ []->okL u m p l->v.length=m->ListRun m p l S (zkb ev l v S)
 | [],v,S,hne,_,_=>absurd rfl hne
 |x::r,v,S,_,ho,hv=>by
  rw[okL]at ho;obtain⟨o1,o2,o3⟩:=ho;obtain⟨h1,f2,h2⟩:=H m p x v S o1 hv;unfold zkb;generalize ev x v S=q at*;obtain⟨a,v1,S1⟩:=q;simp only at f2 h1;cases a with
  |stop k=>exact⟨h1,f2,fun r e=>by cases e⟩
  |ok w=>
   obtain⟨f1,f3⟩:=h2 w rfl;simp only;by_cases hk:w.kind=0
   ·rw[if_pos hk];have hc:zU x=false:=by
     rcases f3 with f3|f3
     ·exact f3.2
     ·exact absurd hk f3.1.ne
    have hne:r≠ []:=by rintro rfl;rw[hc]at o2;cases o2
    obtain⟨i1,i0,i2⟩:=zvc r v1 S1 hne o3 f2;refine⟨h1.trans i1,i0,fun r' e=>?_⟩;obtain⟨j1,j3,j4,j5⟩:=i2 r' e;refine⟨by simp only at f1;omega,j3,fun e=>?_,fun e=>?_⟩
    ·rw[yields_cons hne];exact j4 e
    ·rw[zgc,List.any_cons,<-zgc,j5 e,Bool.or_true]
   ·rw[if_neg hk];refine⟨h1,f2,fun r' e=>?_⟩;cases e;rcases f3 with f3|⟨f3,f4,f5⟩
    ·exact absurd f3.1 hk
    ·refine⟨f1,f3,fun e=>?_,fun e=>?_⟩
     ·have hx:=f4 e;have hc:=closed_ends (x:=x) (by omega);rw[hc]at o2;have:r=[]:=by simpa using o2.symm
      subst this;simp[zbb,hx]
     ·rw[zgc,List.any_cons,f5 e,Bool.true_or]
theorem callW_ok{f:Flow}(hb:f.body≠ []/\okL u f.types.length ⟨none,none,none⟩ f.body){l:List Int}(hl:l.length<=f.types.length)(S:RS):
  Mono S (callW ev f l S).2/\(∀n,(callW ev f l S).1= .ok n->(callW ev f l S).2.fuel<S.fuel):=by
 have h:=zvc H f.body (l++yg (f.types.length-l.length) 0) S hb.1 hb.2 (by simp;omega);unfold callW;generalize zkb ev f.body (l++yg (f.types.length-l.length) 0) S=q at*;obtain⟨a,v1,S1⟩:=q;obtain⟨h1,_,h2⟩:=h;cases a with
 |stop k=>exact⟨h1,fun n e=>by cases e⟩
 |ok w=>exact⟨h1,fun n e=>(h2 w rfl).1⟩
theorem plainW_ok(hU:OkU u){m:Nat}{p:Pl}{x:Node}(ho:okH u m p x)(hk:3<=x.kind/\x.kind<=9){l:List Int}(hl:l.length=x.args.length)(S:RS):
  Mono1 S (plainW u ev x l S).2/\∀n,(plainW u ev x l S).1= .ok n->n.length=x.outs.length:=by
 unfold plainW;by_cases k3:x.kind=3
 ·rw[if_pos k3];exact⟨(Mono.refl _).one,fun n e=>by cases e;rw[(ho.k3 k3).2];rfl⟩
 rw[if_neg k3];by_cases k4:x.kind=4
 ·rw[if_pos k4];split
  ·exact⟨(Mono.refl _).one,fun n e=>by cases e;rw[(ho.k4 k4).2];rfl⟩
  ·exact⟨(Mono.refl _).one,fun n e=>by cases e⟩
 rw[if_neg k4];by_cases k5:x.kind=5
 ·rw[if_pos k5];split
  ·exact⟨(Mono.refl _).one,fun n e=>by cases e;rw[(ho.k5 k5).2.2];rfl⟩
  ·exact⟨(Mono.refl _).one,fun n e=>by cases e⟩
 rw[if_neg k5];by_cases k6:x.kind=6
 ·rw[if_pos k6];split
  ·rename_i S1 hp;refine⟨?_,fun n e=>by cases e;rw[(ho.k6 k6).2.2];rfl⟩;unfold putAt at hp;split at hp
   ·cases hp
   ·rw[yG]at hp;obtain⟨row,hr,hp⟩:=hp;split at hp
    ·cases hp;refine Mono.one ⟨yl _,yl _,?_⟩;simp only[yma,List.length_set];have hlt:=(yb.1 hr).1;have e:row.length=(S.arrs.map List.length)[(arrAt u.arrays x.name).toNat]'(by simpa using hlt):=by
      rw[List.getElem_map,(yb.1 hr).2]
     rw[e,List.set_getElem_self]
    ·cases hp
  ·exact⟨(Mono.refl _).one,fun n e=>by cases e⟩
 rw[if_neg k6];by_cases k7:x.kind=7
 ·rw[if_pos k7];obtain⟨g,hg,_,ha,hs⟩:=ho.k7 k7;rw[hg];simp only;have hgm:g∈u.flows:=yK hg;have hc:=callW_ok H (hU.body g hgm) (l:=l) (by rw[hl,ha];simp[pars];omega) S;generalize callW ev g l S=q at*;obtain⟨a,S1⟩:=q;cases a with
  |stop k=>exact⟨hc.1.one,fun n e=>by cases e⟩
  |ok k=>exact⟨hc.1.one,fun n e=>by cases e;rw[hs];rfl⟩
 rw[if_neg k7];by_cases k8:x.kind=8
 ·rw[if_pos k8];split
  ·exact⟨(Mono.refl _).one,fun n e=>by cases e⟩
  ·exact⟨Mono.one ⟨yl _,yl _,rfl⟩,fun n e=>by cases e;rw[ho.k8 k8];rfl⟩
 rw[if_neg k8];by_cases k9:x.kind=9
 ·rw[if_pos k9];exact⟨⟨yl _,by simp;omega,rfl⟩,fun n e=>by cases e;rw[(ho.k9 k9).2];rfl⟩
 omega
omit H in
theorem kids_two{x:Node}(h:x.kids.length=2):x.kids=[kid0 x,kid1 x]:=by
 unfold kid0 kid1
 match hk:x.kids with
 | [a,b]=>rfl
 | []=>rw[hk]at h;cases h
 | [_]=>rw[hk]at h;cases h
 |_::_::_::_=>rw[hk]at h;simp at h
omit H in
theorem kids_one{x:Node}(h:x.kids.length=1):x.kids=[kid0 x]:=by
 unfold kid0
 match hk:x.kids with
 | [a]=>rfl
 | []=>rw[hk]at h;cases h
 |_::_::_=>rw[hk]at h;simp at h
omit H in
theorem Mono.less{k:Nat}{S:RS}{q:RS}(hf:S.fuel=k+1)(h:Mono {S with fuel:=k} q):Mono S q/\q.fuel<S.fuel:=by
 obtain⟨h1,h2,h3⟩:=h;simp only at h1 h2 h3;exact⟨⟨by omega,by omega,h3⟩,by omega⟩
theorem choiceW_ok{m:Nat}{p:Pl}{x:Node}(ho:okN u m p x)(hk:x.kind=10)(c:Int){v:List Int}(hv:v.length=m)(S:RS):
  Mono S (zZb ev x c v S).2.2/\(zZb ev x c v S).2.1.length=m/\∀r,(zZb ev x c v S).1= .ok r->((r.kind=0/\zU x=false)\/(Ended p r/\(r.kind=12->x.kind=12)/\(r.kind=14->x.leaves=true))):=by
 rw[okN_eq]at ho;obtain⟨o1,o2⟩:=ho;have hkid:=kids_two (o1.k10 hk).2;have hp:plIn p x.kind x.outs x.params={p with y:=some x.outs.length}:=by rw[hk];rfl
 rw[hp]at o2;have hmem:(if c=0 then kid1 x else kid0 x)∈x.kids:=by rw[hkid];split<;>simp
 obtain⟨h1,h2⟩:=okK_mem o2 _ hmem;have h:=zvc H _ v S h1 h2 hv;unfold zZb;generalize(if c=0 then kid1 x else kid0 x)=l at*;generalize zkb ev l v S=q at*;obtain⟨a,v1,S1⟩:=q;obtain⟨h3,g2,h4⟩:=h;simp only at g2 h3;cases a with
 |stop k=>exact⟨h3,g2,fun r e=>by cases e⟩
 |ok w=>
  obtain⟨g1,g3,g4,g5⟩:=h4 w rfl;simp only;by_cases hw:w.kind=12
  ·rw[if_pos hw];refine⟨h3,by simp only[zMb];exact g2,fun r e=>?_⟩;cases e;refine .inl ⟨rfl,?_⟩;have hy:=g4 hw;unfold zU;rw[if_pos ⟨hk,(o1.k10 hk).2⟩];rw[<-Bool.not_eq_true,yn];intro hall;have:=hall l hmem;rw[hy]at this;cases this
  ·rw[if_neg hw];refine⟨h3,g2,fun r e=>?_⟩;cases e;refine .inr ⟨?_,fun e=>absurd e hw,fun e=>?_⟩
   ·rcases g3 with g3|g3
    ·exact absurd g3.1 hw
    ·exact .inr g3
   ·rw[leaves_eq,hk];simp only[decide_true,yxa];rw[yJ,List.any_eq_true];exact .inr ⟨l,hmem,g5 e⟩
theorem loopW_ok{m:Nat}{p:Pl}{x:Node}(ho:okN u m p x)(hk:x.kind=11):∀(k:Nat) {l v:List Int} (hl:l.length=x.params.length) (hv:v.length=m) (S:RS),
  Mono S (loopW ev x k l v S).2.2/\(loopW ev x k l v S).2.1.length=m/\∀r,(loopW ev x k l v S).1= .ok r->((r.kind=0/\zU x=false)\/(Ended p r/\(r.kind=12->x.kind=12)/\(r.kind=14->x.leaves=true)))
 |0,l,v,hl,hv,S=>⟨Mono.refl _,hv,fun r e=>by cases e⟩
 |k+1,l,v,hl,hv,S=>by
  have ho':=ho;rw[okN_eq]at ho';obtain⟨o1,o2⟩:=ho';have hkid:=kids_one (o1.k11 hk).2;have hp:plIn p x.kind x.outs x.params=⟨none,some x.params.length,some x.outs.length⟩:=by rw[hk];rfl
  rw[hp]at o2;have hmem:kid0 x∈x.kids:=by rw[hkid];simp
  obtain⟨h1,h2⟩:=okK_mem o2 _ hmem;have h:=zvc H _ (setW v x.params l) S h1 h2 (by rw[zMb];exact hv);have ih:=fun l v hl hv S=>loopW_ok ho hk k (l:=l) (v:=v) hl hv S
  unfold loopW;generalize zkb ev (kid0 x) (setW v x.params l) S=q at*;obtain⟨a,v1,S1⟩:=q;obtain⟨h3,g2,h4⟩:=h;simp only at g2 h3;cases a with
  |stop k=>exact⟨h3,g2,fun r e=>by cases e⟩
  |ok w=>
   obtain⟨g1,g3,g4,g5⟩:=h4 w rfl;simp only;by_cases hw:w.kind=15
   ·rw[if_pos hw];refine⟨h3,g2,fun r e=>?_⟩;cases e;refine .inr ⟨?_,fun e=>by omega,fun e=>by omega⟩;rcases g3 with g3|g3|g3|g3
    ·omega
    ·omega
    ·omega
    ·exact .inr (.inr (.inr g3))
   ·rw[if_neg hw];by_cases hw4:w.kind=14
    ·rw[if_pos hw4];refine⟨h3,by simp only[zMb];exact g2,fun r e=>?_⟩;cases e;refine .inl ⟨rfl,?_⟩;have hy:=g5 hw4;unfold zU;rw[if_neg (by omega),if_pos ⟨hk,(o1.k11 hk).2⟩,hkid];simp[hy]
    ·rw[if_neg hw4];have hlen:w.l.length=x.params.length:=by
      rcases g3 with g3|g3|g3|g3
      ·cases g3.2
      ·have:=g3.2;simp at this;omega
      ·omega
      ·omega
     obtain⟨i1,i0,i2⟩:=ih w.l v1 hlen g2 S1;exact⟨h3.trans i1,i0,i2⟩
theorem nodeW_ok(hU:OkU u){m:Nat}{p:Pl}{x:Node}(ho:okN u m p x){v:List Int}(hv:v.length=m)(w:Nat){k:Nat}{S:RS}(hf:S.fuel=k+1):
  NodeOk m p x S (nodeW u ev w x v {S with fuel:=k}):=by
 have ho':=ho;rw[okN_eq]at ho';obtain⟨o1,o2⟩:=ho';unfold nodeW;by_cases k1:x.kind=1\/x.kind=2
 ·rw[if_pos k1];obtain⟨q1,q2⟩:=Mono.less hf (Mono.refl _);refine⟨q1,by simp only[zMb];exact hv,fun r e=>?_⟩;cases e;refine⟨q2,.inl ⟨rfl,?_⟩⟩;unfold zU;rw[if_neg (by omega),if_neg (by omega)];simp only[Node.ends,Bool.and_eq_false_iff,decide_eq_false_iff_not];omega
 rw[if_neg k1];by_cases k2:12<=x.kind/\x.kind<=15
 ·rw[if_pos k2];obtain⟨q1,q2⟩:=Mono.less hf (Mono.refl _);refine⟨q1,hv,fun r e=>?_⟩;cases e;refine⟨q2,.inr ⟨?_,fun e=>e,fun e=>?_⟩⟩
  ·unfold Ended;simp only[zuc];have h12:=o1.k12';have h13:=o1.k13;have h14:=o1.k14;have h15:=o1.k15;rcases(show x.kind=12\/x.kind=13\/x.kind=14\/x.kind=15 from by omega)with e|e|e|e
   ·exact .inl ⟨e,h12 e⟩
   ·exact .inr (.inl ⟨e,h13 e⟩)
   ·exact .inr (.inr (.inl ⟨e,h14 e⟩))
   ·exact .inr (.inr (.inr ⟨e,h15 e⟩))
  ·simp only at e;rw[leaves_eq,e];rfl
 rw[if_neg k2];by_cases k10:x.kind=10
 ·rw[if_pos k10];obtain⟨h1,h0,h2⟩:=choiceW_ok H ho k10 (atA (ofW v x.args) 0) hv {S with fuel:=k};obtain⟨q1,q2⟩:=Mono.less hf h1;exact⟨q1,h0,fun r e=>⟨q2,h2 r e⟩⟩
 rw[if_neg k10];by_cases k11:x.kind=11
 ·rw[if_pos k11];obtain⟨h1,h0,h2⟩:=loopW_ok H ho k11 (w+1) (l:=ofW v x.args) (by rw[zuc];exact(o1.k11 k11).1) hv {S with fuel:=k};obtain⟨q1,q2⟩:=Mono.less hf h1;exact⟨q1,h0,fun r e=>⟨q2,h2 r e⟩⟩
 rw[if_neg k11];have hkk:3<=x.kind/\x.kind<=9:=by have:=o1.k;omega
 have h:=plainW_ok H hU o1 hkk (zuc v x.args) (zV {S with fuel:=k});have hc:zU x=false:=by
  unfold zU;rw[if_neg (by omega),if_neg (by omega)];simp only[Node.ends,Bool.and_eq_false_iff,decide_eq_false_iff_not];omega
 generalize plainW u ev x (ofW v x.args) (zV {S with fuel:=k})=q at*;obtain⟨a,S1⟩:=q;obtain⟨⟨h1,h2,h3⟩,h4⟩:=h;simp only[zV]at h1 h2 h3;have q1:Mono S S1:=⟨by omega,by omega,h3⟩
 cases a with
 |stop j=>exact⟨q1,hv,fun r e=>by cases e⟩
 |ok l=>
  refine⟨q1,by simp only[zMb];exact hv,fun r e=>?_⟩;cases e;exact⟨by simp only;omega,.inl ⟨rfl,hc⟩⟩
end
theorem evN_ok{u:Unt}(hU:OkU u):∀w,EvOk u (evN u w)
 |0=>fun m p x v S ho hv=>⟨Mono.refl _,hv,fun r e=>by cases e⟩
 |w+1=>fun m p x v S ho hv=>by
  have ih:=evN_ok hU w;simp only[evN];cases hf:S.fuel with
  |zero=>exact⟨Mono.refl _,hv,fun r e=>by cases e⟩
  |succ k=>exact nodeW_ok ih hU ho hv w hf
def zta(k:Nat):List Arr->List (PV×PV)
 | []=>[]
 |a::r=>(.str a.name,.mslice k 0 a.size.toNat 1)::zta (k+1) r
def intO(l:List Int):Obj:= .arr 1 (l.map (PV.int .i64))
def zsc(l:List (List Int)):zb:=l.map intO
def runCells(u:Unt)(S:RS):List PV:=[arrs u.arrays,flows u.flows,ints S.inp,.mp 0,.int .i64 0,.int .i64 0,acc 1 (S.out.map (PV.int .i64)),.int .i64 S.cost,.int .i64 S.fuel]
def runO(u:Unt)(S:RS):Obj:= .arr 9 [.agg (runCells u S)]
def sto(u:Unt)(S:RS)(T:List (List Int)):zb:= .mp (zta 2 u.arrays)::runO u S::(zsc S.arrs++zsc T)
def endV(k:Int):PV:= .iface 101 (.agg [.int .i64 k])
def nb(u:Unt):Nat:=u.arrays.length+2
def frV(u:Unt)(j n:Nat):PV:= .agg [.ptr 1 0 0,.mslice (nb u+j) 0 n 1]
section
variable (u:Unt) (S:RS) (T:List (List Int))
@[simp] theorem sto_0:(sto u S T)[0]? =some (.mp (zta 2 u.arrays)):=rfl
@[simp] theorem sto_1:(sto u S T)[1]? =some (.arr 9 [.agg [arrs u.arrays,flows u.flows,ints S.inp,.mp 0,.int .i64 0,.int .i64 0,acc 1 (S.out.map (PV.int .i64)),.int .i64 S.cost,.int .i64 S.fuel]]):=rfl
@[simp] theorem set_fuel(k:Nat):(sto u S T).set 1 (.arr 9 [.agg [arrs u.arrays,flows u.flows,ints S.inp,.mp 0,.int .i64 0,.int .i64 0,acc 1 (S.out.map (PV.int .i64)),.int .i64 S.cost,.int .i64 k]])=sto u {S with fuel:=k} T:=rfl
@[simp] theorem set_fuel'(k:Nat):(sto u S T).set 1 (.arr 9 [.agg [arrs u.arrays,flows u.flows,.slice .plain 1 (S.inp.map (PV.int .i64)),.mp 0,.int .i64 0,.int .i64 0,acc 1 (S.out.map (PV.int .i64)),.int .i64 S.cost,.int .i64 k]])=sto u {S with fuel:=k} T:=rfl
@[simp] theorem set_cost':(sto u S T).set 1 (.arr 9 [.agg [arrs u.arrays,flows u.flows,.slice .plain 1 (S.inp.map (PV.int .i64)),.mp 0,.int .i64 0,.int .i64 0,acc 1 (S.out.map (PV.int .i64)),.int .i64 (zW .i64 (S.cost+1)),.int .i64 S.fuel]])=sto u (zV S) T:=by
 rw[zF];rfl
@[simp] theorem set_inp(l:List Int):(sto u S T).set 1 (.arr 9 [.agg [arrs u.arrays,flows u.flows,.slice .plain 1 (l.map (PV.int .i64)),.mp 0,.int .i64 0,.int .i64 0,acc 1 (S.out.map (PV.int .i64)),.int .i64 S.cost,.int .i64 S.fuel]])=sto u {S with inp:=l} T:=rfl
theorem set_out(l:List Int):(sto u S T).set 1 (.arr 9 [.agg [arrs u.arrays,flows u.flows,ints S.inp,.mp 0,.int .i64 0,.int .i64 0,acc 1 (l.map (PV.int .i64)),.int .i64 S.cost,.int .i64 S.fuel]])=sto u {S with out:=l} T:=rfl
end
@[simp] theorem rebuild_agg(a l:List PV):zE (.agg a) l= .agg l:=yd rfl rfl
@[simp] theorem rebuild_int(k:IntKind)(n:Int)(cs:List PV):zE (.int k n) cs=cs.headD .undef:=yd rfl rfl
theorem stop_spec(k:Int)(σ:zb):zh E 104 [.ptr 1 0 0,.int .i64 k] σ=some (.pan (endV k),σ):=by
 refine ze rfl rfl rfl (by simp) ?_;simp[F104,endV]
def FitS(u:Unt)(S:RS):Prop:=S.arrs.map List.length=u.arrays.map (fun a=>a.size.toNat)/\S.out.length+S.fuel<=1000000000000
theorem FitS.mono{u:Unt}{S S1:RS}(h:FitS u S)(m:Mono S S1):FitS u S1:=⟨m.arrs.trans h.1,yfa m.out h.2⟩
theorem FitS.len{u:Unt}{S:RS}(h:FitS u S):S.arrs.length=u.arrays.length:=by
 have:=congrArg List.length h.1;simpa using this
theorem FitS.cost{u:Unt}{S:RS}(h:FitS u S):FitS u (zV S):=h
theorem arrFrom_find(nm:List UInt8):∀(l:List Arr) (k:Nat),zR true (.str nm) (zta k l)=some (match l.findIdx? (fun a=>decide (a.name=nm))with
  |some i=>match l[i]? with
   |some a=>some (.mslice (k+i) 0 a.size.toNat 1)
   |none=>none
  |none=>none)
 | [],k=>rfl
 |a::r,k=>by
  have ih:=arrFrom_find nm r (k+1);rw[zta,yDa];by_cases h:a.name=nm
  ·simp[h]
  ·have h':¬nm=a.name:=fun e=>h e.symm
   simp only[zR,keyEq,if_true,h',decide_false,h];rw[ih];cases r.findIdx? (fun a=>decide (a.name=nm))with
   |none=>simp
   |some i=>
    simp only[yF,yM,yI,if_false];cases r[i]? with
    |none=>rfl
    |some b=>simp only;congr 3;omega
theorem arr_at{u:Unt}{S:RS}{nm:List UInt8}(hS:FitS u S)(h:zqb u.arrays nm=true):∃(i:Nat) (l:List Int),arrAt u.arrays nm=i/\i<S.arrs.length/\S.arrs[i]? =some l/\zR true (.str nm) (zta 2 u.arrays)=some (some (.mslice (i+2) 0 l.length 1)):=by
 rw[<-arrAt_has,decide_eq_true_eq]at h;unfold arrAt idx at h;cases hq:u.arrays.findIdx? (fun a=>decide (a.name=nm))with
 |none=>rw[hq]at h;simp at h
 |some i=>
  have hlt0:i<u.arrays.length:=by
   rw[ysa]at hq;exact hq.1
  have hlt:i<S.arrs.length:=by rw[hS.len];exact hlt0
  refine⟨i,S.arrs[i],by unfold arrAt idx;rw[hq],hlt,ye hlt,?_⟩;have a2:u.arrays[i]? =some u.arrays[i]:=ye hlt0;rw[arrFrom_find,hq];simp only[a2];have hl:(S.arrs[i]).length=(u.arrays[i]).size.toNat:=by
   have e:=congrArg (fun l:List Nat=>l[i]?) hS.1;simp only[yk,a2,ye hlt,yF,Option.some.injEq]at e;exact e
  rw[hl,Nat.add_comm 2 i]
section
variable {u:Unt} {S:RS} {T:List (List Int)}
theorem sto_row{i:Nat}{l:List Int}(h:S.arrs[i]? =some l):(sto u S T)[i+2]? =some (.arr 1 (l.map (PV.int .i64))):=by
 have hlt:=(yb.1 h).1;simp only[sto,yM];rw[yj (by simpa[zsc]using hlt)];simp[zsc,h,intO]
theorem sto_setrow{i:Nat}{l:List Int}(h:S.arrs[i]? =some l)(l':List Int):(sto u S T).set (i+2) (.arr 1 (l'.map (PV.int .i64)))=sto u {S with arrs:=S.arrs.set i l'} T:=by
 have hlt:=(yb.1 h).1;simp only[sto,List.set_cons_succ];rw[List.set_append_left _ _ (by simpa[zsc]using hlt)];have:(zsc S.arrs).set i (.arr 1 (l'.map (PV.int .i64)))=zsc (S.arrs.set i l'):=by simp[zsc,yma,intO]
 rw[this];rfl
theorem sto_len(hS:FitS u S):(sto u S T).length=nb u+T.length:=by
 simp[sto,zsc,hS.len,nb];omega
theorem sto_get(hS:FitS u S){j:Nat}{v:List Int}(h:T[j]? =some v):(sto u S T)[nb u+j]? =some (.arr 1 (v.map (PV.int .i64))):=by
 have:nb u+j=u.arrays.length+j+2:=by unfold nb;omega
 rw[this];simp only[sto,yM];rw[yo (by simp[zsc,hS.len])];simp[zsc,hS.len,h,intO]
theorem sto_set(hS:FitS u S)(j:Nat)(v:List Int):(sto u S T).set (nb u+j) (.arr 1 (v.map (PV.int .i64)))=sto u S (T.set j v):=by
 have:nb u+j=u.arrays.length+j+2:=by unfold nb;omega
 rw[this];simp only[sto,List.set_cons_succ];rw[yia _ _ (by simp[zsc,hS.len])];simp[zsc,hS.len,yma,intO]
theorem sto_app{v:List Int}:sto u S T++[.arr 1 (v.map (PV.int .i64))]=sto u S (T++[v]):=by simp[sto,zsc,intO]
theorem sto_take(hS:FitS u S)(j:Nat):(sto u S T).take (nb u+j)=sto u S (T.take j):=by
 have:nb u+j=u.arrays.length+j+2:=by unfold nb;omega
 rw[this];simp only[sto,List.take_succ_cons];rw[List.take_append,List.take_of_length_le (by simp[zsc,hS.len])];simp[zsc,hS.len,List.map_take]
theorem arrFrom_below(n:Nat):∀(l:List Arr) (k:Nat),k+l.length<=n->belowP n (zta k l)=true
 | [],_,_=>rfl
 |a::r,k,h=>by
  simp only[yaa]at h;simp only[zta,belowP,below_str,below_mslice,yxa,ya,decide_eq_true_eq];exact⟨by omega,arrFrom_below n r (k+1) (by omega)⟩
theorem belowL_acc(n:Nat)(l:List Int):zm n (acc 1 (l.map (PV.int .i64)))=true:=by
 cases l with
 |nil=>rfl
 |cons x r=>simp
theorem rowsO_wf(n:Nat)(l:List (List Int)):(zsc l).all (fun o=>o.below n)=true:=by
 rw[yn];intro o ho;simp only[zsc,yua]at ho;obtain⟨l,_,rfl⟩:=ho;simp[intO,Obj.below]
theorem sto_wf{n:Nat}(hn:nb u<=n):zb.wf n (sto u S T)=true:=by
 unfold zb.wf;simp only[sto,List.all_cons,List.all_append,ya];refine⟨?_,?_,rowsO_wf n _,rowsO_wf n _⟩
 ·exact arrFrom_below n u.arrays 2 (by unfold nb at hn;omega)
 ·have h0:0<n:=by unfold nb at hn;omega
  simp[runO,runCells,Obj.below,belowL_acc,ints,h0]
theorem endV_below(n:Nat)(k:Int):zm n (endV k)=true:=by simp[endV]
end
theorem cell_spec{u:Unt}{S:RS}{T:List (List Int)}{nm:List UInt8}{i:Nat}{l:List Int}(n:Int)(hl:S.arrs[i]? =some l)(hm:zR true (.str nm) (zta 2 u.arrays)=some (some (.mslice (i+2) 0 l.length 1))):
  zh E 120 [.ptr 1 0 0,.str nm,.int .i64 n] (sto u S T)=some (if 0<=n/\n<l.length then(.ret (.ptr (i+2) n.toNat 0),sto u S T)else(.pan (endV 3),sto u S T)):=by
 refine ze rfl rfl rfl (by simp) ?_;have h3:=stop_spec 3 (sto u S T);by_cases h0:n<0
 ·have hn:¬(0<=n/\n<l.length):=by omega
  rw[if_neg hn];replace h0:=eqp h0;simp[*,F120]
 ·by_cases h1:(l.length:Int)<=n
  ·have hn:¬(0<=n/\n<l.length):=by omega
   rw[if_neg hn];replace h0:=eqn h0;replace h1:=eqp h1;simp[*,F120]
  ·rw[if_pos (by omega)];have h4:0<=n:=by omega
   have h5:n.toNat<l.length:=by omega
   replace h0:=eqn h0;replace h1:=eqn h1;clear h3;simp[*,F120]
theorem read_spec(u:Unt)(S:RS)(T:List (List Int)):zh E 121 [.ptr 1 0 0] (sto u S T)=some (match S.inp with
  | []=>(.pan (endV 4),sto u S T)
  |n::r=>(.ret (.int .i64 n),sto u {S with inp:=r} T)):=by
 refine ze rfl rfl rfl (by simp) ?_;have h4:=stop_spec 4 (sto u S T);cases h:S.inp with
 |nil=>simp[*,F121,ints]
 |cons n r=>
  have hne:¬((r.length:Int)+1=0):=by omega
  have hs:(sto u S T).set 1 (.arr 9 [.agg [arrs u.arrays,flows u.flows,.slice .plain 1 (r.map (PV.int .i64)),.mp 0,.int .i64 0,.int .i64 0,acc 1 (S.out.map (PV.int .i64)),.int .i64 S.cost,.int .i64 S.fuel]])=sto u {S with inp:=r} T:=rfl;have ht:List.take r.length (r.map (PV.int .i64))=r.map (PV.int .i64):=by rw[List.take_of_length_le];simp
  clear h4;simp[*,F121,ints]
theorem ptwo_spec(op a b:Int)(σ:zb):zh E 119 [.ptr 1 0 0,.int .i64 op,.int .i64 a,.int .i64 b] σ=some (if(twoC op a b).2=true then(.ret (.int .i64 (twoC op a b).1),σ)else(.pan (endV 2),σ)):=by
 refine ze rfl rfl rfl (by simp) ?_;have htwo:=two_spec op a b [];rw[two_eqC]at htwo;have hst:=stop_spec 2 σ;generalize twoC op a b=q at*;obtain⟨n,ok⟩:=q;simp only at htwo ⊢;cases ok<;>simp[*,F119]
theorem setW_snoc:∀(v d:List Int) (x:Int) (ns:List Int) (n:Int),ns.length=d.length->setW v (d++[x]) (ns++[n])=(setW v d ns).set x.toNat n
 |v,[],x,[],n,_=>by simp[setW]
 |v,o::d,x,m::ns,n,h=>by
  simp only[List.cons_append,setW];exact setW_snoc _ d x ns n (by simpa using h)
 |v,[],x,_::_,n,h=>by simp at h
 |v,_::_,x,[],n,h=>by simp at h
theorem set_self{α:Type}{l:List α}{k:Nat}{x:α}(h:l[k]? =some x):l.set k x=l:=by
 have:=yb.1 h;rw[<-this.2];exact List.set_getElem_self this.1
theorem take_snoc{α:Type}{l:List α}{k:Nat}{x:α}(h:l[k]? =some x):l.take (k+1)=l.take k++[x]:=by
 rw[List.take_add_one,h];rfl
theorem set_spec1{u:Unt}{S:RS}{T:List (List Int)}{j n:Nat}{v:List Int}(hS:FitS u S)(hj:T[j]? =some v)(hv:v.length=n){o ns:List Int}(ho:inR n o)(hl:o.length=ns.length)(hz:o.length<1099511627776):
  zh E 106 [frV u j n,ints o,ints ns] (sto u S T)=some (.ret (.tup []),sto u S (T.set j (setW v o ns))):=by
 refine ze rfl rfl rfl (by simp[frV,ints]) ?_;have hjl:=(yb.1 hj).1;simp[F106,frV,ints];refine zwa o K106_0 B106_0 (fun d=>[(10,.int .i64 d.length)]) (fun d=>sto u S (T.set j (setW v d (ns.take d.length)))) (fun _=>True) (by omega) (by simp[setW,set_self hj]) ?_ ?_
 ·intros d x r s1 hl' hlt hget hget' hwr hp g1 g2 g3 g4;simp at g1 g3;obtain⟨x0,x1⟩:=ho x hl'.mem;have hn:ns[d.length]? =some ns[d.length]:=ye (by omega);generalize ns[d.length]=m at hn;have hcur:(T.set j (setW v d (ns.take d.length)))[j]? =some (setW v d (ns.take d.length)):=yh hjl;have hgt:=sto_get (u:=u) hS hcur;have hsn:setW v (d++[x]) (ns.take (d.length+1))=(setW v d (ns.take d.length)).set x.toNat m:=by
   rw[take_snoc hn,setW_snoc _ _ _ _ _ (by simp;omega)]
  have hst:=sto_set (u:=u) (S:=S) (T:=T.set j (setW v d (ns.take d.length))) hS j (setW v (d++[x]) (ns.take (d.length+1)));have hlen:=zMb v d (ns.take d.length);have hx:x.toNat<n:=by omega
  have hsl:(setW v d (ns.take d.length)).length=n:=by rw[hlen,hv]
  rw[List.set_set]at hst;rw[hsn,yma,<-hsn]at hst;have hgo:(sto u S (T.set j (setW v d (ns.take d.length)))).set (nb u+j) (.arr 1 (((setW v d (ns.take d.length)).map (PV.int .i64)).set x.toNat (.int .i64 m)))=sto u S (T.set j (setW v (d++[x]) (ns.take (d.length+1)))):=hst;clear hst;generalize setW v d (ns.take d.length)=c at*;have hdec:decide (d.length<o.length)=true:=decide_eq_true hlt;clear hl' hget' hp hj ho hlen hsn hcur hl hlt;simp[*]
 ·intros s1 hp g1 g2 g3 g4;simp at g1 g3;have:ns.take o.length=ns:=by rw[hl];exact List.take_length
  rw[this]at g4;simp[*]
set_option maxHeartbeats 1000000 in
theorem numbers_spec{u:Unt}{S:RS}{T:List (List Int)}{j n:Nat}{v:List Int}(hS:FitS u S)(hj:T[j]? =some v)(hv:v.length=n){l:List Int}(ho:inR n l)(hz:l.length<1099511627776):
  zh E 105 [frV u j n,ints l] (sto u S T)=some (.ret (ints (ofW v l)),sto u S T):=by
 refine ze rfl rfl rfl (by simp[frV,ints]) ?_;have hjl:=(yb.1 hj).1;have hlen:=sto_len (T:=T) hS;have hap:=sto_app (u:=u) (S:=S) (T:=T) (v:=yg l.length 0);simp only[List.map_replicate]at hap;have l1:(0:Int)<=(l.length:Int):=by omega
 have l2:(l.length:Int)<=9223372036854775807:=by omega
 have l3:8*(l.length:Int)<=281474976710656:=by omega
 have htk:∀r,(sto u S (T++[r])).take (nb u+T.length)=sto u S T:=by
  intro r;rw[sto_take hS];simp
 have hwf:zb.wf (nb u+T.length) (sto u S T)=true:=sto_wf (by omega);have hln:∀r,(sto u S (T++[r])).length=nb u+(T.length+1):=by
  intro r;rw[sto_len hS];simp
 simp[F105,frV,ints,hlen,hap,l1,l2,l3];refine zwa l K105_0 B105_0 (fun d=>[(13,.int .i64 d.length)]) (fun d=>sto u S (T++[ofW v d++yg (l.length-d.length) 0])) (fun _=>True) (by omega) (by simp[ofW]) ?_ ?_
 ·intros d x r s1 hl' hlt hget hget' hwr hp g1 g2 g3 g4;simp at g1 g3;obtain⟨x0,x1⟩:=ho x hl'.mem;have hx:=at0_get (l:=v) x0 (by omega);have hxn:x.toNat<n:=by omega
  have hcur:(T++[ofW v d++yg (l.length-d.length) 0])[j]? =some v:=by rw[yj hjl];exact hj
  have hgt:=sto_get (u:=u) hS hcur;have hcur2:(T++[ofW v d++yg (l.length-d.length) 0])[T.length]? =some (ofW v d++yg (l.length-d.length) 0):=by simp
  have hgt2:=sto_get (u:=u) hS hcur2;have hrep:l.length-d.length=(l.length-(d.length+1))+1:=by omega
  have hsn:(ofW v d++yg (l.length-d.length) 0).set d.length (at0 v x)=ofW v (d++[x])++yg (l.length-(d.length+1)) 0:=by
   have e:d.length=(ofW v d).length:=by rw[zuc]
   rw[hrep,List.replicate_succ,yia _ _ (by rw[zuc];exact yl _),zuc,Nat.sub_self,yEa];simp[ofW]
  have hst:=sto_set (u:=u) (S:=S) (T:=T++[ofW v d++yg (l.length-d.length) 0]) hS T.length ((ofW v d++yg (l.length-d.length) 0).set d.length (at0 v x));rw[hsn,<-hsn,yma,hsn,yia _ _ (yl _),Nat.sub_self,yEa]at hst;have hsl:(ofW v d++yg (l.length-d.length) 0).length=l.length:=by rw[yP,zuc,List.length_replicate];omega
  have hdl:d.length<l.length:=hlt;obtain⟨y,hy⟩:∃y,(ofW v d++yg (l.length-d.length) 0)[d.length]? =some y:=⟨_,ye (by omega)⟩
  have hdec:decide (d.length<l.length)=true:=decide_eq_true hlt;generalize(ofW v d++yg (l.length-d.length) 0)=c at*;clear hl' hget' hp hj ho hcur hcur2 hrep hsn hlt htk hwf hln hap l1 l2 l3;simp[*,-getElem?_pos,yH]
 ·intros s1 hp g1 g2 g3 g4;simp at g1 g3;have e:ofW v l++yg (l.length-l.length) 0=ofW v l:=by simp
  rw[e]at g4;have hcur2:(T++[ofW v l])[T.length]? =some (ofW v l):=by simp
  have hgt2:=sto_get (u:=u) hS hcur2;have hol:=zuc v l;have h1:=htk (ofW v l);have h2:=hln (ofW v l);clear htk hln hcur2 hap hj ho;simp[*,fin,frA_mslice,fr1_mslice,-getElem?_pos,List.take_of_length_le,yx]
def encW(w:Wy):PV:= .agg [.int .i64 w.kind,ints w.l]
def outX(q:Rt Wy):CRes:=match q with
 | .ok w=> .ret (encW w)
 | .stop k=> .pan (endV k)
@[simp] theorem outX_ok(w:Wy):outX (.ok w)= .ret (.agg [.int .i64 w.kind,ints w.l]):=rfl
@[simp] theorem outX_stop(n:Int):outX (.stop n)= .pan (endV n):=rfl
def capE:Nat:=1099511627776
def SpecN(u:Unt)(w:Nat):Prop:=∀m p x v S T j,FitS u S->S.fuel<=w->okN u m p x->wtN x<capE->T[j]? =some v->v.length=m→
 zh E 93 [frV u j m,zP x] (sto u S T)=some (outX (evN u w x v S).1,sto u (evN u w x v S).2.2 (T.set j (evN u w x v S).2.1))
def SpecL(u:Unt)(w:Nat):Prop:=∀m p l v S T j,FitS u S->S.fuel<=w->okL u m p l->wtL l<capE->T[j]? =some v->v.length=m→
 zh E 75 [frV u j m,zy l] (sto u S T)=some (outX (zkb (evN u w) l v S).1,sto u (zkb (evN u w) l v S).2.2 (T.set j (zkb (evN u w) l v S).2.1))
structure LSt where
 rest:List Node
 v:List Int
 S:RS
set_option maxHeartbeats 2000000 in
theorem list_of{u:Unt}(hU:OkU u){w:Nat}(hN:SpecN u w):SpecL u w:=by
 intro m p l v S T j hS hf ho hw hj hv;have hlen:=len_wtL l;have hjl:=(yb.1 hj).1;have hE:=evN_ok hU w;have hin:∀x∈l,∀v1 S1,FitS u S1->S1.fuel<=w->okN u m p x->v1.length=m->zh E 93 [frV u j m,zP x] (sto u S1 (T.set j v1))=some (outX (evN u w x v1 S1).1,sto u (evN u w x v1 S1).2.2 (T.set j (evN u w x v1 S1).2.1)):=by
  intro x hx v1 S1 h1 h2 h3 h4;have:=hN m p x v1 S1 (T.set j v1) j h1 h2 h3 (by have:=wt_mem hx;omega) (yh hjl) h4;rw[List.set_set]at this;exact this
 clear hN;unfold capE at hw;have hset:=set_self hj;refine ze rfl rfl rfl (by simp[frV,zy]) ?_;simp[F75,frV,zy];refine wp_while K75_0 B75_0 (fun c:LSt=>c.rest.length) (fun c=>[(10,.int .i64 ((l.length-c.rest.length:Nat):Int))]) (fun c=>[(4,.cells [.int .i64 0,.slice .fit 1 []])]) (fun c=>sto u c.S (T.set j c.v))
  (fun c=>(∃d,l=d++c.rest)/\zkb (evN u w) l v S=zkb (evN u w) c.rest c.v c.S/\FitS u c.S/\c.S.fuel<=w/\c.v.length=m/\okL u m p c.rest) ⟨l,v,S⟩ ?_ ?_
 ·simp[*]
 ·rintro⟨rest,v1,S1⟩ s1 ⟨⟨d,d1⟩,d2,d3,d4,d5,d6⟩ g1 g2 g3 g4 g5
  simp at d1 d2 d3 d4 d5 d6 g1 g2 g3 g4 g5;rw[d2];cases rest with
  |nil=>
   have hi:((l.length-0:Nat):Int)=l.length:=by simp
   simp only[zkb];clear hin hE d1 d2 d3 d4 d5 d6 hS hf ho hw hj hv hset;simp[*,ints]
  |cons x rest=>
   have hdl:l.length-(rest.length+1)=d.length:=by rw[d1];simp
   have hdl2:l.length-rest.length=d.length+1:=by rw[d1];simp;omega
   have hx:l[d.length]? =some x:=by rw[d1];simp
   have hlt:(d.length:Int)<l.length:=by rw[d1];simp;omega
   rw[okL]at d6;have hc:=hin x (by rw[d1];simp) v1 S1 d3 d4 d6.1 d5;obtain⟨m1,m2,m3⟩:=hE m p x v1 S1 d6.1 d5;have hwr:zW .i64 ((d.length:Int)+1)=(d.length:Int)+1:=zna (by omega) (by omega);have hdd:∃d',l=d'++rest:=⟨d++[x],by rw[d1];simp⟩
   have d62:=d6.2.2;simp only[zkb];simp only[zkb]at d2;generalize evN u w x v1 S1=q at*;obtain⟨y,v2,S2⟩:=q;simp only at m1 m2 m3 d2;have f1:=d3.mono m1;have f2:S2.fuel<=w:=yfa m1.fuel d4;simp[frV,za]at hc;clear hin hE d1 d3 d4 d5 d6 hS hf ho hw hj hv hset m1 m3;cases y with
   |stop k=>
    simp at hc;clear d2;simp[*,za]
   |ok y=>
    simp at hc;by_cases hk:y.kind=0
    ·simp only[hk,if_true]at d2 ⊢;rw[hk]at hc;simp[*,za];refine⟨⟨rest,v2,S2⟩,?_⟩;simp[*]
    ·simp only[hk,if_false]at d2 ⊢;replace hk:=eqn hk;clear d2;simp[*,za]
def outE(q:Rt Int):CRes:=match q with
 | .ok n=> .ret (.int .i64 n)
 | .stop k=> .pan (endV k)
@[simp] theorem outE_ok(n:Int):outE (.ok n)= .ret (.int .i64 n):=rfl
@[simp] theorem outE_stop(n:Int):outE (.stop n)= .pan (endV n):=rfl
set_option maxHeartbeats 2000000 in
theorem call_of{u:Unt}(hU:OkU u){w:Nat}(hL:SpecL u w){f:Flow}{nm:List UInt8}(hf:flowAt u nm=some f)(hp:0<=zaa u.flows nm){l:List Int}{S:RS}{T:List (List Int)}(hS:FitS u S)(hw:S.fuel<=w)(hl:l.length<=f.types.length):
  zh E 53 [.ptr 1 0 0,.str nm,ints l] (sto u S T)=some (outE (callW (evN u w) f l S).1,sto u (callW (evN u w) f l S).2 T):=by
 have hfm:f∈u.flows:=yK hf;have hpl:=place_spec u nm [] hU.sz.flows;have hty:=hU.sz.types f hfm;have hb:=hU.body f hfm;have hlen:=sto_len (T:=T) hS;have hap:=sto_app (u:=u) (S:=S) (T:=T) (v:=yg f.types.length 0);simp only[List.map_replicate]at hap;have l1:(0:Int)<=(f.types.length:Int):=by omega
 have l2:(f.types.length:Int)<=9223372036854775807:=by omega
 have l3:8*(f.types.length:Int)<=281474976710656:=by omega
 have hcur:(T++[yg f.types.length 0])[T.length]? =some (yg f.types.length 0):=by simp
 have hgt:=sto_get (u:=u) hS hcur;have hgl:(l++yg (f.types.length-l.length) 0).length=f.types.length:=by simp;omega
 have hst:=sto_set (u:=u) (S:=S) (T:=T++[yg f.types.length 0]) hS T.length (l++yg (f.types.length-l.length) 0);rw[yia _ _ (yl _),Nat.sub_self,yEa]at hst;have hc:=hL f.types.length ⟨none,none,none⟩ f.body (l++yg (f.types.length-l.length) 0) S (T++[l++yg (f.types.length-l.length) 0]) T.length hS hw hb.2 (hU.sz.body f hfm) (by simp) hgl;rw[yia _ _ (yl _),Nat.sub_self,yEa]at hc;obtain⟨m1,m2,m3⟩:=zvc (evN_ok hU w) f.body (l++yg (f.types.length-l.length) 0) S hb.1 hb.2 hgl;unfold callW;generalize zkb (evN u w) f.body (l++yg (f.types.length-l.length) 0) S=q at*;obtain⟨y,v1,S1⟩:=q;simp only at m1 m2 m3 hc ⊢;have hS1:=hS.mono m1;have htk:(sto u S1 (T++[v1])).take (nb u+T.length)=sto u S1 T:=by
  rw[sto_take hS1];simp
 have hwf:zb.wf (nb u+T.length) (sto u S1 T)=true:=sto_wf (by omega);have hln:(sto u S1 (T++[v1])).length=nb u+(T.length+1):=by
  rw[sto_len hS1];simp
 have hfl:u.flows[(zaa u.flows nm).toNat]? =some f:=hf;refine ze rfl rfl rfl (by simp[ints]) ?_;simp[zC,arrs,flows]at hpl;simp[frV,zy]at hc;rw[List.map_append,List.map_replicate]at hst;clear hU hL hb hty hS hw m1 hcur hgl hf hfm hS1;cases y with
 |stop k=>
  simp at hc;clear m3;simp[*,F53,zC,zj,arrs,flows,ints,zy,-getElem?_pos,yH,finPan,endV_below]
 |ok y=>
  obtain⟨_,m4,_⟩:=m3 y rfl;have hy:∃x,y.l=[x]:=by
   rcases m4 with m4|m4|m4|m4
   ·cases m4.2
   ·cases m4.2
   ·cases m4.2
   ·exact List.length_eq_one_iff.1 m4.2
  obtain⟨x,hy⟩:=hy;clear m3 m4;simp at hc;rw[hy]at hc;simp[*,F53,zC,zj,arrs,flows,ints,zy,-getElem?_pos,yH,fin,atA]
theorem len1{l:List Int}(h:l.length=1):∃a,l=[a]:=List.length_eq_one_iff.1 h
theorem len2{l:List Int}(h:l.length=2):∃a b,l=[a,b]:=by
 match l,h with
 | [a,b],_=>exact⟨a,b,rfl⟩
def outP(u:Unt)(T:List (List Int))(j:Nat)(v outs:List Int):Rt (List Int)×RS->CRes×zb
 |(.ok n,S)=>(.ret (.tup []),sto u S (T.set j (setW v outs n)))
 |(.stop k,S)=>(.pan (endV k),sto u S T)
set_option maxHeartbeats 4000000 in
theorem plain_of{u:Unt}(hU:OkU u){w:Nat}(hL:SpecL u w){m:Nat}{p:Pl}{x:Node}(ho:okH u m p x)(hk:3<=x.kind/\x.kind<=9){v:List Int}{S:RS}{T:List (List Int)}{j:Nat}(hS:FitS u S)(hwt:wtN x<capE)
  (hj:T[j]? =some v) (hv:v.length=m) (hw:S.fuel<=w) (hfu:S.out.length+S.fuel<1000000000000) {l:List Int} (hl:l.length=x.args.length):
  zh E 109 [frV u j m,zP x,ints l] (sto u S T)=some (outP u T j v x.outs (plainW u (evN u w) x l (zV S))):=by
 have hws:=zKb x;have hjl:=(yb.1 hj).1;have hself:=set_self hj;unfold capE at hwt;have hset:∀S1,FitS u S1->∀n,x.outs=[n]->inR m [n]->∀z,zh E 106 [frV u j m,ints [n],ints [z]] (sto u S1 T)=some (.ret (.tup []),sto u S1 (T.set j (setW v [n] [z]))):=by
  intro S1 h1 n hn hr z;exact set_spec1 h1 hj hv hr rfl (by simp)
 obtain⟨args,outs,prs,k12,k3,k4,k5,k6,k7,k8,k9,-,-,-,-,-,-,-⟩:=ho;refine ze rfl rfl rfl (by simp[frV,za,ints]) ?_;unfold plainW;by_cases e3:x.kind=3
 ·rw[if_pos e3];obtain⟨a1,a2⟩:=k3 e3;obtain⟨o,hou⟩:=len1 a2;obtain⟨a,ha⟩:=len1 (hl.trans a1);have h1:=hset (zV S) hS.cost o hou (by rw[<-hou];exact outs) (oneC x.op a);have hone:=one_spec x.op a [];rw[one_eqC]at hone;subst ha;simp[frV,ints]at h1;replace e3:=eqp e3;clear hset args outs prs k12 k3 k4 k5 k6 k7 k8 k9 hk hl hL hU;simp[*,F109,frV,za,ints,outP,atA]
 rw[if_neg e3];by_cases e4:x.kind=4
 ·rw[if_pos e4];obtain⟨a1,a2⟩:=k4 e4;obtain⟨o,hou⟩:=len1 a2;obtain⟨a,b,ha⟩:=len2 (hl.trans a1);subst ha;have htwo:=ptwo_spec x.op a b (sto u (zV S) T);have e0:atA [a,b] 0=a:=rfl;have e1:atA [a,b] 1=b:=rfl;rw[e0,e1];by_cases hz:(twoC x.op a b).2=true
  ·rw[if_pos hz]at htwo ⊢;have h1:=hset (zV S) hS.cost o hou (by rw[<-hou];exact outs) (twoC x.op a b).1;simp[frV,ints]at h1;replace e3:=eqn e3;replace e4:=eqp e4;clear hset args outs prs k12 k3 k4 k5 k6 k7 k8 k9 hk hl hL hU hz;simp[*,F109,frV,za,ints,outP]
  ·rw[if_neg hz]at htwo ⊢;replace e3:=eqn e3;replace e4:=eqp e4;clear hset args outs prs k12 k3 k4 k5 k6 k7 k8 k9 hk hl hL hU hz;simp[*,F109,frV,za,ints,outP]
 rw[if_neg e4];by_cases e5:x.kind=5
 ·rw[if_pos e5];obtain⟨a0,a1,a2⟩:=k5 e5;obtain⟨o,hou⟩:=len1 a2;obtain⟨a,ha⟩:=len1 (hl.trans a1);subst ha;have e0:atA [a] 0=a:=rfl;rw[e0];obtain⟨i,row,b1,b2,b3,b4⟩:=arr_at hS.cost a0;have hc:=cell_spec (T:=T) a b3 b4;have hr:=sto_row (T:=T) (u:=u) b3;unfold cellAt;rw[b1];simp only[Int.toNat_natCast,b3,Option.bind_some];replace e3:=eqn e3;replace e4:=eqn e4;by_cases hx:0<=a/\a<row.length
  ·rw[if_pos hx]at hc;have hn:¬a<0:=by omega
   have hlt:a.toNat<row.length:=by omega
   rw[if_neg hn];obtain⟨y,hy⟩:∃y,row[a.toNat]? =some y:=⟨_,ye hlt⟩
   rw[hy];have h1:=hset (zV S) hS.cost o hou (by rw[<-hou];exact outs) y;simp[frV,ints]at h1;replace e5:=eqp e5;clear hset args outs prs k12 k3 k4 k5 k6 k7 k8 k9 hk hl hL hU hx hn hlt b1 b2 b3 b4 a0 a1 a2;simp[*,F109,frV,za,ints,outP]
  ·rw[if_neg hx]at hc;have hnone:(if a<0 then none else row[a.toNat]?)=none:=by
    split
    ·rfl
    ·rw[yT];omega
   rw[hnone];replace e5:=eqp e5;clear hset args outs prs k12 k3 k4 k5 k6 k7 k8 k9 hk hl hL hU hx hnone b1 b2 b3 b4 a0 a1 a2;simp[*,F109,frV,za,ints,outP]
 rw[if_neg e5];by_cases e6:x.kind=6
 ·rw[if_pos e6];obtain⟨a0,a1,a2⟩:=k6 e6;have hou:x.outs=[]:=yD a2;obtain⟨a,b,ha⟩:=len2 (hl.trans a1);subst ha;have e0:atA [a,b] 0=a:=rfl;have e1:atA [a,b] 1=b:=rfl;rw[e0,e1];obtain⟨i,row,b1,b2,b3,b4⟩:=arr_at hS.cost a0;have hc:=cell_spec (T:=T) a b3 b4;have hr:=sto_row (T:=T) (u:=u) b3;unfold putAt;rw[b1];simp only[Int.toNat_natCast,b3,Option.bind_some];replace e3:=eqn e3;replace e4:=eqn e4;replace e5:=eqn e5;by_cases hx:0<=a/\a<row.length
  ·rw[if_pos hx]at hc;have hn:¬a<0:=by omega
   have hlt:a.toNat<row.length:=by omega
   rw[if_neg hn,if_pos hlt];obtain⟨y,hy⟩:∃y,row[a.toNat]? =some y:=⟨_,ye hlt⟩
   have hput:=sto_setrow (T:=T) (u:=u) b3 (row.set a.toNat b);rw[yma]at hput;replace e6:=eqp e6;clear hset args outs prs k12 k3 k4 k5 k6 k7 k8 k9 hk hl hL hU hx hn hlt b1 b2 b3 b4 a0 a1 a2;simp[*,F109,frV,za,ints,outP,setW]
  ·rw[if_neg hx]at hc;have hnone:(if a<0 then none else if a.toNat<row.length then some {zV S with arrs:=(zV S).arrs.set i (row.set a.toNat b)}else none:Option RS)=none:=by
    split
    ·rfl
    ·rw[if_neg (by omega)]
   rw[hnone];replace e6:=eqp e6;clear hset args outs prs k12 k3 k4 k5 k6 k7 k8 k9 hk hl hL hU hx hnone b1 b2 b3 b4 a0 a1 a2;simp[*,F109,frV,za,ints,outP]
 rw[if_neg e6];by_cases e7:x.kind=7
 ·rw[if_pos e7];obtain⟨g,a0,a1,a2,a3⟩:=k7 e7;obtain⟨o,hou⟩:=len1 a3;rw[a0];simp only;have hgm:g∈u.flows:=yK a0;have hlg:l.length<=g.types.length:=by rw[hl,a2];simp[pars];omega
  have hcall:=call_of hU hL a0 a1 (l:=l) (T:=T) hS.cost hw hlg;have hcm:=(callW_ok (evN_ok hU w) (hU.body g hgm) hlg (zV S)).1;generalize callW (evN u w) g l (zV S)=q at*;obtain⟨y,S1⟩:=q;simp only at hcall hcm;have hS1:=hS.cost.mono hcm;replace e3:=eqn e3;replace e4:=eqn e4;replace e5:=eqn e5;replace e6:=eqn e6;replace e7:=eqp e7;cases y with
  |stop k=>
   simp[ints]at hcall;clear hset args outs prs k12 k3 k4 k5 k6 k7 k8 k9 hk hl hL hU a0 a1 a2 a3;simp[*,F109,frV,za,ints,outP]
  |ok y=>
   have h1:=hset S1 hS1 o hou (by rw[<-hou];exact outs) y;simp[frV,ints]at h1;simp[ints]at hcall;clear hset args outs prs k12 k3 k4 k5 k6 k7 k8 k9 hk hl hL hU a0 a1 a2 a3;simp[*,F109,frV,za,ints,outP]
 rw[if_neg e7];replace e3:=eqn e3;replace e4:=eqn e4;replace e5:=eqn e5;replace e6:=eqn e6;replace e7:=eqn e7;by_cases e8:x.kind=8
 ·rw[if_pos e8];obtain⟨o,hou⟩:=len1 (k8 e8);have hr:=read_spec u (zV S) T;replace e8:=eqp e8;cases hi:(zV S).inp with
  |nil=>
   rw[hi]at hr;clear hset args outs prs k12 k3 k4 k5 k6 k7 k8 k9 hk hl hL hU;simp[*,F109,frV,za,ints,outP]
  |cons n r=>
   rw[hi]at hr;have h1:=hset {zV S with inp:=r} hS.cost o hou (by rw[<-hou];exact outs) n;simp[frV,ints]at h1;clear hset args outs prs k12 k3 k4 k5 k6 k7 k8 k9 hk hl hL hU;simp[*,F109,frV,za,ints,outP]
 rw[if_neg e8];replace e8:=eqn e8;by_cases e9:x.kind=9
 ·rw[if_pos e9];obtain⟨a1,a2⟩:=k9 e9;have hou:x.outs=[]:=yD a2;obtain⟨a,ha⟩:=len1 (hl.trans a1);subst ha;have e0:atA [a] 0=a:=rfl;rw[e0];have hso:=set_out (u:=u) (S:=zV S) (T:=T) (S.out++[a]);have hroom:(S.out.length+1)*8<=zNa:=by have:=hS.2;simp only[zNa];omega
  have hr4:∀X,((sto u (zV S) T).set 1 X)[1]? =some X:=by
   intro X;rw[yh (by rw[sto_len hS.cost];unfold nb;omega)]
  have hao:acc 1 ((S.out++[a]).map (PV.int .i64))= .slice .own 1 (S.out.map (PV.int .i64)++[.int .i64 a]):=by
   rw[acc_ne (by simp)];simp
  have hio:isOwn (acc 1 (S.out.map (PV.int .i64)++[.int .i64 a]))=some (1,S.out.map (PV.int .i64)++[.int .i64 a]):=by
   rw[acc_ne (by simp)];rfl
  rw[hao]at hso;simp only[ints]at hso;have hco:(zV S).out=S.out:=rfl;replace e9:=eqp e9;clear hset args outs prs k12 k3 k4 k5 k6 k7 k8 k9 hk hl hL hU hao;simp[*,F109,frV,za,ints,outP,setW]
 exact absurd hk (by simp only[eq_iff_iff,iff_false]at e3 e4 e5 e6 e7 e8;omega)
end PE.U
