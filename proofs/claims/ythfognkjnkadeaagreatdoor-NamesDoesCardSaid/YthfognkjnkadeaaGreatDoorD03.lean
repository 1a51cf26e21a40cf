/-
  Texts joined by program: T20Fnsa, T20Fnsb, T20Fns, PfRfn, AKY1, AKY1a, AKY1c, PfRow, PfAtoi, PfPure, PfClone, PfScl, PfItoa, AKX20, AKU1, AKU1b, AKD0.
-/
import Derived.Test.YthfognkjnkadeaaGreatDoorD02
import Derived.Test.YthfognkjnkadeaaGreatDoorProg
import Derived.RangeFuncBox
import Derived.RangeFuncNested
import Derived.RangeFuncBound
import Derived.RangeFuncCalls
import Derived.RangeFuncLeaves
import Derived.Shelf.Abstract
import Derived.WalkKit
import Derived.OwnWalkIn
import Derived.TacticsInMore
import Derived.LoopNIn
import Derived.LoopIn
import Derived.Maps.AppendAt
import Derived.Lib.OthersKept
import Derived.WalkSmall
import Derived.Sort.Grow
import Derived.Lib.ItoaNum
import Derived.Lib.ItoaLen
import Derived.Deep.Draws
import Derived.Laws.AppendOwn
import Derived.Below
import Derived.Lib.Atoi
import Derived.Lib.ConvBytes
import Derived.Lib.Bytealg
import Derived.Lib.Index
import Derived.Lib.IndexMore
import Derived.Lib.Strings
import Derived.Lib.AtoiErrMem
import Derived.Lib.AtoiAll
import Derived.Lib.SliceRun
import Derived.Ground.SlmcProg
import Derived.Ground.NamesProg
import Derived.Shelf.SlMaps.Clone
import Derived.Shelf.Strconv.AtoiAll
import Derived.Shelf.Strconv.Itoa3
import Derived.Shelf.Lay
import Derived.Lib.LaidTab
import Derived.Laws.RangeAny
import Derived.Laws.RangeString
set_option linter.unusedVariables false
set_option linter.unusedSectionVars false
set_option linter.unusedSimpArgs false
open Array renaming getD_eq_getD_getElem?→yca,getElem?_eq_some_iff→yr,replicate_succ→ydb,replicate_zero→yeb,size_eq_one_iff→yab
open Bool renaming and_eq_true→yb,false_eq_true→yAa,not_eq_true'→yH,or_eq_false_iff→yna,or_eq_true→yS
open List renaming all_append→yY,all_cons→yea,all_eq_true→yq,append_toArray→ygb,cons_append→yT,getElem?_eq_some_iff→ya,getElem?_map→yo,getElem?_take_of_lt→yua,length→yV,length_append→yi,length_cons→yj,length_eq_zero_iff→yLa,length_map→yu,length_nil→yn,length_pos_iff→yva,mem_append→yx,mem_singleton→yL,nil_append→yla,push_toArray→ylb,range→yI,size_toArray→ysa,takeWhile_cons→yDa
open Nat renaming le_refl→yd,le_trans→yfa,lt_or_ge→yB,zero_add→yaa
open Option renaming getD_some→yoa,map_eq_some_iff→yc
open UInt8 renaming ofNat→yG
set_option maxRecDepth 100000
namespace PE.U
open Go PE Go.Proofs
def F9:IFn:=⟨15,1,[.tmp 2],false,false,(sr [oC 2 (.str [])] (.seq (sr [oM 3 0,oD 4 .lss 3 0,oM 5 4,oFm 5 6 0,oF 5 7 (.bin 0 [] .gtr (.t 6) (cI 20000)),oO 8 (.pick (.t 5) (.c bT) (.t 7))] (.cond (.t 8) (sr [oC 2 (.str [])] .ret) .skip)) (sr [oM 9 0,oD 10 .add 9 1,cP 11 22 [.t 10],oM 12 0,oI 13 1 11 12,oG 14 13,oM 2 14] .ret)))⟩
theorem ok9:zh Tryz.prog Tryz.f9 F9=true:=by kernel_rfl
def F79:IFn:=⟨23,1,[.tmp 2],false,false,(sr [oC 2 bF] (.seq (sr [oM 3 0] (.block 0 (.seq (sr [oB 5 .eql (.t 3) (.c (.str [105,110,116])),oM 4 5] (.cond (.t 4) .skip (sr [oB 6 .eql (.t 3) (.c (.str [98,111,111,108])),oM 4 6] (.cond (.t 4) .skip (sr [oB 7 .eql (.t 3) (.c (.str [105,102])),oM 4 7] (.cond (.t 4) .skip (sr [oB 8 .eql (.t 3) (.c (.str [101,108,115,101])),oM 4 8] (.cond (.t 4) .skip (sr [oB 9 .eql (.t 3) (.c (.str [119,104,105,108,101])),oM 4 9] (.cond (.t 4) .skip (sr [oB 10 .eql (.t 3) (.c (.str [98,114,101,97,107])),oM 4 10] (.cond (.t 4) .skip (sr [oB 11 .eql (.t 3) (.c (.str [99,111,110,116,105,110,117,101])),oM 4 11] (.cond (.t 4) .skip (sr [oB 12 .eql (.t 3) (.c (.str [114,101,116,117,114,110])),oM 4 12] (.cond (.t 4) .skip (sr [oB 13 .eql (.t 3) (.c (.str [112,114,105,110,116])),oM 4 13] (.cond (.t 4) .skip (sr [oB 14 .eql (.t 3) (.c (.str [114,101,97,100])),oM 4 14] (.cond (.t 4) .skip (sr [oB 15 .eql (.t 3) (.c (.str [116,114,117,101])),oM 4 15] (.cond (.t 4) .skip (sr [oB 16 .eql (.t 3) (.c (.str [102,97,108,115,101])),oM 4 16] (.cond (.t 4) .skip (sr [oB 17 .eql (.t 3) (.c (.str [105,56])),oM 4 17] (.cond (.t 4) .skip (sr [oB 18 .eql (.t 3) (.c (.str [105,49,54])),oM 4 18] (.cond (.t 4) .skip (sr [oB 19 .eql (.t 3) (.c (.str [105,51,50])),oM 4 19] (.cond (.t 4) .skip (sr [oB 20 .eql (.t 3) (.c (.str [117,56])),oM 4 20] (.cond (.t 4) .skip (sr [oB 21 .eql (.t 3) (.c (.str [117,49,54])),oM 4 21] (.cond (.t 4) .skip (.region [oB 22 .eql (.t 3) (.c (.str [117,51,50])),oM 4 22]))))))))))))))))))))))))))))))))))) (.cond (.t 4) (sr [oC 2 bT] .ret) .skip)))) (sr [oC 2 bF] .ret)))⟩
theorem ok79:zh Tryz.prog Tryz.f79 F79=true:=by kernel_rfl
def F131:IFn:=⟨21,1,[.tmp 2],false,false,(sr [oC 2 bF] (sr [oM 3 0,oB 4 .geq (.t 3) (.c (.int .i32 97)),oM 5 4,oTm 5 6 0,oT 5 7 (.bin 0 [] .leq (.t 6) (.c (.int .i32 122))),oO 8 (.pick (.t 5) (.t 7) (.c bF)),oM 9 8,oFm 9 10 0,oF 9 11 (.bin 0 [] .geq (.t 10) (.c (.int .i32 65))),oFm 9 12 11,oTm 12 13 0,oT 12 14 (.bin 0 [] .leq (.t 13) (.c (.int .i32 90))),oF 9 15 (.pick (.t 12) (.t 14) (.c bF)),oO 16 (.pick (.t 9) (.c bT) (.t 15)),oM 17 16,oFm 17 18 0,oF 17 19 (.bin 0 [] .eql (.t 18) (.c (.int .i32 95))),oO 20 (.pick (.t 17) (.c bT) (.t 19)),oM 2 20] .ret))⟩
theorem ok131:zh Tryz.prog Tryz.f131 F131=true:=by kernel_rfl
def F163:IFn:=⟨9,1,[.tmp 2],false,false,(sr [oC 2 bF] (sr [oM 3 0,oB 4 .geq (.t 3) (.c (.int .i32 48)),oM 5 4,oTm 5 6 0,oT 5 7 (.bin 0 [] .leq (.t 6) (.c (.int .i32 57))),oO 8 (.pick (.t 5) (.t 7) (.c bF)),oM 2 8] .ret))⟩
theorem ok163:zh Tryz.prog Tryz.f163 F163=true:=by kernel_rfl
def L132_0:ICode:= .loop [0,6] []
 (sr [
 oO 7 (.next 6 (.t 6)),
 oX 8 7 0]
 (.seq
 (.cond (.t 8)
 .skip
 (.exit 0))
 (.block 1
 (sr [
 oX 9 7 1,
 oX 10 7 2,
 oM 3 9,
 oM 4 10]
 (sr [
 oM 11 4,
 cP 12 131 [.t 11],
 oU 13 12,
 oM 14 13,
 oTm 14 15 4,
 oT 14 16 (pP 163 [.t 15]),
 oT 14 17 (.un .not (.t 16)),
 oO 18 (.pick (.t 14) (.t 17) (.c bF))]
 (.cond (.t 18)
 (sr [
 oM 19 0,
 oM 20 3,
 oO 21 (.slc true 0 (.t 19) none (some (.t 20)) none),
 oM 2 21]
 .ret)
 .skip))))))
abbrev K132_0:List Nat:=[0,6]
abbrev B132_0:List Nat:=[]
def F132:IFn:=⟨23,1,[.tmp 2],false,false,(sr [oC 2 (.str [])] (.seq (sr [oM 5 0,oO 6 (.rng 6 (.t 5))] (.block 0 L132_0)) (sr [oM 22 0,oM 2 22] .ret)))⟩
theorem ok132:zh Tryz.prog Tryz.f132 F132=true:=by kernel_rfl
def F104:IFn:=⟨27,1,[.tmp 2],false,false,(sr [oC 2 bF] (sr [oM 3 0,oB 4 .neq (.t 3) (.c (.str [])),oM 5 4,oTm 5 6 0,oT 5 7 (.idxS (.t 6) (cI 0)),oT 5 8 (.conv .i32 (.t 7)),oT 5 9 (pP 131 [.t 8]),oO 10 (.pick (.t 5) (.t 9) (.c bF)),oM 11 10,oTm 11 12 0,oT 11 13 (pP 132 [.t 12]),oTm 11 14 0,oT 11 15 (.bin 0 [] .eql (.t 13) (.t 14)),oO 16 (.pick (.t 11) (.t 15) (.c bF)),oM 17 16,oTm 17 18 0,oT 17 19 (.len 0 (.t 18)),oT 17 20 (.bin 0 [] .leq (.t 19) (cI 20)),oO 21 (.pick (.t 17) (.t 20) (.c bF)),oM 22 21,oTm 22 23 0,oT 22 24 (pP 79 [.t 23]),oT 22 25 (.un .not (.t 24)),oO 26 (.pick (.t 22) (.t 25) (.c bF)),oM 2 26] .ret))⟩
theorem ok104:zh Tryz.prog Tryz.f104 F104=true:=by kernel_rfl
def F103:IFn:=⟨17,1,[.tmp 2],false,false,(sr [oO 1 (.boxL 1 (.t 0)),oC 2 bF] (sr [oA 3 0 1,oL 4 1 3,cP 5 104 [.t 4],oU 6 5,oM 7 6,oF 7 8 (.faddr 1 (.t 1)),oF 7 9 (.load (.box 1) false 1 (.t 8)),oF 7 10 (.bin 0 [] .lss (.t 9) (cI 1)),oO 11 (.pick (.t 7) (.c bT) (.t 10)),oM 12 11,oF 12 13 (.faddr 1 (.t 1)),oF 12 14 (.load (.box 1) false 1 (.t 13)),oF 12 15 (.bin 0 [] .gtr (.t 14) (cI 1000)),oO 16 (.pick (.t 12) (.c bT) (.t 15)),oM 2 16] .ret))⟩
theorem ok103:zh Tryz.prog Tryz.f103 F103=true:=by kernel_rfl
def L133_0:ICode:= .loop [0,1,7,8] []
 (sr [
 oP 9 .lss 8 7]
 (.seq
 (.cond (.t 9)
 .skip
 (.exit 0))
 (.seq
 (.block 1
 (sr [
 oM 10 8,
 oM 5 10]
 (sr [
 oM 11 1,
 oM 12 0,
 oM 13 5,
 oI 14 2 12 13,
 oW 15 2 14,
 oO 16 (.call false (.t 11) [.t 15])]
 (.cond (.t 16)
 (sr [
 oM 17 5,
 oM 4 17]
 .ret)
 .skip))))
 (.region [
 oD 18 .add 8 1,
 oM 8 18]))))
abbrev K133_0:List Nat:=[0,1,7]
abbrev B133_0:List Nat:=[]
def F133:IFn:=⟨19,2,[.tmp 4],false,false,(sr [oZ 4 0] (.seq (sr [oM 6 0,oY 7 6,oZ 8 0] (.block 0 L133_0)) (sr [oO 4 (.mv (cI (-1)))] .ret)))⟩
theorem ok133:zh Tryz.prog Tryz.f133 F133=true:=by kernel_rfl
def F105:IFn:=⟨9,2,[.tmp 4],false,false,(sr [oC 4 bF] (sr [oE 5 0,oM 6 1,cF 7 133 [.t 5,.t 6],oD 8 .geq 7 0,oM 4 8] .ret))⟩
theorem ok105:zh Tryz.prog Tryz.f105 F105=true:=by kernel_rfl
def L134_0:ICode:= .loop [0,1,7,8] []
 (sr [
 oP 9 .lss 8 7]
 (.seq
 (.cond (.t 9)
 .skip
 (.exit 0))
 (.seq
 (.block 1
 (sr [
 oM 10 8,
 oM 5 10]
 (sr [
 oM 11 1,
 oM 12 0,
 oM 13 5,
 oI 14 4 12 13,
 oW 15 4 14,
 oO 16 (.call false (.t 11) [.t 15])]
 (.cond (.t 16)
 (sr [
 oM 17 5,
 oM 4 17]
 .ret)
 .skip))))
 (.region [
 oD 18 .add 8 1,
 oM 8 18]))))
abbrev K134_0:List Nat:=[0,1,7]
abbrev B134_0:List Nat:=[]
def F134:IFn:=⟨19,2,[.tmp 4],false,false,(sr [oZ 4 0] (.seq (sr [oM 6 0,oY 7 6,oZ 8 0] (.block 0 L134_0)) (sr [oO 4 (.mv (cI (-1)))] .ret)))⟩
theorem ok134:zh Tryz.prog Tryz.f134 F134=true:=by kernel_rfl
def F106:IFn:=⟨9,2,[.tmp 4],false,false,(sr [oC 4 bF] (sr [oE 5 0,oM 6 1,cF 7 134 [.t 5,.t 6],oD 8 .geq 7 0,oM 4 8] .ret))⟩
theorem ok106:zh Tryz.prog Tryz.f106 F106=true:=by kernel_rfl
def F136:IFn:=⟨9,1,[.tmp 2],false,false,(sr [oC 2 bF] (sr [oM 3 0,oD 4 .eql 3 1,oM 5 4,oFm 5 6 0,oF 5 7 (.bin 0 [] .eql (.t 6) (cI 2)),oO 8 (.pick (.t 5) (.c bT) (.t 7)),oM 2 8] .ret))⟩
theorem ok136:zh Tryz.prog Tryz.f136 F136=true:=by kernel_rfl
def F135:IFn:=⟨13,1,[.tmp 2],false,false,(sr [oO 1 (.boxL 1 (.t 0)),oC 2 bF] (sr [oA 3 0 1,oL 4 1 3,cP 5 104 [.t 4],oU 6 5,oM 7 6,oF 7 8 (.faddr 1 (.t 1)),oF 7 9 (.load (.box 1) false 1 (.t 8)),oF 7 10 (pP 136 [.t 9]),oF 7 11 (.un .not (.t 10)),oO 12 (.pick (.t 7) (.c bT) (.t 11)),oM 2 12] .ret))⟩
theorem ok135:zh Tryz.prog Tryz.f135 F135=true:=by kernel_rfl
def L164_0:ICode:= .loop [0,1,7,8] []
 (sr [
 oP 9 .lss 8 7]
 (.seq
 (.cond (.t 9)
 .skip
 (.exit 0))
 (.seq
 (.block 1
 (sr [
 oM 10 8,
 oM 5 10]
 (sr [
 oM 11 1,
 oM 12 0,
 oM 13 5,
 oI 14 2 12 13,
 oW 15 2 14,
 oO 16 (.call false (.t 11) [.t 15])]
 (.cond (.t 16)
 (sr [
 oM 17 5,
 oM 4 17]
 .ret)
 .skip))))
 (.region [
 oD 18 .add 8 1,
 oM 8 18]))))
abbrev K164_0:List Nat:=[0,1,7]
abbrev B164_0:List Nat:=[]
def F164:IFn:=⟨19,2,[.tmp 4],false,false,(sr [oZ 4 0] (.seq (sr [oM 6 0,oY 7 6,oZ 8 0] (.block 0 L164_0)) (sr [oO 4 (.mv (cI (-1)))] .ret)))⟩
theorem ok164:zh Tryz.prog Tryz.f164 F164=true:=by kernel_rfl
def F137:IFn:=⟨9,2,[.tmp 4],false,false,(sr [oC 4 bF] (sr [oE 5 0,oM 6 1,cF 7 164 [.t 5,.t 6],oD 8 .geq 7 0,oM 4 8] .ret))⟩
theorem ok137:zh Tryz.prog Tryz.f137 F137=true:=by kernel_rfl
def L144_0:ICode:= .loop [0,1,7,8] []
 (sr [
 oP 9 .lss 8 7]
 (.seq
 (.cond (.t 9)
 .skip
 (.exit 0))
 (.seq
 (.block 1
 (sr [
 oM 10 8,
 oM 5 10]
 (sr [
 oM 11 1,
 oM 12 0,
 oM 13 5,
 oI 14 6 12 13,
 oW 15 6 14,
 oO 16 (.call false (.t 11) [.t 15])]
 (.cond (.t 16)
 (sr [
 oM 17 5,
 oM 4 17]
 .ret)
 .skip))))
 (.region [
 oD 18 .add 8 1,
 oM 8 18]))))
abbrev K144_0:List Nat:=[0,1,7]
abbrev B144_0:List Nat:=[]
def F144:IFn:=⟨19,2,[.tmp 4],false,false,(sr [oZ 4 0] (.seq (sr [oM 6 0,oY 7 6,oZ 8 0] (.block 0 L144_0)) (sr [oO 4 (.mv (cI (-1)))] .ret)))⟩
theorem ok144:zh Tryz.prog Tryz.f144 F144=true:=by kernel_rfl
def F112:IFn:=⟨9,2,[.tmp 4],false,false,(sr [oC 4 bF] (sr [oE 5 0,oM 6 1,cF 7 144 [.t 5,.t 6],oD 8 .geq 7 0,oM 4 8] .ret))⟩
theorem ok112:zh Tryz.prog Tryz.f112 F112=true:=by kernel_rfl
def F184:IFn:=⟨15,0,[.tmp 0],false,false,(sr [oC 0 (.nilmap)] (sr [oO 2 (.build [.bool false,.bool false,.int .i64 0,.bool false,.bool false] [(2,1,(cI 1))]),oO 1 (.boxL 1 (.c (.agg [.bool false,.bool false,.int .i64 0,.bool false,.bool false]))),oS 1 5 1 2] (sr [oO 3 (.mkmap),oO 4 (.build [.bool false,.bool false,.int .i64 0,.bool false,.bool false] [(0,1,(.c bT)),(1,1,(.c bT)),(2,1,(cI 1))]),oN (.mapset false (.t 3) (cI 1) (.t 4)),oO 5 (.build [.bool false,.bool false,.int .i64 0,.bool false,.bool false] [(1,1,(.c bT)),(2,1,(cI 1))]),oN (.mapset false (.t 3) (cI 2) (.t 5)),oO 6 (.build [.bool false,.bool false,.int .i64 0,.bool false,.bool false] [(1,1,(.c bT)),(2,1,(cI 2))]),oN (.mapset false (.t 3) (cI 3) (.t 6)),oO 7 (.build [.bool false,.bool false,.int .i64 0,.bool false,.bool false] [(2,1,(cI 1)),(3,1,(.c bT)),(4,1,(.c bT))]),oN (.mapset false (.t 3) (cI 4) (.t 7)),oO 8 (.build [.bool false,.bool false,.int .i64 0,.bool false,.bool false] [(2,1,(cI 1)),(3,1,(.c bT))]),oN (.mapset false (.t 3) (cI 5) (.t 8)),oO 9 (.build [.bool false,.bool false,.int .i64 0,.bool false,.bool false] []),oN (.mapset false (.t 3) (cI 6) (.t 9)),oO 10 (.build [.bool false,.bool false,.int .i64 0,.bool false,.bool false] []),oN (.mapset false (.t 3) (cI 7) (.t 10)),oLa 11 1 5 1,oN (.mapset false (.t 3) (cI 8) (.t 11)),oLa 12 1 5 1,oN (.mapset false (.t 3) (cI 9) (.t 12)),oLa 13 1 5 1,oN (.mapset false (.t 3) (cI 10) (.t 13)),oM 14 3,oM 0 14] .ret)))⟩
theorem ok184:zh Tryz.prog Tryz.f184 F184=true:=by kernel_rfl
def L198_0:ICode:= .loop [0,1,7,8] []
 (sr [
 oP 9 .lss 8 7]
 (.seq
 (.cond (.t 9)
 .skip
 (.exit 0))
 (.seq
 (.block 1
 (sr [
 oM 10 8,
 oM 5 10]
 (sr [
 oM 11 1,
 oM 12 0,
 oM 13 5,
 oI 14 5 12 13,
 oW 15 5 14,
 oO 16 (.call false (.t 11) [.t 15])]
 (.cond (.t 16)
 (sr [
 oM 17 5,
 oM 4 17]
 .ret)
 .skip))))
 (.region [
 oD 18 .add 8 1,
 oM 8 18]))))
abbrev K198_0:List Nat:=[0,1,7]
abbrev B198_0:List Nat:=[]
def F198:IFn:=⟨19,2,[.tmp 4],false,false,(sr [oZ 4 0] (.seq (sr [oM 6 0,oY 7 6,oZ 8 0] (.block 0 L198_0)) (sr [oO 4 (.mv (cI (-1)))] .ret)))⟩
theorem ok198:zh Tryz.prog Tryz.f198 F198=true:=by kernel_rfl
def F185:IFn:=⟨9,2,[.tmp 4],false,false,(sr [oC 4 bF] (sr [oE 5 0,oM 6 1,cF 7 198 [.t 5,.t 6],oD 8 .geq 7 0,oM 4 8] .ret))⟩
theorem ok185:zh Tryz.prog Tryz.f185 F185=true:=by kernel_rfl
def F202:IFn:=⟨22,1,[.tmp 2],false,false,(sr [oO 1 (.boxL 1 (.t 0)),oC 2 bF] (sr [oA 3 1 1,oL 4 1 3,oD 5 .eql 4 0,oM 6 5,oT 6 7 (.faddr 2 (.t 1)),oT 6 8 (.load (.box 1) false 1 (.t 7)),oT 6 9 (.bin 0 [] .eql (.t 8) (cI 0)),oO 10 (.pick (.t 6) (.t 9) (.c bF)),oM 11 10,oT 11 12 (.faddr 3 (.t 1)),oT 11 13 (.load (.box 1) false 1 (.t 12)),oT 11 14 (.bin 0 [] .eql (.t 13) (.c (.str []))),oO 15 (.pick (.t 11) (.t 14) (.c bF)),oM 16 15,oT 16 17 (.faddr 4 (.t 1)),oT 16 18 (.load (.box 1) false 1 (.t 17)),oT 16 19 (.len 1 (.t 18)),oT 16 20 (.bin 0 [] .eql (.t 19) (cI 0)),oO 21 (.pick (.t 16) (.t 20) (.c bF)),oM 2 21] .ret))⟩
theorem ok202:zh Tryz.prog Tryz.f202 F202=true:=by kernel_rfl
def F204:IFn:=⟨43,1,[.cell 2 true 2],false,false,(sr [oO 2 (.boxL 2 (.c (.agg [.str [],.int .i64 0])))] (sr [oO 4 (.build [.str [],.int .i64 0] [(0,1,(.c (.str [43]))),(1,1,(cI 9))]),oO 5 (.build [.str [],.int .i64 0] [(0,1,(.c (.str [45]))),(1,1,(cI 9))]),oO 6 (.build [.str [],.int .i64 0] [(0,1,(.c (.str [42]))),(1,1,(cI 10))]),oO 7 (.build [.str [],.int .i64 0] [(0,1,(.c (.str [47]))),(1,1,(cI 10))]),oO 8 (.build [.str [],.int .i64 0] [(0,1,(.c (.str [37]))),(1,1,(cI 10))]),oO 9 (.build [.str [],.int .i64 0] [(0,1,(.c (.str [38]))),(1,1,(cI 5))]),oO 10 (.build [.str [],.int .i64 0] [(0,1,(.c (.str [124]))),(1,1,(cI 3))]),oO 11 (.build [.str [],.int .i64 0] [(0,1,(.c (.str [94]))),(1,1,(cI 4))]),oO 12 (.build [.str [],.int .i64 0] [(0,1,(.c (.str [60,60]))),(1,1,(cI 8))]),oO 13 (.build [.str [],.int .i64 0] [(0,1,(.c (.str [62,62]))),(1,1,(cI 8))]),oO 14 (.build [.str [],.int .i64 0] [(0,1,(.c (.str [62,62,62]))),(1,1,(cI 8))]),oO 15 (.build [.str [],.int .i64 0] [(0,1,(.c (.str [60]))),(1,1,(cI 7))]),oO 16 (.build [.str [],.int .i64 0] [(0,1,(.c (.str [60,61]))),(1,1,(cI 7))]),oO 17 (.build [.str [],.int .i64 0] [(0,1,(.c (.str [62]))),(1,1,(cI 7))]),oO 18 (.build [.str [],.int .i64 0] [(0,1,(.c (.str [62,61]))),(1,1,(cI 7))]),oO 19 (.build [.str [],.int .i64 0] [(0,1,(.c (.str [61,61]))),(1,1,(cI 6))]),oO 20 (.build [.str [],.int .i64 0] [(0,1,(.c (.str [33,61]))),(1,1,(cI 6))]),oO 21 (.build [.str [],.int .i64 0] [(0,1,(.c (.str [38,38]))),(1,1,(cI 2))]),oO 22 (.build [.str [],.int .i64 0] [(0,1,(.c (.str [124,124]))),(1,1,(cI 1))]),oO 23 (.build [.str [],.int .i64 0] [(0,1,(.c (.str [45]))),(1,1,(cI 0))]),oO 24 (.build [.str [],.int .i64 0] [(0,1,(.c (.str [126]))),(1,1,(cI 0))]),oO 25 (.build [.str [],.int .i64 0] [(0,1,(.c (.str [33]))),(1,1,(cI 0))]),oO 26 (.build [.str [],.int .i64 0] [(0,1,(.c (.str [105,56]))),(1,1,(cI 0))]),oO 27 (.build [.str [],.int .i64 0] [(0,1,(.c (.str [105,49,54]))),(1,1,(cI 0))]),oO 28 (.build [.str [],.int .i64 0] [(0,1,(.c (.str [105,51,50]))),(1,1,(cI 0))]),oO 29 (.build [.str [],.int .i64 0] [(0,1,(.c (.str [117,56]))),(1,1,(cI 0))]),oO 30 (.build [.str [],.int .i64 0] [(0,1,(.c (.str [117,49,54]))),(1,1,(cI 0))]),oO 31 (.build [.str [],.int .i64 0] [(0,1,(.c (.str [117,51,50]))),(1,1,(cI 0))]),oO 32 (.build [.str [],.int .i64 0,.str [],.int .i64 0,.str [],.int .i64 0,.str [],.int .i64 0,.str [],.int .i64 0,.str [],.int .i64 0,.str [],.int .i64 0,.str [],.int .i64 0,.str [],.int .i64 0,.str [],.int .i64 0,.str [],.int .i64 0,.str [],.int .i64 0,.str [],.int .i64 0,.str [],.int .i64 0,.str [],.int .i64 0,.str [],.int .i64 0,.str [],.int .i64 0,.str [],.int .i64 0,.str [],.int .i64 0,.str [],.int .i64 0,.str [],.int .i64 0,.str [],.int .i64 0,.str [],.int .i64 0,.str [],.int .i64 0,.str [],.int .i64 0,.str [],.int .i64 0,.str [],.int .i64 0,.str [],.int .i64 0,.str [],.int .i64 0] [(2,2,(.t 4)),(4,2,(.t 5)),(6,2,(.t 6)),(8,2,(.t 7)),(10,2,(.t 8)),(12,2,(.t 9)),(14,2,(.t 10)),(16,2,(.t 11)),(18,2,(.t 12)),(20,2,(.t 13)),(22,2,(.t 14)),(24,2,(.t 15)),(26,2,(.t 16)),(28,2,(.t 17)),(30,2,(.t 18)),(32,2,(.t 19)),(34,2,(.t 20)),(36,2,(.t 21)),(38,2,(.t 22)),(40,2,(.t 23)),(42,2,(.t 24)),(44,2,(.t 25)),(46,2,(.t 26)),(48,2,(.t 27)),(50,2,(.t 28)),(52,2,(.t 29)),(54,2,(.t 30)),(56,2,(.t 31))]),oO 3 (.boxL 3 (.c (.agg [.str [],.int .i64 0,.str [],.int .i64 0,.str [],.int .i64 0,.str [],.int .i64 0,.str [],.int .i64 0,.str [],.int .i64 0,.str [],.int .i64 0,.str [],.int .i64 0,.str [],.int .i64 0,.str [],.int .i64 0,.str [],.int .i64 0,.str [],.int .i64 0,.str [],.int .i64 0,.str [],.int .i64 0,.str [],.int .i64 0,.str [],.int .i64 0,.str [],.int .i64 0,.str [],.int .i64 0,.str [],.int .i64 0,.str [],.int .i64 0,.str [],.int .i64 0,.str [],.int .i64 0,.str [],.int .i64 0,.str [],.int .i64 0,.str [],.int .i64 0,.str [],.int .i64 0,.str [],.int .i64 0,.str [],.int .i64 0,.str [],.int .i64 0]))),oS 3 58 3 32] (.seq (sr [oM 33 0,oD 34 .lss 33 0,oM 35 34,oFm 35 36 0,oF 35 37 (.bin 0 [] .geq (.t 36) (cI 29)),oO 38 (.pick (.t 35) (.c bT) (.t 37))] (.cond (.t 38) (sr [oO 39 (.build [.str [],.int .i64 0] []),oS 2 2 2 39] .ret) .skip)) (sr [oM 40 0,oO 41 (.iaddrA 29 2 (.t 3) (.t 40)),oLa 42 3 2 41,oS 2 2 2 42] .ret))))⟩
theorem ok204:zh Tryz.prog Tryz.f204 F204=true:=by kernel_rfl
def F203:IFn:=⟨6,1,[.tmp 2],false,false,(sr [oZ 2 0] (sr [oM 3 0,cP 4 204 [.t 3],oO 5 (.fld false 1 1 (.t 4)),oM 2 5] .ret))⟩
theorem ok203:zh Tryz.prog Tryz.f203 F203=true:=by kernel_rfl
def F199:IFn:=⟨92,1,[.tmp 2,.tmp 3],false,false,(sr [oO 1 (.boxL 1 (.t 0)),oZ 2 0,oC 3 bF] (sr [oLa 5 1 5 1,oO 4 (.boxL 4 (.c (.agg [.int .i64 0,.int .i64 0,.int .i64 0,.str [],.slice .fit 5 []]))),oS 4 5 4 5] (sr [oA 6 4 4,oN (.store (.box 4) 1 (.t 6) (.c (.slice .fit 5 [])))] (.seq (sr [oA 7 0 1,oL 8 1 7] (.block 0 (sr [oD 10 .eql 8 1,oM 9 10] (.cond (.t 9) (sr [oA 11 2 4,oN (.store (.box 4) 1 (.t 11) (cI 0))] (sr [oA 12 2 1,oL 13 1 12,oD 14 .geq 13 0,oM 15 14,oT 15 16 (.load (.box 4) true 5 (.t 4)),oT 15 17 (pP 202 [.t 16]),oO 18 (.pick (.t 15) (.t 17) (.c bF)),oZ 2 0,oM 3 18] .ret)) (sr [oD 20 .eql 8 2,oM 19 20] (.cond (.t 19) (sr [oA 21 2 4,oN (.store (.box 4) 1 (.t 21) (cI 0))] (sr [oA 22 2 1,oL 23 1 22,oD 24 .eql 23 0,oM 25 24,oF 25 26 (.faddr 2 (.t 1)),oF 25 27 (.load (.box 1) false 1 (.t 26)),oF 25 28 (.bin 0 [] .eql (.t 27) (cI 1)),oO 29 (.pick (.t 25) (.c bT) (.t 28)),oM 30 29,oT 30 31 (.load (.box 4) true 5 (.t 4)),oT 30 32 (pP 202 [.t 31]),oO 33 (.pick (.t 30) (.t 32) (.c bF)),oZ 2 0,oM 3 33] .ret)) (sr [oD 35 .eql 8 4,oM 34 35] (.cond (.t 34) (sr [oA 36 1 4,oN (.store (.box 4) 1 (.t 36) (cI 0))] (sr [oA 37 1 1,oL 38 1 37,oD 39 .geq 38 20,oM 40 39,oT 40 41 (.faddr 1 (.t 1)),oT 40 42 (.load (.box 1) false 1 (.t 41)),oT 40 43 (.bin 0 [] .leq (.t 42) (cI 28)),oO 44 (.pick (.t 40) (.t 43) (.c bF)),oM 45 44,oT 45 46 (.load (.box 4) true 5 (.t 4)),oT 45 47 (pP 202 [.t 46]),oO 48 (.pick (.t 45) (.t 47) (.c bF)),oZ 2 1,oM 3 48] .ret)) (sr [oD 50 .eql 8 5,oM 49 50] (.cond (.t 49) (sr [oA 51 1 4,oN (.store (.box 4) 1 (.t 51) (cI 0))] (sr [oA 52 1 1,oL 53 1 52,cP 54 203 [.t 53],oD 55 .gtr 54 0,oM 56 55,oT 56 57 (.load (.box 4) true 5 (.t 4)),oT 56 58 (pP 202 [.t 57]),oO 59 (.pick (.t 56) (.t 58) (.c bF)),oZ 2 2,oM 3 59] .ret)) (sr [oD 61 .eql 8 8,oM 60 61] (.cond (.t 60) (sr [oLa 62 4 5 4,cP 63 202 [.t 62],oZ 2 0,oM 3 63] .ret) .skip)))))))))))) (sr [oA 64 3 4,oN (.store (.box 4) 1 (.t 64) (.c (.str [])))] (sr [oA 65 3 1,oL 66 1 65,cP 67 104 [.t 66],oM 68 67,oT 68 69 (.load (.box 4) true 5 (.t 4)),oT 68 70 (pP 202 [.t 69]),oO 71 (.pick (.t 68) (.t 70) (.c bF)),oM 3 71] (.seq (sr [oA 72 0 1,oL 73 1 72] (.block 1 (sr [oD 75 .eql 73 3,oM 74 75] (.cond (.t 74) (sr [oM 76 3,oZ 2 0,oM 3 76] .ret) (sr [oD 78 .eql 73 6,oM 77 78] (.cond (.t 77) (sr [oM 79 3,oZ 2 1,oM 3 79] .ret) (sr [oD 81 .eql 73 7,oM 80 81] (.cond (.t 80) (sr [oA 82 4 1,oL 83 1 82,oY 84 83,oM 85 3,oM 86 85,oT 86 87 (.faddr 4 (.t 1)),oT 86 88 (.load (.box 1) false 1 (.t 87)),oT 86 89 (.len 1 (.t 88)),oT 86 90 (.bin 0 [] .leq (.t 89) (cI 8)),oO 91 (.pick (.t 86) (.t 90) (.c bF)),oM 2 84,oM 3 91] .ret) .skip)))))))) (sr [oZ 2 0,oC 3 bF] .ret))))))))⟩
theorem ok199:zh Tryz.prog Tryz.f199 F199=true:=by kernel_rfl
def F200:IFn:=⟨9,2,[.tmp 3],false,false,(sr [oO 2 (.boxL 2 (.t 0)),oC 3 bF] (sr [oLa 4 2 5 2,oG 5 1,oD 6 .sub 5 1,cP 7 187 [.t 4,.t 6],oU 8 7,oM 3 8] .ret))⟩
theorem ok200:zh Tryz.prog Tryz.f200 F200=true:=by kernel_rfl
def F187:IFn:=⟨31,2,[.tmp 4],false,false,(sr [oO 2 (.boxL 2 (.t 0)),oO 3 (.boxI (.t 1)),oC 4 bF] (sr [oLa 8 2 5 2,cP 9 199 [.t 8],oM 7 9,oX 10 7 0,oX 11 7 1,oM 5 10,oM 6 11] (sr [oM 12 6,oM 13 12,oT 13 14 (.load .any false 1 (.t 3)),oT 13 15 (.bin 0 [] .gtr (.t 14) (cI 0)),oO 16 (.pick (.t 13) (.t 15) (.c bF)),oM 17 16,oT 17 18 (.faddr 4 (.t 2)),oT 17 19 (.load (.box 2) false 1 (.t 18)),oT 17 20 (.len 1 (.t 19)),oTm 17 21 5,oT 17 22 (.bin 0 [] .eql (.t 20) (.t 21)),oO 23 (.pick (.t 17) (.t 22) (.c bF)),oM 24 23,oT 24 25 (.faddr 4 (.t 2)),oT 24 26 (.load (.box 2) false 1 (.t 25)),oT 24 27 (.mkfn 200 [] [.t 3]),oT 24 28 (pF 185 [.t 26,.t 27]),oT 24 29 (.un .not (.t 28)),oO 30 (.pick (.t 24) (.t 29) (.c bF)),oM 4 30] .ret)))⟩
theorem ok187:zh Tryz.prog Tryz.f187 F187=true:=by kernel_rfl
def F186:IFn:=⟨6,1,[.tmp 2],false,false,(sr [oO 1 (.boxL 1 (.t 0)),oC 2 bF] (sr [oLa 3 1 5 1,cP 4 187 [.t 3,cI 100],oU 5 4,oM 2 5] .ret))⟩
theorem ok186:zh Tryz.prog Tryz.f186 F186=true:=by kernel_rfl
def F166:IFn:=⟨118,2,[.tmp 4],true,false,(sr [oO 2 (.boxL 2 (.t 0)),oC 4 bF] (sr [cF 8 184 [],oA 9 0 2,oL 10 2 9,oO 11 (.lookup false true (.agg [.bool false,.bool false,.int .i64 0,.bool false,.bool false]) (.t 8) (.t 10)),oM 7 11,oX 12 7 0,oX 13 7 1,oO 5 (.boxL 5 (.c (.agg [.bool false,.bool false,.int .i64 0,.bool false,.bool false]))),oS 5 5 5 12,oM 6 13] (.seq (.block 0 (sr [oM 15 6,oU 16 15,oM 17 16,oFm 17 18 1,oF 17 19 (.bin 0 [] .lss (.t 18) (cI 1)),oO 20 (.pick (.t 17) (.c bT) (.t 19)),oM 21 20,oF 21 22 (.faddr 3 (.t 2)),oF 21 23 (.load (.box 2) false 1 (.t 22)),oF 21 24 (.len 1 (.t 23)),oF 21 25 (.faddr 2 (.t 5)),oF 21 26 (.load (.box 5) false 1 (.t 25)),oF 21 27 (.bin 0 [] .neq (.t 24) (.t 26)),oO 28 (.pick (.t 21) (.c bT) (.t 27)),oM 14 28] (.cond (.t 14) (sr [oC 4 bF] .ret) (sr [oA 30 0 5,oL 31 5 30,oM 32 31,oT 32 33 (.faddr 1 (.t 2)),oT 32 34 (.load (.box 2) false 1 (.t 33)),oT 32 35 (pP 136 [.t 34]),oT 32 36 (.un .not (.t 35)),oO 37 (.pick (.t 32) (.t 36) (.c bF)),oM 38 37,oF 38 39 (.faddr 0 (.t 5)),oF 38 40 (.load (.box 5) false 1 (.t 39)),oF 38 41 (.un .not (.t 40)),oFm 38 42 41,oT 42 43 (.faddr 1 (.t 2)),oT 42 44 (.load (.box 2) false 1 (.t 43)),oT 42 45 (.bin 0 [] .neq (.t 44) (cI 0)),oF 38 46 (.pick (.t 42) (.t 45) (.c bF)),oO 47 (.pick (.t 38) (.c bT) (.t 46)),oM 29 47] (.cond (.t 29) (sr [oC 4 bF] .ret) (sr [oA 49 1 5,oL 50 5 49,oM 51 50,oT 51 52 (.faddr 2 (.t 2)),oT 51 53 (.load (.box 2) false 1 (.t 52)),oT 51 54 (pP 104 [.t 53]),oT 51 55 (.un .not (.t 54)),oO 56 (.pick (.t 51) (.t 55) (.c bF)),oM 57 56,oF 57 58 (.faddr 1 (.t 5)),oF 57 59 (.load (.box 5) false 1 (.t 58)),oF 57 60 (.un .not (.t 59)),oFm 57 61 60,oT 61 62 (.faddr 2 (.t 2)),oT 61 63 (.load (.box 2) false 1 (.t 62)),oT 61 64 (.bin 0 [] .neq (.t 63) (.c (.str []))),oF 57 65 (.pick (.t 61) (.t 64) (.c bF)),oO 66 (.pick (.t 57) (.c bT) (.t 65)),oM 48 66] (.cond (.t 48) (sr [oC 4 bF] .ret) (sr [oA 68 3 5,oL 69 5 68,oU 70 69,oM 71 70,oT 71 72 (.faddr 4 (.t 2)),oT 71 73 (.load (.box 2) false 1 (.t 72)),oT 71 74 (.len 1 (.t 73)),oT 71 75 (.bin 0 [] .gtr (.t 74) (cI 0)),oO 76 (.pick (.t 71) (.t 75) (.c bF)),oM 77 76,oF 77 78 (.faddr 4 (.t 5)),oF 77 79 (.load (.box 5) false 1 (.t 78)),oF 77 80 (.un .not (.t 79)),oFm 77 81 80,oT 81 82 (.faddr 5 (.t 2)),oT 81 83 (.load (.box 2) false 1 (.t 82)),oT 81 84 (.len 1 (.t 83)),oT 81 85 (.bin 0 [] .gtr (.t 84) (cI 0)),oF 77 86 (.pick (.t 81) (.t 85) (.c bF)),oO 87 (.pick (.t 77) (.c bT) (.t 86)),oM 67 87] (.cond (.t 67) (sr [oC 4 bF] .ret) (sr [oA 89 0 2,oL 90 2 89,oD 91 .eql 90 10,oM 92 91,oT 92 93 (.faddr 3 (.t 2)),oT 92 94 (.load (.box 2) false 1 (.t 93)),oT 92 95 (.iaddr 5 (.t 94) (cI 0)),oT 92 96 (.faddr 0 (.t 95)),oT 92 97 (.load .any false 1 (.t 96)),oT 92 98 (.bin 0 [] .neq (.t 97) (cI 7)),oO 99 (.pick (.t 92) (.t 98) (.c bF)),oM 88 99] (.cond (.t 88) (sr [oC 4 bF] .ret) .skip))))))))))) (sr [oA 100 3 2,oL 101 2 100,cF 102 185 [(.t 101),(.c (.fn 186 [] []))],oU 103 102,oM 104 103,oT 104 105 (.faddr 4 (.t 2)),oT 104 106 (.load (.box 2) false 1 (.t 105)),oTm 104 107 1,oT 104 108 (.bin 0 [] .sub (.t 107) (cI 1)),oT 104 109 (pP 138 [.t 106,.t 108]),oO 110 (.pick (.t 104) (.t 109) (.c bF)),oM 111 110,oT 111 112 (.faddr 5 (.t 2)),oT 111 113 (.load (.box 2) false 1 (.t 112)),oTm 111 114 1,oT 111 115 (.bin 0 [] .sub (.t 114) (cI 1)),oT 111 116 (pP 138 [.t 113,.t 115]),oO 117 (.pick (.t 111) (.t 116) (.c bF)),oM 4 117] .ret))))⟩
theorem ok166:zh Tryz.prog Tryz.f166 F166=true:=by kernel_rfl
def F165:IFn:=⟨8,2,[.tmp 3],false,false,(sr [oO 2 (.boxL 2 (.t 0)),oC 3 bF] (sr [oLa 4 2 6 2,oG 5 1,cP 6 166 [.t 4,.t 5],oU 7 6,oM 3 7] .ret))⟩
theorem ok165:zh Tryz.prog Tryz.f165 F165=true:=by kernel_rfl
def F138:IFn:=⟨9,2,[.tmp 4],false,false,(sr [oO 3 (.boxI (.t 1)),oC 4 bF] (sr [oE 5 0,oO 6 (.mkfn 165 [] [.t 3]),cF 7 112 [.t 5,.t 6],oU 8 7,oM 4 8] .ret))⟩
theorem ok138:zh Tryz.prog Tryz.f138 F138=true:=by kernel_rfl
def F108:IFn:=⟨30,1,[.tmp 2],false,false,(sr [oO 1 (.boxL 1 (.t 0)),oC 2 bF] (sr [oC 3 (.fn 135 [] [])] (sr [oA 4 0 1,oL 5 1 4,cP 6 104 [.t 5],oM 7 6,oT 7 8 (.faddr 1 (.t 1)),oT 7 9 (.load (.box 1) false 1 (.t 8)),oT 7 10 (pP 136 [.t 9]),oO 11 (.pick (.t 7) (.t 10) (.c bF)),oM 12 11,oT 12 13 (.faddr 2 (.t 1)),oT 12 14 (.load (.box 1) false 1 (.t 13)),oT 12 15 (.len 1 (.t 14)),oT 12 16 (.bin 0 [] .leq (.t 15) (cI 8)),oO 17 (.pick (.t 12) (.t 16) (.c bF)),oM 18 17,oT 18 19 (.faddr 2 (.t 1)),oT 18 20 (.load (.box 1) false 1 (.t 19)),oTm 18 21 3,oT 18 22 (pF 137 [.t 20,.t 21]),oT 18 23 (.un .not (.t 22)),oO 24 (.pick (.t 18) (.t 23) (.c bF)),oM 25 24,oT 25 26 (.faddr 3 (.t 1)),oT 25 27 (.load (.box 1) false 1 (.t 26)),oT 25 28 (pP 138 [.t 27,cI 100]),oO 29 (.pick (.t 25) (.t 28) (.c bF)),oM 2 29] .ret)))⟩
theorem ok108:zh Tryz.prog Tryz.f108 F108=true:=by kernel_rfl
def F107:IFn:=⟨6,1,[.tmp 2],false,false,(sr [oO 1 (.boxL 1 (.t 0)),oC 2 bF] (sr [oLa 3 1 4 1,cP 4 108 [.t 3],oU 5 4,oM 2 5] .ret))⟩
theorem ok107:zh Tryz.prog Tryz.f107 F107=true:=by kernel_rfl
def F81:IFn:=⟨15,1,[.tmp 2],false,false,(sr [oO 1 (.boxL 1 (.t 0)),oC 2 bF] (sr [oC 3 (.fn 103 [] [])] (sr [oA 4 0 1,oL 5 1 4,oM 6 3,cF 7 105 [.t 5,.t 6],oU 8 7,oM 9 8,oT 9 10 (.faddr 1 (.t 1)),oT 9 11 (.load (.box 1) false 1 (.t 10)),oT 9 12 (pF 106 [(.t 11),(.c (.fn 107 [] []))]),oT 9 13 (.un .not (.t 12)),oO 14 (.pick (.t 9) (.t 13) (.c bF)),oM 2 14] .ret)))⟩
theorem ok81:zh Tryz.prog Tryz.f81 F81=true:=by kernel_rfl
def F139:IFn:=⟨8,2,[.tmp 3],false,false,(sr [oO 2 (.boxL 2 (.t 0)),oC 3 bF] (sr [oA 4 0 2,oL 5 2 4,oG 6 1,oP 7 .eql 5 6,oM 3 7] .ret))⟩
theorem ok139:zh Tryz.prog Tryz.f139 F139=true:=by kernel_rfl
def F109:IFn:=⟨9,2,[.tmp 4],false,false,(sr [oO 2 (.boxL 2 (.t 0)),oO 3 (.boxI (.t 1)),oZ 4 0] (sr [oA 5 1 2,oL 6 2 5,oO 7 (.mkfn 139 [] [.t 3]),cF 8 134 [.t 6,.t 7],oM 4 8] .ret))⟩
theorem ok109:zh Tryz.prog Tryz.f109 F109=true:=by kernel_rfl
def L82_0:ICode:= .loop [1,3,11,12,13] [5]
 (sr [
 oP 14 .lss 13 12]
 (.seq
 (.cond (.t 14)
 .skip
 (.exit 0))
 (.seq
 (.block 1
 (sr [
 oI 15 2 11 13,
 oW 16 2 15,
 oO 5 (.boxL 5 (.c (.agg [.str [],.int .i64 0]))),
 oS 5 2 5 16]
 (.region [
 oM 17 3,
 oA 18 0 5,
 oL 19 5 18,
 oO 20 (.lookup true false (.int .i64 0) (.t 17) (.t 19)),
 oD 21 .add 20 1,
 oN (.mapset true (.t 17) (.t 19) (.t 21))])))
 (.region [
 oD 22 .add 13 1,
 oM 13 22]))))
def L82_1:ICode:= .loop [1,3,24,25,26] [7]
 (sr [
 oP 27 .lss 26 25]
 (.seq
 (.cond (.t 27)
 .skip
 (.exit 2))
 (.seq
 (.block 3
 (sr [
 oI 28 4 24 26,
 oW 29 4 28,
 oO 7 (.boxL 7 (.c (.agg [.str [],.int .i64 0,.slice .fit 2 [],.slice .fit 6 []]))),
 oS 7 4 7 29]
 (.region [
 oM 30 3,
 oA 31 0 7,
 oL 32 7 31,
 oO 33 (.lookup true false (.int .i64 0) (.t 30) (.t 32)),
 oD 34 .add 33 1,
 oN (.mapset true (.t 30) (.t 32) (.t 34))])))
 (.region [
 oD 35 .add 26 1,
 oM 26 35]))))
abbrev K82_0:List Nat:=[1,3,11,12]
abbrev B82_0:List Nat:=[1]
abbrev K82_1:List Nat:=[1,3,24,25]
abbrev B82_1:List Nat:=[1]
def F82:IFn:=⟨71,1,[.tmp 2],true,false,(sr [oO 1 (.boxL 1 (.t 0)),oC 2 bF] (sr [oO 9 (.mkmap),oM 3 9] (.seq (sr [oA 10 0 1,oL 11 1 10,oY 12 11,oZ 13 0] (.block 0 L82_0)) (.seq (sr [oA 23 1 1,oL 24 1 23,oY 25 24,oZ 26 0] (.block 2 L82_1)) (sr [oLa 36 1 2 1,cP 37 109 [(.t 36),(.c (.str [109,97,105,110]))],oM 8 37] (sr [oM 38 3,oO 39 (.len 2 (.t 38)),oA 40 0 1,oL 41 1 40,oY 42 41,oA 43 1 1,oL 44 1 43,oY 45 44,oP 46 .add 42 45,oP 47 .eql 39 46,oM 48 47,oTm 48 49 8,oT 48 50 (.bin 0 [] .geq (.t 49) (cI 0)),oO 51 (.pick (.t 48) (.t 50) (.c bF)),oM 52 51,oT 52 53 (.faddr 1 (.t 1)),oT 52 54 (.load (.box 1) false 1 (.t 53)),oTm 52 55 8,oT 52 56 (.iaddr 4 (.t 54) (.t 55)),oT 52 57 (.faddr 1 (.t 56)),oT 52 58 (.load .any false 1 (.t 57)),oT 52 59 (.bin 0 [] .eql (.t 58) (cI 1)),oO 60 (.pick (.t 52) (.t 59) (.c bF)),oM 61 60,oT 61 62 (.faddr 1 (.t 1)),oT 61 63 (.load (.box 1) false 1 (.t 62)),oTm 61 64 8,oT 61 65 (.iaddr 4 (.t 63) (.t 64)),oT 61 66 (.faddr 2 (.t 65)),oT 61 67 (.load .any false 1 (.t 66)),oT 61 68 (.len 1 (.t 67)),oT 61 69 (.bin 0 [] .eql (.t 68) (cI 0)),oO 70 (.pick (.t 61) (.t 69) (.c bF)),oM 2 70] .ret))))))⟩
theorem ok82:zh Tryz.prog Tryz.f82 F82=true:=by kernel_rfl
def L83_0:ICode:= .loop [0,3,7,8,9] [5]
 (sr [
 oP 10 .lss 9 8]
 (.seq
 (.cond (.t 10)
 .skip
 (.exit 0))
 (.seq
 (.block 1
 (sr [
 oI 11 2 7 9,
 oW 12 2 11,
 oO 5 (.boxL 5 (.c (.agg [.str [],.int .i64 0]))),
 oS 5 2 5 12]
 (.region [
 oM 13 3,
 oA 14 0 5,
 oL 15 5 14,
 oO 16 (.lookup true false (.int .i64 0) (.t 13) (.t 15)),
 oD 17 .add 16 1,
 oN (.mapset true (.t 13) (.t 15) (.t 17))])))
 (.region [
 oD 18 .add 9 1,
 oM 9 18]))))
abbrev K83_0:List Nat:=[0,3,7,8]
abbrev B83_0:List Nat:=[]
def F83:IFn:=⟨24,1,[.tmp 2],true,false,(sr [oC 2 bF] (sr [oO 6 (.mkmap),oM 3 6] (.seq (sr [oM 7 0,oY 8 7,oZ 9 0] (.block 0 L83_0)) (sr [oM 19 3,oO 20 (.len 2 (.t 19)),oE 21 0,oY 22 21,oP 23 .lss 20 22,oM 2 23] .ret))))⟩
theorem ok83:zh Tryz.prog Tryz.f83 F83=true:=by kernel_rfl
def F142:IFn:=⟨7,2,[.tmp 4],false,false,(sr [oZ 4 0] (.seq (sr [oM 5 0] (.cond (.t 5) (sr [oZ 4 0] .ret) .skip)) (sr [oM 6 1,oM 4 6] .ret)))⟩
theorem ok142:zh Tryz.prog Tryz.f142 F142=true:=by kernel_rfl
def L170_0:ICode:= .loop [0,1] []
 (.seq
 (sr [
 oM 5 0,
 oO 6 (.bin 3 [] .neq (.t 5) (.c (.nilp))),
 oM 7 6,
 oTm 7 8 0,
 oT 7 9 (.nilck (.t 8)),
 oT 7 10 (.faddr 0 (.t 9)),
 oT 7 11 (.faddr 0 (.t 10)),
 oT 7 12 (.load .any false 1 (.t 11)),
 oTm 7 13 1,
 oT 7 14 (.bin 0 [] .neq (.t 12) (.t 13)),
 oO 15 (.pick (.t 7) (.t 14) (.c bF))]
 (.cond (.t 15)
 .skip
 (.exit 0)))
 (.block 1
 (.region [
 oM 16 0,
 oK 17 16,
 oA 18 2 17,
 oG 19 18,
 oM 0 19])))
abbrev K170_0:List Nat:=[1]
abbrev B170_0:List Nat:=[]
def F170:IFn:=⟨21,2,[.tmp 4],false,false,(sr [oC 4 (.nilp)] (.seq (.block 0 L170_0) (sr [oM 20 0,oM 4 20] .ret)))⟩
theorem ok170:zh Tryz.prog Tryz.f170 F170=true:=by kernel_rfl
def F191:IFn:=⟨8,2,[.tmp 3],false,false,(sr [oO 2 (.boxL 2 (.t 0)),oC 3 bF] (sr [oA 4 0 2,oL 5 2 4,oG 6 1,oP 7 .eql 5 6,oM 3 7] .ret))⟩
theorem ok191:zh Tryz.prog Tryz.f191 F191=true:=by kernel_rfl
def F171:IFn:=⟨9,2,[.tmp 4],false,false,(sr [oO 2 (.boxL 2 (.t 0)),oO 3 (.boxI (.t 1)),oZ 4 0] (sr [oA 5 0 2,oL 6 2 5,oO 7 (.mkfn 191 [] [.t 3]),cF 8 133 [.t 6,.t 7],oM 4 8] .ret))⟩
theorem ok171:zh Tryz.prog Tryz.f171 F171=true:=by kernel_rfl
def F167:IFn:=⟨49,3,[.tmp 6],false,false,(sr [oO 3 (.boxL 3 (.t 0)),oO 5 (.boxL 5 (.t 2)),oZ 6 0] (.seq (sr [oA 8 0 5,oL 9 5 8] (.block 0 (sr [oD 11 .eql 9 3,oM 10 11] (.cond (.t 10) (sr [oM 12 1,oA 13 3 5,oL 14 5 13,cF 15 170 [.t 12,.t 14],oO 16 (.bin 3 [] .neq (.t 15) (.c (.nilp))),cP 17 142 [.t 16,cI 50],oM 6 17] .ret) (sr [oD 19 .eql 9 6,oM 18 19] (.cond (.t 18) (sr [oA 20 0 3,oLa 21 3 2 20,oA 22 3 5,oL 23 5 22,cP 24 171 [.t 21,.t 23],oD 25 .geq 24 0,cP 26 142 [.t 25,cI 50],oM 6 26] .ret) (sr [oD 28 .eql 9 7,oM 27 28] (.cond (.t 27) (sr [oA 29 0 3,oLa 30 3 2 29,oA 31 3 5,oL 32 5 31,cP 33 109 [.t 30,.t 32],oM 7 33] (.seq (sr [oM 34 7,oD 35 .lss 34 0] (.cond (.t 35) (sr [oZ 6 50] .ret) .skip)) (sr [oA 36 0 3,oA 37 1 36,oL 38 3 37,oM 39 7,oI 40 4 38 39,oA 41 2 40,oH 42 41,oY 43 42,oA 44 4 5,oL 45 5 44,oY 46 45,oP 47 .eql 43 46,cP 48 142 [.t 47,cI 51],oM 6 48] .ret))) .skip)))))))) (sr [oZ 6 0] .ret)))⟩
theorem ok167:zh Tryz.prog Tryz.f167 F167=true:=by kernel_rfl
def L168_0:ICode:= .loop [1,3,6,13,14,15] [9]
 (sr [
 oP 16 .lss 15 14]
 (.seq
 (.cond (.t 16)
 .skip
 (.exit 0))
 (.seq
 (.block 1
 (sr [
 oI 17 5 13 15,
 oW 18 5 17,
 oO 9 (.boxL 9 (.c (.agg [.int .i64 0,.int .i64 0,.int .i64 0,.str [],.slice .fit 5 []]))),
 oS 9 5 9 18]
 (sr [
 oLa 20 3 2 3,
 oM 21 1,
 oLa 22 9 5 9,
 cF 23 141 [.t 20,.t 21,.t 22],
 oM 19 23,
 oX 24 19 0,
 oX 25 19 1,
 oM 10 24,
 oM 11 25]
 (.seq
 (sr [
 oM 26 11,
 oD 27 .neq 26 0]
 (.cond (.t 27)
 (sr [
 oM 28 11,
 oC 6 (.slice .fit 1 []),
 oM 7 28]
 .ret)
 .skip))
 (.region [
 oE 29 6,
 oM 30 10,
 oO 31 (.bslice 1 (.int .i64 0) 1 [(0,(.t 30))]),
 oO 32 (.append 1 8 (.t 29) (.t 31)),
 oE 6 32])))))
 (.region [
 oD 33 .add 15 1,
 oM 15 33]))))
abbrev K168_0:List Nat:=[1,3,13,14]
abbrev B168_0:List Nat:=[3]
def F168:IFn:=⟨35,3,[.tmp 6,.tmp 7],false,false,(sr [oO 3 (.boxL 3 (.t 0)),oO 5 (.boxL 5 (.t 2)),oC 6 (.slice .fit 1 []),oZ 7 0] (.seq (sr [oA 12 4 5,oL 13 5 12,oY 14 13,oZ 15 0] (.block 0 L168_0)) (sr [oE 34 6,oE 6 34,oZ 7 0] .ret)))⟩
theorem ok168:zh Tryz.prog Tryz.f168 F168=true:=by kernel_rfl
def F188:IFn:=⟨25,2,[.tmp 4,.tmp 5],false,false,(sr [oZ 4 0,oC 5 bF] (.seq (sr [oM 6 0] (.block 0 (.seq (sr [oD 8 .eql 6 18,oM 7 8] (.cond (.t 7) .skip (sr [oD 9 .eql 6 19,oM 7 9] (.cond (.t 7) .skip (.region [oD 10 .eql 6 22,oM 7 10]))))) (.cond (.t 7) (sr [oM 11 1,oD 12 .eql 11 2,oZ 4 2,oM 5 12] .ret) (.seq (sr [oD 14 .eql 6 16,oM 13 14] (.cond (.t 13) .skip (.region [oD 15 .eql 6 17,oM 13 15]))) (.cond (.t 13) (sr [oZ 4 2,oC 5 bT] .ret) (.seq (sr [oD 17 .eql 6 12,oM 16 17] (.cond (.t 16) .skip (sr [oD 18 .eql 6 13,oM 16 18] (.cond (.t 16) .skip (sr [oD 19 .eql 6 14,oM 16 19] (.cond (.t 16) .skip (.region [oD 20 .eql 6 15,oM 16 20]))))))) (.cond (.t 16) (sr [oM 21 1,oD 22 .eql 21 1,oZ 4 2,oM 5 22] .ret) .skip)))))))) (sr [oM 23 1,oD 24 .eql 23 1,oZ 4 1,oM 5 24] .ret)))⟩
theorem ok188:zh Tryz.prog Tryz.f188 F188=true:=by kernel_rfl
def L189_0:ICode:= .loop [1,2,15,16,17] [9]
 (sr [
 oP 18 .lss 17 16]
 (.seq
 (.cond (.t 18)
 .skip
 (.exit 0))
 (.seq
 (.block 1
 (sr [
 oM 19 17,
 oI 20 1 15 17,
 oG 21 20,
 oM 7 19,
 oM 8 21]
 (sr [
 oM 22 1,
 oM 23 7,
 oI 24 2 22 23,
 oW 25 2 24,
 oO 9 (.boxL 9 (.c (.agg [.str [],.int .i64 0]))),
 oS 9 2 9 25]
 (sr [
 oM 26 2,
 oM 27 8,
 oLa 28 9 2 9,
 oO 29 (.call false (.t 26) [.t 27,.t 28]),
 oU 30 29]
 (.cond (.t 30)
 (sr [
 oC 6 bF]
 .ret)
 .skip)))))
 (.region [
 oD 31 .add 17 1,
 oM 17 31]))))
abbrev K189_0:List Nat:=[1,2,15,16]
abbrev B189_0:List Nat:=[]
def F189:IFn:=⟨32,3,[.tmp 6],false,false,(sr [oC 6 bF] (.seq (sr [oM 10 0,oY 11 10,oM 12 1,oY 13 12,oP 14 .neq 11 13] (.cond (.t 14) (sr [oC 6 bF] .ret) .skip)) (.seq (sr [oE 15 0,oY 16 15,oZ 17 0] (.block 0 L189_0)) (sr [oC 6 bT] .ret))))⟩
theorem ok189:zh Tryz.prog Tryz.f189 F189=true:=by kernel_rfl
def F190:IFn:=⟨9,2,[.tmp 4],false,false,(sr [oO 3 (.boxL 3 (.t 1)),oC 4 bF] (sr [oM 5 0,oA 6 1 3,oL 7 3 6,oP 8 .eql 5 7,oM 4 8] .ret))⟩
theorem ok190:zh Tryz.prog Tryz.f190 F190=true:=by kernel_rfl
def F169:IFn:=⟨83,4,[.tmp 8,.tmp 9],false,false,(sr [oO 4 (.boxL 4 (.t 0)),oO 6 (.boxL 6 (.t 2)),oZ 8 0,oC 9 bF] (.seq (sr [oA 13 0 6,oL 14 6 13] (.block 0 (sr [oD 16 .eql 14 2,oM 15 16] (.cond (.t 15) (sr [oZ 8 2,oC 9 bT] .ret) (sr [oD 18 .eql 14 3,oM 17 18] (.cond (.t 17) (sr [oM 19 1,oA 20 3 6,oL 21 6 20,cF 22 170 [.t 19,.t 21],oK 23 22,oA 24 0 23,oA 25 1 24,oG 26 25,oM 8 26,oC 9 bT] .ret) (sr [oD 28 .eql 14 6,oM 27 28] (.cond (.t 27) (sr [oE 29 3,oO 30 (.iaddr 1 (.t 29) (cI 0)),oH 31 30,oD 32 .eql 31 1,oZ 8 1,oM 9 32] .ret) (sr [oD 34 .eql 14 4,oM 33 34] (.cond (.t 33) (sr [oA 35 1 6,oL 36 6 35,oE 37 3,oO 38 (.iaddr 1 (.t 37) (cI 0)),oH 39 38,cP 40 188 [.t 36,.t 39],oX 41 40 0,oX 42 40 1,oM 8 41,oM 9 42] .ret) (sr [oD 44 .eql 14 5,oM 43 44] (.cond (.t 43) (sr [oA 46 1 6,oL 47 6 46,oM 48 3,oO 49 (.iaddr 1 (.t 48) (cI 0)),oH 50 49,cP 51 188 [.t 47,.t 50],oM 45 51,oX 52 45 0,oX 53 45 1,oM 10 52,oM 11 53] (sr [oM 54 10,oM 55 11,oM 56 55,oTm 56 57 3,oT 56 58 (.iaddr 1 (.t 57) (cI 0)),oT 56 59 (.load .imm false 1 (.t 58)),oTm 56 60 3,oT 56 61 (.iaddr 1 (.t 60) (cI 1)),oT 56 62 (.load .imm false 1 (.t 61)),oT 56 63 (.bin 0 [] .eql (.t 59) (.t 62)),oO 64 (.pick (.t 56) (.t 63) (.c bF)),oM 8 54,oM 9 64] .ret)) (sr [oD 66 .eql 14 7,oM 65 66] (.cond (.t 65) (sr [oA 67 0 4,oA 68 1 67,oL 69 4 68,oA 70 0 4,oLa 71 4 2 70,oA 72 3 6,oL 73 6 72,cP 74 109 [.t 71,.t 73],oI 75 4 69 74,oO 76 (.load .imm true 4 (.t 75)),oO 12 (.boxL 12 (.c (.agg [.str [],.int .i64 0,.slice .fit 2 [],.slice .fit 6 []]))),oS 12 4 12 76] (sr [oA 77 1 12,oL 78 12 77,oE 79 3,oA 80 2 12,oL 81 12 80,cF 82 189 [(.t 79),(.t 81),(.c (.fn 190 [] []))],oM 8 78,oM 9 82] .ret)) .skip)))))))))))))) (sr [oZ 8 1,oC 9 bT] .ret)))⟩
theorem ok169:zh Tryz.prog Tryz.f169 F169=true:=by kernel_rfl
def F141:IFn:=⟨41,3,[.tmp 6,.tmp 7],false,false,(sr [oO 3 (.boxL 3 (.t 0)),oO 5 (.boxL 5 (.t 2)),oZ 6 0,oZ 7 0] (.seq (sr [oLa 13 3 2 3,oM 14 1,oLa 15 5 5 5,cF 16 167 [.t 13,.t 14,.t 15],oM 8 16] (sr [oM 17 8,oD 18 .neq 17 0] (.cond (.t 18) (sr [oM 19 8,oZ 6 0,oM 7 19] .ret) .skip))) (sr [oLa 21 3 2 3,oM 22 1,oLa 23 5 5 5,cF 24 168 [.t 21,.t 22,.t 23],oM 20 24,oX 25 20 0,oX 26 20 1,oE 9 25,oM 10 26] (.seq (sr [oM 27 10,oD 28 .neq 27 0] (.cond (.t 28) (sr [oM 29 10,oZ 6 0,oM 7 29] .ret) .skip)) (sr [oLa 31 3 2 3,oM 32 1,oLa 33 5 5 5,oE 34 9,cF 35 169 [.t 31,.t 32,.t 33,.t 34],oM 30 35,oX 36 30 0,oX 37 30 1,oM 11 36,oM 12 37] (.seq (sr [oM 38 12,oU 39 38] (.cond (.t 39) (sr [oZ 6 0,oZ 7 51] .ret) .skip)) (sr [oM 40 11,oM 6 40,oZ 7 0] .ret)))))))⟩
theorem ok141:zh Tryz.prog Tryz.f141 F141=true:=by kernel_rfl
def F140:IFn:=⟨28,4,[.tmp 8],false,false,(sr [oO 6 (.boxL 6 (.t 2)),oZ 8 0] (sr [oM 12 0,oK 13 12,oA 14 0 13,oW 15 2 14,oM 16 1,oLa 17 6 5 6,cF 18 141 [.t 15,.t 16,.t 17],oM 11 18,oX 19 11 0,oX 20 11 1,oM 9 19,oM 10 20] (.seq (sr [oM 21 10,oD 22 .neq 21 0] (.cond (.t 22) (sr [oM 23 10,oM 8 23] .ret) .skip)) (sr [oM 24 9,oM 25 3,oP 26 .eql 24 25,cP 27 142 [.t 26,cI 51],oM 8 27] .ret))))⟩
theorem ok140:zh Tryz.prog Tryz.f140 F140=true:=by kernel_rfl
def F143:IFn:=⟨98,4,[.tmp 8],false,false,(sr [oO 5 (.boxL 5 (.t 1)),oZ 8 0] (sr [oM 12 2,oA 13 2 5,oL 14 5 13,cF 15 170 [.t 12,.t 14],oM 9 15] (.seq (.block 0 (sr [oA 17 0 5,oL 18 5 17,oD 19 .eql 18 1,oM 16 19] (.cond (.t 16) (.seq (sr [oM 20 0,oM 21 2,oA 22 3 5,oL 23 5 22,oO 24 (.iaddr 5 (.t 23) (cI 0)),oO 25 (.load .imm true 5 (.t 24)),oA 26 1 5,oL 27 5 26,cF 28 140 [.t 20,.t 21,.t 25,.t 27],oM 10 28] (sr [oM 29 10,oD 30 .neq 29 0] (.cond (.t 30) (sr [oM 31 10,oM 8 31] .ret) .skip))) (sr [oM 32 9,oO 33 (.bin 3 [] .eql (.t 32) (.c (.nilp))),oM 34 33,oFm 34 35 9,oF 34 36 (.nilck (.t 35)),oF 34 37 (.faddr 3 (.t 36)),oF 34 38 (.load .any false 1 (.t 37)),oFm 34 39 3,oF 34 40 (.bin 0 [] .lss (.t 38) (.t 39)),oO 41 (.pick (.t 34) (.c bT) (.t 40)),cP 42 142 [.t 41,cI 50],oM 8 42] .ret)) (.seq (sr [oA 44 0 5,oL 45 5 44,oD 46 .eql 45 2,oM 47 46,oTm 47 48 9,oT 47 49 (.bin 3 [] .eql (.t 48) (.c (.nilp))),oO 50 (.pick (.t 47) (.t 49) (.c bF)),oM 43 50] (.cond (.t 43) .skip (.region [oA 51 0 5,oL 52 5 51,oD 53 .eql 52 3,oM 54 53,oTm 54 55 0,oT 54 56 (.nilck (.t 55)),oT 54 57 (.faddr 0 (.t 56)),oT 54 58 (.faddr 0 (.t 57)),oT 54 59 (.load .any true 2 (.t 58)),oT 54 60 (.faddr 2 (.t 5)),oT 54 61 (.load (.box 5) false 1 (.t 60)),oT 54 62 (pP 171 [.t 59,.t 61]),oT 54 63 (.bin 0 [] .lss (.t 62) (cI 0)),oO 64 (.pick (.t 54) (.t 63) (.c bF)),oM 43 64]))) (.cond (.t 43) (sr [oZ 8 50] .ret) (sr [oA 66 0 5,oL 67 5 66,oD 68 .eql 67 2,oM 65 68] (.cond (.t 65) (sr [oM 69 0,oM 70 2,oA 71 3 5,oL 72 5 71,oO 73 (.iaddr 5 (.t 72) (cI 0)),oO 74 (.load .imm true 5 (.t 73)),oM 75 9,oK 76 75,oA 77 0 76,oA 78 1 77,oH 79 78,cF 80 140 [.t 69,.t 70,.t 74,.t 79],oM 8 80] .ret) .skip))))))) (.seq (sr [oM 81 0,oM 82 2,oA 83 3 5,oL 84 5 83,oO 85 (.iaddr 5 (.t 84) (cI 0)),oW 86 5 85,cF 87 140 [.t 81,.t 82,.t 86,cI 1],oM 11 87] (sr [oM 88 11,oD 89 .neq 88 0] (.cond (.t 89) (sr [oM 90 11,oM 8 90] .ret) .skip))) (sr [oM 91 0,oM 92 2,oA 93 3 5,oL 94 5 93,oO 95 (.iaddr 5 (.t 94) (cI 1)),oW 96 5 95,cF 97 140 [.t 91,.t 92,.t 96,cI 1],oM 8 97] .ret)))))⟩
theorem ok143:zh Tryz.prog Tryz.f143 F143=true:=by kernel_rfl
def F110:IFn:=⟨73,5,[.tmp 10],false,false,(sr [oO 6 (.boxL 6 (.t 1)),oZ 10 0] (.seq (sr [oA 13 0 6,oL 14 6 13] (.block 0 (.seq (sr [oD 16 .eql 14 4,oM 15 16] (.cond (.t 15) .skip (.region [oD 17 .eql 14 5,oM 15 17]))) (.cond (.t 15) (sr [oM 18 0,oM 19 2,oA 20 3 6,oL 21 6 20,oO 22 (.iaddr 5 (.t 21) (cI 0)),oW 23 5 22,cF 24 140 [.t 18,.t 19,.t 23,cI 2],oM 10 24] .ret) (sr [oD 26 .eql 14 8,oM 25 26] (.cond (.t 25) (sr [oM 27 0,oM 28 2,oA 29 3 6,oL 30 6 29,oO 31 (.iaddr 5 (.t 30) (cI 0)),oO 32 (.load .imm true 5 (.t 31)),oM 33 0,oK 34 33,oA 35 2 34,oG 36 35,cF 37 140 [.t 27,.t 28,.t 32,.t 36],oM 10 37] .ret) (sr [oD 39 .eql 14 9,oM 38 39] (.cond (.t 38) (sr [oM 40 0,oM 41 2,oA 42 3 6,oL 43 6 42,oO 44 (.iaddr 5 (.t 43) (cI 0)),oW 45 5 44,cF 46 140 [.t 40,.t 41,.t 45,cI 1],oM 10 46] .ret) (sr [oD 48 .eql 14 10,oM 47 48] (.cond (.t 47) (sr [oM 50 0,oK 51 50,oA 52 0 51,oW 53 2 52,oM 54 2,oA 55 3 6,oL 56 6 55,oO 57 (.iaddr 5 (.t 56) (cI 0)),oO 58 (.load .imm true 5 (.t 57)),cF 59 141 [.t 53,.t 54,.t 58],oM 49 59,oX 60 49 0,oX 61 49 1,oM 11 60,oM 12 61] (sr [oM 62 12,oM 10 62] .ret)) (.seq (sr [oD 64 .eql 14 6,oM 63 64] (.cond (.t 63) .skip (.region [oD 65 .eql 14 7,oM 63 65]))) (.cond (.t 63) (sr [oM 66 4,cP 67 142 [.t 66,cI 53],oM 10 67] .ret) .skip)))))))))))) (sr [oM 68 0,oLa 69 6 6 6,oM 70 2,oM 71 3,cF 72 143 [.t 68,.t 69,.t 70,.t 71],oM 10 72] .ret)))⟩
theorem ok110:zh Tryz.prog Tryz.f110 F110=true:=by kernel_rfl
def F111:IFn:=⟨12,3,[.tmp 6],false,false,(sr [oO 4 (.boxL 4 (.t 1)),oC 6 (.nilp)] (sr [oLa 7 4 2 4,oM 8 0,oM 9 2,oO 10 (.build [.str [],.int .i64 0,.nilp,.int .i64 0] [(0,2,(.t 7)),(2,1,(.t 8)),(3,1,(.t 9))]),oO 11 (.boxI (.t 10)),oM 6 11] .ret))⟩
theorem ok111:zh Tryz.prog Tryz.f111 F111=true:=by kernel_rfl
def L84_0:ICode:= .loop [0,2,3,4,16,17,18] [12]
 (sr [
 oP 19 .lss 18 17]
 (.seq
 (.cond (.t 19)
 .skip
 (.exit 0))
 (.seq
 (.block 1
 (sr [
 oI 20 6 16 18,
 oW 21 6 20,
 oO 12 (.boxL 12 (.c (.agg [.int .i64 0,.int .i64 0,.str [],.slice .fit 5 [],.slice .fit 6 [],.slice .fit 6 []]))),
 oS 12 6 12 21]
 (.seq
 (sr [
 oM 22 0,
 oLa 23 12 6 12,
 oM 24 2,
 oM 25 3,
 oM 26 4,
 cF 27 110 [.t 22,.t 23,.t 24,.t 25,.t 26],
 oM 13 27]
 (sr [
 oM 28 13,
 oD 29 .neq 28 0]
 (.cond (.t 29)
 (sr [
 oM 30 13,
 oM 10 30]
 .ret)
 .skip)))
 (sr [
 oM 31 0,
 oK 32 31,
 oA 33 3 32,
 oG 34 33,
 oD 35 .add 34 1,
 oK 36 31,
 oA 37 3 36,
 oV 37 35]
 (.seq
 (sr [
 oA 38 0 12,
 oL 39 12 38,
 oD 40 .eql 39 1]
 (.cond (.t 40)
 (.region [
 oM 41 2,
 oA 42 2 12,
 oL 43 12 42,
 oA 44 1 12,
 oL 45 12 44,
 oO 46 (.build [.str [],.int .i64 0] [(0,1,(.t 43)),(1,1,(.t 45))]),
 oM 47 3,
 cF 48 111 [.t 41,.t 46,.t 47],
 oM 2 48])
 .skip))
 (.seq
 (sr [
 oM 49 0,
 oA 50 4 12,
 oL 51 12 50,
 oM 52 2,
 oM 53 3,
 oD 54 .add 53 1,
 oM 55 4,
 oM 56 55,
 oF 56 57 (.faddr 0 (.t 12)),
 oF 56 58 (.load (.box 12) false 1 (.t 57)),
 oF 56 59 (.bin 0 [] .eql (.t 58) (cI 5)),
 oO 60 (.pick (.t 56) (.c bT) (.t 59)),
 cF 61 84 [.t 49,.t 51,.t 52,.t 54,.t 60],
 oM 14 61]
 (sr [
 oM 62 14,
 oD 63 .neq 62 0]
 (.cond (.t 63)
 (sr [
 oM 64 14,
 oM 10 64]
 .ret)
 .skip)))
 (sr [
 oM 65 0,
 oA 66 5 12,
 oL 67 12 66,
 oM 68 2,
 oM 69 3,
 oD 70 .add 69 1,
 oM 71 4,
 cF 72 84 [.t 65,.t 67,.t 68,.t 70,.t 71],
 oM 15 72]
 (sr [
 oM 73 15,
 oD 74 .neq 73 0]
 (.cond (.t 74)
 (sr [
 oM 75 15,
 oM 10 75]
 .ret)
 .skip)))))))))
 (.region [
 oD 76 .add 18 1,
 oM 18 76]))))
abbrev K84_0:List Nat:=[0,3,4,16,17]
abbrev B84_0:List Nat:=[]
def F84:IFn:=⟨77,5,[.tmp 10],false,false,(sr [oZ 10 0] (.seq (sr [oE 16 1,oY 17 16,oZ 18 0] (.block 0 L84_0)) (sr [oZ 10 0] .ret)))⟩
theorem ok84:zh Tryz.prog Tryz.f84 F84=true:=by kernel_rfl
def L85_0:ICode:= .loop [2,5,6,7] [4]
 (sr [
 oP 8 .lss 7 6]
 (.seq
 (.cond (.t 8)
 .skip
 (.exit 0))
 (.seq
 (.block 1
 (sr [
 oI 9 2 5 7,
 oW 10 2 9,
 oO 4 (.boxL 4 (.c (.agg [.str [],.int .i64 0]))),
 oS 4 2 4 10]
 (.region [
 oM 11 2,
 oLa 12 4 2 4,
 cF 13 111 [.t 11,.t 12,cI 0],
 oM 2 13])))
 (.region [
 oD 14 .add 7 1,
 oM 7 14]))))
abbrev K85_0:List Nat:=[5,6]
abbrev B85_0:List Nat:=[]
def F85:IFn:=⟨16,1,[.tmp 2],false,false,(sr [oC 2 (.nilp)] (.seq (sr [oE 5 0,oY 6 5,oZ 7 0] (.block 0 L85_0)) (sr [oM 15 2,oM 2 15] .ret)))⟩
theorem ok85:zh Tryz.prog Tryz.f85 F85=true:=by kernel_rfl
def F145:IFn:=⟨21,1,[.tmp 2],false,false,(sr [oO 1 (.boxL 1 (.t 0)),oC 2 bF] (sr [oA 3 0 1,oL 4 1 3,oD 5 .eql 4 6,oM 6 5,oF 6 7 (.faddr 0 (.t 1)),oF 6 8 (.load (.box 1) false 1 (.t 7)),oF 6 9 (.bin 0 [] .eql (.t 8) (cI 4)),oFm 6 10 9,oT 10 11 (.faddr 4 (.t 1)),oT 10 12 (.load (.box 1) false 1 (.t 11)),oT 10 13 (pP 114 [.t 12]),oTm 10 14 13,oF 14 15 (.faddr 5 (.t 1)),oF 14 16 (.load (.box 1) false 1 (.t 15)),oF 14 17 (pP 114 [.t 16]),oT 10 18 (.pick (.t 14) (.c bT) (.t 17)),oF 6 19 (.pick (.t 10) (.t 18) (.c bF)),oO 20 (.pick (.t 6) (.c bT) (.t 19)),oM 2 20] .ret))⟩
theorem ok145:zh Tryz.prog Tryz.f145 F145=true:=by kernel_rfl
def F114:IFn:=⟨5,1,[.tmp 2],false,false,(sr [oC 2 bF] (sr [oE 3 0,cF 4 112 [(.t 3),(.c (.fn 145 [] []))],oM 2 4] .ret))⟩
theorem ok114:zh Tryz.prog Tryz.f114 F114=true:=by kernel_rfl
def F113:IFn:=⟨39,1,[.tmp 2],false,false,(sr [oO 1 (.boxL 1 (.t 0)),oC 2 bF] (.seq (sr [oA 3 0 1,oL 4 1 3] (.block 0 (sr [oD 6 .eql 4 8,oM 5 6] (.cond (.t 5) (sr [oC 2 bT] .ret) (sr [oD 8 .eql 4 4,oM 7 8] (.cond (.t 7) (sr [oA 9 4 1,oL 10 1 9,cP 11 86 [.t 10],oM 12 11,oT 12 13 (.faddr 5 (.t 1)),oT 12 14 (.load (.box 1) false 1 (.t 13)),oT 12 15 (pP 86 [.t 14]),oO 16 (.pick (.t 12) (.t 15) (.c bF)),oM 2 16] .ret) (sr [oD 18 .eql 4 5,oM 17 18] (.cond (.t 17) (sr [oA 19 3 1,oL 20 1 19,oO 21 (.iaddr 5 (.t 20) (cI 0)),oA 22 0 21,oG 23 22,oD 24 .eql 23 2,oM 25 24,oT 25 26 (.faddr 3 (.t 1)),oT 25 27 (.load (.box 1) false 1 (.t 26)),oT 25 28 (.iaddr 5 (.t 27) (cI 0)),oT 25 29 (.faddr 2 (.t 28)),oT 25 30 (.load .any false 1 (.t 29)),oT 25 31 (.bin 0 [] .eql (.t 30) (cI 1)),oO 32 (.pick (.t 25) (.t 31) (.c bF)),oM 33 32,oT 33 34 (.faddr 4 (.t 1)),oT 33 35 (.load (.box 1) false 1 (.t 34)),oT 33 36 (pP 114 [.t 35]),oT 33 37 (.un .not (.t 36)),oO 38 (.pick (.t 33) (.t 37) (.c bF)),oM 2 38] .ret) .skip)))))))) (sr [oC 2 bF] .ret)))⟩
theorem ok113:zh Tryz.prog Tryz.f113 F113=true:=by kernel_rfl
def F86:IFn:=⟨5,1,[.tmp 2],false,false,(sr [oC 2 bF] (sr [oE 3 0,cF 4 112 [(.t 3),(.c (.fn 113 [] []))],oM 2 4] .ret))⟩
theorem ok86:zh Tryz.prog Tryz.f86 F86=true:=by kernel_rfl
def L51_0:ICode:= .loop [1,3,19,20,21] [5]
 (sr [
 oP 22 .lss 21 20]
 (.seq
 (.cond (.t 22)
 .skip
 (.exit 1))
 (.seq
 (.block 2
 (sr [
 oM 23 21,
 oI 24 4 19 21,
 oW 25 4 24,
 oO 5 (.boxL 5 (.c (.agg [.str [],.int .i64 0,.slice .fit 2 [],.slice .fit 6 []]))),
 oM 4 23,
 oS 5 4 5 25]
 (.seq
 (sr [
 oA 26 2 5,
 oL 27 5 26,
 cP 28 83 [.t 27]]
 (.cond (.t 28)
 (sr [
 oM 29 4,
 oO 30 (.build [.int .i64 0,.int .i64 0] [(0,1,(.t 29)),(1,1,(cI 0))]),
 oZ 2 50,
 oS 3 2 3 30]
 .ret)
 .skip))
 (sr [
 oLa 31 1 2 1,
 oO 32 (.build [.slice .fit 2 [],.slice .fit 4 []] [(0,2,(.t 31))]),
 oA 33 1 5,
 oL 34 5 33,
 oO 35 (.build [.slice .fit 2 [],.slice .fit 4 [],.int .i64 0,.int .i64 0] [(0,2,(.t 32)),(2,1,(.t 34))]),
 oO 36 (.boxS 4 (.t 35)),
 oM 6 36]
 (sr [
 oM 37 6,
 oA 38 3 5,
 oL 39 5 38,
 oA 40 2 5,
 oL 41 5 40,
 cP 42 85 [.t 41],
 cF 43 84 [.t 37,.t 39,.t 42,cI 1,.c bF],
 oM 7 43]
 (.seq
 (sr [
 oM 44 7,
 oD 45 .eql 44 0,
 oM 46 45,
 oT 46 47 (.faddr 3 (.t 5)),
 oT 46 48 (.load (.box 5) false 1 (.t 47)),
 oT 46 49 (pP 86 [.t 48]),
 oT 46 50 (.un .not (.t 49)),
 oO 51 (.pick (.t 46) (.t 50) (.c bF))]
 (.cond (.t 51)
 (.region [
 oZ 7 52])
 .skip))
 (sr [
 oM 52 7,
 oD 53 .neq 52 0]
 (.cond (.t 53)
 (sr [
 oM 54 7,
 oM 55 4,
 oM 56 6,
 oK 57 56,
 oA 58 3 57,
 oG 59 58,
 oO 60 (.build [.int .i64 0,.int .i64 0] [(0,1,(.t 55)),(1,1,(.t 59))]),
 oM 2 54,
 oS 3 2 3 60]
 .ret)
 .skip))))))))
 (.region [
 oD 61 .add 21 1,
 oM 21 61]))))
abbrev K51_0:List Nat:=[1,3,19,20]
abbrev B51_0:List Nat:=[1]
def F51:IFn:=⟨63,1,[.tmp 2,.cell 3 true 2],true,false,(sr [oO 1 (.boxL 1 (.t 0)),oZ 2 0,oO 3 (.boxL 3 (.c (.agg [.int .i64 0,.int .i64 0])))] (.seq (.block 0 (sr [oLa 9 1 2 1,cP 10 81 [.t 9],oU 11 10,oM 8 11] (.cond (.t 8) (sr [oO 12 (.build [.int .i64 0,.int .i64 0] []),oZ 2 1,oS 3 2 3 12] .ret) (sr [oLa 14 1 2 1,cP 15 82 [.t 14],oU 16 15,oM 13 16] (.cond (.t 13) (sr [oO 17 (.build [.int .i64 0,.int .i64 0] []),oZ 2 50,oS 3 2 3 17] .ret) .skip))))) (.seq (sr [oA 18 1 1,oL 19 1 18,oY 20 19,oZ 21 0] (.block 1 L51_0)) (sr [oO 62 (.build [.int .i64 0,.int .i64 0] []),oZ 2 0,oS 3 2 3 62] .ret))))⟩
theorem ok51:zh Tryz.prog Tryz.f51 F51=true:=by kernel_rfl
def F115:IFn:=⟨7,1,[.tmp 1],false,false,(sr [oC 1 (.str [])] (sr [oG 2 0,oD 3 .add 2 1,oV 0 3] (sr [oG 4 0,cP 5 78 [.t 4],oB 6 .add (.c (.str [118])) (.t 5),oM 1 6] .ret)))⟩
theorem ok115:zh Tryz.prog Tryz.f115 F115=true:=by kernel_rfl
def F87:IFn:=⟨3,0,[.tmp 0],false,false,(sr [oC 0 (.nilfn)] (sr [oO 1 (.boxS 1 (.c (.int .i64 0))),oN (.store .any 1 (.t 1) (cI (-1)))] (sr [oO 2 (.mkfn 115 [] [.t 1]),oM 0 2] .ret)))⟩
theorem ok87:zh Tryz.prog Tryz.f87 F87=true:=by kernel_rfl
def L117_0:ICode:= .loop [0,1,9,10] []
 (sr [
 oP 11 .lss 10 9]
 (.seq
 (.cond (.t 11)
 .skip
 (.exit 0))
 (.seq
 (.block 1
 (sr [
 oM 12 10,
 oM 5 12]
 (.seq
 (sr [
 oM 13 1,
 oM 14 5,
 oI 15 5 13 14,
 oA 16 0 15,
 oG 17 16,
 oD 18 .eql 17 3]
 (.cond (.t 18)
 (.region [
 oM 19 1,
 oM 20 5,
 oM 21 0,
 oM 22 1,
 oM 23 5,
 oI 24 5 22 23,
 oA 25 3 24,
 oG 26 25,
 oO 27 (.lookup true false (.str []) (.t 21) (.t 26)),
 oI 28 5 19 20,
 oA 29 3 28,
 oV 29 27])
 .skip))
 (.region [
 oM 30 1,
 oM 31 5,
 oM 32 0,
 oM 33 1,
 oM 34 5,
 oI 35 5 33 34,
 oA 36 4 35,
 oG 37 36,
 cF 38 117 [.t 32,.t 37],
 oI 39 5 30 31,
 oA 40 4 39,
 oV 40 38]))))
 (.region [
 oD 41 .add 10 1,
 oM 10 41]))))
abbrev K117_0:List Nat:=[0,1,9]
abbrev B117_0:List Nat:=[]
def F117:IFn:=⟨43,2,[.tmp 4],true,false,(sr [oC 4 (.slice .fit 5 [])] (sr [oE 6 1,cF 7 91 [.t 6],oE 1 7] (.seq (sr [oM 8 1,oY 9 8,oZ 10 0] (.block 0 L117_0)) (sr [oE 42 1,oE 4 42] .ret))))⟩
theorem ok117:zh Tryz.prog Tryz.f117 F117=true:=by kernel_rfl
def L89_0:ICode:= .loop [0,1,2,14,15] []
 (sr [
 oP 16 .lss 15 14]
 (.seq
 (.cond (.t 16)
 .skip
 (.exit 0))
 (.seq
 (.block 1
 (sr [
 oM 17 15,
 oM 7 17]
 (sr [
 oM 18 1,
 oM 19 7,
 oI 20 6 18 19,
 oM 8 20]
 (sr [
 oM 21 8,
 oM 22 0,
 oM 23 8,
 oK 24 23,
 oA 25 3 24,
 oG 26 25,
 cF 27 117 [.t 22,.t 26],
 oK 28 21,
 oA 29 3 28,
 oV 29 27]
 (.seq
 (sr [
 oM 30 8,
 oK 31 30,
 oA 32 0 31,
 oG 33 32]
 (.block 2
 (sr [
 oD 35 .eql 33 1,
 oM 34 35]
 (.cond (.t 34)
 (sr [
 oM 36 0,
 oM 37 8,
 oK 38 37,
 oA 39 2 38,
 oO 40 (.loadB false 1 (.t 39)),
 oM 41 2,
 oO 42 (.callK (.t 41) []),
 oN (.mapset true (.t 36) (.t 40) (.t 42))]
 (.region [
 oM 43 8,
 oM 44 0,
 oM 45 8,
 oK 46 45,
 oA 47 2 46,
 oG 48 47,
 oO 49 (.lookup true false (.str []) (.t 44) (.t 48)),
 oK 50 43,
 oA 51 2 50,
 oV 51 49]))
 (sr [
 oD 53 .eql 33 2,
 oM 52 53]
 (.cond (.t 52)
 (.region [
 oM 54 8,
 oM 55 0,
 oM 56 8,
 oK 57 56,
 oA 58 2 57,
 oG 59 58,
 oO 60 (.lookup true false (.str []) (.t 55) (.t 59)),
 oK 61 54,
 oA 62 2 61,
 oV 62 60])
 .skip))))))
 (.region [
 oM 63 8,
 oM 64 8,
 oM 65 0,
 oM 66 8,
 oK 67 66,
 oA 68 4 67,
 oO 69 (.loadB false 1 (.t 68)),
 oM 70 2,
 oO 71 (.callK (.c (.fn 89 [] [])) [.t 65,.t 69,.t 70]),
 oM 72 0,
 oM 73 8,
 oK 74 73,
 oA 75 5 74,
 oO 76 (.loadB false 1 (.t 75)),
 oM 77 2,
 oO 78 (.callK (.c (.fn 89 [] [])) [.t 72,.t 76,.t 77]),
 oK 79 63,
 oA 80 4 79,
 oV 80 71,
 oK 81 64,
 oA 82 5 81,
 oV 82 78]))))))
 (.region [
 oD 83 .add 15 1,
 oM 15 83]))))
abbrev K89_0:List Nat:=[0,1,2,14]
abbrev B89_0:List Nat:=[]
def F89:IFn:=⟨85,3,[.tmp 6],true,false,(sr [oC 6 (.slice .fit 6 [])] (sr [oM 9 0,cF 10 116 [.t 9],oE 11 1,cF 12 54 [.t 11],oM 0 10,oE 1 12] (.seq (sr [oM 13 1,oY 14 13,oZ 15 0] (.block 0 L89_0)) (sr [oE 84 1,oE 6 84] .ret))))⟩
theorem ok89:zh Tryz.prog Tryz.f89 F89=true:=by kernel_rfl
def L53_0:ICode:= .loop [1,2,3,4,14,15,16] [6]
 (sr [
 oP 17 .lss 16 15]
 (.seq
 (.cond (.t 17)
 .skip
 (.exit 0))
 (.seq
 (.block 1
 (sr [
 oM 18 16,
 oI 19 2 14 16,
 oW 20 2 19,
 oO 6 (.boxL 6 (.c (.agg [.str [],.int .i64 0]))),
 oM 5 18,
 oS 6 2 6 20]
 (sr [
 oM 21 3,
 oA 22 0 6,
 oL 23 6 22,
 oM 24 4,
 oO 25 (.call false (.t 24) []),
 oN (.mapset true (.t 21) (.t 23) (.t 25))]
 (.region [
 oA 26 2 1,
 oL 27 1 26,
 oM 28 5,
 oM 29 3,
 oA 30 0 6,
 oL 31 6 30,
 oO 32 (.lookup true false (.str []) (.t 29) (.t 31)),
 oI 33 2 27 28,
 oA 34 0 33,
 oV 34 32]))))
 (.region [
 oD 35 .add 16 1,
 oM 16 35]))))
abbrev K53_0:List Nat:=[1,2,3,4,14,15]
abbrev B53_0:List Nat:=[1,2]
def F53:IFn:=⟨43,1,[.cell 2 true 4],false,false,(sr [oO 1 (.boxL 1 (.t 0)),oO 2 (.boxL 2 (.c (.agg [.str [],.int .i64 0,.slice .fit 2 [],.slice .fit 6 []])))] (sr [oO 7 (.mkmap),cF 8 87 [],oM 3 7,oM 4 8] (sr [oA 9 2 1,oL 10 1 9,cF 11 88 [.t 10],oA 12 2 1,oS 1 1 12 11] (.seq (sr [oA 13 2 1,oL 14 1 13,oY 15 14,oZ 16 0] (.block 0 L53_0)) (sr [oM 36 3,oA 37 3 1,oL 38 1 37,oM 39 4,cF 40 89 [.t 36,.t 38,.t 39],oA 41 3 1,oS 1 1 41 40] (sr [oLa 42 1 4 1,oS 2 4 2 42] .ret))))))⟩
theorem ok53:zh Tryz.prog Tryz.f53 F53=true:=by kernel_rfl
def L27_0:ICode:= .loop [2,21,22,23] [7]
 (sr [
 oP 24 .lss 23 22]
 (.seq
 (.cond (.t 24)
 .skip
 (.exit 0))
 (.seq
 (.block 1
 (sr [
 oI 25 4 21 23,
 oW 26 4 25,
 oO 7 (.boxL 7 (.c (.agg [.str [],.int .i64 0,.slice .fit 2 [],.slice .fit 6 []]))),
 oS 7 4 7 26]
 (.region [
 oA 27 1 2,
 oO 28 (.loadT (.box 2) (.t 27)),
 oLa 29 7 4 7,
 cF 30 53 [.t 29],
 oO 31 (.bslice 4 (.agg [.str [],.int .i64 0,.slice .fit 2 [],.slice .fit 6 []]) 1 [(0,(.t 30))]),
 oO 32 (.appendS 4 72 (.t 28) (.t 31)),
 oA 33 1 2,
 oS 2 1 33 32])))
 (.region [
 oD 34 .add 23 1,
 oM 23 34]))))
abbrev K27_0:List Nat:=[2,21,22]
abbrev B27_0:List Nat:=[]
def F27:IFn:=⟨36,1,[.cell 2 true 2,.tmp 3],false,false,(sr [oO 1 (.boxL 1 (.t 0)),oO 2 (.boxL 2 (.c (.agg [.slice .fit 2 [],.slice .fit 4 []]))),oZ 3 0] (.seq (sr [oLa 9 1 2 1,cP 10 51 [.t 9],oM 8 10,oX 11 8 0,oX 12 8 1,oO 5 (.boxL 5 (.c (.agg [.int .i64 0,.int .i64 0]))),oM 4 11,oS 5 2 5 12] (sr [oM 13 4,oD 14 .neq 13 0] (.cond (.t 14) (sr [oLa 15 2 2 2,oS 2 2 2 15,oZ 3 1] .ret) .skip))) (sr [oA 16 0 1,oL 17 1 16,cF 18 52 [.t 17],oA 19 0 2,oS 2 1 19 18] (.seq (sr [oA 20 1 1,oL 21 1 20,oY 22 21,oZ 23 0] (.block 0 L27_0)) (sr [oLa 35 2 2 2,oS 2 2 2 35,oZ 3 0] .ret)))))⟩
theorem ok27:zh Tryz.prog Tryz.f27 F27=true:=by kernel_rfl
def L28_0:ICode:= .loop [2,5,6,7] [4]
 (sr [
 oP 8 .lss 7 6]
 (.seq
 (.cond (.t 8)
 .skip
 (.exit 0))
 (.seq
 (.block 1
 (sr [
 oI 9 6 5 7,
 oW 10 6 9,
 oO 4 (.boxL 4 (.c (.agg [.int .i64 0,.int .i64 0,.str [],.slice .fit 5 [],.slice .fit 6 [],.slice .fit 6 []]))),
 oS 4 6 4 10]
 (.seq
 (sr [
 oA 11 0 4,
 oL 12 4 11,
 oD 13 .eql 12 1]
 (.cond (.t 13)
 (.region [
 oM 14 2,
 oD 15 .add 14 1,
 oM 2 15])
 .skip))
 (.region [
 oM 16 2,
 oA 17 4 4,
 oL 18 4 17,
 cP 19 28 [.t 18],
 oA 20 5 4,
 oL 21 4 20,
 cP 22 28 [.t 21],
 oP 23 .add 19 22,
 oP 24 .add 16 23,
 oM 2 24]))))
 (.region [
 oD 25 .add 7 1,
 oM 7 25]))))
abbrev K28_0:List Nat:=[5,6]
abbrev B28_0:List Nat:=[]
def F28:IFn:=⟨27,1,[.tmp 2],false,false,(sr [oZ 2 0] (.seq (sr [oE 5 0,oY 6 5,oZ 7 0] (.block 0 L28_0)) (sr [oM 26 2,oM 2 26] .ret)))⟩
theorem ok28:zh Tryz.prog Tryz.f28 F28=true:=by kernel_rfl
def F55:IFn:=⟨17,2,[.tmp 4],false,false,(sr [oC 4 (.str [])] (sr [oM 8 1,oO 9 (.slc true 0 (.t 8) (some (cI 1)) none none),cP 10 90 [.t 9],oM 7 10,oX 11 7 0,oX 12 7 1,oM 5 11,oM 6 12] (sr [oE 13 0,oM 14 5,oI 15 1 13 14,oG 16 15,oM 4 16] .ret)))⟩
theorem ok55:zh Tryz.prog Tryz.f55 F55=true:=by kernel_rfl
def L56_0:ICode:= .loop [0,1,9,10,11] [6]
 (sr [
 oP 12 .lss 11 10]
 (.seq
 (.cond (.t 12)
 .skip
 (.exit 0))
 (.seq
 (.block 1
 (sr [
 oM 13 11,
 oI 14 5 9 11,
 oW 15 5 14,
 oO 6 (.boxL 6 (.c (.agg [.int .i64 0,.int .i64 0,.int .i64 0,.str [],.slice .fit 5 []]))),
 oM 5 13,
 oS 6 5 6 15]
 (.seq
 (sr [
 oA 16 0 6,
 oL 17 6 16,
 oD 18 .eql 17 3]
 (.cond (.t 18)
 (.region [
 oM 19 1,
 oM 20 5,
 oM 21 0,
 oA 22 3 6,
 oL 23 6 22,
 cP 24 55 [.t 21,.t 23],
 oI 25 5 19 20,
 oA 26 3 25,
 oV 26 24])
 .skip))
 (.region [
 oM 27 1,
 oM 28 5,
 oM 29 0,
 oA 30 4 6,
 oL 31 6 30,
 cP 32 56 [.t 29,.t 31],
 oI 33 5 27 28,
 oA 34 4 33,
 oV 34 32]))))
 (.region [
 oD 35 .add 11 1,
 oM 11 35]))))
abbrev K56_0:List Nat:=[0,1,9,10]
abbrev B56_0:List Nat:=[]
def F56:IFn:=⟨37,2,[.tmp 4],true,false,(sr [oC 4 (.slice .fit 5 [])] (sr [oE 7 1,cF 8 91 [.t 7],oE 1 8] (.seq (sr [oM 9 1,oY 10 9,oZ 11 0] (.block 0 L56_0)) (sr [oE 36 1,oE 4 36] .ret))))⟩
theorem ok56:zh Tryz.prog Tryz.f56 F56=true:=by kernel_rfl
def L29_0:ICode:= .loop [0,1,9,10,11] [6]
 (sr [
 oP 12 .lss 11 10]
 (.seq
 (.cond (.t 12)
 .skip
 (.exit 0))
 (.seq
 (.block 1
 (sr [
 oM 13 11,
 oI 14 6 9 11,
 oW 15 6 14,
 oO 6 (.boxL 6 (.c (.agg [.int .i64 0,.int .i64 0,.str [],.slice .fit 5 [],.slice .fit 6 [],.slice .fit 6 []]))),
 oM 5 13,
 oS 6 6 6 15]
 (.seq
 (sr [
 oA 16 0 6,
 oL 17 6 16,
 oD 18 .eql 17 1,
 oM 19 18,
 oF 19 20 (.faddr 0 (.t 6)),
 oF 19 21 (.load (.box 6) false 1 (.t 20)),
 oF 19 22 (.bin 0 [] .eql (.t 21) (cI 2)),
 oO 23 (.pick (.t 19) (.c bT) (.t 22))]
 (.cond (.t 23)
 (.region [
 oM 24 1,
 oM 25 5,
 oM 26 0,
 oA 27 2 6,
 oL 28 6 27,
 cP 29 55 [.t 26,.t 28],
 oI 30 6 24 25,
 oA 31 2 30,
 oV 31 29])
 .skip))
 (.region [
 oM 32 1,
 oM 33 5,
 oM 34 1,
 oM 35 5,
 oM 36 1,
 oM 37 5,
 oM 38 0,
 oA 39 3 6,
 oL 40 6 39,
 cP 41 56 [.t 38,.t 40],
 oM 42 0,
 oA 43 4 6,
 oL 44 6 43,
 cP 45 29 [.t 42,.t 44],
 oM 46 0,
 oA 47 5 6,
 oL 48 6 47,
 cP 49 29 [.t 46,.t 48],
 oI 50 6 32 33,
 oA 51 3 50,
 oV 51 41,
 oI 52 6 34 35,
 oA 53 4 52,
 oV 53 45,
 oI 54 6 36 37,
 oA 55 5 54,
 oV 55 49]))))
 (.region [
 oD 56 .add 11 1,
 oM 11 56]))))
abbrev K29_0:List Nat:=[0,1,9,10]
abbrev B29_0:List Nat:=[]
def F29:IFn:=⟨58,2,[.tmp 4],true,false,(sr [oC 4 (.slice .fit 6 [])] (sr [oE 7 1,cF 8 54 [.t 7],oE 1 8] (.seq (sr [oM 9 1,oY 10 9,oZ 11 0] (.block 0 L29_0)) (sr [oE 57 1,oE 4 57] .ret))))⟩
theorem ok29:zh Tryz.prog Tryz.f29 F29=true:=by kernel_rfl
def L12_0:ICode:= .loop [1,2,6,7,20,21,44,45] []
 (sr [
 oP 46 .lss 45 44]
 (.seq
 (.cond (.t 46)
 .skip
 (.exit 2))
 (.seq
 (.block 3
 (sr [
 oM 47 45,
 oM 8 47]
 (.region [
 oM 48 6,
 oK 49 48,
 oA 50 2 49,
 oG 51 50,
 oM 52 8,
 oM 53 7,
 oM 54 8,
 oI 55 1 53 54,
 oH 56 55,
 oI 57 2 51 52,
 oA 58 0 57,
 oV 58 56])))
 (.region [
 oD 59 .add 45 1,
 oM 45 59]))))
def L12_1:ICode:= .loop [1,2,20,21] []
 (sr [
 oP 22 .lss 21 20]
 (.seq
 (.cond (.t 22)
 .skip
 (.exit 0))
 (.seq
 (.block 1
 (sr [
 oM 23 21,
 oM 5 23]
 (sr [
 oA 24 1 1,
 oL 25 1 24,
 oM 26 5,
 oI 27 4 25 26,
 oM 6 27]
 (sr [
 oM 28 6,
 oK 29 28,
 oA 30 2 29,
 oG 31 30,
 oY 32 31,
 oM 33 6,
 oK 34 33,
 oA 35 3 34,
 oG 36 35,
 cP 37 28 [.t 36],
 oP 38 .add 32 37,
 cP 39 22 [.t 38],
 oE 7 39]
 (.seq
 (sr [
 oM 40 6,
 oK 41 40,
 oA 42 2 41,
 oG 43 42,
 oY 44 43,
 oZ 45 0]
 (.block 2
 L12_0))
 (.region [
 oM 60 6,
 oE 61 7,
 oM 62 6,
 oK 63 62,
 oA 64 3 63,
 oG 65 64,
 cP 66 29 [.t 61,.t 65],
 oK 67 60,
 oA 68 3 67,
 oV 68 66]))))))
 (.region [
 oD 69 .add 21 1,
 oM 21 69]))))
abbrev K12_0:List Nat:=[1,2,6,7,20,21,44]
abbrev B12_0:List Nat:=[1,2]
abbrev K12_1:List Nat:=[1,2,20]
abbrev B12_1:List Nat:=[1,2]
def F12:IFn:=⟨71,1,[.cell 2 true 2,.tmp 3],true,true,(sr [oO 1 (.boxL 1 (.t 0)),oO 2 (.boxL 2 (.c (.agg [.slice .fit 2 [],.slice .fit 4 []]))),oZ 3 0] (sr [oLa 10 1 2 1,cF 11 27 [.t 10],oM 9 11,oX 12 9 0,oX 13 9 1,oS 1 2 1 12,oM 4 13] (.seq (sr [oM 14 4,oD 15 .neq 14 0] (.cond (.t 15) (sr [oO 16 (.build [.slice .fit 2 [],.slice .fit 4 []] []),oM 17 4,oS 2 2 2 16,oM 3 17] .ret) .skip)) (.seq (sr [oA 18 1 1,oL 19 1 18,oY 20 19,oZ 21 0] (.block 0 L12_1)) (sr [oLa 70 1 2 1,oS 2 2 2 70,oZ 3 0] .ret)))))⟩
theorem ok12:zh Tryz.prog Tryz.f12 F12=true:=by kernel_rfl
def F43:IFn:=⟨21,1,[.tmp 2],false,false,(sr [oC 2 bF] (sr [oM 3 0,oB 4 .geq (.t 3) (.c (.int .u8 97)),oM 5 4,oTm 5 6 0,oT 5 7 (.bin 0 [] .leq (.t 6) (.c (.int .u8 122))),oO 8 (.pick (.t 5) (.t 7) (.c bF)),oM 9 8,oFm 9 10 0,oF 9 11 (.bin 0 [] .geq (.t 10) (.c (.int .u8 65))),oFm 9 12 11,oTm 12 13 0,oT 12 14 (.bin 0 [] .leq (.t 13) (.c (.int .u8 90))),oF 9 15 (.pick (.t 12) (.t 14) (.c bF)),oO 16 (.pick (.t 9) (.c bT) (.t 15)),oM 17 16,oFm 17 18 0,oF 17 19 (.bin 0 [] .eql (.t 18) (.c (.int .u8 95))),oO 20 (.pick (.t 17) (.c bT) (.t 19)),oM 2 20] .ret))⟩
theorem ok43:zh Tryz.prog Tryz.f43 F43=true:=by kernel_rfl
def F44:IFn:=⟨23,1,[.tmp 2],false,false,(sr [oC 2 bF] (.seq (sr [oM 3 0] (.block 0 (.seq (sr [oB 5 .eql (.t 3) (.c (.str [105,110,116])),oM 4 5] (.cond (.t 4) .skip (sr [oB 6 .eql (.t 3) (.c (.str [98,111,111,108])),oM 4 6] (.cond (.t 4) .skip (sr [oB 7 .eql (.t 3) (.c (.str [105,102])),oM 4 7] (.cond (.t 4) .skip (sr [oB 8 .eql (.t 3) (.c (.str [101,108,115,101])),oM 4 8] (.cond (.t 4) .skip (sr [oB 9 .eql (.t 3) (.c (.str [119,104,105,108,101])),oM 4 9] (.cond (.t 4) .skip (sr [oB 10 .eql (.t 3) (.c (.str [98,114,101,97,107])),oM 4 10] (.cond (.t 4) .skip (sr [oB 11 .eql (.t 3) (.c (.str [99,111,110,116,105,110,117,101])),oM 4 11] (.cond (.t 4) .skip (sr [oB 12 .eql (.t 3) (.c (.str [114,101,116,117,114,110])),oM 4 12] (.cond (.t 4) .skip (sr [oB 13 .eql (.t 3) (.c (.str [112,114,105,110,116])),oM 4 13] (.cond (.t 4) .skip (sr [oB 14 .eql (.t 3) (.c (.str [114,101,97,100])),oM 4 14] (.cond (.t 4) .skip (sr [oB 15 .eql (.t 3) (.c (.str [116,114,117,101])),oM 4 15] (.cond (.t 4) .skip (sr [oB 16 .eql (.t 3) (.c (.str [102,97,108,115,101])),oM 4 16] (.cond (.t 4) .skip (sr [oB 17 .eql (.t 3) (.c (.str [105,56])),oM 4 17] (.cond (.t 4) .skip (sr [oB 18 .eql (.t 3) (.c (.str [105,49,54])),oM 4 18] (.cond (.t 4) .skip (sr [oB 19 .eql (.t 3) (.c (.str [105,51,50])),oM 4 19] (.cond (.t 4) .skip (sr [oB 20 .eql (.t 3) (.c (.str [117,56])),oM 4 20] (.cond (.t 4) .skip (sr [oB 21 .eql (.t 3) (.c (.str [117,49,54])),oM 4 21] (.cond (.t 4) .skip (.region [oB 22 .eql (.t 3) (.c (.str [117,51,50])),oM 4 22]))))))))))))))))))))))))))))))))))) (.cond (.t 4) (sr [oC 2 bT] .ret) .skip)))) (sr [oC 2 bF] .ret)))⟩
theorem ok44:zh Tryz.prog Tryz.f44 F44=true:=by kernel_rfl
def F45:IFn:=⟨9,1,[.tmp 2],false,false,(sr [oC 2 bF] (sr [oM 3 0,oB 4 .geq (.t 3) (.c (.int .u8 48)),oM 5 4,oTm 5 6 0,oT 5 7 (.bin 0 [] .leq (.t 6) (.c (.int .u8 57))),oO 8 (.pick (.t 5) (.t 7) (.c bF)),oM 2 8] .ret))⟩
theorem ok45:zh Tryz.prog Tryz.f45 F45=true:=by kernel_rfl
def L20_0:ICode:= .loop [0,3] []
 (.seq
 (sr [
 oM 21 3,
 oM 22 0,
 oO 23 (.len 0 (.t 22)),
 oP 24 .lss 21 23]
 (.cond (.t 24)
 .skip
 (.exit 0)))
 (.seq
 (.block 1
 (sr [
 oM 27 0,
 oM 28 3,
 oO 29 (.idxS (.t 27) (.t 28)),
 cP 30 43 [.t 29],
 oU 31 30,
 oM 32 31,
 oTm 32 33 0,
 oTm 32 34 3,
 oT 32 35 (.idxS (.t 33) (.t 34)),
 oT 32 36 (pP 45 [.t 35]),
 oT 32 37 (.un .not (.t 36)),
 oO 38 (.pick (.t 32) (.t 37) (.c bF))]
 (.cond (.t 38)
 (sr [
 oC 2 bF]
 .ret)
 .skip)))
 (.region [
 oM 25 3,
 oD 26 .add 25 1,
 oM 3 26])))
abbrev K20_0:List Nat:=[0]
abbrev B20_0:List Nat:=[]
def F20:IFn:=⟨39,1,[.tmp 2],false,false,(sr [oC 2 bF] (.seq (sr [oM 4 0,oB 5 .eql (.t 4) (.c (.str [])),oM 6 5,oFm 6 7 0,oF 6 8 (.len 0 (.t 7)),oF 6 9 (.bin 0 [] .gtr (.t 8) (cI 20)),oO 10 (.pick (.t 6) (.c bT) (.t 9)),oM 11 10,oFm 11 12 0,oF 11 13 (.idxS (.t 12) (cI 0)),oF 11 14 (pP 43 [.t 13]),oF 11 15 (.un .not (.t 14)),oO 16 (.pick (.t 11) (.c bT) (.t 15)),oM 17 16,oFm 17 18 0,oF 17 19 (pP 44 [.t 18]),oO 20 (.pick (.t 17) (.c bT) (.t 19))] (.cond (.t 20) (sr [oC 2 bF] .ret) .skip)) (.seq (sr [oZ 3 0] (.block 0 L20_0)) (sr [oC 2 bT] .ret))))⟩
theorem ok20:zh Tryz.prog Tryz.f20 F20=true:=by kernel_rfl
def L59_0:ICode:= .loop [0,3,4] []
 (.seq
 (sr [
 oM 6 4,
 oM 7 0,
 oO 8 (.len 0 (.t 7)),
 oP 9 .lss 6 8]
 (.cond (.t 9)
 .skip
 (.exit 0)))
 (.seq
 (.block 1
 (sr [
 oM 12 0,
 oM 13 4,
 oO 14 (.idxS (.t 12) (.t 13)),
 oO 15 (.conv .i64 (.t 14)),
 oD 16 .sub 15 48,
 oM 5 16]
 (.seq
 (sr [
 oM 17 3,
 oM 18 5,
 oB 19 .sub (cI 9223372036854775807) (.t 18),
 oD 20 .quo 19 10,
 oP 21 .gtr 17 20]
 (.cond (.t 21)
 (sr [
 oO 2 (.mv (cI (-1)))]
 .ret)
 .skip))
 (.region [
 oM 22 3,
 oD 23 .mul 22 10,
 oM 24 5,
 oP 25 .add 23 24,
 oM 3 25]))))
 (.region [
 oM 10 4,
 oD 11 .add 10 1,
 oM 4 11])))
abbrev K59_0:List Nat:=[0]
abbrev B59_0:List Nat:=[]
def F59:IFn:=⟨39,1,[.tmp 2],false,false,(sr [oZ 2 0] (sr [oZ 3 0] (.seq (sr [oZ 4 0] (.block 0 L59_0)) (.seq (sr [oM 26 0,oB 27 .eql (.t 26) (.c (.str [])),oM 28 27,oFm 28 29 0,oF 28 30 (.len 0 (.t 29)),oF 28 31 (.bin 0 [] .gtr (.t 30) (cI 1)),oFm 28 32 31,oTm 32 33 0,oT 32 34 (.idxS (.t 33) (cI 0)),oT 32 35 (.bin 0 [] .eql (.t 34) (.c (.int .u8 48))),oF 28 36 (.pick (.t 32) (.t 35) (.c bF)),oO 37 (.pick (.t 28) (.c bT) (.t 36))] (.cond (.t 37) (sr [oO 2 (.mv (cI (-1)))] .ret) .skip)) (sr [oM 38 3,oM 2 38] .ret)))))⟩
theorem ok59:zh Tryz.prog Tryz.f59 F59=true:=by kernel_rfl
def L61_0:ICode:= .loop [0,3] []
 (.seq
 (sr [
 oM 4 3,
 oM 5 0,
 oO 6 (.len 0 (.t 5)),
 oP 7 .lss 4 6]
 (.cond (.t 7)
 .skip
 (.exit 0)))
 (.seq
 (.block 1
 (sr [
 oM 10 0,
 oM 11 3,
 oO 12 (.idxS (.t 10) (.t 11)),
 cP 13 45 [.t 12],
 oU 14 13]
 (.cond (.t 14)
 (sr [
 oC 2 bF]
 .ret)
 .skip)))
 (.region [
 oM 8 3,
 oD 9 .add 8 1,
 oM 3 9])))
abbrev K61_0:List Nat:=[0]
abbrev B61_0:List Nat:=[]
def F61:IFn:=⟨18,1,[.tmp 2],false,false,(sr [oC 2 bF] (.seq (sr [oZ 3 0] (.block 0 L61_0)) (sr [oM 15 0,cP 16 59 [.t 15],oD 17 .geq 16 0,oM 2 17] .ret)))⟩
theorem ok61:zh Tryz.prog Tryz.f61 F61=true:=by kernel_rfl
def L62_0:ICode:= .loop [0,3,4] []
 (.seq
 (sr [
 oM 6 4,
 oM 7 3,
 oY 8 7,
 oP 9 .lss 6 8]
 (.cond (.t 9)
 .skip
 (.exit 0)))
 (.seq
 (.block 1
 (sr [
 oM 12 3,
 oM 13 4,
 oI 14 1 12 13,
 oH 15 14,
 oO 16 (.len 0 (.t 15)),
 oM 17 0,
 oO 18 (.len 0 (.t 17)),
 oP 19 .leq 16 18,
 oM 20 19,
 oTm 20 21 0,
 oTm 20 22 3,
 oTm 20 23 4,
 oT 20 24 (.iaddr 1 (.t 22) (.t 23)),
 oT 20 25 (.load .imm false 1 (.t 24)),
 oT 20 26 (.len 0 (.t 25)),
 oT 20 27 (.slc true 0 (.t 21) none (some (.t 26)) none),
 oTm 20 28 3,
 oTm 20 29 4,
 oT 20 30 (.iaddr 1 (.t 28) (.t 29)),
 oT 20 31 (.load .imm false 1 (.t 30)),
 oT 20 32 (.bin 0 [] .eql (.t 27) (.t 31)),
 oO 33 (.pick (.t 20) (.t 32) (.c bF))]
 (.cond (.t 33)
 (sr [
 oE 34 3,
 oM 35 4,
 oI 36 1 34 35,
 oG 37 36,
 oM 2 37]
 .ret)
 .skip)))
 (.region [
 oM 10 4,
 oD 11 .add 10 1,
 oM 4 11])))
abbrev K62_0:List Nat:=[0,3]
abbrev B62_0:List Nat:=[]
def F62:IFn:=⟨38,1,[.tmp 2],false,false,(sr [oC 2 (.str [])] (sr [oO 5 (.bslice 1 (.str []) 30 [(0,(.c (.str [62,62,62]))),(1,(.c (.str [60,60]))),(2,(.c (.str [62,62]))),(3,(.c (.str [60,61]))),(4,(.c (.str [62,61]))),(5,(.c (.str [61,61]))),(6,(.c (.str [33,61]))),(7,(.c (.str [38,38]))),(8,(.c (.str [124,124]))),(9,(.c (.str [40]))),(10,(.c (.str [41]))),(11,(.c (.str [123]))),(12,(.c (.str [125]))),(13,(.c (.str [91]))),(14,(.c (.str [93]))),(15,(.c (.str [44]))),(16,(.c (.str [59]))),(17,(.c (.str [61]))),(18,(.c (.str [60]))),(19,(.c (.str [62]))),(20,(.c (.str [43]))),(21,(.c (.str [45]))),(22,(.c (.str [42]))),(23,(.c (.str [47]))),(24,(.c (.str [37]))),(25,(.c (.str [38]))),(26,(.c (.str [124]))),(27,(.c (.str [94]))),(28,(.c (.str [126]))),(29,(.c (.str [33])))]),oE 3 5] (.seq (sr [oZ 4 0] (.block 0 L62_0)) (sr [oC 2 (.str [])] .ret))))⟩
theorem ok62:zh Tryz.prog Tryz.f62 F62=true:=by kernel_rfl
def L33_0:ICode:= .loop [0,5,6,7,8,9] []
 (.seq
 (sr [
 oM 19 7,
 oM 20 9,
 oP 21 .add 19 20,
 oM 22 0,
 oO 23 (.len 0 (.t 22)),
 oP 24 .lss 21 23,
 oM 25 24,
 oTm 25 26 0,
 oTm 25 27 7,
 oTm 25 28 9,
 oT 25 29 (.bin 0 [] .add (.t 27) (.t 28)),
 oT 25 30 (.idxS (.t 26) (.t 29)),
 oT 25 31 (pP 43 [.t 30]),
 oTm 25 32 31,
 oFm 32 33 0,
 oFm 32 34 7,
 oFm 32 35 9,
 oF 32 36 (.bin 0 [] .add (.t 34) (.t 35)),
 oF 32 37 (.idxS (.t 33) (.t 36)),
 oF 32 38 (pP 45 [.t 37]),
 oT 25 39 (.pick (.t 32) (.c bT) (.t 38)),
 oO 40 (.pick (.t 25) (.t 39) (.c bF))]
 (.cond (.t 40)
 .skip
 (.exit 2)))
 (.block 3
 (.region [
 oM 41 9,
 oD 42 .add 41 1,
 oM 9 42])))
def L33_1:ICode:= .loop [0,5,6,7] []
 (.seq
 (sr [
 oM 100 7,
 oM 101 0,
 oO 102 (.len 0 (.t 101)),
 oP 103 .lss 100 102,
 oM 104 103,
 oTm 104 105 0,
 oTm 104 106 7,
 oT 104 107 (.idxS (.t 105) (.t 106)),
 oT 104 108 (.bin 0 [] .neq (.t 107) (.c (.int .u8 10))),
 oO 109 (.pick (.t 104) (.t 108) (.c bF))]
 (.cond (.t 109)
 .skip
 (.exit 5)))
 (.block 6
 (.region [
 oM 110 7,
 oD 111 .add 110 1,
 oM 7 111])))
def L33_2:ICode:= .loop [0,5,6,7] [8]
 (.seq
 (sr [
 oM 13 7,
 oM 14 0,
 oO 15 (.len 0 (.t 14)),
 oP 16 .lss 13 15]
 (.cond (.t 16)
 .skip
 (.exit 0)))
 (.block 1
 (sr [
 oM 17 6,
 oO 18 (.build [.int .i64 0,.str [],.int .i64 0] [(2,1,(.t 17))]),
 oO 8 (.boxL 8 (.c (.agg [.int .i64 0,.str [],.int .i64 0]))),
 oS 8 3 8 18]
 (sr [
 oZ 9 0]
 (.seq
 (.block 2
 L33_0)
 (.seq
 (.block 4
 (sr [
 oM 54 0,
 oM 55 7,
 oO 56 (.idxS (.t 54) (.t 55)),
 oB 57 .eql (.t 56) (.c (.int .u8 10)),
 oM 53 57]
 (.cond (.t 53)
 (sr [
 oM 58 6,
 oD 59 .add 58 1,
 oM 6 59]
 (sr [
 oM 60 7,
 oD 61 .add 60 1,
 oM 7 61]
 (.exit 1)))
 (sr [
 oM 63 0,
 oM 64 7,
 oO 65 (.idxS (.t 63) (.t 64)),
 oB 66 .eql (.t 65) (.c (.int .u8 32)),
 oM 67 66,
 oFm 67 68 0,
 oFm 67 69 7,
 oF 67 70 (.idxS (.t 68) (.t 69)),
 oF 67 71 (.bin 0 [] .eql (.t 70) (.c (.int .u8 9))),
 oO 72 (.pick (.t 67) (.c bT) (.t 71)),
 oM 73 72,
 oFm 73 74 0,
 oFm 73 75 7,
 oF 73 76 (.idxS (.t 74) (.t 75)),
 oF 73 77 (.bin 0 [] .eql (.t 76) (.c (.int .u8 13))),
 oO 78 (.pick (.t 73) (.c bT) (.t 77)),
 oM 62 78]
 (.cond (.t 62)
 (sr [
 oM 79 7,
 oD 80 .add 79 1,
 oM 7 80]
 (.exit 1))
 (sr [
 oM 82 0,
 oM 83 7,
 oO 84 (.idxS (.t 82) (.t 83)),
 oB 85 .eql (.t 84) (.c (.int .u8 47)),
 oM 86 85,
 oTm 86 87 7,
 oT 86 88 (.bin 0 [] .add (.t 87) (cI 1)),
 oTm 86 89 0,
 oT 86 90 (.len 0 (.t 89)),
 oT 86 91 (.bin 0 [] .lss (.t 88) (.t 90)),
 oO 92 (.pick (.t 86) (.t 91) (.c bF)),
 oM 93 92,
 oTm 93 94 0,
 oTm 93 95 7,
 oT 93 96 (.bin 0 [] .add (.t 95) (cI 1)),
 oT 93 97 (.idxS (.t 94) (.t 96)),
 oT 93 98 (.bin 0 [] .eql (.t 97) (.c (.int .u8 47))),
 oO 99 (.pick (.t 93) (.t 98) (.c bF)),
 oM 81 99]
 (.cond (.t 81)
 (.seq
 (.block 5
 L33_1)
 (.exit 1))
 (sr [
 oM 113 9,
 oD 114 .gtr 113 0,
 oM 112 114]
 (.cond (.t 112)
 (sr [
 oM 115 0,
 oM 116 7,
 oM 117 7,
 oM 118 9,
 oP 119 .add 117 118,
 oO 120 (.slc true 0 (.t 115) (some (.t 116)) (some (.t 119)) none),
 oA 121 1 8,
 oS 8 1 121 120]
 (sr [
 oA 122 0 8,
 oN (.store (.box 8) 1 (.t 122) (cI 0))]
 (.seq
 (sr [
 oM 123 0,
 oM 124 7,
 oO 125 (.idxS (.t 123) (.t 124)),
 cP 126 43 [.t 125]]
 (.cond (.t 126)
 (.region [
 oA 127 0 8,
 oN (.store (.box 8) 1 (.t 127) (cI 1))])
 .skip))
 (.seq
 (sr [
 oA 128 1 8,
 oL 129 8 128,
 cP 130 44 [.t 129]]
 (.cond (.t 130)
 (.region [
 oA 131 0 8,
 oN (.store (.box 8) 1 (.t 131) (cI 2))])
 .skip))
 (sr [
 oA 132 0 8,
 oL 133 8 132,
 oD 134 .eql 133 1,
 oM 135 134,
 oT 135 136 (.faddr 1 (.t 8)),
 oT 135 137 (.load (.box 8) false 1 (.t 136)),
 oT 135 138 (pP 20 [.t 137]),
 oT 135 139 (.un .not (.t 138)),
 oO 140 (.pick (.t 135) (.t 139) (.c bF)),
 oM 141 140,
 oF 141 142 (.faddr 0 (.t 8)),
 oF 141 143 (.load (.box 8) false 1 (.t 142)),
 oF 141 144 (.bin 0 [] .eql (.t 143) (cI 0)),
 oFm 141 145 144,
 oT 145 146 (.faddr 1 (.t 8)),
 oT 145 147 (.load (.box 8) false 1 (.t 146)),
 oT 145 148 (pP 61 [.t 147]),
 oT 145 149 (.un .not (.t 148)),
 oF 141 150 (.pick (.t 145) (.t 149) (.c bF)),
 oO 151 (.pick (.t 141) (.c bT) (.t 150))]
 (.cond (.t 151)
 (sr [
 oM 152 6,
 oC 2 (.slice .fit 3 []),
 oZ 3 20,
 oM 4 152]
 .ret)
 .skip))))))
 (sr [
 oM 43 0,
 oM 44 7,
 oO 45 (.slc true 0 (.t 43) (some (.t 44)) none none),
 cP 46 62 [.t 45],
 oA 47 0 8,
 oN (.store (.box 8) 1 (.t 47) (cI 2)),
 oA 48 1 8,
 oS 8 1 48 46]
 (sr [
 oA 49 1 8,
 oL 50 8 49,
 oB 51 .eql (.t 50) (.c (.str []))]
 (.cond (.t 51)
 (sr [
 oM 52 6,
 oC 2 (.slice .fit 3 []),
 oZ 3 20,
 oM 4 52]
 .ret)
 .skip))))))))))))
 (sr [
 oM 153 7,
 oA 154 1 8,
 oL 155 8 154,
 oO 156 (.len 0 (.t 155)),
 oP 157 .add 153 156,
 oM 7 157]
 (.region [
 oE 158 5,
 oLa 159 8 3 8,
 oO 160 (.bslice 3 (.agg [.int .i64 0,.str [],.int .i64 0]) 1 [(0,(.t 159))]),
 oO 161 (.append 3 32 (.t 158) (.t 160)),
 oE 5 161]))))))))
abbrev K33_0:List Nat:=[0,5,6,7,8]
abbrev B33_0:List Nat:=[8]
abbrev K33_1:List Nat:=[0,5,6]
abbrev B33_1:List Nat:=[]
abbrev K33_2:List Nat:=[0]
abbrev B33_2:List Nat:=[]
def F33:IFn:=⟨167,1,[.tmp 2,.tmp 3,.tmp 4],false,false,(sr [oC 2 (.slice .fit 3 []),oZ 3 0,oZ 4 0] (.seq (sr [oM 10 0,oO 11 (.len 0 (.t 10)),oD 12 .gtr 11 100000] (.cond (.t 12) (sr [oC 2 (.slice .fit 3 []),oZ 3 2,oZ 4 0] .ret) .skip)) (sr [oC 5 (.slice .fit 3 [])] (sr [oZ 6 1,oZ 7 0] (.seq (.block 0 L33_2) (sr [oE 162 5,oM 163 6,oO 164 (.build [.int .i64 0,.str [],.int .i64 0] [(0,1,(cI 3)),(2,1,(.t 163))]),oO 165 (.bslice 3 (.agg [.int .i64 0,.str [],.int .i64 0]) 1 [(0,(.t 164))]),oO 166 (.append 3 32 (.t 162) (.t 165)),oE 2 166,oZ 3 0,oZ 4 0] .ret))))))⟩
theorem ok33:zh Tryz.prog Tryz.f33 F33=true:=by kernel_rfl
def F63:IFn:=⟨13,1,[.tmp 2],false,false,(sr [oC 2 bF] (sr [oM 3 0,oK 4 3,oA 5 2 4,oG 6 5,oM 7 6,oFm 7 8 0,oF 7 9 (.nilck (.t 8)),oF 7 10 (.faddr 3 (.t 9)),oF 7 11 (.load .any false 1 (.t 10)),oO 12 (.pick (.t 7) (.c bT) (.t 11)),oM 2 12] .ret))⟩
theorem ok63:zh Tryz.prog Tryz.f63 F63=true:=by kernel_rfl
def F94:IFn:=⟨37,2,[.tmp 4],false,false,(sr [oC 4 bF] (sr [oM 5 0,cF 6 63 [.t 5],oU 7 6,oM 8 7,oTm 8 9 0,oT 8 10 (.nilck (.t 9)),oT 8 11 (.faddr 0 (.t 10)),oT 8 12 (.load .any false 1 (.t 11)),oTm 8 13 0,oT 8 14 (.nilck (.t 13)),oT 8 15 (.faddr 1 (.t 14)),oT 8 16 (.load .any false 1 (.t 15)),oT 8 17 (.iaddr 3 (.t 12) (.t 16)),oT 8 18 (.faddr 0 (.t 17)),oT 8 19 (.load .imm false 1 (.t 18)),oT 8 20 (.bin 0 [] .eql (.t 19) (cI 2)),oO 21 (.pick (.t 8) (.t 20) (.c bF)),oM 22 21,oTm 22 23 0,oT 22 24 (.nilck (.t 23)),oT 22 25 (.faddr 0 (.t 24)),oT 22 26 (.load .any false 1 (.t 25)),oTm 22 27 0,oT 22 28 (.nilck (.t 27)),oT 22 29 (.faddr 1 (.t 28)),oT 22 30 (.load .any false 1 (.t 29)),oT 22 31 (.iaddr 3 (.t 26) (.t 30)),oT 22 32 (.faddr 1 (.t 31)),oT 22 33 (.load .imm false 1 (.t 32)),oTm 22 34 1,oT 22 35 (.bin 0 [] .eql (.t 33) (.t 34)),oO 36 (.pick (.t 22) (.t 35) (.c bF)),oM 4 36] .ret))⟩
theorem ok94:zh Tryz.prog Tryz.f94 F94=true:=by kernel_rfl
def F66:IFn:=⟨18,2,[.tmp 4],false,false,(sr [oC 4 bF] (sr [oM 6 0,oM 7 1,cF 8 94 [.t 6,.t 7],oM 5 8] (.seq (sr [oM 9 5] (.cond (.t 9) (.region [oM 10 0,oK 11 10,oA 12 1 11,oG 13 12,oD 14 .add 13 1,oK 15 10,oA 16 1 15,oV 16 14]) .skip)) (sr [oM 17 5,oM 4 17] .ret))))⟩
theorem ok66:zh Tryz.prog Tryz.f66 F66=true:=by kernel_rfl
def F67:IFn:=⟨18,2,[],false,false,(sr [oM 4 0,oM 5 1,cF 6 66 [.t 4,.t 5],oU 7 6,oM 8 7,oTm 8 9 0,oT 8 10 (.nilck (.t 9)),oT 8 11 (.faddr 3 (.t 10)),oT 8 12 (.load .any false 1 (.t 11)),oT 8 13 (.un .not (.t 12)),oO 14 (.pick (.t 8) (.t 13) (.c bF))] (.cond (.t 14) (.region [oM 15 0,oK 16 15,oA 17 2 16,oN (.store .any 1 (.t 17) (.c bT))]) .skip))⟩
theorem ok67:zh Tryz.prog Tryz.f67 F67=true:=by kernel_rfl
def F64:IFn:=⟨7,1,[.tmp 2],false,false,(sr [oZ 2 0] (.seq (sr [oM 3 0,cF 4 66 [(.t 3),(.c (.str [105,110,116]))]] (.cond (.t 4) (sr [oZ 2 1] .ret) .skip)) (sr [oM 5 0,cF 6 67 [(.t 5),(.c (.str [98,111,111,108]))]] (sr [oZ 2 2] .ret))))⟩
theorem ok64:zh Tryz.prog Tryz.f64 F64=true:=by kernel_rfl
def F65:IFn:=⟨34,2,[.tmp 4],false,false,(sr [oC 4 (.str [])] (.seq (sr [oM 6 0,cF 7 63 [.t 6]] (.cond (.t 7) (sr [oC 4 (.str [])] .ret) .skip)) (sr [oM 8 0,oK 9 8,oA 10 0 9,oG 11 10,oM 12 0,oK 13 12,oA 14 1 13,oG 15 14,oI 16 3 11 15,oO 17 (.load .imm true 3 (.t 16)),oO 5 (.boxL 5 (.c (.agg [.int .i64 0,.str [],.int .i64 0]))),oS 5 3 5 17] (.seq (sr [oA 18 0 5,oL 19 5 18,oM 20 1,oP 21 .neq 19 20] (.cond (.t 21) (sr [oM 22 0,oK 23 22,oA 24 2 23,oN (.store .any 1 (.t 24) (.c bT))] (sr [oC 4 (.str [])] .ret)) .skip)) (sr [oM 25 0,oK 26 25,oA 27 1 26,oG 28 27,oD 29 .add 28 1,oK 30 25,oA 31 1 30,oV 31 29] (sr [oA 32 1 5,oL 33 5 32,oM 4 33] .ret))))))⟩
theorem ok65:zh Tryz.prog Tryz.f65 F65=true:=by kernel_rfl
def F201:IFn:=⟨2,0,[.tmp 0],false,false,(sr [oC 0 (.slice .fit 1 [])] (sr [oO 1 (.bslice 1 (.str []) 28 [(0,(.c (.str [43]))),(1,(.c (.str [45]))),(2,(.c (.str [42]))),(3,(.c (.str [47]))),(4,(.c (.str [37]))),(5,(.c (.str [38]))),(6,(.c (.str [124]))),(7,(.c (.str [94]))),(8,(.c (.str [60,60]))),(9,(.c (.str [62,62]))),(10,(.c (.str [62,62,62]))),(11,(.c (.str [60]))),(12,(.c (.str [60,61]))),(13,(.c (.str [62]))),(14,(.c (.str [62,61]))),(15,(.c (.str [61,61]))),(16,(.c (.str [33,61]))),(17,(.c (.str [38,38]))),(18,(.c (.str [124,124]))),(19,(.c (.str [45]))),(20,(.c (.str [126]))),(21,(.c (.str [33]))),(22,(.c (.str [105,56]))),(23,(.c (.str [105,49,54]))),(24,(.c (.str [105,51,50]))),(25,(.c (.str [117,56]))),(26,(.c (.str [117,49,54]))),(27,(.c (.str [117,51,50])))]),oE 0 1] .ret))⟩
theorem ok201:zh Tryz.prog Tryz.f201 F201=true:=by kernel_rfl
def F194:IFn:=⟨14,1,[.tmp 2],false,false,(sr [oC 2 (.str [])] (.seq (sr [oM 3 0,oD 4 .lss 3 1,oM 5 4,oFm 5 6 0,oF 5 7 (.bin 0 [] .gtr (.t 6) (cI 28)),oO 8 (.pick (.t 5) (.c bT) (.t 7))] (.cond (.t 8) (sr [oC 2 (.str [])] .ret) .skip)) (sr [cP 9 201 [],oM 10 0,oD 11 .sub 10 1,oI 12 1 9 11,oG 13 12,oM 2 13] .ret)))⟩
theorem ok194:zh Tryz.prog Tryz.f194 F194=true:=by kernel_rfl
def L177_0:ICode:= .loop [0,1,5,6] []
 (.seq
 (sr [
 oM 9 6,
 oM 10 9,
 oFm 10 11 0,
 oF 10 12 (pF 66 [(.t 11),(.c (.str [44]))]),
 oO 13 (.pick (.t 10) (.c bT) (.t 12)),
 oM 14 13,
 oTm 14 15 0,
 oT 14 16 (pF 63 [.t 15]),
 oT 14 17 (.un .not (.t 16)),
 oO 18 (.pick (.t 14) (.t 17) (.c bF))]
 (.cond (.t 18)
 .skip
 (.exit 0)))
 (.seq
 (.block 1
 (.region [
 oE 19 5,
 oM 20 0,
 oM 21 1,
 cF 22 152 [.t 20,cI 1,.t 21],
 oO 23 (.bslice 5 (.agg [.int .i64 0,.int .i64 0,.int .i64 0,.str [],.slice .fit 5 []]) 1 [(0,(.t 22))]),
 oO 24 (.append 5 64 (.t 19) (.t 23)),
 oE 5 24]))
 (.region [
 oC 6 bF])))
abbrev K177_0:List Nat:=[0,1]
abbrev B177_0:List Nat:=[]
def F177:IFn:=⟨28,2,[.tmp 4],false,false,(sr [oC 4 (.slice .fit 5 [])] (sr [oC 5 (.slice .fit 5 [])] (.seq (sr [oM 7 0,cF 8 66 [(.t 7),(.c (.str [41]))]] (.cond (.t 8) (sr [oC 4 (.slice .fit 5 [])] .ret) .skip)) (.seq (sr [oC 6 bT] (.block 0 L177_0)) (sr [oM 25 0,cF 26 67 [(.t 25),(.c (.str [41]))]] (sr [oE 27 5,oE 4 27] .ret))))))⟩
theorem ok177:zh Tryz.prog Tryz.f177 F177=true:=by kernel_rfl
def F195:IFn:=⟨79,2,[.cell 4 true 5],false,false,(sr [oO 4 (.boxL 4 (.c (.agg [.int .i64 0,.int .i64 0,.int .i64 0,.str [],.slice .fit 5 []])))] (.seq (.block 0 (sr [oM 9 0,cF 10 63 [.t 9],oM 8 10] (.cond (.t 8) (sr [oO 11 (.build [.int .i64 0,.int .i64 0,.int .i64 0,.str [],.slice .fit 5 []] []),oS 4 5 4 11] .ret) (sr [oM 13 0,cF 14 66 [(.t 13),(.c (.str [40]))],oM 12 14] (.cond (.t 12) (sr [oM 15 0,oM 16 1,oD 17 .add 16 1,cF 18 152 [.t 15,cI 1,.t 17],oO 5 (.boxL 5 (.c (.agg [.int .i64 0,.int .i64 0,.int .i64 0,.str [],.slice .fit 5 []]))),oS 5 5 5 18] (sr [oM 19 0,cF 20 67 [(.t 19),(.c (.str [41]))]] (sr [oLa 21 5 5 5,oS 4 5 4 21] .ret))) (sr [oM 23 0,cF 24 66 [(.t 23),(.c (.str [116,114,117,101]))],oM 22 24] (.cond (.t 22) (sr [oO 25 (.build [.int .i64 0,.int .i64 0,.int .i64 0,.str [],.slice .fit 5 []] [(0,1,(cI 2)),(2,1,(cI 1))]),oS 4 5 4 25] .ret) (sr [oM 27 0,cF 28 66 [(.t 27),(.c (.str [102,97,108,115,101]))],oM 26 28] (.cond (.t 26) (sr [oO 29 (.build [.int .i64 0,.int .i64 0,.int .i64 0,.str [],.slice .fit 5 []] [(0,1,(cI 2))]),oS 4 5 4 29] .ret) (sr [oM 31 0,cF 32 66 [(.t 31),(.c (.str [114,101,97,100]))],oM 30 32] (.cond (.t 30) (sr [oM 33 0,cF 34 67 [(.t 33),(.c (.str [40]))]] (sr [oM 35 0,cF 36 67 [(.t 35),(.c (.str [41]))]] (sr [oO 37 (.build [.int .i64 0,.int .i64 0,.int .i64 0,.str [],.slice .fit 5 []] [(0,1,(cI 8))]),oS 4 5 4 37] .ret))) (sr [oM 39 0,oK 40 39,oA 41 0 40,oG 42 41,oM 43 0,oK 44 43,oA 45 1 44,oG 46 45,oI 47 3 42 46,oA 48 0 47,oH 49 48,oD 50 .eql 49 0,oM 38 50] (.cond (.t 38) (sr [oM 51 0,cF 52 65 [.t 51,cI 0],cP 53 59 [.t 52],oO 54 (.build [.int .i64 0,.int .i64 0,.int .i64 0,.str [],.slice .fit 5 []] [(0,1,(cI 1)),(2,1,(.t 53))]),oS 4 5 4 54] .ret) .skip))))))))))))) (sr [oM 55 0,cF 56 65 [.t 55,cI 1],oM 6 56] (.seq (sr [oM 57 0,cF 58 66 [(.t 57),(.c (.str [40]))]] (.cond (.t 58) (sr [oM 59 6,oM 60 0,oM 61 1,oD 62 .add 61 1,cF 63 177 [.t 60,.t 62],oO 64 (.build [.int .i64 0,.int .i64 0,.int .i64 0,.str [],.slice .fit 5 []] [(0,1,(cI 7)),(3,1,(.t 59)),(4,1,(.t 63))]),oS 4 5 4 64] .ret) .skip)) (.seq (sr [oM 65 0,cF 66 66 [(.t 65),(.c (.str [91]))]] (.cond (.t 66) (sr [oM 67 0,oM 68 1,oD 69 .add 68 1,cF 70 152 [.t 67,cI 1,.t 69],oO 7 (.boxL 7 (.c (.agg [.int .i64 0,.int .i64 0,.int .i64 0,.str [],.slice .fit 5 []]))),oS 7 5 7 70] (sr [oM 71 0,cF 72 67 [(.t 71),(.c (.str [93]))]] (sr [oM 73 6,oLa 74 7 5 7,oO 75 (.bslice 5 (.agg [.int .i64 0,.int .i64 0,.int .i64 0,.str [],.slice .fit 5 []]) 1 [(0,(.t 74))]),oO 76 (.build [.int .i64 0,.int .i64 0,.int .i64 0,.str [],.slice .fit 5 []] [(0,1,(cI 6)),(3,1,(.t 73)),(4,1,(.t 75))]),oS 4 5 4 76] .ret))) .skip)) (sr [oM 77 6,oO 78 (.build [.int .i64 0,.int .i64 0,.int .i64 0,.str [],.slice .fit 5 []] [(0,1,(cI 3)),(3,1,(.t 77))]),oS 4 5 4 78] .ret))))))⟩
theorem ok195:zh Tryz.prog Tryz.f195 F195=true:=by kernel_rfl
def L175_0:ICode:= .loop [0,1,4,5] [7]
 (.seq
 (sr [
 oM 20 5,
 oD 21 .leq 20 28]
 (.cond (.t 21)
 .skip
 (.exit 0)))
 (.seq
 (.block 1
 (sr [
 oM 24 5,
 cP 25 194 [.t 24],
 oM 6 25]
 (.seq
 (sr [
 oM 26 0,
 oM 27 6,
 cF 28 66 [.t 26,.t 27],
 oU 29 28]
 (.cond (.t 29)
 (.exit 1)
 .skip))
 (.seq
 (sr [
 oM 30 5,
 oD 31 .geq 30 23]
 (.cond (.t 31)
 (.region [
 oM 32 0,
 cF 33 67 [(.t 32),(.c (.str [40]))]])
 .skip))
 (sr [
 oO 7 (.boxL 7 (.c (.agg [.int .i64 0,.int .i64 0,.int .i64 0,.str [],.slice .fit 5 []])))]
 (.seq
 (sr [
 oM 34 5,
 oD 35 .geq 34 23]
 (.cond (.t 35)
 (sr [
 oM 36 0,
 oM 37 1,
 oD 38 .add 37 1,
 cF 39 152 [.t 36,cI 1,.t 38],
 oS 7 5 7 39]
 (.region [
 oM 40 0,
 cF 41 67 [(.t 40),(.c (.str [41]))]]))
 (.region [
 oM 42 0,
 oM 43 1,
 oD 44 .add 43 1,
 cF 45 175 [.t 42,.t 44],
 oS 7 5 7 45])))
 (sr [
 oM 46 5,
 oLa 47 7 5 7,
 oO 48 (.bslice 5 (.agg [.int .i64 0,.int .i64 0,.int .i64 0,.str [],.slice .fit 5 []]) 1 [(0,(.t 47))]),
 oO 49 (.build [.int .i64 0,.int .i64 0,.int .i64 0,.str [],.slice .fit 5 []] [(0,1,(cI 4)),(1,1,(.t 46)),(4,1,(.t 48))]),
 oS 4 5 4 49]
 .ret)))))))
 (.region [
 oM 22 5,
 oD 23 .add 22 1,
 oM 5 23])))
abbrev K175_0:List Nat:=[0,1,4]
abbrev B175_0:List Nat:=[]
def F175:IFn:=⟨53,2,[.cell 4 true 5],false,false,(sr [oO 4 (.boxL 4 (.c (.agg [.int .i64 0,.int .i64 0,.int .i64 0,.str [],.slice .fit 5 []])))] (.seq (sr [oM 8 1,oD 9 .gtr 8 100,oM 10 9,oTm 10 11 0,oT 10 12 (.nilck (.t 11)),oT 10 13 (.faddr 2 (.t 12)),oT 10 14 (.load .any false 1 (.t 13)),oT 10 15 (.un .not (.t 14)),oO 16 (.pick (.t 10) (.t 15) (.c bF))] (.cond (.t 16) (.region [oM 17 0,oK 18 17,oA 19 3 18,oN (.store .any 1 (.t 19) (.c bT))]) .skip)) (.seq (sr [oZ 5 20] (.block 0 L175_0)) (sr [oM 50 0,oM 51 1,cF 52 195 [.t 50,.t 51],oS 4 5 4 52] .ret))))⟩
theorem ok175:zh Tryz.prog Tryz.f175 F175=true:=by kernel_rfl
def F122:IFn:=⟨33,1,[.tmp 2],false,false,(sr [oZ 2 0] (.seq (sr [oM 3 0] (.block 0 (sr [oD 5 .eql 3 19,oM 4 5] (.cond (.t 4) (sr [oZ 2 1] .ret) (sr [oD 7 .eql 3 18,oM 6 7] (.cond (.t 6) (sr [oZ 2 2] .ret) (sr [oD 9 .eql 3 7,oM 8 9] (.cond (.t 8) (sr [oZ 2 3] .ret) (sr [oD 11 .eql 3 8,oM 10 11] (.cond (.t 10) (sr [oZ 2 4] .ret) (sr [oD 13 .eql 3 6,oM 12 13] (.cond (.t 12) (sr [oZ 2 5] .ret) (.seq (sr [oD 15 .eql 3 16,oM 14 15] (.cond (.t 14) .skip (.region [oD 16 .eql 3 17,oM 14 16]))) (.cond (.t 14) (sr [oZ 2 6] .ret) (.seq (sr [oD 18 .eql 3 12,oM 17 18] (.cond (.t 17) .skip (sr [oD 19 .eql 3 13,oM 17 19] (.cond (.t 17) .skip (sr [oD 20 .eql 3 14,oM 17 20] (.cond (.t 17) .skip (.region [oD 21 .eql 3 15,oM 17 21]))))))) (.cond (.t 17) (sr [oZ 2 7] .ret) (.seq (sr [oD 23 .eql 3 9,oM 22 23] (.cond (.t 22) .skip (sr [oD 24 .eql 3 10,oM 22 24] (.cond (.t 22) .skip (.region [oD 25 .eql 3 11,oM 22 25]))))) (.cond (.t 22) (sr [oZ 2 8] .ret) (.seq (sr [oD 27 .eql 3 1,oM 26 27] (.cond (.t 26) .skip (.region [oD 28 .eql 3 2,oM 26 28]))) (.cond (.t 26) (sr [oZ 2 9] .ret) (.seq (sr [oD 30 .eql 3 3,oM 29 30] (.cond (.t 29) .skip (sr [oD 31 .eql 3 4,oM 29 31] (.cond (.t 29) .skip (.region [oD 32 .eql 3 5,oM 29 32]))))) (.cond (.t 29) (sr [oZ 2 10] .ret) .skip)))))))))))))))))))))) (sr [oZ 2 0] .ret)))⟩
theorem ok122:zh Tryz.prog Tryz.f122 F122=true:=by kernel_rfl
def L176_0:ICode:= .loop [0,1,5] []
 (.seq
 (sr [
 oM 6 5,
 oD 7 .leq 6 19]
 (.cond (.t 7)
 .skip
 (.exit 0)))
 (.seq
 (.block 1
 (sr [
 oM 10 5,
 cP 11 122 [.t 10],
 oM 12 1,
 oP 13 .eql 11 12,
 oM 14 13,
 oTm 14 15 0,
 oTm 14 16 5,
 oT 14 17 (pP 194 [.t 16]),
 oT 14 18 (pF 94 [.t 15,.t 17]),
 oO 19 (.pick (.t 14) (.t 18) (.c bF))]
 (.cond (.t 19)
 (sr [
 oM 20 5,
 oM 4 20]
 .ret)
 .skip)))
 (.region [
 oM 8 5,
 oD 9 .add 8 1,
 oM 5 9])))
abbrev K176_0:List Nat:=[0,1]
abbrev B176_0:List Nat:=[]
def F176:IFn:=⟨21,2,[.tmp 4],false,false,(sr [oZ 4 0] (.seq (sr [oZ 5 1] (.block 0 L176_0)) (sr [oZ 4 0] .ret)))⟩
theorem ok176:zh Tryz.prog Tryz.f176 F176=true:=by kernel_rfl
def L152_0:ICode:= .loop [0,1,2,6,7] [9]
 (.block 1
 (sr [
 oM 20 0,
 oM 21 1,
 cF 22 176 [.t 20,.t 21],
 oM 8 22]
 (.seq
 (sr [
 oM 23 8,
 oD 24 .eql 23 0]
 (.cond (.t 24)
 (sr [
 oLa 25 7 5 7,
 oS 6 5 6 25]
 .ret)
 .skip))
 (sr [
 oM 26 0,
 oK 27 26,
 oA 28 1 27,
 oG 29 28,
 oD 30 .add 29 1,
 oK 31 26,
 oA 32 1 31,
 oV 32 30]
 (sr [
 oM 33 0,
 oM 34 1,
 oD 35 .add 34 1,
 oM 36 2,
 cF 37 152 [.t 33,.t 35,.t 36],
 oO 9 (.boxL 9 (.c (.agg [.int .i64 0,.int .i64 0,.int .i64 0,.str [],.slice .fit 5 []]))),
 oS 9 5 9 37]
 (.region [
 oM 38 8,
 oLa 39 7 5 7,
 oLa 40 9 5 9,
 oO 41 (.bslice 5 (.agg [.int .i64 0,.int .i64 0,.int .i64 0,.str [],.slice .fit 5 []]) 2 [(0,(.t 39)),(1,(.t 40))]),
 oO 42 (.build [.int .i64 0,.int .i64 0,.int .i64 0,.str [],.slice .fit 5 []] [(0,1,(cI 5)),(1,1,(.t 38)),(4,1,(.t 41))]),
 oS 7 5 7 42]))))))
abbrev K152_0:List Nat:=[0,1,2,6,7]
abbrev B152_0:List Nat:=[]
def F152:IFn:=⟨43,3,[.cell 6 true 5],false,false,(sr [oO 6 (.boxL 6 (.c (.agg [.int .i64 0,.int .i64 0,.int .i64 0,.str [],.slice .fit 5 []])))] (.seq (sr [oM 10 1,oD 11 .gtr 10 10] (.cond (.t 11) (sr [oM 12 0,oM 13 2,cF 14 175 [.t 12,.t 13],oS 6 5 6 14] .ret) .skip)) (sr [oM 15 0,oM 16 1,oD 17 .add 16 1,oM 18 2,cF 19 152 [.t 15,.t 17,.t 18],oO 7 (.boxL 7 (.c (.agg [.int .i64 0,.int .i64 0,.int .i64 0,.str [],.slice .fit 5 []]))),oS 7 5 7 19] (.block 0 L152_0))))⟩
theorem ok152:zh Tryz.prog Tryz.f152 F152=true:=by kernel_rfl
def F153:IFn:=⟨12,1,[.tmp 2],false,false,(sr [oC 2 (.slice .fit 5 [])] (sr [oM 4 0,cF 5 67 [(.t 4),(.c (.str [40]))]] (sr [oM 6 0,cF 7 152 [.t 6,cI 1,cI 1],oO 3 (.boxL 3 (.c (.agg [.int .i64 0,.int .i64 0,.int .i64 0,.str [],.slice .fit 5 []]))),oS 3 5 3 7] (sr [oM 8 0,cF 9 67 [(.t 8),(.c (.str [41]))]] (sr [oLa 10 3 5 3,oO 11 (.bslice 5 (.agg [.int .i64 0,.int .i64 0,.int .i64 0,.str [],.slice .fit 5 []]) 1 [(0,(.t 10))]),oE 2 11] .ret)))))⟩
theorem ok153:zh Tryz.prog Tryz.f153 F153=true:=by kernel_rfl
def F154:IFn:=⟨38,1,[.cell 2 true 6],false,false,(sr [oO 2 (.boxL 2 (.c (.agg [.int .i64 0,.int .i64 0,.str [],.slice .fit 5 [],.slice .fit 6 [],.slice .fit 6 []])))] (sr [oM 5 0,cF 6 65 [.t 5,cI 1],oM 3 6] (.seq (.block 0 (sr [oM 8 0,cF 9 66 [(.t 8),(.c (.str [40]))],oM 7 9] (.cond (.t 7) (sr [oM 10 3,oM 11 0,cF 12 177 [.t 11,cI 2],oO 13 (.build [.int .i64 0,.int .i64 0,.int .i64 0,.str [],.slice .fit 5 []] [(0,1,(cI 7)),(3,1,(.t 10)),(4,1,(.t 12))]),oO 14 (.bslice 5 (.agg [.int .i64 0,.int .i64 0,.int .i64 0,.str [],.slice .fit 5 []]) 1 [(0,(.t 13))]),oO 15 (.build [.int .i64 0,.int .i64 0,.str [],.slice .fit 5 [],.slice .fit 6 [],.slice .fit 6 []] [(0,1,(cI 10)),(3,1,(.t 14))]),oS 2 6 2 15] .ret) (sr [oM 17 0,cF 18 66 [(.t 17),(.c (.str [91]))],oM 16 18] (.cond (.t 16) (sr [oM 19 0,cF 20 152 [.t 19,cI 1,cI 1],oO 4 (.boxL 4 (.c (.agg [.int .i64 0,.int .i64 0,.int .i64 0,.str [],.slice .fit 5 []]))),oS 4 5 4 20] (sr [oM 21 0,cF 22 67 [(.t 21),(.c (.str [93]))]] (sr [oM 23 0,cF 24 67 [(.t 23),(.c (.str [61]))]] (sr [oM 25 3,oLa 26 4 5 4,oM 27 0,cF 28 152 [.t 27,cI 1,cI 1],oO 29 (.bslice 5 (.agg [.int .i64 0,.int .i64 0,.int .i64 0,.str [],.slice .fit 5 []]) 2 [(0,(.t 26)),(1,(.t 28))]),oO 30 (.build [.int .i64 0,.int .i64 0,.str [],.slice .fit 5 [],.slice .fit 6 [],.slice .fit 6 []] [(0,1,(cI 3)),(2,1,(.t 25)),(3,1,(.t 29))]),oS 2 6 2 30] .ret)))) .skip))))) (sr [oM 31 0,cF 32 67 [(.t 31),(.c (.str [61]))]] (sr [oM 33 3,oM 34 0,cF 35 152 [.t 34,cI 1,cI 1],oO 36 (.bslice 5 (.agg [.int .i64 0,.int .i64 0,.int .i64 0,.str [],.slice .fit 5 []]) 1 [(0,(.t 35))]),oO 37 (.build [.int .i64 0,.int .i64 0,.str [],.slice .fit 5 [],.slice .fit 6 [],.slice .fit 6 []] [(0,1,(cI 2)),(2,1,(.t 33)),(3,1,(.t 36))]),oS 2 6 2 37] .ret)))))⟩
theorem ok154:zh Tryz.prog Tryz.f154 F154=true:=by kernel_rfl
def F120:IFn:=⟨92,2,[.cell 4 true 6],false,false,(sr [oO 4 (.boxL 4 (.c (.agg [.int .i64 0,.int .i64 0,.str [],.slice .fit 5 [],.slice .fit 6 [],.slice .fit 6 []])))] (.seq (sr [oM 6 1,oD 7 .gtr 6 100] (.cond (.t 7) (.region [oM 8 0,oK 9 8,oA 10 3 9,oN (.store .any 1 (.t 10) (.c bT))]) .skip)) (sr [oO 5 (.boxL 5 (.c (.agg [.int .i64 0,.int .i64 0,.str [],.slice .fit 5 [],.slice .fit 6 [],.slice .fit 6 []])))] (.seq (.block 0 (sr [oM 14 0,cF 15 94 [(.t 14),(.c (.str [105,110,116]))],oM 16 15,oFm 16 17 0,oF 16 18 (pF 94 [(.t 17),(.c (.str [98,111,111,108]))]),oO 19 (.pick (.t 16) (.c bT) (.t 18)),oM 13 19] (.cond (.t 13) (sr [oM 20 0,cF 21 64 [.t 20],oA 22 0 5,oN (.store (.box 5) 1 (.t 22) (cI 1)),oA 23 1 5,oS 5 1 23 21] (sr [oM 24 0,cF 25 65 [.t 24,cI 1],oA 26 2 5,oS 5 1 26 25] (sr [oM 27 0,cF 28 67 [(.t 27),(.c (.str [61]))]] (.region [oM 29 0,cF 30 152 [.t 29,cI 1,cI 1],oO 31 (.bslice 5 (.agg [.int .i64 0,.int .i64 0,.int .i64 0,.str [],.slice .fit 5 []]) 1 [(0,(.t 30))]),oA 32 3 5,oS 5 1 32 31])))) (sr [oM 34 0,cF 35 66 [(.t 34),(.c (.str [105,102]))],oM 33 35] (.cond (.t 33) (sr [oM 36 0,cF 37 153 [.t 36],oA 38 0 5,oN (.store (.box 5) 1 (.t 38) (cI 4)),oA 39 3 5,oS 5 1 39 37] (sr [oM 40 0,oM 41 1,oD 42 .add 41 1,cF 43 95 [.t 40,.t 42],oA 44 4 5,oS 5 1 44 43] (.seq (sr [oM 45 0,cF 46 66 [(.t 45),(.c (.str [101,108,115,101]))]] (.cond (.t 46) (.region [oM 47 0,oM 48 1,oD 49 .add 48 1,cF 50 95 [.t 47,.t 49],oA 51 5 5,oS 5 1 51 50]) .skip)) (sr [oLa 52 5 6 5,oS 4 6 4 52] .ret)))) (sr [oM 54 0,cF 55 66 [(.t 54),(.c (.str [119,104,105,108,101]))],oM 53 55] (.cond (.t 53) (sr [oM 56 0,cF 57 153 [.t 56],oA 58 0 5,oN (.store (.box 5) 1 (.t 58) (cI 5)),oA 59 3 5,oS 5 1 59 57] (sr [oM 60 0,oM 61 1,oD 62 .add 61 1,cF 63 95 [.t 60,.t 62],oA 64 4 5,oS 5 1 64 63] (sr [oLa 65 5 6 5,oS 4 6 4 65] .ret))) (sr [oM 67 0,cF 68 66 [(.t 67),(.c (.str [98,114,101,97,107]))],oM 66 68] (.cond (.t 66) (.region [oA 69 0 5,oN (.store (.box 5) 1 (.t 69) (cI 6))]) (sr [oM 71 0,cF 72 66 [(.t 71),(.c (.str [99,111,110,116,105,110,117,101]))],oM 70 72] (.cond (.t 70) (.region [oA 73 0 5,oN (.store (.box 5) 1 (.t 73) (cI 7))]) (sr [oM 75 0,cF 76 66 [(.t 75),(.c (.str [114,101,116,117,114,110]))],oM 74 76] (.cond (.t 74) (.region [oM 77 0,cF 78 152 [.t 77,cI 1,cI 1],oO 79 (.bslice 5 (.agg [.int .i64 0,.int .i64 0,.int .i64 0,.str [],.slice .fit 5 []]) 1 [(0,(.t 78))]),oA 80 0 5,oN (.store (.box 5) 1 (.t 80) (cI 8)),oA 81 3 5,oS 5 1 81 79]) (sr [oM 83 0,cF 84 66 [(.t 83),(.c (.str [112,114,105,110,116]))],oM 82 84] (.cond (.t 82) (.region [oM 85 0,cF 86 153 [.t 85],oA 87 0 5,oN (.store (.box 5) 1 (.t 87) (cI 9)),oA 88 3 5,oS 5 1 88 86]) (.region [oM 11 0,cF 12 154 [.t 11],oS 5 6 5 12])))))))))))))))) (sr [oM 89 0,cF 90 67 [(.t 89),(.c (.str [59]))]] (sr [oLa 91 5 6 5,oS 4 6 4 91] .ret))))))⟩
theorem ok120:zh Tryz.prog Tryz.f120 F120=true:=by kernel_rfl
end PE.U

set_option maxRecDepth 100000
namespace PE.U
open Go PE Go.Proofs
def L95_0:ICode:= .loop [0,1,5] []
 (.seq
 (sr [
 oM 8 0,
 cF 9 63 [.t 8],
 oU 10 9,
 oM 11 10,
 oTm 11 12 0,
 oT 11 13 (pF 66 [(.t 12),(.c (.str [125]))]),
 oT 11 14 (.un .not (.t 13)),
 oO 15 (.pick (.t 11) (.t 14) (.c bF))]
 (.cond (.t 15)
 .skip
 (.exit 0)))
 (.block 1
 (.region [
 oE 16 5,
 oM 17 0,
 oM 18 1,
 cF 19 120 [.t 17,.t 18],
 oO 20 (.bslice 6 (.agg [.int .i64 0,.int .i64 0,.str [],.slice .fit 5 [],.slice .fit 6 [],.slice .fit 6 []]) 1 [(0,(.t 19))]),
 oO 21 (.append 6 104 (.t 16) (.t 20)),
 oE 5 21])))
abbrev K95_0:List Nat:=[0,1]
abbrev B95_0:List Nat:=[]
def F95:IFn:=⟨23,2,[.tmp 4],false,false,(sr [oC 4 (.slice .fit 6 [])] (sr [oC 5 (.slice .fit 6 [])] (sr [oM 6 0,cF 7 67 [(.t 6),(.c (.str [123]))]] (.seq (.block 0 L95_0) (sr [oE 22 5,oE 4 22] .ret)))))⟩
theorem ok95:zh Tryz.prog Tryz.f95 F95=true:=by kernel_rfl
def L68_0:ICode:= .loop [0,6,7,8] []
 (.seq
 (sr [
 oM 18 8,
 oM 19 18,
 oFm 19 20 0,
 oF 19 21 (pF 66 [(.t 20),(.c (.str [44]))]),
 oO 22 (.pick (.t 19) (.c bT) (.t 21)),
 oM 23 22,
 oTm 23 24 0,
 oT 23 25 (pF 63 [.t 24]),
 oT 23 26 (.un .not (.t 25)),
 oO 27 (.pick (.t 23) (.t 26) (.c bF))]
 (.cond (.t 27)
 .skip
 (.exit 0)))
 (.seq
 (.block 1
 (sr [
 oM 28 0,
 cF 29 64 [.t 28],
 oM 9 29]
 (.region [
 oA 30 2 7,
 oO 31 (.loadT (.box 7) (.t 30)),
 oM 32 0,
 cF 33 65 [.t 32,cI 1],
 oM 34 9,
 oO 35 (.build [.str [],.int .i64 0] [(0,1,(.t 33)),(1,1,(.t 34))]),
 oO 36 (.bslice 2 (.agg [.str [],.int .i64 0]) 1 [(0,(.t 35))]),
 oO 37 (.append 2 24 (.t 31) (.t 36)),
 oA 38 2 7,
 oN (.storeT (.box 7) (.t 38) 37)])))
 (.region [
 oC 8 bF])))
abbrev K68_0:List Nat:=[0,6,7]
abbrev B68_0:List Nat:=[6]
def F68:IFn:=⟨45,3,[.cell 6 true 4],false,false,(sr [oO 6 (.boxL 6 (.c (.agg [.str [],.int .i64 0,.slice .fit 2 [],.slice .fit 6 []])))] (sr [oM 10 2,oM 11 1,oO 12 (.build [.str [],.int .i64 0,.slice .fit 2 [],.slice .fit 6 []] [(0,1,(.t 10)),(1,1,(.t 11))]),oO 7 (.boxL 7 (.c (.agg [.str [],.int .i64 0,.slice .fit 2 [],.slice .fit 6 []]))),oS 7 4 7 12] (sr [oM 13 0,cF 14 67 [(.t 13),(.c (.str [40]))]] (.seq (sr [oM 15 0,cF 16 66 [(.t 15),(.c (.str [41]))],oU 17 16] (.cond (.t 17) (.seq (sr [oC 8 bT] (.block 0 L68_0)) (.region [oM 39 0,cF 40 67 [(.t 39),(.c (.str [41]))]])) .skip)) (sr [oM 41 0,cF 42 95 [.t 41,cI 1],oA 43 3 7,oS 7 1 43 42] (sr [oLa 44 7 4 7,oS 6 4 6 44] .ret))))))⟩
theorem ok68:zh Tryz.prog Tryz.f68 F68=true:=by kernel_rfl
def L34_0:ICode:= .loop [0,2,3] []
 (.seq
 (sr [
 oM 7 0,
 cF 8 63 [.t 7],
 oU 9 8,
 oM 10 9,
 oTm 10 11 0,
 oT 10 12 (.nilck (.t 11)),
 oT 10 13 (.faddr 0 (.t 12)),
 oT 10 14 (.load .any false 1 (.t 13)),
 oTm 10 15 0,
 oT 10 16 (.nilck (.t 15)),
 oT 10 17 (.faddr 1 (.t 16)),
 oT 10 18 (.load .any false 1 (.t 17)),
 oT 10 19 (.iaddr 3 (.t 14) (.t 18)),
 oT 10 20 (.faddr 0 (.t 19)),
 oT 10 21 (.load .imm false 1 (.t 20)),
 oT 10 22 (.bin 0 [] .neq (.t 21) (cI 3)),
 oO 23 (.pick (.t 10) (.t 22) (.c bF))]
 (.cond (.t 23)
 .skip
 (.exit 0)))
 (.block 1
 (sr [
 oM 24 0,
 cF 25 64 [.t 24],
 oM 4 25]
 (sr [
 oM 26 0,
 cF 27 65 [.t 26,cI 1],
 oM 5 27]
 (.seq
 (sr [
 oM 28 4,
 oD 29 .eql 28 1,
 oM 30 29,
 oT 30 31 (.faddr 1 (.t 3)),
 oT 30 32 (.load (.box 3) false 1 (.t 31)),
 oT 30 33 (.len 1 (.t 32)),
 oT 30 34 (.bin 0 [] .eql (.t 33) (cI 0)),
 oO 35 (.pick (.t 30) (.t 34) (.c bF)),
 oM 36 35,
 oTm 36 37 0,
 oT 36 38 (pF 66 [(.t 37),(.c (.str [91]))]),
 oO 39 (.pick (.t 36) (.t 38) (.c bF))]
 (.cond (.t 39)
 (sr [
 oM 40 0,
 cF 41 65 [.t 40,cI 0],
 cP 42 59 [.t 41],
 oM 6 42]
 (sr [
 oM 43 0,
 cF 44 67 [(.t 43),(.c (.str [93]))]]
 (sr [
 oM 45 0,
 cF 46 67 [(.t 45),(.c (.str [59]))]]
 (sr [
 oA 47 0 3,
 oO 48 (.loadT (.box 3) (.t 47)),
 oM 49 5,
 oM 50 6,
 oO 51 (.build [.str [],.int .i64 0] [(0,1,(.t 49)),(1,1,(.t 50))]),
 oO 52 (.bslice 2 (.agg [.str [],.int .i64 0]) 1 [(0,(.t 51))]),
 oO 53 (.append 2 24 (.t 48) (.t 52)),
 oA 54 0 3,
 oN (.storeT (.box 3) (.t 54) 53)]
 (.exit 1)))))
 .skip))
 (.region [
 oA 55 1 3,
 oO 56 (.loadT (.box 3) (.t 55)),
 oM 57 0,
 oM 58 4,
 oM 59 5,
 cF 60 68 [.t 57,.t 58,.t 59],
 oO 61 (.bslice 4 (.agg [.str [],.int .i64 0,.slice .fit 2 [],.slice .fit 6 []]) 1 [(0,(.t 60))]),
 oO 62 (.append 4 72 (.t 56) (.t 61)),
 oA 63 1 3,
 oN (.storeT (.box 3) (.t 63) 62)]))))))
abbrev K34_0:List Nat:=[0,2,3]
abbrev B34_0:List Nat:=[2]
def F34:IFn:=⟨65,1,[.cell 2 true 2],false,false,(sr [oO 2 (.boxL 2 (.c (.agg [.slice .fit 2 [],.slice .fit 4 []])))] (sr [oO 3 (.boxL 3 (.c (.agg [.slice .fit 2 [],.slice .fit 4 []])))] (.seq (.block 0 L34_0) (sr [oLa 64 3 2 3,oS 2 2 2 64] .ret))))⟩
theorem ok34:zh Tryz.prog Tryz.f34 F34=true:=by kernel_rfl
def F69:IFn:=⟨9,1,[.tmp 2],false,false,(sr [oC 2 bF] (sr [oM 3 0,oD 4 .eql 3 1,oM 5 4,oFm 5 6 0,oF 5 7 (.bin 0 [] .eql (.t 6) (cI 2)),oO 8 (.pick (.t 5) (.c bT) (.t 7)),oM 2 8] .ret))⟩
theorem ok69:zh Tryz.prog Tryz.f69 F69=true:=by kernel_rfl
def F96:IFn:=⟨25,1,[.tmp 2,.tmp 3,.tmp 4,.tmp 5,.tmp 6],false,false,(sr [oC 2 bF,oC 3 bF,oZ 4 0,oC 5 bF,oC 6 bF] (.seq (sr [oM 7 0] (.block 0 (sr [oD 9 .eql 7 1,oM 8 9] (.cond (.t 8) (sr [oC 2 bT,oC 3 bT,oZ 4 1,oC 5 bF,oC 6 bF] .ret) (sr [oD 11 .eql 7 2,oM 10 11] (.cond (.t 10) (sr [oC 2 bF,oC 3 bT,oZ 4 1,oC 5 bF,oC 6 bF] .ret) (sr [oD 13 .eql 7 3,oM 12 13] (.cond (.t 12) (sr [oC 2 bF,oC 3 bT,oZ 4 2,oC 5 bF,oC 6 bF] .ret) (sr [oD 15 .eql 7 4,oM 14 15] (.cond (.t 14) (sr [oC 2 bF,oC 3 bF,oZ 4 1,oC 5 bT,oC 6 bT] .ret) (sr [oD 17 .eql 7 5,oM 16 17] (.cond (.t 16) (sr [oC 2 bF,oC 3 bF,oZ 4 1,oC 5 bT,oC 6 bF] .ret) (.seq (sr [oD 19 .eql 7 6,oM 18 19] (.cond (.t 18) .skip (.region [oD 20 .eql 7 7,oM 18 20]))) (.cond (.t 18) (sr [oC 2 bF,oC 3 bF,oZ 4 0,oC 5 bF,oC 6 bF] .ret) (.seq (sr [oD 22 .eql 7 8,oM 21 22] (.cond (.t 21) .skip (sr [oD 23 .eql 7 9,oM 21 23] (.cond (.t 21) .skip (.region [oD 24 .eql 7 10,oM 21 24]))))) (.cond (.t 21) (sr [oC 2 bF,oC 3 bF,oZ 4 1,oC 5 bF,oC 6 bF] .ret) .skip)))))))))))))))) (sr [oC 2 bF,oC 3 bF,oO 4 (.mv (cI (-1))),oC 5 bF,oC 6 bF] .ret)))⟩
theorem ok96:zh Tryz.prog Tryz.f96 F96=true:=by kernel_rfl
def F121:IFn:=⟨9,1,[.tmp 2],false,false,(sr [oC 2 bF] (sr [oM 3 0,oD 4 .geq 3 20,oM 5 4,oTm 5 6 0,oT 5 7 (.bin 0 [] .leq (.t 6) (cI 28)),oO 8 (.pick (.t 5) (.t 7) (.c bF)),oM 2 8] .ret))⟩
theorem ok121:zh Tryz.prog Tryz.f121 F121=true:=by kernel_rfl
def L97_0:ICode:= .loop [1,2,5] []
 (.seq
 (sr [
 oM 9 5,
 oA 10 4 2,
 oL 11 2 10,
 oY 12 11,
 oP 13 .lss 9 12]
 (.cond (.t 13)
 .skip
 (.exit 0)))
 (.seq
 (.block 1
 (sr [
 oM 16 1,
 oD 17 .lss 16 2,
 oM 18 17,
 oF 18 19 (.faddr 4 (.t 2)),
 oF 18 20 (.load (.box 2) false 1 (.t 19)),
 oFm 18 21 5,
 oF 18 22 (.iaddr 5 (.t 20) (.t 21)),
 oF 18 23 (.load .any true 5 (.t 22)),
 oFm 18 24 1,
 oF 18 25 (.bin 0 [] .sub (.t 24) (cI 1)),
 oF 18 26 (pP 97 [.t 23,.t 25]),
 oF 18 27 (.un .not (.t 26)),
 oO 28 (.pick (.t 18) (.c bT) (.t 27))]
 (.cond (.t 28)
 (sr [
 oC 4 bF]
 .ret)
 .skip)))
 (.region [
 oM 14 5,
 oD 15 .add 14 1,
 oM 5 15])))
abbrev K97_0:List Nat:=[1,2]
abbrev B97_0:List Nat:=[2]
def F97:IFn:=⟨169,2,[.tmp 4],false,false,(sr [oO 2 (.boxL 2 (.t 0)),oC 4 bF] (.seq (sr [oZ 5 0] (.block 0 L97_0)) (sr [oA 29 1 2,oL 30 2 29,oD 31 .eql 30 0,oM 32 31,oT 32 33 (.faddr 2 (.t 2)),oT 32 34 (.load (.box 2) false 1 (.t 33)),oT 32 35 (.bin 0 [] .eql (.t 34) (cI 0)),oO 36 (.pick (.t 32) (.t 35) (.c bF)),oM 6 36] (sr [oA 37 3 2,oL 38 2 37,cP 39 20 [.t 38],oM 7 39] (sr [oA 40 4 2,oL 41 2 40,oY 42 41,oM 8 42] (.seq (sr [oA 43 0 2,oL 44 2 43] (.block 2 (sr [oD 46 .eql 44 1,oM 45 46] (.cond (.t 45) (sr [oA 47 1 2,oL 48 2 47,oD 49 .eql 48 0,oM 50 49,oT 50 51 (.faddr 2 (.t 2)),oT 50 52 (.load (.box 2) false 1 (.t 51)),oT 50 53 (.bin 0 [] .geq (.t 52) (cI 0)),oO 54 (.pick (.t 50) (.t 53) (.c bF)),oM 55 54,oT 55 56 (.faddr 3 (.t 2)),oT 55 57 (.load (.box 2) false 1 (.t 56)),oT 55 58 (.bin 0 [] .eql (.t 57) (.c (.str []))),oO 59 (.pick (.t 55) (.t 58) (.c bF)),oM 60 59,oTm 60 61 8,oT 60 62 (.bin 0 [] .eql (.t 61) (cI 0)),oO 63 (.pick (.t 60) (.t 62) (.c bF)),oM 4 63] .ret) (sr [oD 65 .eql 44 2,oM 64 65] (.cond (.t 64) (sr [oA 66 1 2,oL 67 2 66,oD 68 .eql 67 0,oM 69 68,oT 69 70 (.faddr 2 (.t 2)),oT 69 71 (.load (.box 2) false 1 (.t 70)),oT 69 72 (.bin 0 [] .eql (.t 71) (cI 0)),oTm 69 73 72,oF 73 74 (.faddr 2 (.t 2)),oF 73 75 (.load (.box 2) false 1 (.t 74)),oF 73 76 (.bin 0 [] .eql (.t 75) (cI 1)),oT 69 77 (.pick (.t 73) (.c bT) (.t 76)),oO 78 (.pick (.t 69) (.t 77) (.c bF)),oM 79 78,oT 79 80 (.faddr 3 (.t 2)),oT 79 81 (.load (.box 2) false 1 (.t 80)),oT 79 82 (.bin 0 [] .eql (.t 81) (.c (.str []))),oO 83 (.pick (.t 79) (.t 82) (.c bF)),oM 84 83,oTm 84 85 8,oT 84 86 (.bin 0 [] .eql (.t 85) (cI 0)),oO 87 (.pick (.t 84) (.t 86) (.c bF)),oM 4 87] .ret) (sr [oD 89 .eql 44 3,oM 88 89] (.cond (.t 88) (sr [oM 90 6,oM 91 90,oTm 91 92 7,oO 93 (.pick (.t 91) (.t 92) (.c bF)),oM 94 93,oTm 94 95 8,oT 94 96 (.bin 0 [] .eql (.t 95) (cI 0)),oO 97 (.pick (.t 94) (.t 96) (.c bF)),oM 4 97] .ret) (sr [oD 99 .eql 44 4,oM 98 99] (.cond (.t 98) (sr [oA 100 1 2,oL 101 2 100,cP 102 121 [.t 101],oM 103 102,oT 103 104 (.faddr 2 (.t 2)),oT 103 105 (.load (.box 2) false 1 (.t 104)),oT 103 106 (.bin 0 [] .eql (.t 105) (cI 0)),oO 107 (.pick (.t 103) (.t 106) (.c bF)),oM 108 107,oT 108 109 (.faddr 3 (.t 2)),oT 108 110 (.load (.box 2) false 1 (.t 109)),oT 108 111 (.bin 0 [] .eql (.t 110) (.c (.str []))),oO 112 (.pick (.t 108) (.t 111) (.c bF)),oM 113 112,oTm 113 114 8,oT 113 115 (.bin 0 [] .eql (.t 114) (cI 1)),oO 116 (.pick (.t 113) (.t 115) (.c bF)),oM 4 116] .ret) (sr [oD 118 .eql 44 5,oM 117 118] (.cond (.t 117) (sr [oA 119 1 2,oL 120 2 119,cP 121 122 [.t 120],oD 122 .gtr 121 0,oM 123 122,oT 123 124 (.faddr 2 (.t 2)),oT 123 125 (.load (.box 2) false 1 (.t 124)),oT 123 126 (.bin 0 [] .eql (.t 125) (cI 0)),oO 127 (.pick (.t 123) (.t 126) (.c bF)),oM 128 127,oT 128 129 (.faddr 3 (.t 2)),oT 128 130 (.load (.box 2) false 1 (.t 129)),oT 128 131 (.bin 0 [] .eql (.t 130) (.c (.str []))),oO 132 (.pick (.t 128) (.t 131) (.c bF)),oM 133 132,oTm 133 134 8,oT 133 135 (.bin 0 [] .eql (.t 134) (cI 2)),oO 136 (.pick (.t 133) (.t 135) (.c bF)),oM 4 136] .ret) (sr [oD 138 .eql 44 6,oM 137 138] (.cond (.t 137) (sr [oM 139 6,oM 140 139,oTm 140 141 7,oO 142 (.pick (.t 140) (.t 141) (.c bF)),oM 143 142,oTm 143 144 8,oT 143 145 (.bin 0 [] .eql (.t 144) (cI 1)),oO 146 (.pick (.t 143) (.t 145) (.c bF)),oM 4 146] .ret) (sr [oD 148 .eql 44 7,oM 147 148] (.cond (.t 147) (sr [oM 149 6,oM 150 149,oTm 150 151 7,oO 152 (.pick (.t 150) (.t 151) (.c bF)),oM 153 152,oTm 153 154 8,oT 153 155 (.bin 0 [] .leq (.t 154) (cI 8)),oO 156 (.pick (.t 153) (.t 155) (.c bF)),oM 4 156] .ret) (sr [oD 158 .eql 44 8,oM 157 158] (.cond (.t 157) (sr [oM 159 6,oM 160 159,oT 160 161 (.faddr 3 (.t 2)),oT 160 162 (.load (.box 2) false 1 (.t 161)),oT 160 163 (.bin 0 [] .eql (.t 162) (.c (.str []))),oO 164 (.pick (.t 160) (.t 163) (.c bF)),oM 165 164,oTm 165 166 8,oT 165 167 (.bin 0 [] .eql (.t 166) (cI 0)),oO 168 (.pick (.t 165) (.t 167) (.c bF)),oM 4 168] .ret) .skip)))))))))))))))))) (sr [oC 4 bF] .ret)))))))⟩
theorem ok97:zh Tryz.prog Tryz.f97 F97=true:=by kernel_rfl
def L70_0:ICode:= .loop [0,1,5,6,9,10,11,12] []
 (.seq
 (sr [
 oM 78 12,
 oM 79 9,
 oP 80 .lss 78 79]
 (.cond (.t 80)
 .skip
 (.exit 2)))
 (.seq
 (.block 3
 (sr [
 oA 83 3 6,
 oL 84 6 83,
 oM 85 12,
 oI 86 5 84 85,
 oW 87 5 86,
 cP 88 97 [.t 87,cI 100],
 oU 89 88]
 (.cond (.t 89)
 (sr [
 oC 4 bF]
 .ret)
 .skip)))
 (.region [
 oM 81 12,
 oD 82 .add 81 1,
 oM 12 82])))
def L70_1:ICode:= .loop [0,1,5] [6]
 (.seq
 (sr [
 oM 13 5,
 oM 14 0,
 oY 15 14,
 oP 16 .lss 13 15]
 (.cond (.t 16)
 .skip
 (.exit 0)))
 (.seq
 (.block 1
 (sr [
 oM 19 0,
 oM 20 5,
 oI 21 6 19 20,
 oW 22 6 21,
 oO 6 (.boxL 6 (.c (.agg [.int .i64 0,.int .i64 0,.str [],.slice .fit 5 [],.slice .fit 6 [],.slice .fit 6 []]))),
 oS 6 6 6 22]
 (sr [
 oA 24 0 6,
 oL 25 6 24,
 cP 26 96 [.t 25],
 oM 23 26,
 oX 27 23 0,
 oX 28 23 1,
 oX 29 23 2,
 oX 30 23 3,
 oX 31 23 4,
 oM 7 27,
 oM 8 28,
 oM 9 29,
 oM 10 30,
 oM 11 31]
 (.seq
 (sr [
 oM 32 1,
 oD 33 .lss 32 1,
 oM 34 33,
 oF 34 35 (.faddr 3 (.t 6)),
 oF 34 36 (.load (.box 6) false 1 (.t 35)),
 oF 34 37 (.len 1 (.t 36)),
 oFm 34 38 9,
 oF 34 39 (.bin 0 [] .neq (.t 37) (.t 38)),
 oO 40 (.pick (.t 34) (.c bT) (.t 39)),
 oM 41 40,
 oFm 41 42 7,
 oF 41 43 (.faddr 1 (.t 6)),
 oF 41 44 (.load (.box 6) false 1 (.t 43)),
 oF 41 45 (.bin 0 [] .eql (.t 44) (cI 1)),
 oFm 41 46 45,
 oF 46 47 (.faddr 1 (.t 6)),
 oF 46 48 (.load (.box 6) false 1 (.t 47)),
 oF 46 49 (.bin 0 [] .eql (.t 48) (cI 2)),
 oF 41 50 (.pick (.t 46) (.c bT) (.t 49)),
 oF 41 51 (.bin 1 [] .neq (.t 42) (.t 50)),
 oO 52 (.pick (.t 41) (.c bT) (.t 51)),
 oM 53 52,
 oFm 53 54 7,
 oF 53 55 (.un .not (.t 54)),
 oFm 53 56 55,
 oT 56 57 (.faddr 1 (.t 6)),
 oT 56 58 (.load (.box 6) false 1 (.t 57)),
 oT 56 59 (.bin 0 [] .neq (.t 58) (cI 0)),
 oF 53 60 (.pick (.t 56) (.t 59) (.c bF)),
 oO 61 (.pick (.t 53) (.c bT) (.t 60)),
 oM 62 61,
 oFm 62 63 8,
 oF 62 64 (.faddr 2 (.t 6)),
 oF 62 65 (.load (.box 6) false 1 (.t 64)),
 oF 62 66 (pP 20 [.t 65]),
 oF 62 67 (.bin 1 [] .neq (.t 63) (.t 66)),
 oO 68 (.pick (.t 62) (.c bT) (.t 67)),
 oM 69 68,
 oFm 69 70 8,
 oF 69 71 (.un .not (.t 70)),
 oFm 69 72 71,
 oT 72 73 (.faddr 2 (.t 6)),
 oT 72 74 (.load (.box 6) false 1 (.t 73)),
 oT 72 75 (.bin 0 [] .neq (.t 74) (.c (.str []))),
 oF 69 76 (.pick (.t 72) (.t 75) (.c bF)),
 oO 77 (.pick (.t 69) (.c bT) (.t 76))]
 (.cond (.t 77)
 (sr [
 oC 4 bF]
 .ret)
 .skip))
 (.seq
 (sr [
 oZ 12 0]
 (.block 2
 L70_0))
 (sr [
 oA 90 0 6,
 oL 91 6 90,
 oD 92 .eql 91 10,
 oM 93 92,
 oT 93 94 (.faddr 3 (.t 6)),
 oT 93 95 (.load (.box 6) false 1 (.t 94)),
 oT 93 96 (.iaddr 5 (.t 95) (cI 0)),
 oT 93 97 (.faddr 0 (.t 96)),
 oT 93 98 (.load .any false 1 (.t 97)),
 oT 93 99 (.bin 0 [] .neq (.t 98) (cI 7)),
 oO 100 (.pick (.t 93) (.t 99) (.c bF)),
 oM 101 100,
 oFm 101 102 10,
 oF 101 103 (.un .not (.t 102)),
 oFm 101 104 103,
 oT 104 105 (.faddr 4 (.t 6)),
 oT 104 106 (.load (.box 6) false 1 (.t 105)),
 oT 104 107 (.len 1 (.t 106)),
 oT 104 108 (.bin 0 [] .gtr (.t 107) (cI 0)),
 oF 101 109 (.pick (.t 104) (.t 108) (.c bF)),
 oO 110 (.pick (.t 101) (.c bT) (.t 109)),
 oM 111 110,
 oFm 111 112 11,
 oF 111 113 (.un .not (.t 112)),
 oFm 111 114 113,
 oT 114 115 (.faddr 5 (.t 6)),
 oT 114 116 (.load (.box 6) false 1 (.t 115)),
 oT 114 117 (.len 1 (.t 116)),
 oT 114 118 (.bin 0 [] .gtr (.t 117) (cI 0)),
 oF 111 119 (.pick (.t 114) (.t 118) (.c bF)),
 oO 120 (.pick (.t 111) (.c bT) (.t 119)),
 oM 121 120,
 oF 121 122 (.faddr 4 (.t 6)),
 oF 121 123 (.load (.box 6) false 1 (.t 122)),
 oFm 121 124 1,
 oF 121 125 (.bin 0 [] .sub (.t 124) (cI 1)),
 oF 121 126 (pP 70 [.t 123,.t 125]),
 oF 121 127 (.un .not (.t 126)),
 oO 128 (.pick (.t 121) (.c bT) (.t 127)),
 oM 129 128,
 oF 129 130 (.faddr 5 (.t 6)),
 oF 129 131 (.load (.box 6) false 1 (.t 130)),
 oFm 129 132 1,
 oF 129 133 (.bin 0 [] .sub (.t 132) (cI 1)),
 oF 129 134 (pP 70 [.t 131,.t 133]),
 oF 129 135 (.un .not (.t 134)),
 oO 136 (.pick (.t 129) (.c bT) (.t 135))]
 (.cond (.t 136)
 (sr [
 oC 4 bF]
 .ret)
 .skip)))))))
 (.region [
 oM 17 5,
 oD 18 .add 17 1,
 oM 5 18])))
abbrev K70_0:List Nat:=[0,1,5,6,9,10,11]
abbrev B70_0:List Nat:=[6]
abbrev K70_1:List Nat:=[0,1]
abbrev B70_1:List Nat:=[]
def F70:IFn:=⟨137,2,[.tmp 4],false,false,(sr [oC 4 bF] (.seq (sr [oZ 5 0] (.block 0 L70_1)) (sr [oC 4 bT] .ret)))⟩
theorem ok70:zh Tryz.prog Tryz.f70 F70=true:=by kernel_rfl
def L35_0:ICode:= .loop [1,3] []
 (.seq
 (sr [
 oM 7 3,
 oA 8 0 1,
 oL 9 1 8,
 oY 10 9,
 oP 11 .lss 7 10]
 (.cond (.t 11)
 .skip
 (.exit 0)))
 (.seq
 (.block 1
 (sr [
 oA 14 0 1,
 oL 15 1 14,
 oM 16 3,
 oI 17 2 15 16,
 oA 18 0 17,
 oG 19 18,
 cP 20 20 [.t 19],
 oU 21 20,
 oM 22 21,
 oF 22 23 (.faddr 0 (.t 1)),
 oF 22 24 (.load (.box 1) false 1 (.t 23)),
 oFm 22 25 3,
 oF 22 26 (.iaddr 2 (.t 24) (.t 25)),
 oF 22 27 (.faddr 1 (.t 26)),
 oF 22 28 (.load .any false 1 (.t 27)),
 oF 22 29 (.bin 0 [] .lss (.t 28) (cI 1)),
 oO 30 (.pick (.t 22) (.c bT) (.t 29)),
 oM 31 30,
 oF 31 32 (.faddr 0 (.t 1)),
 oF 31 33 (.load (.box 1) false 1 (.t 32)),
 oFm 31 34 3,
 oF 31 35 (.iaddr 2 (.t 33) (.t 34)),
 oF 31 36 (.faddr 1 (.t 35)),
 oF 31 37 (.load .any false 1 (.t 36)),
 oF 31 38 (.bin 0 [] .gtr (.t 37) (cI 1000)),
 oO 39 (.pick (.t 31) (.c bT) (.t 38))]
 (.cond (.t 39)
 (sr [
 oC 2 bF]
 .ret)
 .skip)))
 (.region [
 oM 12 3,
 oD 13 .add 12 1,
 oM 3 13])))
def L35_1:ICode:= .loop [1,4,5,6] []
 (.seq
 (sr [
 oM 74 6,
 oA 75 2 5,
 oL 76 5 75,
 oY 77 76,
 oP 78 .lss 74 77]
 (.cond (.t 78)
 .skip
 (.exit 4)))
 (.seq
 (.block 5
 (sr [
 oA 81 2 5,
 oL 82 5 81,
 oM 83 6,
 oI 84 2 82 83,
 oA 85 0 84,
 oG 86 85,
 cP 87 20 [.t 86],
 oU 88 87,
 oM 89 88,
 oF 89 90 (.faddr 2 (.t 5)),
 oF 89 91 (.load (.box 5) false 1 (.t 90)),
 oFm 89 92 6,
 oF 89 93 (.iaddr 2 (.t 91) (.t 92)),
 oF 89 94 (.faddr 1 (.t 93)),
 oF 89 95 (.load .any false 1 (.t 94)),
 oF 89 96 (pP 69 [.t 95]),
 oF 89 97 (.un .not (.t 96)),
 oO 98 (.pick (.t 89) (.c bT) (.t 97))]
 (.cond (.t 98)
 (sr [
 oC 2 bF]
 .ret)
 .skip)))
 (.region [
 oM 79 6,
 oD 80 .add 79 1,
 oM 6 80])))
def L35_2:ICode:= .loop [1,4] [5]
 (.seq
 (sr [
 oM 40 4,
 oA 41 1 1,
 oL 42 1 41,
 oY 43 42,
 oP 44 .lss 40 43]
 (.cond (.t 44)
 .skip
 (.exit 2)))
 (.seq
 (.block 3
 (sr [
 oA 47 1 1,
 oL 48 1 47,
 oM 49 4,
 oI 50 4 48 49,
 oW 51 4 50,
 oO 5 (.boxL 5 (.c (.agg [.str [],.int .i64 0,.slice .fit 2 [],.slice .fit 6 []]))),
 oS 5 4 5 51]
 (.seq
 (sr [
 oA 52 0 5,
 oL 53 5 52,
 cP 54 20 [.t 53],
 oU 55 54,
 oM 56 55,
 oF 56 57 (.faddr 1 (.t 5)),
 oF 56 58 (.load (.box 5) false 1 (.t 57)),
 oF 56 59 (pP 69 [.t 58]),
 oF 56 60 (.un .not (.t 59)),
 oO 61 (.pick (.t 56) (.c bT) (.t 60)),
 oM 62 61,
 oF 62 63 (.faddr 2 (.t 5)),
 oF 62 64 (.load (.box 5) false 1 (.t 63)),
 oF 62 65 (.len 1 (.t 64)),
 oF 62 66 (.bin 0 [] .gtr (.t 65) (cI 8)),
 oO 67 (.pick (.t 62) (.c bT) (.t 66)),
 oM 68 67,
 oF 68 69 (.faddr 3 (.t 5)),
 oF 68 70 (.load (.box 5) false 1 (.t 69)),
 oF 68 71 (pP 70 [.t 70,cI 100]),
 oF 68 72 (.un .not (.t 71)),
 oO 73 (.pick (.t 68) (.c bT) (.t 72))]
 (.cond (.t 73)
 (sr [
 oC 2 bF]
 .ret)
 .skip))
 (sr [
 oZ 6 0]
 (.block 4
 L35_1)))))
 (.region [
 oM 45 4,
 oD 46 .add 45 1,
 oM 4 46])))
abbrev K35_0:List Nat:=[1]
abbrev B35_0:List Nat:=[1]
abbrev K35_1:List Nat:=[1,4,5]
abbrev B35_1:List Nat:=[1,5]
abbrev K35_2:List Nat:=[1]
abbrev B35_2:List Nat:=[1]
def F35:IFn:=⟨99,1,[.tmp 2],false,false,(sr [oO 1 (.boxL 1 (.t 0)),oC 2 bF] (.seq (sr [oZ 3 0] (.block 0 L35_0)) (.seq (sr [oZ 4 0] (.block 2 L35_2)) (sr [oC 2 bT] .ret))))⟩
theorem ok35:zh Tryz.prog Tryz.f35 F35=true:=by kernel_rfl
def F14:IFn:=⟨60,1,[.cell 2 true 2,.tmp 3,.tmp 4],true,false,(sr [oO 2 (.boxL 2 (.c (.agg [.slice .fit 2 [],.slice .fit 4 []]))),oZ 3 0,oZ 4 0] (sr [oM 11 0,cP 12 33 [.t 11],oM 10 12,oX 13 10 0,oX 14 10 1,oX 15 10 2,oE 5 13,oM 6 14,oM 7 15] (.seq (sr [oM 16 6,oD 17 .neq 16 0] (.cond (.t 17) (sr [oO 18 (.build [.slice .fit 2 [],.slice .fit 4 []] []),oM 19 6,oM 20 7,oS 2 2 2 18,oM 3 19,oM 4 20] .ret) .skip)) (sr [oM 21 5,oO 22 (.build [.slice .fit 3 [],.int .i64 0,.bool false,.bool false] [(0,1,(.t 21))]),oO 23 (.boxS 4 (.t 22)),oM 8 23] (sr [oM 24 8,cF 25 34 [.t 24],oO 9 (.boxL 9 (.c (.agg [.slice .fit 2 [],.slice .fit 4 []]))),oS 9 2 9 25] (.seq (.block 0 (sr [oM 27 8,oK 28 27,oA 29 3 28,oG 30 29,oM 26 30] (.cond (.t 26) (sr [oO 31 (.build [.slice .fit 2 [],.slice .fit 4 []] []),oE 32 5,oM 33 8,oK 34 33,oA 35 1 34,oG 36 35,oI 37 3 32 36,oA 38 2 37,oH 39 38,oS 2 2 2 31,oZ 3 2,oM 4 39] .ret) (sr [oM 41 8,oK 42 41,oA 43 2 42,oG 44 43,oM 40 44] (.cond (.t 40) (sr [oO 45 (.build [.slice .fit 2 [],.slice .fit 4 []] []),oE 46 5,oM 47 8,oK 48 47,oA 49 1 48,oG 50 49,oI 51 3 46 50,oA 52 2 51,oH 53 52,oS 2 2 2 45,oZ 3 20,oM 4 53] .ret) (sr [oLa 55 9 2 9,cP 56 35 [.t 55],oU 57 56,oM 54 57] (.cond (.t 54) (sr [oO 58 (.build [.slice .fit 2 [],.slice .fit 4 []] []),oS 2 2 2 58,oZ 3 2,oZ 4 0] .ret) .skip))))))) (sr [oLa 59 9 2 9,oS 2 2 2 59,oZ 3 0,oZ 4 0] .ret)))))))⟩
theorem ok14:zh Tryz.prog Tryz.f14 F14=true:=by kernel_rfl
def L71_0:ICode:= .loop [0,1,5] []
 (.seq
 (sr [
 oM 11 5,
 oM 12 0,
 oY 13 12,
 oP 14 .lss 11 13]
 (.cond (.t 14)
 .skip
 (.exit 0)))
 (.seq
 (.block 1
 (sr [
 oM 17 0,
 oM 18 5,
 oI 19 5 17 18,
 oA 20 0 19,
 oH 21 20,
 oM 22 1,
 oM 23 5,
 oI 24 5 22 23,
 oA 25 0 24,
 oH 26 25,
 oP 27 .neq 21 26,
 oM 28 27,
 oFm 28 29 0,
 oFm 28 30 5,
 oF 28 31 (.iaddr 5 (.t 29) (.t 30)),
 oF 28 32 (.faddr 1 (.t 31)),
 oF 28 33 (.load .imm false 1 (.t 32)),
 oFm 28 34 1,
 oFm 28 35 5,
 oF 28 36 (.iaddr 5 (.t 34) (.t 35)),
 oF 28 37 (.faddr 1 (.t 36)),
 oF 28 38 (.load .imm false 1 (.t 37)),
 oF 28 39 (.bin 0 [] .neq (.t 33) (.t 38)),
 oO 40 (.pick (.t 28) (.c bT) (.t 39)),
 oM 41 40,
 oFm 41 42 0,
 oFm 41 43 5,
 oF 41 44 (.iaddr 5 (.t 42) (.t 43)),
 oF 41 45 (.faddr 2 (.t 44)),
 oF 41 46 (.load .imm false 1 (.t 45)),
 oFm 41 47 1,
 oFm 41 48 5,
 oF 41 49 (.iaddr 5 (.t 47) (.t 48)),
 oF 41 50 (.faddr 2 (.t 49)),
 oF 41 51 (.load .imm false 1 (.t 50)),
 oF 41 52 (.bin 0 [] .neq (.t 46) (.t 51)),
 oO 53 (.pick (.t 41) (.c bT) (.t 52)),
 oM 54 53,
 oFm 54 55 0,
 oFm 54 56 5,
 oF 54 57 (.iaddr 5 (.t 55) (.t 56)),
 oF 54 58 (.faddr 3 (.t 57)),
 oF 54 59 (.load .imm false 1 (.t 58)),
 oFm 54 60 1,
 oFm 54 61 5,
 oF 54 62 (.iaddr 5 (.t 60) (.t 61)),
 oF 54 63 (.faddr 3 (.t 62)),
 oF 54 64 (.load .imm false 1 (.t 63)),
 oF 54 65 (.bin 0 [] .neq (.t 59) (.t 64)),
 oO 66 (.pick (.t 54) (.c bT) (.t 65)),
 oM 67 66,
 oFm 67 68 0,
 oFm 67 69 5,
 oF 67 70 (.iaddr 5 (.t 68) (.t 69)),
 oF 67 71 (.faddr 4 (.t 70)),
 oF 67 72 (.load .imm false 1 (.t 71)),
 oFm 67 73 1,
 oFm 67 74 5,
 oF 67 75 (.iaddr 5 (.t 73) (.t 74)),
 oF 67 76 (.faddr 4 (.t 75)),
 oF 67 77 (.load .imm false 1 (.t 76)),
 oF 67 78 (pP 71 [.t 72,.t 77]),
 oF 67 79 (.un .not (.t 78)),
 oO 80 (.pick (.t 67) (.c bT) (.t 79))]
 (.cond (.t 80)
 (sr [
 oC 4 bF]
 .ret)
 .skip)))
 (.region [
 oM 15 5,
 oD 16 .add 15 1,
 oM 5 16])))
abbrev K71_0:List Nat:=[0,1]
abbrev B71_0:List Nat:=[]
def F71:IFn:=⟨81,2,[.tmp 4],false,false,(sr [oC 4 bF] (.seq (sr [oM 6 0,oY 7 6,oM 8 1,oY 9 8,oP 10 .neq 7 9] (.cond (.t 10) (sr [oC 4 bF] .ret) .skip)) (.seq (sr [oZ 5 0] (.block 0 L71_0)) (sr [oC 4 bT] .ret))))⟩
theorem ok71:zh Tryz.prog Tryz.f71 F71=true:=by kernel_rfl
def L37_0:ICode:= .loop [0,1,5] [6,7]
 (.seq
 (sr [
 oM 13 5,
 oM 14 0,
 oY 15 14,
 oP 16 .lss 13 15]
 (.cond (.t 16)
 .skip
 (.exit 0)))
 (.seq
 (.block 1
 (sr [
 oM 19 0,
 oM 20 5,
 oI 21 6 19 20,
 oO 22 (.load .imm true 6 (.t 21)),
 oM 23 1,
 oM 24 5,
 oI 25 6 23 24,
 oO 26 (.load .imm true 6 (.t 25)),
 oO 6 (.boxL 6 (.c (.agg [.int .i64 0,.int .i64 0,.str [],.slice .fit 5 [],.slice .fit 6 [],.slice .fit 6 []]))),
 oO 7 (.boxL 7 (.c (.agg [.int .i64 0,.int .i64 0,.str [],.slice .fit 5 [],.slice .fit 6 [],.slice .fit 6 []]))),
 oS 6 6 6 22,
 oS 7 6 7 26]
 (sr [
 oA 27 0 6,
 oL 28 6 27,
 oA 29 0 7,
 oL 30 7 29,
 oP 31 .neq 28 30,
 oM 32 31,
 oF 32 33 (.faddr 1 (.t 6)),
 oF 32 34 (.load (.box 6) false 1 (.t 33)),
 oF 32 35 (.faddr 1 (.t 7)),
 oF 32 36 (.load (.box 7) false 1 (.t 35)),
 oF 32 37 (.bin 0 [] .neq (.t 34) (.t 36)),
 oO 38 (.pick (.t 32) (.c bT) (.t 37)),
 oM 39 38,
 oF 39 40 (.faddr 2 (.t 6)),
 oF 39 41 (.load (.box 6) false 1 (.t 40)),
 oF 39 42 (.faddr 2 (.t 7)),
 oF 39 43 (.load (.box 7) false 1 (.t 42)),
 oF 39 44 (.bin 0 [] .neq (.t 41) (.t 43)),
 oO 45 (.pick (.t 39) (.c bT) (.t 44)),
 oM 46 45,
 oF 46 47 (.faddr 3 (.t 6)),
 oF 46 48 (.load (.box 6) false 1 (.t 47)),
 oF 46 49 (.faddr 3 (.t 7)),
 oF 46 50 (.load (.box 7) false 1 (.t 49)),
 oF 46 51 (pP 71 [.t 48,.t 50]),
 oF 46 52 (.un .not (.t 51)),
 oO 53 (.pick (.t 46) (.c bT) (.t 52)),
 oM 54 53,
 oF 54 55 (.faddr 4 (.t 6)),
 oF 54 56 (.load (.box 6) false 1 (.t 55)),
 oF 54 57 (.faddr 4 (.t 7)),
 oF 54 58 (.load (.box 7) false 1 (.t 57)),
 oF 54 59 (pP 37 [.t 56,.t 58]),
 oF 54 60 (.un .not (.t 59)),
 oO 61 (.pick (.t 54) (.c bT) (.t 60)),
 oM 62 61,
 oF 62 63 (.faddr 5 (.t 6)),
 oF 62 64 (.load (.box 6) false 1 (.t 63)),
 oF 62 65 (.faddr 5 (.t 7)),
 oF 62 66 (.load (.box 7) false 1 (.t 65)),
 oF 62 67 (pP 37 [.t 64,.t 66]),
 oF 62 68 (.un .not (.t 67)),
 oO 69 (.pick (.t 62) (.c bT) (.t 68))]
 (.cond (.t 69)
 (sr [
 oC 4 bF]
 .ret)
 .skip))))
 (.region [
 oM 17 5,
 oD 18 .add 17 1,
 oM 5 18])))
abbrev K37_0:List Nat:=[0,1]
abbrev B37_0:List Nat:=[]
def F37:IFn:=⟨70,2,[.tmp 4],false,false,(sr [oC 4 bF] (.seq (sr [oM 8 0,oY 9 8,oM 10 1,oY 11 10,oP 12 .neq 9 11] (.cond (.t 12) (sr [oC 4 bF] .ret) .skip)) (.seq (sr [oZ 5 0] (.block 0 L37_0)) (sr [oC 4 bT] .ret))))⟩
theorem ok37:zh Tryz.prog Tryz.f37 F37=true:=by kernel_rfl
def L16_0:ICode:= .loop [2,3,5] []
 (.seq
 (sr [
 oM 26 5,
 oA 27 0 2,
 oL 28 2 27,
 oY 29 28,
 oP 30 .lss 26 29]
 (.cond (.t 30)
 .skip
 (.exit 0)))
 (.seq
 (.block 1
 (sr [
 oA 33 0 2,
 oL 34 2 33,
 oM 35 5,
 oI 36 2 34 35,
 oO 37 (.load .imm true 2 (.t 36)),
 oA 38 0 3,
 oL 39 3 38,
 oM 40 5,
 oI 41 2 39 40,
 oO 42 (.load .imm true 2 (.t 41)),
 oO 43 (.bin 4 [2,0] .neq (.t 37) (.t 42))]
 (.cond (.t 43)
 (sr [
 oC 4 bF]
 .ret)
 .skip)))
 (.region [
 oM 31 5,
 oD 32 .add 31 1,
 oM 5 32])))
def L16_1:ICode:= .loop [2,3,6,7,8,9] []
 (.seq
 (sr [
 oM 90 9,
 oA 91 2 7,
 oL 92 7 91,
 oY 93 92,
 oP 94 .lss 90 93]
 (.cond (.t 94)
 .skip
 (.exit 4)))
 (.seq
 (.block 5
 (sr [
 oA 97 2 7,
 oL 98 7 97,
 oM 99 9,
 oI 100 2 98 99,
 oO 101 (.load .imm true 2 (.t 100)),
 oA 102 2 8,
 oL 103 8 102,
 oM 104 9,
 oI 105 2 103 104,
 oO 106 (.load .imm true 2 (.t 105)),
 oO 107 (.bin 4 [2,0] .neq (.t 101) (.t 106))]
 (.cond (.t 107)
 (sr [
 oC 4 bF]
 .ret)
 .skip)))
 (.region [
 oM 95 9,
 oD 96 .add 95 1,
 oM 9 96])))
def L16_2:ICode:= .loop [2,3,6] [7,8]
 (.seq
 (sr [
 oM 44 6,
 oA 45 1 2,
 oL 46 2 45,
 oY 47 46,
 oP 48 .lss 44 47]
 (.cond (.t 48)
 .skip
 (.exit 2)))
 (.seq
 (.block 3
 (sr [
 oA 51 1 2,
 oL 52 2 51,
 oM 53 6,
 oI 54 4 52 53,
 oO 55 (.load .imm true 4 (.t 54)),
 oA 56 1 3,
 oL 57 3 56,
 oM 58 6,
 oI 59 4 57 58,
 oO 60 (.load .imm true 4 (.t 59)),
 oO 7 (.boxL 7 (.c (.agg [.str [],.int .i64 0,.slice .fit 2 [],.slice .fit 6 []]))),
 oO 8 (.boxL 8 (.c (.agg [.str [],.int .i64 0,.slice .fit 2 [],.slice .fit 6 []]))),
 oS 7 4 7 55,
 oS 8 4 8 60]
 (.seq
 (sr [
 oA 61 0 7,
 oL 62 7 61,
 oA 63 0 8,
 oL 64 8 63,
 oP 65 .neq 62 64,
 oM 66 65,
 oF 66 67 (.faddr 1 (.t 7)),
 oF 66 68 (.load (.box 7) false 1 (.t 67)),
 oF 66 69 (.faddr 1 (.t 8)),
 oF 66 70 (.load (.box 8) false 1 (.t 69)),
 oF 66 71 (.bin 0 [] .neq (.t 68) (.t 70)),
 oO 72 (.pick (.t 66) (.c bT) (.t 71)),
 oM 73 72,
 oF 73 74 (.faddr 2 (.t 7)),
 oF 73 75 (.load (.box 7) false 1 (.t 74)),
 oF 73 76 (.len 1 (.t 75)),
 oF 73 77 (.faddr 2 (.t 8)),
 oF 73 78 (.load (.box 8) false 1 (.t 77)),
 oF 73 79 (.len 1 (.t 78)),
 oF 73 80 (.bin 0 [] .neq (.t 76) (.t 79)),
 oO 81 (.pick (.t 73) (.c bT) (.t 80)),
 oM 82 81,
 oF 82 83 (.faddr 3 (.t 7)),
 oF 82 84 (.load (.box 7) false 1 (.t 83)),
 oF 82 85 (.faddr 3 (.t 8)),
 oF 82 86 (.load (.box 8) false 1 (.t 85)),
 oF 82 87 (pP 37 [.t 84,.t 86]),
 oF 82 88 (.un .not (.t 87)),
 oO 89 (.pick (.t 82) (.c bT) (.t 88))]
 (.cond (.t 89)
 (sr [
 oC 4 bF]
 .ret)
 .skip))
 (sr [
 oZ 9 0]
 (.block 4
 L16_1)))))
 (.region [
 oM 49 6,
 oD 50 .add 49 1,
 oM 6 50])))
abbrev K16_0:List Nat:=[2,3]
abbrev B16_0:List Nat:=[2,3]
abbrev K16_1:List Nat:=[2,3,6,7,8]
abbrev B16_1:List Nat:=[2,3,7,8]
abbrev K16_2:List Nat:=[2,3]
abbrev B16_2:List Nat:=[2,3]
def F16:IFn:=⟨108,2,[.tmp 4],false,false,(sr [oO 2 (.boxL 2 (.t 0)),oO 3 (.boxL 3 (.t 1)),oC 4 bF] (.seq (sr [oA 10 0 2,oL 11 2 10,oY 12 11,oA 13 0 3,oL 14 3 13,oY 15 14,oP 16 .neq 12 15,oM 17 16,oF 17 18 (.faddr 1 (.t 2)),oF 17 19 (.load (.box 2) false 1 (.t 18)),oF 17 20 (.len 1 (.t 19)),oF 17 21 (.faddr 1 (.t 3)),oF 17 22 (.load (.box 3) false 1 (.t 21)),oF 17 23 (.len 1 (.t 22)),oF 17 24 (.bin 0 [] .neq (.t 20) (.t 23)),oO 25 (.pick (.t 17) (.c bT) (.t 24))] (.cond (.t 25) (sr [oC 4 bF] .ret) .skip)) (.seq (sr [oZ 5 0] (.block 0 L16_0)) (.seq (sr [oZ 6 0] (.block 2 L16_2)) (sr [oC 4 bT] .ret)))))⟩
theorem ok16:zh Tryz.prog Tryz.f16 F16=true:=by kernel_rfl
def F8:IFn:=⟨54,0,[.tmp 0],false,false,(sr [oC 0 bF] (sr [cP 12 14 [(.c (.str [105,110,116,32,109,97,105,110,40,41,32,123,32,105,110,116,32,120,32,61,32,49,59,32,114,101,116,117,114,110,32,120,59,32,125]))],oM 11 12,oX 13 11 0,oX 14 11 1,oX 15 11 2,oO 1 (.boxL 1 (.c (.agg [.slice .fit 2 [],.slice .fit 4 []]))),oS 1 2 1 13,oM 2 14,oM 3 15] (sr [oLa 17 1 2 1,cP 18 12 [.t 17],oM 16 18,oX 19 16 0,oX 20 16 1,oO 4 (.boxL 4 (.c (.agg [.slice .fit 2 [],.slice .fit 4 []]))),oS 4 2 4 19,oM 5 20] (sr [cP 22 14 [(.c (.str [105,110,116,32,109,97,105,110,40,41,32,123,32,105,110,116,32,97,32,61,32,49,59,32,114,101,116,117,114,110,32,97,59,32,125]))],oM 21 22,oX 23 21 0,oX 24 21 1,oX 25 21 2,oO 6 (.boxL 6 (.c (.agg [.slice .fit 2 [],.slice .fit 4 []]))),oS 6 2 6 23,oM 7 24,oM 8 25] (sr [oO 27 (.build [.slice .fit 2 [],.slice .fit 4 []] []),cP 28 12 [.t 27],oM 26 28,oX 29 26 0,oX 30 26 1,oO 9 (.boxL 9 (.c (.agg [.slice .fit 2 [],.slice .fit 4 []]))),oS 9 2 9 29,oM 10 30] (sr [oM 31 5,oD 32 .eql 31 0,oM 33 32,oT 33 34 (.load (.box 4) true 2 (.t 4)),oT 33 35 (.load (.box 6) true 2 (.t 6)),oT 33 36 (pP 16 [.t 34,.t 35]),oO 37 (.pick (.t 33) (.t 36) (.c bF)),oM 38 37,oTm 38 39 10,oT 38 40 (.bin 0 [] .eql (.t 39) (cI 1)),oO 41 (.pick (.t 38) (.t 40) (.c bF)),oM 42 41,oT 42 43 (pP 9 [cI 0]),oT 42 44 (.bin 0 [] .eql (.t 43) (.c (.str [97]))),oO 45 (.pick (.t 42) (.t 44) (.c bF)),oM 46 45,oT 46 47 (pP 9 [cI 26]),oT 46 48 (.bin 0 [] .eql (.t 47) (.c (.str [97,49]))),oO 49 (.pick (.t 46) (.t 48) (.c bF)),oM 50 49,oT 50 51 (pP 9 [(cI (-1))]),oT 50 52 (.bin 0 [] .eql (.t 51) (.c (.str []))),oO 53 (.pick (.t 50) (.t 52) (.c bF)),oM 0 53] .ret))))))⟩
theorem ok8:zh Tryz.prog Tryz.f8 F8=true:=by kernel_rfl
def F49:IFn:=⟨43,2,[.tmp 4],false,false,(sr [oZ 4 0] (sr [oM 5 0,oK 6 5,oA 7 1 6,oG 8 7,oD 9 .add 8 1,oK 10 5,oA 11 1 10,oV 11 9] (.seq (sr [oM 12 0,oK 13 12,oA 14 1 13,oG 15 14,oM 16 0,oK 17 16,oA 18 0 17,oG 19 18,oY 20 19,oP 21 .gtr 15 20,oM 22 21,oFm 22 23 0,oF 22 24 (.nilck (.t 23)),oF 22 25 (.faddr 1 (.t 24)),oF 22 26 (.load .any false 1 (.t 25)),oF 22 27 (.bin 0 [] .gtr (.t 26) (cI 120)),oO 28 (.pick (.t 22) (.c bT) (.t 27))] (.cond (.t 28) (sr [oZ 4 0] .ret) .skip)) (sr [oM 29 0,oK 30 29,oA 31 0 30,oG 32 31,oM 33 0,oK 34 33,oA 35 1 34,oG 36 35,oD 37 .sub 36 1,oI 38 1 32 37,oH 39 38,oO 40 (.conv .i64 (.t 39)),oM 41 1,oP 42 .rem 40 41,oM 4 42] .ret))))⟩
theorem ok49:zh Tryz.prog Tryz.f49 F49=true:=by kernel_rfl
def F26:IFn:=⟨111,4,[.tmp 8],false,false,(sr [oC 8 (.str [])] (sr [oM 13 0,cF 14 49 [.t 13,cI 10],oM 9 14] (.seq (sr [oM 15 3,oD 16 .lss 15 1] (.cond (.t 16) (.region [oM 17 9,oD 18 .rem 17 3,oM 9 18]) .skip)) (.seq (.block 0 (sr [oM 20 9,oD 21 .eql 20 0,oM 19 21] (.cond (.t 19) (sr [oO 22 (.bslice 1 (.str []) 2 [(0,(.c (.str [116,114,117,101]))),(1,(.c (.str [102,97,108,115,101])))]),oM 23 0,cF 24 49 [.t 23,cI 2],oI 25 1 22 24,oG 26 25,oM 8 26] .ret) (sr [oM 28 9,oD 29 .lss 28 3,oM 27 29] (.cond (.t 27) (sr [oM 30 2,oM 8 30] .ret) (sr [oM 32 9,oD 33 .eql 32 3,oM 31 33] (.cond (.t 31) (sr [oM 34 2,oB 35 .add (.c (.str [33])) (.t 34),oM 8 35] .ret) (sr [oM 37 9,oD 38 .lss 37 7,oM 36 38] (.cond (.t 36) (sr [oM 39 0,oM 40 1,oM 41 2,oM 42 3,oD 43 .sub 42 1,cF 44 25 [.t 39,.t 40,.t 41,.t 43],oM 10 44] (sr [oM 45 10,oB 46 .add (.c (.str [40])) (.t 45),oB 47 .add (.t 46) (.c (.str [32])),oO 48 (.bslice 1 (.str []) 6 [(0,(.c (.str [60]))),(1,(.c (.str [60,61]))),(2,(.c (.str [62]))),(3,(.c (.str [62,61]))),(4,(.c (.str [61,61]))),(5,(.c (.str [33,61])))]),oM 49 0,cF 50 49 [.t 49,cI 6],oI 51 1 48 50,oH 52 51,oP 53 .add 47 52,oB 54 .add (.t 53) (.c (.str [32])),oM 55 0,oM 56 1,oM 57 2,oM 58 3,oD 59 .sub 58 1,cF 60 25 [.t 55,.t 56,.t 57,.t 59],oP 61 .add 54 60,oB 62 .add (.t 61) (.c (.str [41])),oM 8 62] .ret)) (sr [oM 64 9,oD 65 .eql 64 7,oM 63 65] (.cond (.t 63) (sr [oM 66 0,oM 67 1,oM 68 2,oM 69 3,oD 70 .sub 69 1,cF 71 26 [.t 66,.t 67,.t 68,.t 70],oM 11 71] (sr [oM 72 11,oB 73 .add (.c (.str [40])) (.t 72),oB 74 .add (.t 73) (.c (.str [32,38,38,32])),oM 75 0,oM 76 1,oM 77 2,oM 78 3,oD 79 .sub 78 1,cF 80 26 [.t 75,.t 76,.t 77,.t 79],oP 81 .add 74 80,oB 82 .add (.t 81) (.c (.str [41])),oM 8 82] .ret)) (sr [oM 84 9,oD 85 .eql 84 8,oM 83 85] (.cond (.t 83) (sr [oM 86 0,oM 87 1,oM 88 2,oM 89 3,oD 90 .sub 89 1,cF 91 26 [.t 86,.t 87,.t 88,.t 90],oM 12 91] (sr [oM 92 12,oB 93 .add (.c (.str [40])) (.t 92),oB 94 .add (.t 93) (.c (.str [32,124,124,32])),oM 95 0,oM 96 1,oM 97 2,oM 98 3,oD 99 .sub 98 1,cF 100 26 [.t 95,.t 96,.t 97,.t 99],oP 101 .add 94 100,oB 102 .add (.t 101) (.c (.str [41])),oM 8 102] .ret)) .skip))))))))))))) (sr [oM 103 0,oM 104 1,oM 105 2,oM 106 3,oD 107 .sub 106 1,cF 108 25 [.t 103,.t 104,.t 105,.t 107],oB 109 .add (.c (.str [103,40])) (.t 108),oB 110 .add (.t 109) (.c (.str [41])),oM 8 110] .ret)))))⟩
theorem ok26:zh Tryz.prog Tryz.f26 F26=true:=by kernel_rfl
def F25:IFn:=⟨117,4,[.tmp 8],false,false,(sr [oC 8 (.str [])] (sr [oM 12 0,cF 13 49 [.t 12,cI 14],oM 9 13] (.seq (sr [oM 14 3,oD 15 .lss 14 1] (.cond (.t 15) (.region [oM 16 9,oD 17 .rem 16 6,oM 9 17]) .skip)) (.seq (.block 0 (sr [oM 19 9,oD 20 .lss 19 2,oM 18 20] (.cond (.t 18) (sr [oO 21 (.bslice 1 (.str []) 6 [(0,(.c (.str [48]))),(1,(.c (.str [49]))),(2,(.c (.str [50]))),(3,(.c (.str [55]))),(4,(.c (.str [50,53,53]))),(5,(.c (.str [54,52])))]),oM 22 0,cF 23 49 [.t 22,cI 6],oI 24 1 21 23,oG 25 24,oM 8 25] .ret) (sr [oM 27 9,oD 28 .lss 27 5,oM 26 28] (.cond (.t 26) (sr [oM 29 1,oM 8 29] .ret) (sr [oM 31 9,oD 32 .eql 31 5,oM 30 32] (.cond (.t 30) (sr [oM 33 1,oB 34 .add (.c (.str [97,91])) (.t 33),oB 35 .add (.t 34) (.c (.str [32,38,32,51,93])),oM 8 35] .ret) (sr [oM 37 9,oD 38 .eql 37 6,oM 36 38] (.cond (.t 36) (sr [oM 39 0,oM 40 1,oM 41 2,oM 42 3,oD 43 .sub 42 1,cF 44 25 [.t 39,.t 40,.t 41,.t 43],oB 45 .add (.c (.str [97,91])) (.t 44),oB 46 .add (.t 45) (.c (.str [93])),oM 8 46] .ret) (sr [oM 48 9,oD 49 .eql 48 7,oM 47 49] (.cond (.t 47) (sr [oO 50 (.bslice 1 (.str []) 5 [(0,(.c (.str [45]))),(1,(.c (.str [126]))),(2,(.c (.str [105,56]))),(3,(.c (.str [117,49,54]))),(4,(.c (.str [105,51,50])))]),oM 51 0,cF 52 49 [.t 51,cI 5],oI 53 1 50 52,oH 54 53,oB 55 .add (.t 54) (.c (.str [40])),oM 56 0,oM 57 1,oM 58 2,oM 59 3,oD 60 .sub 59 1,cF 61 25 [.t 56,.t 57,.t 58,.t 60],oP 62 .add 55 61,oB 63 .add (.t 62) (.c (.str [41])),oM 8 63] .ret) (sr [oM 65 9,oD 66 .lss 65 11,oM 64 66] (.cond (.t 64) (sr [oM 67 0,oM 68 1,oM 69 2,oM 70 3,oD 71 .sub 70 1,cF 72 25 [.t 67,.t 68,.t 69,.t 71],oM 10 72] (sr [oM 73 10,oB 74 .add (.c (.str [40])) (.t 73),oB 75 .add (.t 74) (.c (.str [32])),oO 76 (.bslice 1 (.str []) 11 [(0,(.c (.str [43]))),(1,(.c (.str [45]))),(2,(.c (.str [42]))),(3,(.c (.str [47]))),(4,(.c (.str [37]))),(5,(.c (.str [38]))),(6,(.c (.str [124]))),(7,(.c (.str [94]))),(8,(.c (.str [60,60]))),(9,(.c (.str [62,62]))),(10,(.c (.str [62,62,62])))]),oM 77 0,cF 78 49 [.t 77,cI 11],oI 79 1 76 78,oH 80 79,oP 81 .add 75 80,oB 82 .add (.t 81) (.c (.str [32])),oM 83 0,oM 84 1,oM 85 2,oM 86 3,oD 87 .sub 86 1,cF 88 25 [.t 83,.t 84,.t 85,.t 87],oP 89 .add 82 88,oB 90 .add (.t 89) (.c (.str [41])),oM 8 90] .ret)) (sr [oM 92 9,oD 93 .eql 92 11,oM 91 93] (.cond (.t 91) (sr [oC 8 (.str [114,101,97,100,40,41])] .ret) (sr [oM 95 9,oD 96 .eql 95 12,oM 94 96] (.cond (.t 94) (sr [oM 97 1,oB 98 .add (.c (.str [99,91])) (.t 97),oB 99 .add (.t 98) (.c (.str [32,37,32,51,93])),oM 8 99] .ret) .skip))))))))))))))))) (sr [oM 100 0,oM 101 1,oM 102 2,oM 103 3,oD 104 .sub 103 1,cF 105 25 [.t 100,.t 101,.t 102,.t 104],oM 11 105] (sr [oM 106 11,oB 107 .add (.c (.str [102,40])) (.t 106),oB 108 .add (.t 107) (.c (.str [44,32])),oM 109 0,oM 110 1,oM 111 2,oM 112 3,oD 113 .sub 112 1,cF 114 26 [.t 109,.t 110,.t 111,.t 113],oP 115 .add 108 114,oB 116 .add (.t 115) (.c (.str [41])),oM 8 116] .ret))))))⟩
theorem ok25:zh Tryz.prog Tryz.f25 F25=true:=by kernel_rfl
def F50:IFn:=⟨211,5,[.tmp 10],false,false,(sr [oC 10 (.str [])] (sr [oM 15 0,cF 16 49 [.t 15,cI 13],oM 11 16] (.seq (.block 0 (sr [oM 18 11,oD 19 .lss 18 3,oM 17 19] (.cond (.t 17) (sr [oM 20 1,oB 21 .add (.t 20) (.c (.str [32,61,32])),oM 22 0,oM 23 1,oM 24 2,cF 25 25 [.t 22,.t 23,.t 24,cI 2],oP 26 .add 21 25,oB 27 .add (.t 26) (.c (.str [59,10])),oM 10 27] .ret) (sr [oM 29 11,oD 30 .eql 29 3,oM 28 30] (.cond (.t 28) (sr [oM 31 2,oB 32 .add (.t 31) (.c (.str [32,61,32])),oM 33 0,oM 34 1,oM 35 2,cF 36 26 [.t 33,.t 34,.t 35,cI 2],oP 37 .add 32 36,oB 38 .add (.t 37) (.c (.str [59,10])),oM 10 38] .ret) (sr [oM 40 11,oD 41 .eql 40 4,oM 39 41] (.cond (.t 39) (sr [oM 42 0,oM 43 1,oM 44 2,cF 45 25 [.t 42,.t 43,.t 44,cI 2],oB 46 .add (.c (.str [112,114,105,110,116,40])) (.t 45),oB 47 .add (.t 46) (.c (.str [41,59,10])),oM 10 47] .ret) (sr [oM 49 11,oD 50 .eql 49 5,oM 48 50] (.cond (.t 48) (sr [oM 51 0,oM 52 1,oM 53 2,cF 54 25 [.t 51,.t 52,.t 53,cI 1],oM 12 54] (sr [oM 55 12,oB 56 .add (.c (.str [97,91])) (.t 55),oB 57 .add (.t 56) (.c (.str [32,38,32,51,93,32,61,32])),oM 58 0,oM 59 1,oM 60 2,cF 61 25 [.t 58,.t 59,.t 60,cI 2],oP 62 .add 57 61,oB 63 .add (.t 62) (.c (.str [59,10])),oM 10 63] .ret)) (sr [oM 65 11,oD 66 .eql 65 6,oM 67 66,oTm 67 68 4,oO 69 (.pick (.t 67) (.t 68) (.c bF)),oM 64 69] (.cond (.t 64) (sr [oM 70 2,oB 71 .add (.c (.str [105,102,32,40])) (.t 70),oB 72 .add (.t 71) (.c (.str [41,32,123,10,98,114,101,97,107,59,10,125,10])),oM 73 1,oB 74 .add (.c (.str [105,102,32,40])) (.t 73),oB 75 .add (.t 74) (.c (.str [32,62,32,51,41,32,123,10,99,111,110,116,105,110,117,101,59,10,125,10])),oO 76 (.bslice 1 (.str []) 4 [(0,(.c (.str [98,114,101,97,107,59,10]))),(1,(.c (.str [99,111,110,116,105,110,117,101,59,10]))),(2,(.t 72)),(3,(.t 75))]),oM 77 0,cF 78 49 [.t 77,cI 4],oI 79 1 76 78,oG 80 79,oM 10 80] .ret) (sr [oM 82 11,oD 83 .eql 82 7,oM 84 83,oTm 84 85 3,oT 84 86 (.bin 0 [] .gtr (.t 85) (cI 0)),oO 87 (.pick (.t 84) (.t 86) (.c bF)),oM 81 87] (.cond (.t 81) (sr [oM 88 2,oB 89 .add (.c (.str [105,102,32,40])) (.t 88),oB 90 .add (.t 89) (.c (.str [41,32,123,10,105,110,116,32,122,32,61,32])),oM 91 0,oM 92 1,oM 93 2,cF 94 25 [.t 91,.t 92,.t 93,cI 1],oP 95 .add 90 94,oB 96 .add (.t 95) (.c (.str [59,10,98,111,111,108,32,119,32,61,32])),oM 97 0,oM 98 2,cF 99 26 [(.t 97),(.c (.str [122])),(.t 98),(cI 1)],oP 100 .add 96 99,oB 101 .add (.t 100) (.c (.str [59,10])),oM 102 0,oM 103 3,oD 104 .sub 103 1,oM 105 4,cF 106 24 [(.t 102),(.c (.str [122])),(.c (.str [119])),(.t 104),(.t 105)],oP 107 .add 101 106,oM 108 1,oP 109 .add 107 108,oB 110 .add (.t 109) (.c (.str [32,61,32,122,59,10,125,10])),oM 10 110] .ret) (sr [oM 112 11,oD 113 .lss 112 10,oM 114 113,oTm 114 115 3,oT 114 116 (.bin 0 [] .gtr (.t 115) (cI 0)),oO 117 (.pick (.t 114) (.t 116) (.c bF)),oM 111 117] (.cond (.t 111) (sr [oM 118 0,oM 119 1,oM 120 2,cF 121 26 [.t 118,.t 119,.t 120,cI 2],oB 122 .add (.c (.str [105,102,32,40])) (.t 121),oB 123 .add (.t 122) (.c (.str [41,32,123,10])),oM 13 123] (sr [oM 124 13,oM 125 0,oM 126 1,oM 127 2,oM 128 3,oD 129 .sub 128 1,oM 130 4,cF 131 24 [.t 125,.t 126,.t 127,.t 129,.t 130],oP 132 .add 124 131,oM 13 132] (.seq (sr [oM 133 0,cF 134 49 [.t 133,cI 2],oD 135 .eql 134 1] (.cond (.t 135) (.region [oM 136 13,oB 137 .add (.t 136) (.c (.str [125,32,101,108,115,101,32,123,10])),oM 138 0,oM 139 1,oM 140 2,oM 141 3,oD 142 .sub 141 1,oM 143 4,cF 144 24 [.t 138,.t 139,.t 140,.t 142,.t 143],oP 145 .add 137 144,oM 13 145]) .skip)) (sr [oM 146 13,oB 147 .add (.t 146) (.c (.str [125,10])),oM 10 147] .ret)))) (sr [oM 149 11,oD 150 .lss 149 12,oM 151 150,oTm 151 152 3,oT 151 153 (.bin 0 [] .gtr (.t 152) (cI 0)),oO 154 (.pick (.t 151) (.t 153) (.c bF)),oM 148 154] (.cond (.t 148) (sr [oM 155 0,oM 156 1,oM 157 2,cF 158 26 [.t 155,.t 156,.t 157,cI 1],oB 159 .add (.c (.str [119,104,105,108,101,32,40])) (.t 158),oB 160 .add (.t 159) (.c (.str [41,32,123,10])),oM 14 160] (sr [oM 161 14,oM 162 0,oM 163 1,oM 164 2,oM 165 3,oD 166 .sub 165 1,cF 167 24 [.t 162,.t 163,.t 164,.t 166,.c bT],oP 168 .add 161 167,oM 14 168] (sr [oM 169 14,oM 170 1,oP 171 .add 169 170,oB 172 .add (.t 171) (.c (.str [32,61,32])),oM 173 1,oP 174 .add 172 173,oB 175 .add (.t 174) (.c (.str [32,43,32,49,59,10,105,102,32,40])),oM 176 1,oP 177 .add 175 176,oB 178 .add (.t 177) (.c (.str [32,62,32])),oO 179 (.bslice 1 (.str []) 3 [(0,(.c (.str [52]))),(1,(.c (.str [57]))),(2,(.c (.str [51,48])))]),oM 180 0,cF 181 49 [.t 180,cI 3],oI 182 1 179 181,oG 183 182,oP 184 .add 178 183,oB 185 .add (.t 184) (.c (.str [41,32,123,10,98,114,101,97,107,59,10,125,10,125,10])),oM 10 185] .ret))) (sr [oM 187 11,oD 188 .eql 187 12,oM 189 188,oTm 189 190 1,oT 189 191 (.bin 0 [] .neq (.t 190) (.c (.str [122]))),oO 192 (.pick (.t 189) (.t 191) (.c bF)),oM 186 192] (.cond (.t 186) (sr [oM 193 2,oB 194 .add (.c (.str [105,102,32,40])) (.t 193),oB 195 .add (.t 194) (.c (.str [41,32,123,10,114,101,116,117,114,110,32])),oM 196 2,oB 197 .add (.c (.str [102,40,120,44,32])) (.t 196),oB 198 .add (.t 197) (.c (.str [41])),oO 199 (.bslice 1 (.str []) 4 [(0,(.c (.str [120]))),(1,(.c (.str [120,32,43,32,49]))),(2,(.c (.str [48]))),(3,(.t 198))]),oM 200 0,cF 201 49 [.t 200,cI 4],oI 202 1 199 201,oG 203 202,oP 204 .add 195 203,oB 205 .add (.t 204) (.c (.str [59,10,125,10])),oM 10 205] .ret) .skip))))))))))))))))))) (sr [oM 206 1,oB 207 .add (.t 206) (.c (.str [32,61,32])),oM 208 1,oP 209 .add 207 208,oB 210 .add (.t 209) (.c (.str [32,45,32,49,59,10])),oM 10 210] .ret))))⟩
theorem ok50:zh Tryz.prog Tryz.f50 F50=true:=by kernel_rfl
def L24_0:ICode:= .loop [0,1,2,3,4,11,12] []
 (.seq
 (sr [
 oM 15 12,
 oD 16 .gtr 15 0]
 (.cond (.t 16)
 .skip
 (.exit 0)))
 (.seq
 (.block 1
 (.region [
 oM 19 11,
 oM 20 0,
 oM 21 1,
 oM 22 2,
 oM 23 3,
 oM 24 4,
 cF 25 50 [.t 20,.t 21,.t 22,.t 23,.t 24],
 oP 26 .add 19 25,
 oM 11 26]))
 (.region [
 oM 17 12,
 oD 18 .sub 17 1,
 oM 12 18])))
abbrev K24_0:List Nat:=[0,1,2,3,4]
abbrev B24_0:List Nat:=[]
def F24:IFn:=⟨28,5,[.tmp 10],false,false,(sr [oC 10 (.str [])] (sr [oC 11 (.str [])] (.seq (sr [oM 13 0,cF 14 49 [.t 13,cI 5],oM 12 14] (.block 0 L24_0)) (sr [oM 27 11,oM 10 27] .ret))))⟩
theorem ok24:zh Tryz.prog Tryz.f24 F24=true:=by kernel_rfl
def F11:IFn:=⟨51,1,[.cell 2 true 2],true,false,(sr [oO 2 (.boxL 2 (.c (.agg [.slice .fit 2 [],.slice .fit 4 []])))] (sr [oE 8 0,oO 9 (.build [.slice .fit 1 [],.int .i64 0] [(0,1,(.t 8))]),oO 10 (.boxS 2 (.t 9)),oM 3 10] (sr [oC 4 (.str [105,110,116,32,97,91,52,93,59,10,105,110,116,32,99,91,51,93,59,10])] (sr [oM 11 4,oB 12 .add (.t 11) (.c (.str [105,110,116,32,102,40,105,110,116,32,120,44,32,98,111,111,108,32,98,41,32,123,10])),oM 13 3,cF 14 24 [(.t 13),(.c (.str [120])),(.c (.str [98])),(cI 2),(.c bF)],oP 15 .add 12 14,oB 16 .add (.t 15) (.c (.str [114,101,116,117,114,110,32])),oM 17 3,cF 18 25 [(.t 17),(.c (.str [120])),(.c (.str [98])),(cI 2)],oP 19 .add 16 18,oB 20 .add (.t 19) (.c (.str [59,10,125,10])),oM 4 20] (sr [oM 21 4,oB 22 .add (.t 21) (.c (.str [98,111,111,108,32,103,40,105,110,116,32,120,41,32,123,10,98,111,111,108,32,98,32,61,32,120,32,62,32,50,59,10])),oM 23 3,cF 24 24 [(.t 23),(.c (.str [120])),(.c (.str [98])),(cI 1),(.c bF)],oP 25 .add 22 24,oB 26 .add (.t 25) (.c (.str [114,101,116,117,114,110,32])),oM 27 3,cF 28 26 [(.t 27),(.c (.str [120])),(.c (.str [98])),(cI 2)],oP 29 .add 26 28,oB 30 .add (.t 29) (.c (.str [59,10,125,10])),oM 4 30] (sr [oM 31 4,oB 32 .add (.t 31) (.c (.str [105,110,116,32,109,97,105,110,40,41,32,123,10,105,110,116,32,120,32,61,32,51,59,10,98,111,111,108,32,98,32,61,32,102,97,108,115,101,59,10])),oM 33 3,cF 34 24 [(.t 33),(.c (.str [120])),(.c (.str [98])),(cI 3),(.c bF)],oP 35 .add 32 34,oB 36 .add (.t 35) (.c (.str [114,101,116,117,114,110,32])),oM 37 3,cF 38 25 [(.t 37),(.c (.str [120])),(.c (.str [98])),(cI 2)],oP 39 .add 36 38,oB 40 .add (.t 39) (.c (.str [59,10,125,10])),oM 4 40] (sr [oM 42 4,cP 43 14 [.t 42],oM 41 43,oX 44 41 0,oX 45 41 1,oX 46 41 2,oO 5 (.boxL 5 (.c (.agg [.slice .fit 2 [],.slice .fit 4 []]))),oS 5 2 5 44,oM 6 45,oM 7 46] (.seq (sr [oM 47 6,oD 48 .neq 47 0] (.cond (.t 48) (sr [oO 49 (.build [.slice .fit 2 [],.slice .fit 4 []] []),oS 2 2 2 49] .ret) .skip)) (sr [oLa 50 5 2 5,oS 2 2 2 50] .ret)))))))))⟩
theorem ok11:zh Tryz.prog Tryz.f11 F11=true:=by kernel_rfl
def L38_0:ICode:= .loop [0,1,5] []
 (.seq
 (sr [
 oM 11 5,
 oM 12 0,
 oY 13 12,
 oP 14 .lss 11 13]
 (.cond (.t 14)
 .skip
 (.exit 0)))
 (.seq
 (.block 1
 (sr [
 oM 17 0,
 oM 18 5,
 oI 19 1 17 18,
 oH 20 19,
 oM 21 1,
 oM 22 5,
 oI 23 1 21 22,
 oH 24 23,
 oP 25 .neq 20 24]
 (.cond (.t 25)
 (sr [
 oC 4 bF]
 .ret)
 .skip)))
 (.region [
 oM 15 5,
 oD 16 .add 15 1,
 oM 5 16])))
abbrev K38_0:List Nat:=[0,1]
abbrev B38_0:List Nat:=[]
def F38:IFn:=⟨26,2,[.tmp 4],false,false,(sr [oC 4 bF] (.seq (sr [oM 6 0,oY 7 6,oM 8 1,oY 9 8,oP 10 .neq 7 9] (.cond (.t 10) (sr [oC 4 bF] .ret) .skip)) (.seq (sr [oZ 5 0] (.block 0 L38_0)) (sr [oC 4 bT] .ret))))⟩
theorem ok38:zh Tryz.prog Tryz.f38 F38=true:=by kernel_rfl
def F17:IFn:=⟨38,2,[.tmp 4],false,false,(sr [oO 2 (.boxL 2 (.t 0)),oO 3 (.boxL 3 (.t 1)),oC 4 bF] (sr [oA 5 0 2,oL 6 2 5,oA 7 0 3,oL 8 3 7,oP 9 .eql 6 8,oM 10 9,oT 10 11 (.faddr 1 (.t 2)),oT 10 12 (.load (.box 2) false 1 (.t 11)),oT 10 13 (.faddr 1 (.t 3)),oT 10 14 (.load (.box 3) false 1 (.t 13)),oT 10 15 (.bin 0 [] .eql (.t 12) (.t 14)),oO 16 (.pick (.t 10) (.t 15) (.c bF)),oM 17 16,oT 17 18 (.faddr 2 (.t 2)),oT 17 19 (.load (.box 2) false 1 (.t 18)),oT 17 20 (.faddr 2 (.t 3)),oT 17 21 (.load (.box 3) false 1 (.t 20)),oT 17 22 (pP 38 [.t 19,.t 21]),oO 23 (.pick (.t 17) (.t 22) (.c bF)),oM 24 23,oT 24 25 (.faddr 3 (.t 2)),oT 24 26 (.load (.box 2) false 1 (.t 25)),oT 24 27 (.faddr 3 (.t 3)),oT 24 28 (.load (.box 3) false 1 (.t 27)),oT 24 29 (.bin 0 [] .eql (.t 26) (.t 28)),oO 30 (.pick (.t 24) (.t 29) (.c bF)),oM 31 30,oT 31 32 (.faddr 4 (.t 2)),oT 31 33 (.load (.box 2) false 1 (.t 32)),oT 31 34 (.faddr 4 (.t 3)),oT 31 35 (.load (.box 3) false 1 (.t 34)),oT 31 36 (.bin 0 [] .eql (.t 33) (.t 35)),oO 37 (.pick (.t 31) (.t 36) (.c bF)),oM 4 37] .ret))⟩
theorem ok17:zh Tryz.prog Tryz.f17 F17=true:=by kernel_rfl
def L41_0:ICode:= .loop [1,2,5] []
 (.seq
 (sr [
 oM 6 5,
 oA 7 1 2,
 oL 8 2 7,
 oY 9 8,
 oP 10 .lss 6 9]
 (.cond (.t 10)
 .skip
 (.exit 0)))
 (.seq
 (.block 1
 (sr [
 oA 13 1 2,
 oL 14 2 13,
 oM 15 5,
 oI 16 4 14 15,
 oA 17 0 16,
 oG 18 17,
 oM 19 1,
 oP 20 .eql 18 19]
 (.cond (.t 20)
 (sr [
 oM 21 5,
 oM 4 21]
 .ret)
 .skip)))
 (.region [
 oM 11 5,
 oD 12 .add 11 1,
 oM 5 12])))
abbrev K41_0:List Nat:=[1,2]
abbrev B41_0:List Nat:=[2]
def F41:IFn:=⟨22,2,[.tmp 4],false,false,(sr [oO 2 (.boxL 2 (.t 0)),oZ 4 0] (.seq (sr [oZ 5 0] (.block 0 L41_0)) (sr [oO 4 (.mv (cI (-1)))] .ret)))⟩
theorem ok41:zh Tryz.prog Tryz.f41 F41=true:=by kernel_rfl
def L98_0:ICode:= .loop [1,2,5] []
 (.seq
 (sr [
 oM 6 5,
 oA 7 0 2,
 oL 8 2 7,
 oY 9 8,
 oP 10 .lss 6 9]
 (.cond (.t 10)
 .skip
 (.exit 0)))
 (.seq
 (.block 1
 (sr [
 oA 13 0 2,
 oL 14 2 13,
 oM 15 5,
 oI 16 2 14 15,
 oA 17 0 16,
 oG 18 17,
 oM 19 1,
 oP 20 .eql 18 19]
 (.cond (.t 20)
 (sr [
 oM 21 5,
 oM 4 21]
 .ret)
 .skip)))
 (.region [
 oM 11 5,
 oD 12 .add 11 1,
 oM 5 12])))
abbrev K98_0:List Nat:=[1,2]
abbrev B98_0:List Nat:=[2]
def F98:IFn:=⟨22,2,[.tmp 4],false,false,(sr [oO 2 (.boxL 2 (.t 0)),oZ 4 0] (.seq (sr [oZ 5 0] (.block 0 L98_0)) (sr [oO 4 (.mv (cI (-1)))] .ret)))⟩
theorem ok98:zh Tryz.prog Tryz.f98 F98=true:=by kernel_rfl
def L72_0:ICode:= .loop [1,3] []
 (.seq
 (sr [
 oM 6 3,
 oA 7 0 1,
 oL 8 1 7,
 oY 9 8,
 oP 10 .lss 6 9]
 (.cond (.t 10)
 .skip
 (.exit 0)))
 (.seq
 (.block 1
 (sr [
 oLa 13 1 2 1,
 oA 14 0 1,
 oL 15 1 14,
 oM 16 3,
 oI 17 2 15 16,
 oA 18 0 17,
 oH 19 18,
 cP 20 98 [.t 13,.t 19],
 oM 21 3,
 oP 22 .neq 20 21,
 oM 23 22,
 oF 23 24 (.load (.box 1) true 2 (.t 1)),
 oF 23 25 (.faddr 0 (.t 1)),
 oF 23 26 (.load (.box 1) false 1 (.t 25)),
 oFm 23 27 3,
 oF 23 28 (.iaddr 2 (.t 26) (.t 27)),
 oF 23 29 (.faddr 0 (.t 28)),
 oF 23 30 (.load .imm false 1 (.t 29)),
 oF 23 31 (pP 41 [.t 24,.t 30]),
 oF 23 32 (.bin 0 [] .geq (.t 31) (cI 0)),
 oO 33 (.pick (.t 23) (.c bT) (.t 32))]
 (.cond (.t 33)
 (sr [
 oC 2 bF]
 .ret)
 .skip)))
 (.region [
 oM 11 3,
 oD 12 .add 11 1,
 oM 3 12])))
def L72_1:ICode:= .loop [1,4] []
 (.seq
 (sr [
 oM 34 4,
 oA 35 1 1,
 oL 36 1 35,
 oY 37 36,
 oP 38 .lss 34 37]
 (.cond (.t 38)
 .skip
 (.exit 2)))
 (.seq
 (.block 3
 (sr [
 oLa 41 1 2 1,
 oA 42 1 1,
 oL 43 1 42,
 oM 44 4,
 oI 45 4 43 44,
 oA 46 0 45,
 oH 47 46,
 cP 48 41 [.t 41,.t 47],
 oM 49 4,
 oP 50 .neq 48 49]
 (.cond (.t 50)
 (sr [
 oC 2 bF]
 .ret)
 .skip)))
 (.region [
 oM 39 4,
 oD 40 .add 39 1,
 oM 4 40])))
abbrev K72_0:List Nat:=[1]
abbrev B72_0:List Nat:=[1]
abbrev K72_1:List Nat:=[1]
abbrev B72_1:List Nat:=[1]
def F72:IFn:=⟨74,1,[.tmp 2],false,false,(sr [oO 1 (.boxL 1 (.t 0)),oC 2 bF] (.seq (sr [oZ 3 0] (.block 0 L72_0)) (.seq (sr [oZ 4 0] (.block 2 L72_1)) (sr [oLa 51 1 2 1,cP 52 41 [(.t 51),(.c (.str [109,97,105,110]))],oM 5 52] (sr [oM 53 5,oD 54 .geq 53 0,oM 55 54,oT 55 56 (.faddr 1 (.t 1)),oT 55 57 (.load (.box 1) false 1 (.t 56)),oTm 55 58 5,oT 55 59 (.iaddr 4 (.t 57) (.t 58)),oT 55 60 (.faddr 1 (.t 59)),oT 55 61 (.load .any false 1 (.t 60)),oT 55 62 (.bin 0 [] .eql (.t 61) (cI 1)),oO 63 (.pick (.t 55) (.t 62) (.c bF)),oM 64 63,oT 64 65 (.faddr 1 (.t 1)),oT 64 66 (.load (.box 1) false 1 (.t 65)),oTm 64 67 5,oT 64 68 (.iaddr 4 (.t 66) (.t 67)),oT 64 69 (.faddr 2 (.t 68)),oT 64 70 (.load .any false 1 (.t 69)),oT 64 71 (.len 1 (.t 70)),oT 64 72 (.bin 0 [] .eql (.t 71) (cI 0)),oO 73 (.pick (.t 64) (.t 72) (.c bF)),oM 2 73] .ret)))))⟩
theorem ok72:zh Tryz.prog Tryz.f72 F72=true:=by kernel_rfl
def L73_0:ICode:= .loop [0,1,6] []
 (.seq
 (sr [
 oM 10 6,
 oD 11 .geq 10 0]
 (.cond (.t 11)
 .skip
 (.exit 0)))
 (.seq
 (.block 1
 (sr [
 oM 14 0,
 oM 15 6,
 oI 16 2 14 15,
 oA 17 0 16,
 oG 18 17,
 oM 19 1,
 oP 20 .eql 18 19]
 (.cond (.t 20)
 (sr [
 oE 21 0,
 oM 22 6,
 oI 23 2 21 22,
 oA 24 1 23,
 oG 25 24,
 oM 4 25,
 oC 5 bT]
 .ret)
 .skip)))
 (.region [
 oM 12 6,
 oD 13 .sub 12 1,
 oM 6 13])))
abbrev K73_0:List Nat:=[0,1]
abbrev B73_0:List Nat:=[]
def F73:IFn:=⟨26,2,[.tmp 4,.tmp 5],false,false,(sr [oZ 4 0,oC 5 bF] (.seq (sr [oM 7 0,oY 8 7,oD 9 .sub 8 1,oM 6 9] (.block 0 L73_0)) (sr [oZ 4 0,oC 5 bF] .ret)))⟩
theorem ok73:zh Tryz.prog Tryz.f73 F73=true:=by kernel_rfl
def F155:IFn:=⟨29,1,[.tmp 2,.tmp 3],false,false,(sr [oZ 2 0,oZ 3 0] (.seq (.block 0 (sr [oM 5 0,oD 6 .eql 5 18,oM 7 6,oFm 7 8 0,oF 7 9 (.bin 0 [] .eql (.t 8) (cI 19)),oO 10 (.pick (.t 7) (.c bT) (.t 9)),oM 11 10,oFm 11 12 0,oF 11 13 (.bin 0 [] .eql (.t 12) (cI 22)),oO 14 (.pick (.t 11) (.c bT) (.t 13)),oM 4 14] (.cond (.t 4) (sr [oZ 2 2,oZ 3 2] .ret) (sr [oM 16 0,oD 17 .eql 16 16,oM 18 17,oFm 18 19 0,oF 18 20 (.bin 0 [] .eql (.t 19) (cI 17)),oO 21 (.pick (.t 18) (.c bT) (.t 20)),oM 15 21] (.cond (.t 15) (sr [oZ 2 0,oZ 3 2] .ret) (sr [oM 23 0,oD 24 .geq 23 12,oM 25 24,oTm 25 26 0,oT 25 27 (.bin 0 [] .leq (.t 26) (cI 15)),oO 28 (.pick (.t 25) (.t 27) (.c bF)),oM 22 28] (.cond (.t 22) (sr [oZ 2 1,oZ 3 2] .ret) .skip))))))) (sr [oZ 2 1,oZ 3 1] .ret)))⟩
theorem ok155:zh Tryz.prog Tryz.f155 F155=true:=by kernel_rfl
def L124_0:ICode:= .loop [1,3,5,8,9,11,12] []
 (.seq
 (sr [
 oM 76 12,
 oA 77 4 5,
 oL 78 5 77,
 oY 79 78,
 oP 80 .lss 76 79]
 (.cond (.t 80)
 .skip
 (.exit 1)))
 (.seq
 (.block 2
 (sr [
 oLa 84 3 2 3,
 oM 85 1,
 oA 86 4 5,
 oL 87 5 86,
 oM 88 12,
 oI 89 5 87 88,
 oO 90 (.load .imm true 5 (.t 89)),
 cP 91 124 [.t 84,.t 85,.t 90],
 oM 83 91,
 oX 92 83 0,
 oX 93 83 1,
 oM 13 92,
 oM 14 93]
 (.seq
 (sr [
 oM 94 14,
 oD 95 .neq 94 0]
 (.cond (.t 95)
 (sr [
 oM 96 14,
 oZ 6 0,
 oM 7 96]
 .ret)
 .skip))
 (.region [
 oE 97 11,
 oM 98 13,
 oO 99 (.bslice 1 (.int .i64 0) 1 [(0,(.t 98))]),
 oO 100 (.append 1 8 (.t 97) (.t 99)),
 oE 11 100]))))
 (.region [
 oM 81 12,
 oD 82 .add 81 1,
 oM 12 82])))
def L124_1:ICode:= .loop [3,8,11,15] []
 (.seq
 (sr [
 oM 110 15,
 oM 111 11,
 oY 112 111,
 oP 113 .lss 110 112]
 (.cond (.t 113)
 .skip
 (.exit 4)))
 (.seq
 (.block 5
 (sr [
 oM 116 11,
 oM 117 15,
 oI 118 1 116 117,
 oH 119 118,
 oA 120 1 3,
 oL 121 3 120,
 oM 122 8,
 oI 123 4 121 122,
 oA 124 2 123,
 oH 125 124,
 oM 126 15,
 oI 127 2 125 126,
 oA 128 1 127,
 oH 129 128,
 oP 130 .neq 119 129]
 (.cond (.t 130)
 (sr [
 oZ 6 0,
 oZ 7 51]
 .ret)
 .skip)))
 (.region [
 oM 114 15,
 oD 115 .add 114 1,
 oM 15 115])))
def L124_2:ICode:= .loop [11,16,17,18] []
 (.seq
 (sr [
 oM 152 18,
 oM 153 11,
 oY 154 153,
 oP 155 .lss 152 154]
 (.cond (.t 155)
 .skip
 (.exit 6)))
 (.seq
 (.block 7
 (sr [
 oM 158 16,
 oD 159 .neq 158 0,
 oM 160 159,
 oTm 160 161 11,
 oTm 160 162 18,
 oT 160 163 (.iaddr 1 (.t 161) (.t 162)),
 oT 160 164 (.load .imm false 1 (.t 163)),
 oTm 160 165 16,
 oT 160 166 (.bin 0 [] .neq (.t 164) (.t 165)),
 oO 167 (.pick (.t 160) (.t 166) (.c bF)),
 oM 168 167,
 oFm 168 169 11,
 oFm 168 170 18,
 oF 168 171 (.iaddr 1 (.t 169) (.t 170)),
 oF 168 172 (.load .imm false 1 (.t 171)),
 oFm 168 173 11,
 oF 168 174 (.iaddr 1 (.t 173) (cI 0)),
 oF 168 175 (.load .imm false 1 (.t 174)),
 oF 168 176 (.bin 0 [] .neq (.t 172) (.t 175)),
 oO 177 (.pick (.t 168) (.c bT) (.t 176))]
 (.cond (.t 177)
 (sr [
 oZ 6 0,
 oZ 7 51]
 .ret)
 .skip)))
 (.region [
 oM 156 18,
 oD 157 .add 156 1,
 oM 18 157])))
abbrev K124_0:List Nat:=[1,3,5,8,9]
abbrev B124_0:List Nat:=[3,5]
abbrev K124_1:List Nat:=[3,8,11]
abbrev B124_1:List Nat:=[3]
abbrev K124_2:List Nat:=[11,16,17]
abbrev B124_2:List Nat:=[]
def F124:IFn:=⟨179,3,[.tmp 6,.tmp 7],false,false,(sr [oO 3 (.boxL 3 (.t 0)),oO 5 (.boxL 5 (.t 2)),oZ 6 0,oZ 7 0] (sr [oLa 19 3 2 3,oA 20 3 5,oL 21 5 20,cP 22 41 [.t 19,.t 21],oM 8 22] (sr [oM 24 1,oA 25 3 5,oL 26 5 25,cP 27 73 [.t 24,.t 26],oM 23 27,oX 28 23 0,oX 29 23 1,oM 9 28,oM 10 29] (.seq (.block 0 (sr [oA 31 0 5,oL 32 5 31,oD 33 .eql 32 3,oM 34 33,oTm 34 35 10,oT 34 36 (.un .not (.t 35)),oO 37 (.pick (.t 34) (.t 36) (.c bF)),oM 38 37,oF 38 39 (.faddr 0 (.t 5)),oF 38 40 (.load (.box 5) false 1 (.t 39)),oF 38 41 (.bin 0 [] .eql (.t 40) (cI 6)),oFm 38 42 41,oT 42 43 (.load (.box 3) true 2 (.t 3)),oT 42 44 (.faddr 3 (.t 5)),oT 42 45 (.load (.box 5) false 1 (.t 44)),oT 42 46 (pP 98 [.t 43,.t 45]),oT 42 47 (.bin 0 [] .lss (.t 46) (cI 0)),oF 38 48 (.pick (.t 42) (.t 47) (.c bF)),oO 49 (.pick (.t 38) (.c bT) (.t 48)),oM 50 49,oF 50 51 (.faddr 0 (.t 5)),oF 50 52 (.load (.box 5) false 1 (.t 51)),oF 50 53 (.bin 0 [] .eql (.t 52) (cI 7)),oFm 50 54 53,oTm 54 55 8,oT 54 56 (.bin 0 [] .lss (.t 55) (cI 0)),oF 50 57 (.pick (.t 54) (.t 56) (.c bF)),oO 58 (.pick (.t 50) (.c bT) (.t 57)),oM 30 58] (.cond (.t 30) (sr [oZ 6 0,oZ 7 50] .ret) (sr [oA 60 0 5,oL 61 5 60,oD 62 .eql 61 7,oM 63 62,oT 63 64 (.faddr 4 (.t 5)),oT 63 65 (.load (.box 5) false 1 (.t 64)),oT 63 66 (.len 1 (.t 65)),oT 63 67 (.faddr 1 (.t 3)),oT 63 68 (.load (.box 3) false 1 (.t 67)),oTm 63 69 8,oT 63 70 (.iaddr 4 (.t 68) (.t 69)),oT 63 71 (.faddr 2 (.t 70)),oT 63 72 (.load .imm false 1 (.t 71)),oT 63 73 (.len 1 (.t 72)),oT 63 74 (.bin 0 [] .neq (.t 66) (.t 73)),oO 75 (.pick (.t 63) (.t 74) (.c bF)),oM 59 75] (.cond (.t 59) (sr [oZ 6 0,oZ 7 51] .ret) .skip))))) (sr [oC 11 (.slice .fit 1 [])] (.seq (sr [oZ 12 0] (.block 1 L124_0)) (.seq (sr [oA 101 0 5,oL 102 5 101] (.block 3 (sr [oD 104 .eql 102 2,oM 103 104] (.cond (.t 103) (sr [oZ 6 2,oZ 7 0] .ret) (sr [oD 106 .eql 102 3,oM 105 106] (.cond (.t 105) (sr [oM 107 9,oM 6 107,oZ 7 0] .ret) (sr [oD 109 .eql 102 7,oM 108 109] (.cond (.t 108) (.seq (sr [oZ 15 0] (.block 4 L124_1)) (sr [oA 131 1 3,oL 132 3 131,oM 133 8,oI 134 4 132 133,oA 135 1 134,oG 136 135,oM 6 136,oZ 7 0] .ret)) (sr [oD 138 .eql 102 6,oM 137 138] (.cond (.t 137) (sr [oE 139 11,oO 140 (.iaddr 1 (.t 139) (cI 0)),oG 141 140,oD 142 .neq 141 1] (.cond (.t 142) (sr [oZ 6 0,oZ 7 51] .ret) .skip)) (.seq (sr [oD 144 .eql 102 4,oM 143 144] (.cond (.t 143) .skip (.region [oD 145 .eql 102 5,oM 143 145]))) (.cond (.t 143) (sr [oA 147 1 5,oL 148 5 147,cP 149 155 [.t 148],oM 146 149,oX 150 146 0,oX 151 146 1,oM 16 150,oM 17 151] (.seq (sr [oZ 18 0] (.block 6 L124_2)) (sr [oM 178 17,oM 6 178,oZ 7 0] .ret))) .skip)))))))))))) (sr [oZ 6 1,oZ 7 0] .ret))))))))⟩
theorem ok124:zh Tryz.prog Tryz.f124 F124=true:=by kernel_rfl
def F123:IFn:=⟨29,4,[.tmp 8],false,false,(sr [oO 6 (.boxL 6 (.t 2)),oZ 8 0] (sr [oM 12 0,oK 13 12,oA 14 0 13,oW 15 2 14,oE 16 1,oLa 17 6 5 6,cP 18 124 [.t 15,.t 16,.t 17],oM 11 18,oX 19 11 0,oX 20 11 1,oM 9 19,oM 10 20] (.seq (sr [oM 21 10,oD 22 .eql 21 0,oM 23 22,oTm 23 24 9,oTm 23 25 3,oT 23 26 (.bin 0 [] .neq (.t 24) (.t 25)),oO 27 (.pick (.t 23) (.t 26) (.c bF))] (.cond (.t 27) (sr [oZ 8 51] .ret) .skip)) (sr [oM 28 10,oM 8 28] .ret))))⟩
theorem ok123:zh Tryz.prog Tryz.f123 F123=true:=by kernel_rfl
def F99:IFn:=⟨144,5,[.tmp 10],false,false,(sr [oO 6 (.boxL 6 (.t 1)),oZ 10 0] (.seq (sr [oA 19 0 6,oL 20 6 19] (.block 0 (sr [oD 22 .eql 20 1,oM 21 22] (.cond (.t 21) (sr [oM 23 0,oM 24 2,oA 25 3 6,oL 26 6 25,oO 27 (.iaddr 5 (.t 26) (cI 0)),oO 28 (.load .imm true 5 (.t 27)),oA 29 1 6,oL 30 6 29,cF 31 123 [.t 23,.t 24,.t 28,.t 30],oM 11 31] (sr [oE 33 2,oM 34 3,oO 35 (.slc false 2 (.t 33) (some (.t 34)) none none),oA 36 2 6,oL 37 6 36,cP 38 73 [.t 35,.t 37],oM 32 38,oX 39 32 0,oX 40 32 1,oM 12 39,oM 13 40] (.seq (sr [oM 41 11,oD 42 .eql 41 0,oM 43 42,oTm 43 44 13,oO 45 (.pick (.t 43) (.t 44) (.c bF))] (.cond (.t 45) (.region [oZ 11 50]) .skip)) (sr [oM 46 11,oM 10 46] .ret)))) (sr [oD 48 .eql 20 2,oM 47 48] (.cond (.t 47) (sr [oM 50 2,oA 51 2 6,oL 52 6 51,cP 53 73 [.t 50,.t 52],oM 49 53,oX 54 49 0,oX 55 49 1,oM 14 54,oM 15 55] (.seq (sr [oM 56 15,oU 57 56] (.cond (.t 57) (sr [oZ 10 50] .ret) .skip)) (sr [oM 58 0,oE 59 2,oA 60 3 6,oL 61 6 60,oO 62 (.iaddr 5 (.t 61) (cI 0)),oW 63 5 62,oM 64 14,cF 65 123 [.t 58,.t 59,.t 63,.t 64],oM 10 65] .ret))) (sr [oD 67 .eql 20 3,oM 66 67] (.cond (.t 66) (.seq (sr [oM 68 0,oK 69 68,oA 70 0 69,oW 71 2 70,oA 72 2 6,oL 73 6 72,cP 74 98 [.t 71,.t 73],oD 75 .lss 74 0] (.cond (.t 75) (sr [oZ 10 50] .ret) .skip)) (sr [oM 76 0,oM 77 2,oA 78 3 6,oL 79 6 78,oO 80 (.iaddr 5 (.t 79) (cI 0)),oW 81 5 80,cF 82 123 [.t 76,.t 77,.t 81,cI 1],oM 16 82] (.seq (sr [oM 83 16,oD 84 .eql 83 0] (.cond (.t 84) (.region [oM 85 0,oE 86 2,oA 87 3 6,oL 88 6 87,oO 89 (.iaddr 5 (.t 88) (cI 1)),oW 90 5 89,cF 91 123 [.t 85,.t 86,.t 90,cI 1],oM 16 91]) .skip)) (sr [oM 92 16,oM 10 92] .ret)))) (.seq (sr [oD 94 .eql 20 4,oM 93 94] (.cond (.t 93) .skip (.region [oD 95 .eql 20 5,oM 93 95]))) (.cond (.t 93) (sr [oM 96 0,oE 97 2,oA 98 3 6,oL 99 6 98,oO 100 (.iaddr 5 (.t 99) (cI 0)),oW 101 5 100,cF 102 123 [.t 96,.t 97,.t 101,cI 2],oM 10 102] .ret) (sr [oD 104 .eql 20 8,oM 103 104] (.cond (.t 103) (sr [oM 105 0,oE 106 2,oA 107 3 6,oL 108 6 107,oO 109 (.iaddr 5 (.t 108) (cI 0)),oO 110 (.load .imm true 5 (.t 109)),oM 111 0,oK 112 111,oA 113 2 112,oA 114 1 113,oG 115 114,cF 116 123 [.t 105,.t 106,.t 110,.t 115],oM 10 116] .ret) (sr [oD 118 .eql 20 9,oM 117 118] (.cond (.t 117) (sr [oM 119 0,oE 120 2,oA 121 3 6,oL 122 6 121,oO 123 (.iaddr 5 (.t 122) (cI 0)),oW 124 5 123,cF 125 123 [.t 119,.t 120,.t 124,cI 1],oM 10 125] .ret) (sr [oD 127 .eql 20 10,oM 126 127] (.cond (.t 126) (sr [oM 129 0,oK 130 129,oA 131 0 130,oW 132 2 131,oE 133 2,oA 134 3 6,oL 135 6 134,oO 136 (.iaddr 5 (.t 135) (cI 0)),oO 137 (.load .imm true 5 (.t 136)),cP 138 124 [.t 132,.t 133,.t 137],oM 128 138,oX 139 128 0,oX 140 128 1,oM 17 139,oM 18 140] (sr [oM 141 18,oM 10 141] .ret)) .skip)))))))))))))))) (.seq (sr [oM 142 4,oU 143 142] (.cond (.t 143) (sr [oZ 10 53] .ret) .skip)) (sr [oZ 10 0] .ret))))⟩
theorem ok99:zh Tryz.prog Tryz.f99 F99=true:=by kernel_rfl
def L74_0:ICode:= .loop [0,1,2,3,9,10] [11]
 (.seq
 (sr [
 oM 18 10,
 oM 19 1,
 oY 20 19,
 oP 21 .lss 18 20]
 (.cond (.t 21)
 .skip
 (.exit 0)))
 (.seq
 (.block 1
 (sr [
 oM 24 1,
 oM 25 10,
 oI 26 6 24 25,
 oW 27 6 26,
 oO 11 (.boxL 11 (.c (.agg [.int .i64 0,.int .i64 0,.str [],.slice .fit 5 [],.slice .fit 6 [],.slice .fit 6 []]))),
 oS 11 6 11 27]
 (.seq
 (sr [
 oM 28 0,
 oLa 29 11 6 11,
 oM 30 9,
 oM 31 2,
 oY 32 31,
 oM 33 3,
 cF 34 99 [.t 28,.t 29,.t 30,.t 32,.t 33],
 oM 12 34]
 (sr [
 oM 35 12,
 oD 36 .neq 35 0]
 (.cond (.t 36)
 (sr [
 oM 37 12,
 oM 8 37]
 .ret)
 .skip)))
 (sr [
 oM 38 0,
 oK 39 38,
 oA 40 6 39,
 oG 41 40,
 oD 42 .add 41 1,
 oK 43 38,
 oA 44 6 43,
 oV 44 42]
 (.seq
 (sr [
 oA 45 0 11,
 oL 46 11 45,
 oD 47 .eql 46 1]
 (.cond (.t 47)
 (.region [
 oE 48 9,
 oA 49 2 11,
 oL 50 11 49,
 oA 51 1 11,
 oL 52 11 51,
 oO 53 (.build [.str [],.int .i64 0] [(0,1,(.t 50)),(1,1,(.t 52))]),
 oO 54 (.bslice 2 (.agg [.str [],.int .i64 0]) 1 [(0,(.t 53))]),
 oO 55 (.append 2 24 (.t 48) (.t 54)),
 oE 9 55])
 .skip))
 (.seq
 (sr [
 oM 56 0,
 oA 57 4 11,
 oL 58 11 57,
 oM 59 9,
 oM 60 3,
 oM 61 60,
 oF 61 62 (.faddr 0 (.t 11)),
 oF 61 63 (.load (.box 11) false 1 (.t 62)),
 oF 61 64 (.bin 0 [] .eql (.t 63) (cI 5)),
 oO 65 (.pick (.t 61) (.c bT) (.t 64)),
 cF 66 74 [.t 56,.t 58,.t 59,.t 65],
 oM 13 66]
 (sr [
 oM 67 13,
 oD 68 .neq 67 0]
 (.cond (.t 68)
 (sr [
 oM 69 13,
 oM 8 69]
 .ret)
 .skip)))
 (sr [
 oM 70 0,
 oA 71 5 11,
 oL 72 11 71,
 oM 73 9,
 oM 74 3,
 cF 75 74 [.t 70,.t 72,.t 73,.t 74],
 oM 14 75]
 (sr [
 oM 76 14,
 oD 77 .neq 76 0]
 (.cond (.t 77)
 (sr [
 oM 78 14,
 oM 8 78]
 .ret)
 .skip)))))))))
 (.region [
 oM 22 10,
 oD 23 .add 22 1,
 oM 10 23])))
abbrev K74_0:List Nat:=[0,1,2,3]
abbrev B74_0:List Nat:=[]
def F74:IFn:=⟨79,4,[.tmp 8],false,false,(sr [oZ 8 0] (sr [oC 9 (.slice .fit 2 [])] (sr [oE 15 9,oM 16 2,oO 17 (.append 2 24 (.t 15) (.t 16)),oE 9 17] (.seq (sr [oZ 10 0] (.block 0 L74_0)) (sr [oZ 8 0] .ret)))))⟩
theorem ok74:zh Tryz.prog Tryz.f74 F74=true:=by kernel_rfl
def L100_0:ICode:= .loop [0,3] []
 (.seq
 (sr [
 oM 4 3,
 oM 5 0,
 oY 6 5,
 oP 7 .lss 4 6]
 (.cond (.t 7)
 .skip
 (.exit 0)))
 (.seq
 (.block 1
 (sr [
 oM 10 0,
 oM 11 3,
 oI 12 6 10 11,
 oA 13 0 12,
 oG 14 13,
 oD 15 .eql 14 6,
 oM 16 15,
 oFm 16 17 0,
 oFm 16 18 3,
 oF 16 19 (.iaddr 6 (.t 17) (.t 18)),
 oF 16 20 (.faddr 0 (.t 19)),
 oF 16 21 (.load .any false 1 (.t 20)),
 oF 16 22 (.bin 0 [] .eql (.t 21) (cI 4)),
 oFm 16 23 22,
 oTm 23 24 0,
 oTm 23 25 3,
 oT 23 26 (.iaddr 6 (.t 24) (.t 25)),
 oT 23 27 (.faddr 4 (.t 26)),
 oT 23 28 (.load .any false 1 (.t 27)),
 oT 23 29 (pP 100 [.t 28]),
 oTm 23 30 29,
 oFm 30 31 0,
 oFm 30 32 3,
 oF 30 33 (.iaddr 6 (.t 31) (.t 32)),
 oF 30 34 (.faddr 5 (.t 33)),
 oF 30 35 (.load .any false 1 (.t 34)),
 oF 30 36 (pP 100 [.t 35]),
 oT 23 37 (.pick (.t 30) (.c bT) (.t 36)),
 oF 16 38 (.pick (.t 23) (.t 37) (.c bF)),
 oO 39 (.pick (.t 16) (.c bT) (.t 38))]
 (.cond (.t 39)
 (sr [
 oC 2 bT]
 .ret)
 .skip)))
 (.region [
 oM 8 3,
 oD 9 .add 8 1,
 oM 3 9])))
abbrev K100_0:List Nat:=[0]
abbrev B100_0:List Nat:=[]
def F100:IFn:=⟨40,1,[.tmp 2],false,false,(sr [oC 2 bF] (.seq (sr [oZ 3 0] (.block 0 L100_0)) (sr [oC 2 bF] .ret)))⟩
theorem ok100:zh Tryz.prog Tryz.f100 F100=true:=by kernel_rfl
def L75_0:ICode:= .loop [0,3] [4]
 (.seq
 (sr [
 oM 5 3,
 oM 6 0,
 oY 7 6,
 oP 8 .lss 5 7]
 (.cond (.t 8)
 .skip
 (.exit 0)))
 (.seq
 (.block 1
 (sr [
 oM 11 0,
 oM 12 3,
 oI 13 6 11 12,
 oW 14 6 13,
 oO 4 (.boxL 4 (.c (.agg [.int .i64 0,.int .i64 0,.str [],.slice .fit 5 [],.slice .fit 6 [],.slice .fit 6 []]))),
 oS 4 6 4 14]
 (.block 2
 (sr [
 oA 16 0 4,
 oL 17 4 16,
 oD 18 .eql 17 8,
 oM 15 18]
 (.cond (.t 15)
 (sr [
 oC 2 bT]
 .ret)
 (sr [
 oA 20 0 4,
 oL 21 4 20,
 oD 22 .eql 21 4,
 oM 23 22,
 oT 23 24 (.faddr 4 (.t 4)),
 oT 23 25 (.load (.box 4) false 1 (.t 24)),
 oT 23 26 (pP 75 [.t 25]),
 oO 27 (.pick (.t 23) (.t 26) (.c bF)),
 oM 28 27,
 oT 28 29 (.faddr 5 (.t 4)),
 oT 28 30 (.load (.box 4) false 1 (.t 29)),
 oT 28 31 (pP 75 [.t 30]),
 oO 32 (.pick (.t 28) (.t 31) (.c bF)),
 oM 19 32]
 (.cond (.t 19)
 (sr [
 oC 2 bT]
 .ret)
 (sr [
 oA 34 0 4,
 oL 35 4 34,
 oD 36 .eql 35 5,
 oM 37 36,
 oT 37 38 (.faddr 3 (.t 4)),
 oT 37 39 (.load (.box 4) false 1 (.t 38)),
 oT 37 40 (.iaddr 5 (.t 39) (cI 0)),
 oT 37 41 (.faddr 0 (.t 40)),
 oT 37 42 (.load .any false 1 (.t 41)),
 oT 37 43 (.bin 0 [] .eql (.t 42) (cI 2)),
 oO 44 (.pick (.t 37) (.t 43) (.c bF)),
 oM 45 44,
 oT 45 46 (.faddr 3 (.t 4)),
 oT 45 47 (.load (.box 4) false 1 (.t 46)),
 oT 45 48 (.iaddr 5 (.t 47) (cI 0)),
 oT 45 49 (.faddr 2 (.t 48)),
 oT 45 50 (.load .any false 1 (.t 49)),
 oT 45 51 (.bin 0 [] .eql (.t 50) (cI 1)),
 oO 52 (.pick (.t 45) (.t 51) (.c bF)),
 oM 53 52,
 oT 53 54 (.faddr 4 (.t 4)),
 oT 53 55 (.load (.box 4) false 1 (.t 54)),
 oT 53 56 (pP 100 [.t 55]),
 oT 53 57 (.un .not (.t 56)),
 oO 58 (.pick (.t 53) (.t 57) (.c bF)),
 oM 33 58]
 (.cond (.t 33)
 (sr [
 oC 2 bT]
 .ret)
 .skip)))))))))
 (.region [
 oM 9 3,
 oD 10 .add 9 1,
 oM 3 10])))
abbrev K75_0:List Nat:=[0]
abbrev B75_0:List Nat:=[]
def F75:IFn:=⟨59,1,[.tmp 2],false,false,(sr [oC 2 bF] (.seq (sr [oZ 3 0] (.block 0 L75_0)) (sr [oC 2 bF] .ret)))⟩
theorem ok75:zh Tryz.prog Tryz.f75 F75=true:=by kernel_rfl
def L39_0:ICode:= .loop [1,3,4,5,6] []
 (.seq
 (sr [
 oM 31 6,
 oA 32 2 5,
 oL 33 5 32,
 oY 34 33,
 oP 35 .lss 31 34]
 (.cond (.t 35)
 .skip
 (.exit 2)))
 (.seq
 (.block 3
 (sr [
 oA 39 2 5,
 oL 40 5 39,
 oM 41 6,
 oO 42 (.slc false 2 (.t 40) none (some (.t 41)) none),
 oA 43 2 5,
 oL 44 5 43,
 oM 45 6,
 oI 46 2 44 45,
 oA 47 0 46,
 oH 48 47,
 cP 49 73 [.t 42,.t 48],
 oM 38 49,
 oX 50 38 0,
 oX 51 38 1,
 oM 7 50,
 oM 8 51]
 (sr [
 oM 52 8]
 (.cond (.t 52)
 (sr [
 oM 53 4,
 oO 54 (.build [.int .i64 0,.int .i64 0] [(0,1,(.t 53)),(1,1,(cI 0))]),
 oZ 2 50,
 oS 3 2 3 54]
 .ret)
 .skip))))
 (.region [
 oM 36 6,
 oD 37 .add 36 1,
 oM 6 37])))
def L39_1:ICode:= .loop [1,3,4] [5]
 (.seq
 (sr [
 oM 19 4,
 oA 20 1 1,
 oL 21 1 20,
 oY 22 21,
 oP 23 .lss 19 22]
 (.cond (.t 23)
 .skip
 (.exit 0)))
 (.seq
 (.block 1
 (sr [
 oA 26 1 1,
 oL 27 1 26,
 oM 28 4,
 oI 29 4 27 28,
 oW 30 4 29,
 oO 5 (.boxL 5 (.c (.agg [.str [],.int .i64 0,.slice .fit 2 [],.slice .fit 6 []]))),
 oS 5 4 5 30]
 (.seq
 (sr [
 oZ 6 0]
 (.block 2
 L39_0))
 (sr [
 oLa 55 1 2 1,
 oLa 56 5 4 5,
 oO 57 (.build [.slice .fit 2 [],.slice .fit 4 [],.str [],.int .i64 0,.slice .fit 2 [],.slice .fit 6 [],.int .i64 0] [(0,2,(.t 55)),(2,4,(.t 56))]),
 oO 58 (.boxS 7 (.t 57)),
 oM 9 58]
 (.seq
 (sr [
 oM 59 9,
 oA 60 3 5,
 oL 61 5 60,
 oA 62 2 5,
 oL 63 5 62,
 cF 64 74 [.t 59,.t 61,.t 63,.c bF],
 oM 10 64]
 (sr [
 oM 65 10,
 oD 66 .neq 65 0]
 (.cond (.t 66)
 (sr [
 oM 67 10,
 oM 68 4,
 oM 69 9,
 oK 70 69,
 oA 71 6 70,
 oG 72 71,
 oO 73 (.build [.int .i64 0,.int .i64 0] [(0,1,(.t 68)),(1,1,(.t 72))]),
 oM 2 67,
 oS 3 2 3 73]
 .ret)
 .skip)))
 (sr [
 oA 74 3 5,
 oL 75 5 74,
 cP 76 75 [.t 75],
 oU 77 76]
 (.cond (.t 77)
 (sr [
 oM 78 4,
 oM 79 9,
 oK 80 79,
 oA 81 6 80,
 oG 82 81,
 oO 83 (.build [.int .i64 0,.int .i64 0] [(0,1,(.t 78)),(1,1,(.t 82))]),
 oZ 2 52,
 oS 3 2 3 83]
 .ret)
 .skip)))))))
 (.region [
 oM 24 4,
 oD 25 .add 24 1,
 oM 4 25])))
abbrev K39_0:List Nat:=[1,3,4,5]
abbrev B39_0:List Nat:=[1,5]
abbrev K39_1:List Nat:=[1,3]
abbrev B39_1:List Nat:=[1]
def F39:IFn:=⟨85,1,[.tmp 2,.cell 3 true 2],true,false,(sr [oO 1 (.boxL 1 (.t 0)),oZ 2 0,oO 3 (.boxL 3 (.c (.agg [.int .i64 0,.int .i64 0])))] (.seq (sr [oLa 11 1 2 1,cP 12 35 [.t 11],oU 13 12] (.cond (.t 13) (sr [oO 14 (.build [.int .i64 0,.int .i64 0] []),oZ 2 1,oS 3 2 3 14] .ret) .skip)) (.seq (sr [oLa 15 1 2 1,cP 16 72 [.t 15],oU 17 16] (.cond (.t 17) (sr [oO 18 (.build [.int .i64 0,.int .i64 0] []),oZ 2 50,oS 3 2 3 18] .ret) .skip)) (.seq (sr [oZ 4 0] (.block 0 L39_1)) (sr [oO 84 (.build [.int .i64 0,.int .i64 0] []),oZ 2 0,oS 3 2 3 84] .ret)))))⟩
theorem ok39:zh Tryz.prog Tryz.f39 F39=true:=by kernel_rfl
def F42:IFn:=⟨15,1,[.tmp 2],false,false,(sr [oC 2 bF] (sr [oM 3 0,oK 4 3,oA 5 9 4,oG 6 5,oM 7 6,oFm 7 8 0,oF 7 9 (.nilck (.t 8)),oF 7 10 (.faddr 4 (.t 9)),oF 7 11 (.faddr 0 (.t 10)),oF 7 12 (.load .any false 1 (.t 11)),oF 7 13 (.bin 0 [] .neq (.t 12) (cI 0)),oO 14 (.pick (.t 7) (.c bT) (.t 13)),oM 2 14] .ret))⟩
theorem ok42:zh Tryz.prog Tryz.f42 F42=true:=by kernel_rfl
def F125:IFn:=⟨24,1,[.tmp 2],false,false,(sr [oC 2 bF] (.seq (sr [oM 3 0,cF 4 42 [.t 3]] (.cond (.t 4) (sr [oC 2 bF] .ret) .skip)) (.seq (sr [oM 5 0,oK 6 5,oA 7 4 6,oA 8 4 7,oG 9 8,oD 10 .lss 9 1] (.cond (.t 10) (sr [oM 11 0,oK 12 11,oA 13 9 12,oN (.store .any 1 (.t 13) (.c bT))] (sr [oC 2 bF] .ret)) .skip)) (sr [oM 14 0,oM 15 0,oK 16 15,oA 17 4 16,oA 18 4 17,oG 19 18,oD 20 .sub 19 1,oK 21 14,oA 22 4 21,oA 23 4 22,oV 23 20] (sr [oC 2 bT] .ret)))))⟩
theorem ok125:zh Tryz.prog Tryz.f125 F125=true:=by kernel_rfl
def L128_0:ICode:= .loop [0,1,5] []
 (.seq
 (sr [
 oM 12 5,
 oD 13 .gtr 12 0]
 (.cond (.t 13)
 .skip
 (.exit 0)))
 (.seq
 (.block 1
 (sr [
 oM 16 0,
 oK 17 16,
 oA 18 0 17,
 oG 19 18,
 oM 20 5,
 oI 21 2 19 20,
 oA 22 0 21,
 oG 23 22,
 oM 24 1,
 oP 25 .eql 23 24]
 (.cond (.t 25)
 (sr [
 oM 26 5,
 oM 4 26]
 .ret)
 .skip)))
 (.region [
 oM 14 5,
 oD 15 .sub 14 1,
 oM 5 15])))
abbrev K128_0:List Nat:=[0,1]
abbrev B128_0:List Nat:=[]
def F128:IFn:=⟨27,2,[.tmp 4],false,false,(sr [oZ 4 0] (.seq (sr [oM 6 0,oK 7 6,oA 8 0 7,oG 9 8,oY 10 9,oD 11 .sub 10 1,oM 5 11] (.block 0 L128_0)) (sr [oZ 4 0] .ret)))⟩
theorem ok128:zh Tryz.prog Tryz.f128 F128=true:=by kernel_rfl
def F129:IFn:=⟨32,3,[.tmp 6],false,false,(sr [oC 6 bF] (sr [oM 8 0,oK 9 8,oA 10 0 9,oW 11 2 10,oM 12 1,cP 13 98 [.t 11,.t 12],oM 7 13] (.seq (sr [oM 14 2,oD 15 .lss 14 0,oM 16 15,oFm 16 17 2,oFm 16 18 0,oF 16 19 (.nilck (.t 18)),oF 16 20 (.faddr 3 (.t 19)),oF 16 21 (.load .any false 1 (.t 20)),oFm 16 22 7,oF 16 23 (.iaddr 1 (.t 21) (.t 22)),oF 16 24 (.load .any false 1 (.t 23)),oF 16 25 (.len 1 (.t 24)),oF 16 26 (.bin 0 [] .geq (.t 17) (.t 25)),oO 27 (.pick (.t 16) (.c bT) (.t 26))] (.cond (.t 27) (sr [oM 28 0,oK 29 28,oA 30 4 29,oA 31 0 30,oN (.store .any 1 (.t 31) (cI 3))] (sr [oC 6 bF] .ret)) .skip)) (sr [oC 6 bT] .ret))))⟩
theorem ok129:zh Tryz.prog Tryz.f129 F129=true:=by kernel_rfl
def F156:IFn:=⟨33,3,[.tmp 6],false,false,(sr [oO 5 (.boxL 5 (.t 2)),oZ 6 0] (sr [oM 8 0,oM 9 1,oA 10 4 5,oL 11 5 10,oO 12 (.iaddr 5 (.t 11) (cI 0)),oW 13 5 12,cF 14 127 [.t 8,.t 9,.t 13],oM 7 14] (.seq (sr [oM 15 0,cF 16 42 [.t 15],oM 17 16,oFm 17 18 7,oF 17 19 (.bin 0 [] .neq (.t 18) (cI 0)),oF 17 20 (.faddr 1 (.t 5)),oF 17 21 (.load (.box 5) false 1 (.t 20)),oF 17 22 (.bin 0 [] .eql (.t 21) (cI 19)),oF 17 23 (.bin 1 [] .eql (.t 19) (.t 22)),oO 24 (.pick (.t 17) (.c bT) (.t 23))] (.cond (.t 24) (sr [oM 25 7,oM 6 25] .ret) .skip)) (sr [oM 26 0,oM 27 1,oA 28 4 5,oL 29 5 28,oO 30 (.iaddr 5 (.t 29) (cI 1)),oW 31 5 30,cF 32 127 [.t 26,.t 27,.t 31],oM 6 32] .ret))))⟩
theorem ok156:zh Tryz.prog Tryz.f156 F156=true:=by kernel_rfl
def F178:IFn:=⟨4,1,[.tmp 2],false,false,(sr [oZ 2 0] (.seq (sr [oM 3 0] (.cond (.t 3) (sr [oZ 2 1] .ret) .skip)) (sr [oZ 2 0] .ret)))⟩
theorem ok178:zh Tryz.prog Tryz.f178 F178=true:=by kernel_rfl
def F157:IFn:=⟨49,2,[.tmp 4],false,false,(sr [oZ 4 0] (.seq (sr [oM 5 0] (.block 0 (sr [oD 7 .eql 5 20,oM 6 7] (.cond (.t 6) (sr [oM 8 1,oB 9 .sub (cI 0) (.t 8),oM 4 9] .ret) (sr [oD 11 .eql 5 21,oM 10 11] (.cond (.t 10) (sr [oM 12 1,oB 13 .sub (cI (-1)) (.t 12),oM 4 13] .ret) (sr [oD 15 .eql 5 22,oM 14 15] (.cond (.t 14) (sr [oM 16 1,oD 17 .eql 16 0,cP 18 178 [.t 17],oM 4 18] .ret) (sr [oD 20 .eql 5 26,oM 19 20] (.cond (.t 19) (sr [oM 21 1,oD 22 .and 21 255,oM 4 22] .ret) (sr [oD 24 .eql 5 27,oM 23 24] (.cond (.t 23) (sr [oM 25 1,oD 26 .and 25 65535,oM 4 26] .ret) (sr [oD 28 .eql 5 28,oM 27 28] (.cond (.t 27) (sr [oM 29 1,oD 30 .and 29 4294967295,oM 4 30] .ret) (sr [oD 32 .eql 5 23,oM 31 32] (.cond (.t 31) (sr [oM 33 1,oD 34 .and 33 255,oD 35 .xor 34 128,oD 36 .sub 35 128,oM 4 36] .ret) (sr [oD 38 .eql 5 24,oM 37 38] (.cond (.t 37) (sr [oM 39 1,oD 40 .and 39 65535,oD 41 .xor 40 32768,oD 42 .sub 41 32768,oM 4 42] .ret) (sr [oD 44 .eql 5 25,oM 43 44] (.cond (.t 43) (sr [oM 45 1,oD 46 .and 45 4294967295,oD 47 .xor 46 2147483648,oD 48 .sub 47 2147483648,oM 4 48] .ret) .skip)))))))))))))))))))) (sr [oZ 4 0] .ret)))⟩
theorem ok157:zh Tryz.prog Tryz.f157 F157=true:=by kernel_rfl
def F158:IFn:=⟨108,3,[.tmp 6,.tmp 7],false,false,(sr [oZ 6 0,oC 7 bF] (.seq (sr [oM 8 0] (.block 0 (sr [oD 10 .eql 8 1,oM 9 10] (.cond (.t 9) (sr [oM 11 1,oM 12 2,oP 13 .add 11 12,oM 6 13,oC 7 bT] .ret) (sr [oD 15 .eql 8 2,oM 14 15] (.cond (.t 14) (sr [oM 16 1,oM 17 2,oP 18 .sub 16 17,oM 6 18,oC 7 bT] .ret) (sr [oD 20 .eql 8 3,oM 19 20] (.cond (.t 19) (sr [oM 21 1,oM 22 2,oP 23 .mul 21 22,oM 6 23,oC 7 bT] .ret) (.seq (sr [oD 25 .eql 8 4,oM 24 25] (.cond (.t 24) .skip (.region [oD 26 .eql 8 5,oM 24 26]))) (.cond (.t 24) (.seq (sr [oM 27 2,oD 28 .eql 27 0] (.cond (.t 28) (sr [oZ 6 0,oC 7 bF] .ret) .skip)) (.seq (sr [oM 29 0,oD 30 .eql 29 4] (.cond (.t 30) (sr [oM 31 1,oM 32 2,oP 33 .quo 31 32,oM 6 33,oC 7 bT] .ret) .skip)) (sr [oM 34 1,oM 35 2,oP 36 .rem 34 35,oM 6 36,oC 7 bT] .ret))) (sr [oD 38 .eql 8 6,oM 37 38] (.cond (.t 37) (sr [oM 39 1,oM 40 2,oP 41 .and 39 40,oM 6 41,oC 7 bT] .ret) (sr [oD 43 .eql 8 7,oM 42 43] (.cond (.t 42) (sr [oM 44 1,oM 45 2,oP 46 .or 44 45,oM 6 46,oC 7 bT] .ret) (sr [oD 48 .eql 8 8,oM 47 48] (.cond (.t 47) (sr [oM 49 1,oM 50 2,oP 51 .xor 49 50,oM 6 51,oC 7 bT] .ret) (sr [oD 53 .eql 8 9,oM 52 53] (.cond (.t 52) (sr [oM 54 1,oM 55 2,oD 56 .and 55 63,oP 57 .shl 54 56,oM 6 57,oC 7 bT] .ret) (sr [oD 59 .eql 8 10,oM 58 59] (.cond (.t 58) (sr [oM 60 1,oM 61 2,oD 62 .and 61 63,oP 63 .shr 60 62,oM 6 63,oC 7 bT] .ret) (sr [oD 65 .eql 8 11,oM 64 65] (.cond (.t 64) (sr [oM 66 1,oO 67 (.conv .u64 (.t 66)),oM 68 2,oD 69 .and 68 63,oP 70 .shr 67 69,oO 71 (.conv .i64 (.t 70)),oM 6 71,oC 7 bT] .ret) (sr [oD 73 .eql 8 12,oM 72 73] (.cond (.t 72) (sr [oM 74 1,oM 75 2,oP 76 .lss 74 75,cP 77 178 [.t 76],oM 6 77,oC 7 bT] .ret) (sr [oD 79 .eql 8 13,oM 78 79] (.cond (.t 78) (sr [oM 80 1,oM 81 2,oP 82 .leq 80 81,cP 83 178 [.t 82],oM 6 83,oC 7 bT] .ret) (sr [oD 85 .eql 8 14,oM 84 85] (.cond (.t 84) (sr [oM 86 1,oM 87 2,oP 88 .gtr 86 87,cP 89 178 [.t 88],oM 6 89,oC 7 bT] .ret) (sr [oD 91 .eql 8 15,oM 90 91] (.cond (.t 90) (sr [oM 92 1,oM 93 2,oP 94 .geq 92 93,cP 95 178 [.t 94],oM 6 95,oC 7 bT] .ret) (sr [oD 97 .eql 8 16,oM 96 97] (.cond (.t 96) (sr [oM 98 1,oM 99 2,oP 100 .eql 98 99,cP 101 178 [.t 100],oM 6 101,oC 7 bT] .ret) (sr [oD 103 .eql 8 17,oM 102 103] (.cond (.t 102) (sr [oM 104 1,oM 105 2,oP 106 .neq 104 105,cP 107 178 [.t 106],oM 6 107,oC 7 bT] .ret) .skip)))))))))))))))))))))))))))))))))) (sr [oZ 6 0,oC 7 bF] .ret)))⟩
theorem ok158:zh Tryz.prog Tryz.f158 F158=true:=by kernel_rfl
def L127_0:ICode:= .loop [0,1,5,7,8] []
 (.seq
 (sr [
 oM 32 8,
 oA 33 4 5,
 oL 34 5 33,
 oY 35 34,
 oP 36 .lss 32 35]
 (.cond (.t 36)
 .skip
 (.exit 0)))
 (.seq
 (.block 1
 (sr [
 oE 39 7,
 oM 40 0,
 oM 41 1,
 oA 42 4 5,
 oL 43 5 42,
 oM 44 8,
 oI 45 5 43 44,
 oW 46 5 45,
 cF 47 127 [.t 40,.t 41,.t 46],
 oO 48 (.bslice 1 (.int .i64 0) 1 [(0,(.t 47))]),
 oO 49 (.append 1 8 (.t 39) (.t 48)),
 oE 7 49]
 (sr [
 oM 50 0,
 cF 51 42 [.t 50]]
 (.cond (.t 51)
 (sr [
 oZ 6 0]
 .ret)
 .skip))))
 (.region [
 oM 37 8,
 oD 38 .add 37 1,
 oM 8 38])))
abbrev K127_0:List Nat:=[0,1,5]
abbrev B127_0:List Nat:=[5]
def F127:IFn:=⟨177,3,[.tmp 6],false,false,(sr [oO 5 (.boxL 5 (.t 2)),oZ 6 0] (.seq (sr [oM 12 0,cF 13 125 [.t 12],oU 14 13] (.cond (.t 14) (sr [oZ 6 0] .ret) .skip)) (.seq (sr [oA 15 0 5,oL 16 5 15,oD 17 .eql 16 5,oM 18 17,oT 18 19 (.faddr 1 (.t 5)),oT 18 20 (.load (.box 5) false 1 (.t 19)),oT 18 21 (.bin 0 [] .eql (.t 20) (cI 18)),oTm 18 22 21,oF 22 23 (.faddr 1 (.t 5)),oF 22 24 (.load (.box 5) false 1 (.t 23)),oF 22 25 (.bin 0 [] .eql (.t 24) (cI 19)),oT 18 26 (.pick (.t 22) (.c bT) (.t 25)),oO 27 (.pick (.t 18) (.t 26) (.c bF))] (.cond (.t 27) (sr [oM 28 0,oM 29 1,oLa 30 5 5 5,cF 31 156 [.t 28,.t 29,.t 30],oM 6 31] .ret) .skip)) (sr [oC 7 (.slice .fit 1 [])] (.seq (sr [oZ 8 0] (.block 0 L127_0)) (.seq (sr [oA 52 0 5,oL 53 5 52] (.block 2 (.seq (sr [oD 55 .eql 53 1,oM 54 55] (.cond (.t 54) .skip (.region [oD 56 .eql 53 2,oM 54 56]))) (.cond (.t 54) (sr [oA 57 2 5,oL 58 5 57,oM 6 58] .ret) (sr [oD 60 .eql 53 3,oM 59 60] (.cond (.t 59) (sr [oM 61 1,oK 62 61,oA 63 0 62,oG 64 63,oM 65 1,oA 66 3 5,oL 67 5 66,oO 68 (.callR (.c (.fn 128 [] [])) [.t 65,.t 67]),oI 69 2 64 68,oA 70 1 69,oG 71 70,oM 6 71] .ret) .skip)))))) (sr [oM 72 0,oM 73 0,oK 74 73,oA 75 4 74,oA 76 3 75,oG 77 76,oD 78 .add 77 1,oK 79 72,oA 80 4 79,oA 81 3 80,oV 81 78] (.seq (sr [oA 82 0 5,oL 83 5 82] (.block 3 (sr [oD 85 .eql 83 4,oM 84 85] (.cond (.t 84) (sr [oA 86 1 5,oL 87 5 86,oE 88 7,oO 89 (.iaddr 1 (.t 88) (cI 0)),oH 90 89,cP 91 157 [.t 87,.t 90],oM 6 91] .ret) (sr [oD 93 .eql 83 5,oM 92 93] (.cond (.t 92) (sr [oA 95 1 5,oL 96 5 95,oM 97 7,oO 98 (.iaddr 1 (.t 97) (cI 0)),oH 99 98,oM 100 7,oO 101 (.iaddr 1 (.t 100) (cI 1)),oH 102 101,cP 103 158 [.t 96,.t 99,.t 102],oM 94 103,oX 104 94 0,oX 105 94 1,oM 9 104,oM 10 105] (.seq (sr [oM 106 10,oU 107 106] (.cond (.t 107) (.region [oM 108 0,oK 109 108,oA 110 4 109,oA 111 0 110,oN (.store .any 1 (.t 111) (cI 2))]) .skip)) (sr [oM 112 9,oM 6 112] .ret))) (sr [oD 114 .eql 83 6,oM 113 114] (.cond (.t 113) (.seq (sr [oM 115 0,oA 116 3 5,oL 117 5 116,oM 118 7,oO 119 (.iaddr 1 (.t 118) (cI 0)),oH 120 119,cF 121 129 [.t 115,.t 117,.t 120]] (.cond (.t 121) (sr [oM 122 0,oK 123 122,oA 124 3 123,oG 125 124,oM 126 0,oK 127 126,oA 128 0 127,oW 129 2 128,oA 130 3 5,oL 131 5 130,cP 132 98 [.t 129,.t 131],oI 133 1 125 132,oH 134 133,oE 135 7,oO 136 (.iaddr 1 (.t 135) (cI 0)),oH 137 136,oI 138 1 134 137,oG 139 138,oM 6 139] .ret) .skip)) (sr [oZ 6 0] .ret)) (sr [oD 141 .eql 83 7,oM 140 141] (.cond (.t 140) (sr [oM 142 0,oM 143 0,oK 144 143,oA 145 0 144,oW 146 2 145,oA 147 3 5,oL 148 5 147,cP 149 41 [.t 146,.t 148],oE 150 7,cF 151 40 [.t 142,.t 149,.t 150],oM 6 151] .ret) .skip)))))))))) (.seq (sr [oM 152 0,oK 153 152,oA 154 2 153,oG 155 154,oY 156 155,oD 157 .eql 156 0] (.cond (.t 157) (sr [oM 158 0,oK 159 158,oA 160 4 159,oA 161 0 160,oN (.store .any 1 (.t 161) (cI 4))] (sr [oZ 6 0] .ret)) .skip)) (sr [oM 162 0,oK 163 162,oA 164 2 163,oG 165 164,oO 166 (.iaddr 1 (.t 165) (cI 0)),oG 167 166,oM 11 167] (sr [oM 168 0,oM 169 0,oK 170 169,oA 171 2 170,oG 172 171,oO 173 (.slc false 1 (.t 172) (some (cI 1)) none none),oK 174 168,oA 175 2 174,oV 175 173] (sr [oM 176 11,oM 6 176] .ret))))))))))))⟩
theorem ok127:zh Tryz.prog Tryz.f127 F127=true:=by kernel_rfl
def L126_0:ICode:= .loop [0,1,5] []
 (.block 1
 (sr [
 oM 8 0,
 oM 9 1,
 oA 10 3 5,
 oL 11 5 10,
 oO 12 (.iaddr 5 (.t 11) (cI 0)),
 oW 13 5 12,
 cF 14 127 [.t 8,.t 9,.t 13],
 oM 6 14]
 (.seq
 (sr [
 oM 15 0,
 cF 16 42 [.t 15],
 oM 17 16,
 oFm 17 18 6,
 oF 17 19 (.bin 0 [] .eql (.t 18) (cI 0)),
 oO 20 (.pick (.t 17) (.c bT) (.t 19))]
 (.cond (.t 20)
 .ret
 .skip))
 (sr [
 oM 21 0,
 oM 22 1,
 oA 23 4 5,
 oL 24 5 23,
 cF 25 76 [.t 21,.t 22,.t 24]]
 (.seq
 (sr [
 oM 26 0,
 cF 27 42 [.t 26],
 oM 28 27,
 oFm 28 29 1,
 oF 28 30 (.nilck (.t 29)),
 oF 28 31 (.faddr 1 (.t 30)),
 oF 28 32 (.load .any false 1 (.t 31)),
 oF 28 33 (.bin 0 [] .eql (.t 32) (cI 3)),
 oO 34 (.pick (.t 28) (.c bT) (.t 33))]
 (.cond (.t 34)
 .ret
 .skip))
 (sr [
 oM 35 1,
 oK 36 35,
 oA 37 1 36,
 oG 38 37,
 oD 39 .eql 38 1,
 oM 7 39]
 (sr [
 oM 40 1,
 oK 41 40,
 oA 42 1 41,
 oN (.store .any 1 (.t 42) (cI 0))]
 (sr [
 oM 43 7]
 (.cond (.t 43)
 .ret
 .skip)))))))))
abbrev K126_0:List Nat:=[0,1,5]
abbrev B126_0:List Nat:=[5]
def F126:IFn:=⟨44,3,[],false,false,(sr [oO 5 (.boxL 5 (.t 2))] (.block 0 L126_0))⟩
theorem ok126:zh Tryz.prog Tryz.f126 F126=true:=by kernel_rfl
def F101:IFn:=⟨158,3,[],false,false,(sr [oO 5 (.boxL 5 (.t 2))] (.seq (sr [oM 8 0,cF 9 125 [.t 8],oU 10 9] (.cond (.t 10) .ret .skip)) (.seq (sr [oA 11 0 5,oL 12 5 11] (.block 0 (sr [oD 14 .eql 12 5,oM 13 14] (.cond (.t 13) (sr [oM 15 0,oM 16 1,oLa 17 5 6 5,cF 18 126 [.t 15,.t 16,.t 17]] .ret) (sr [oD 20 .eql 12 6,oM 19 20] (.cond (.t 19) (sr [oM 21 1,oK 22 21,oA 23 1 22,oN (.store .any 1 (.t 23) (cI 1))] .ret) (sr [oD 25 .eql 12 7,oM 24 25] (.cond (.t 24) (sr [oM 26 1,oK 27 26,oA 28 1 27,oN (.store .any 1 (.t 28) (cI 2))] .ret) .skip)))))))) (sr [oM 29 0,oM 30 1,oA 31 3 5,oL 32 5 31,oO 33 (.iaddr 5 (.t 32) (cI 0)),oW 34 5 33,cF 35 127 [.t 29,.t 30,.t 34],oM 6 35] (.seq (sr [oM 36 0,cF 37 42 [.t 36]] (.cond (.t 37) .ret .skip)) (sr [oA 38 0 5,oL 39 5 38] (.block 1 (sr [oD 41 .eql 39 1,oM 40 41] (.cond (.t 40) (.region [oM 42 1,oM 43 1,oK 44 43,oA 45 0 44,oG 46 45,oA 47 2 5,oL 48 5 47,oM 49 6,oO 50 (.build [.str [],.int .i64 0] [(0,1,(.t 48)),(1,1,(.t 49))]),oO 51 (.bslice 2 (.agg [.str [],.int .i64 0]) 1 [(0,(.t 50))]),oO 52 (.appendS 2 24 (.t 46) (.t 51)),oK 53 42,oA 54 0 53,oV 54 52]) (sr [oD 56 .eql 39 2,oM 55 56] (.cond (.t 55) (.region [oM 57 1,oK 58 57,oA 59 0 58,oG 60 59,oM 61 1,oA 62 2 5,oL 63 5 62,oO 64 (.callR (.c (.fn 128 [] [])) [.t 61,.t 63]),oM 65 6,oI 66 2 60 64,oA 67 1 66,oV 67 65]) (sr [oD 69 .eql 39 3,oM 68 69] (.cond (.t 68) (sr [oM 70 0,oM 71 1,oA 72 3 5,oL 73 5 72,oO 74 (.iaddr 5 (.t 73) (cI 1)),oW 75 5 74,cF 76 127 [.t 70,.t 71,.t 75],oM 7 76] (sr [oM 77 0,cF 78 42 [.t 77],oU 79 78] (.cond (.t 79) (sr [oM 80 0,oM 81 0,oK 82 81,oA 83 4 82,oA 84 3 83,oG 85 84,oD 86 .add 85 1,oK 87 80,oA 88 4 87,oA 89 3 88,oV 89 86] (sr [oM 90 0,oA 91 2 5,oL 92 5 91,oM 93 6,cF 94 129 [.t 90,.t 92,.t 93]] (.cond (.t 94) (.region [oM 95 0,oK 96 95,oA 97 3 96,oG 98 97,oM 99 0,oK 100 99,oA 101 0 100,oW 102 2 101,oA 103 2 5,oL 104 5 103,cP 105 98 [.t 102,.t 104],oI 106 1 98 105,oH 107 106,oM 108 6,oM 109 7,oI 110 1 107 108,oV 110 109]) .skip))) .skip))) (sr [oD 112 .eql 39 4,oM 111 112] (.cond (.t 111) (sr [oM 113 6,oD 114 .neq 113 0] (.cond (.t 114) (.region [oM 115 0,oM 116 1,oA 117 4 5,oL 118 5 117,cF 119 76 [.t 115,.t 116,.t 118]]) (.region [oM 120 0,oM 121 1,oA 122 5 5,oL 123 5 122,cF 124 76 [.t 120,.t 121,.t 123]]))) (sr [oD 126 .eql 39 8,oM 125 126] (.cond (.t 125) (.region [oM 127 1,oM 128 1,oM 129 6,oK 130 127,oA 131 1 130,oN (.store .any 1 (.t 131) (cI 3)),oK 132 128,oA 133 2 132,oV 133 129]) (sr [oD 135 .eql 39 9,oM 134 135] (.cond (.t 134) (sr [oM 136 0,oM 137 0,oK 138 137,oA 139 4 138,oA 140 3 139,oG 141 140,oD 142 .add 141 1,oK 143 136,oA 144 4 143,oA 145 3 144,oV 145 142] (.region [oM 146 0,oM 147 0,oK 148 147,oA 149 4 148,oA 150 2 149,oO 151 (.loadT .any (.t 150)),oM 152 6,oO 153 (.bslice 1 (.int .i64 0) 1 [(0,(.t 152))]),oO 154 (.append 1 8 (.t 151) (.t 153)),oK 155 146,oA 156 4 155,oA 157 2 156,oN (.storeT .any (.t 157) 154)])) .skip)))))))))))))))))))⟩
theorem ok101:zh Tryz.prog Tryz.f101 F101=true:=by kernel_rfl
def L76_0:ICode:= .loop [0,1,2,6,7] []
 (.seq
 (sr [
 oM 13 7,
 oM 14 2,
 oY 15 14,
 oP 16 .lss 13 15,
 oM 17 16,
 oTm 17 18 1,
 oT 17 19 (.nilck (.t 18)),
 oT 17 20 (.faddr 1 (.t 19)),
 oT 17 21 (.load .any false 1 (.t 20)),
 oT 17 22 (.bin 0 [] .eql (.t 21) (cI 0)),
 oO 23 (.pick (.t 17) (.t 22) (.c bF)),
 oM 24 23,
 oTm 24 25 0,
 oT 24 26 (pF 42 [.t 25]),
 oT 24 27 (.un .not (.t 26)),
 oO 28 (.pick (.t 24) (.t 27) (.c bF))]
 (.cond (.t 28)
 .skip
 (.exit 0)))
 (.seq
 (.block 1
 (.region [
 oM 31 0,
 oM 32 1,
 oM 33 2,
 oM 34 7,
 oI 35 6 33 34,
 oW 36 6 35,
 cF 37 101 [.t 31,.t 32,.t 36]]))
 (.region [
 oM 29 7,
 oD 30 .add 29 1,
 oM 7 30])))
abbrev K76_0:List Nat:=[0,1,2,6]
abbrev B76_0:List Nat:=[]
def F76:IFn:=⟨47,3,[],false,false,(sr [oM 8 1,oK 9 8,oA 10 0 9,oG 11 10,oY 12 11,oM 6 12] (.seq (sr [oZ 7 0] (.block 0 L76_0)) (.region [oM 38 1,oM 39 1,oK 40 39,oA 41 0 40,oG 42 41,oM 43 6,oO 44 (.slc false 2 (.t 42) none (some (.t 43)) none),oK 45 38,oA 46 0 45,oV 46 44])))⟩
theorem ok76:zh Tryz.prog Tryz.f76 F76=true:=by kernel_rfl
def L40_0:ICode:= .loop [0,2,7,8,9] []
 (.seq
 (sr [
 oM 22 9,
 oM 23 2,
 oY 24 23,
 oP 25 .lss 22 24]
 (.cond (.t 25)
 .skip
 (.exit 0)))
 (.seq
 (.block 1
 (.region [
 oM 28 8,
 oM 29 8,
 oK 30 29,
 oA 31 0 30,
 oG 32 31,
 oA 33 2 7,
 oL 34 7 33,
 oM 35 9,
 oI 36 2 34 35,
 oA 37 0 36,
 oH 38 37,
 oM 39 2,
 oM 40 9,
 oI 41 1 39 40,
 oH 42 41,
 oO 43 (.build [.str [],.int .i64 0] [(0,1,(.t 38)),(1,1,(.t 42))]),
 oO 44 (.bslice 2 (.agg [.str [],.int .i64 0]) 1 [(0,(.t 43))]),
 oO 45 (.appendS 2 24 (.t 32) (.t 44)),
 oK 46 28,
 oA 47 0 46,
 oV 47 45]))
 (.region [
 oM 26 9,
 oD 27 .add 26 1,
 oM 9 27])))
abbrev K40_0:List Nat:=[0,2,7,8]
abbrev B40_0:List Nat:=[7]
def F40:IFn:=⟨57,3,[.tmp 6],true,false,(sr [oZ 6 0] (sr [oM 10 0,oK 11 10,oA 12 0 11,oA 13 1 12,oG 14 13,oM 15 1,oI 16 4 14 15,oW 17 4 16,oO 7 (.boxL 7 (.c (.agg [.str [],.int .i64 0,.slice .fit 2 [],.slice .fit 6 []]))),oS 7 4 7 17] (sr [oO 18 (.build [.str [],.int .i64 0] []),oO 19 (.bsliceS 2 (.agg [.str [],.int .i64 0]) 1 [(0,(.t 18))]),oO 20 (.build [.slice .fit 2 [],.int .i64 0,.int .i64 0] [(0,1,(.t 19))]),oO 21 (.boxS 3 (.t 20)),oM 8 21] (.seq (sr [oZ 9 0] (.block 0 L40_0)) (sr [oM 48 0,oM 49 8,oA 50 3 7,oL 51 7 50,cF 52 76 [.t 48,.t 49,.t 51]] (sr [oM 53 8,oK 54 53,oA 55 2 54,oG 56 55,oM 6 56] .ret))))))⟩
theorem ok40:zh Tryz.prog Tryz.f40 F40=true:=by kernel_rfl
def L18_0:ICode:= .loop [3,6,9,10] []
 (.seq
 (sr [
 oM 27 10,
 oA 28 0 3,
 oL 29 3 28,
 oY 30 29,
 oP 31 .lss 27 30]
 (.cond (.t 31)
 .skip
 (.exit 0)))
 (.seq
 (.block 1
 (.region [
 oM 34 9,
 oM 35 9,
 oK 36 35,
 oA 37 3 36,
 oO 38 (.loadT .any (.t 37)),
 oA 39 0 3,
 oL 40 3 39,
 oM 41 10,
 oI 42 2 40 41,
 oA 43 1 42,
 oH 44 43,
 oO 45 (.mksliceS 1 (.int .i64 0) 8 (.t 44) (.t 44)),
 oO 46 (.bslice 1 (.slice .fit 1 []) 1 [(0,(.t 45))]),
 oO 47 (.append 1 24 (.t 38) (.t 46)),
 oK 48 34,
 oA 49 3 48,
 oN (.storeT .any (.t 49) 47)]))
 (.region [
 oM 32 10,
 oD 33 .add 32 1,
 oM 10 33])))
abbrev K18_0:List Nat:=[3,6,9]
abbrev B18_0:List Nat:=[3,6]
def F18:IFn:=⟨70,3,[.cell 6 true 5],true,false,(sr [oO 3 (.boxL 3 (.t 0)),oO 6 (.boxL 6 (.c (.agg [.int .i64 0,.int .i64 0,.slice .fit 1 [],.int .i64 0,.int .i64 0])))] (.seq (sr [oLa 13 3 2 3,cP 14 39 [.t 13],oM 12 14,oX 15 12 0,oX 16 12 1,oO 8 (.boxL 8 (.c (.agg [.int .i64 0,.int .i64 0]))),oM 7 15,oS 8 2 8 16] (sr [oM 17 7,oD 18 .neq 17 0] (.cond (.t 18) (sr [oO 19 (.build [.int .i64 0,.int .i64 0,.slice .fit 1 [],.int .i64 0,.int .i64 0] []),oS 6 5 6 19] .ret) .skip))) (sr [oLa 20 3 2 3,oE 21 1,oM 22 2,oO 23 (.max2 (.t 22) (cI 0)),oO 24 (.build [.int .i64 0,.int .i64 0,.slice .fit 1 [],.int .i64 0,.int .i64 0] [(4,1,(.t 23))]),oO 25 (.buildF [.slice .fit 2 [],.slice .fit 4 [],.slice .fit 1 [],.slice .fit 1 [],.int .i64 0,.int .i64 0,.slice .fit 1 [],.int .i64 0,.int .i64 0,.bool false] [(0,2,(.t 20)),(2,1,(.t 21)),(4,5,(.t 24))]),oO 26 (.boxS 10 (.t 25)),oM 9 26] (.seq (sr [oZ 10 0] (.block 0 L18_0)) (sr [oM 50 9,oLa 51 3 2 3,cP 52 41 [(.t 51),(.c (.str [109,97,105,110]))],cF 53 40 [(.t 50),(.t 52),(.c (.slice .fit 1 []))],oM 11 53] (.seq (sr [oM 54 9,cF 55 42 [.t 54],oU 56 55] (.cond (.t 56) (.region [oM 57 9,oM 58 9,oM 59 11,oK 60 57,oA 61 4 60,oA 62 0 61,oN (.store .any 1 (.t 62) (cI 1)),oK 63 58,oA 64 4 63,oA 65 1 64,oV 65 59]) .skip)) (sr [oM 66 9,oK 67 66,oA 68 4 67,oW 69 5 68,oS 6 5 6 69] .ret)))))))⟩
theorem ok18:zh Tryz.prog Tryz.f18 F18=true:=by kernel_rfl
def F19:IFn:=⟨9,1,[.tmp 2],false,false,(sr [oC 2 (.slice .fit 1 [])] (.seq (sr [oM 3 0,oY 4 3,oD 5 .gtr 4 10] (.cond (.t 5) (sr [oE 6 0,oO 7 (.slc false 1 (.t 6) none (some (cI 10)) none),oE 2 7] .ret) .skip)) (sr [oE 8 0,oE 2 8] .ret)))⟩
theorem ok19:zh Tryz.prog Tryz.f19 F19=true:=by kernel_rfl
def F5:IFn:=⟨58,3,[.tmp 6],false,false,(sr [oC 6 bF] (sr [cP 14 8 [],oM 7 14] (.seq (sr [oM 15 7,oU 16 15] (.cond (.t 16) (sr [oC 6 bF] .ret) .skip)) (sr [oE 17 0,cP 18 11 [.t 17],oO 8 (.boxL 8 (.c (.agg [.slice .fit 2 [],.slice .fit 4 []]))),oS 8 2 8 18] (sr [oLa 20 8 2 8,cP 21 12 [.t 20],oM 19 21,oX 22 19 0,oX 23 19 1,oO 9 (.boxL 9 (.c (.agg [.slice .fit 2 [],.slice .fit 4 []]))),oS 9 2 9 22,oM 10 23] (.seq (sr [oM 24 10,oD 25 .neq 24 0] (.cond (.t 25) (sr [oM 26 7,oM 6 26] .ret) .skip)) (sr [oLa 28 9 2 9,cP 29 12 [.t 28],oM 27 29,oX 30 27 0,oX 31 27 1,oO 11 (.boxL 11 (.c (.agg [.slice .fit 2 [],.slice .fit 4 []]))),oS 11 2 11 30,oM 12 31] (sr [oM 32 2,oO 33 (.conv .i64 (.t 32)),oB 34 .mul (cI 2) (.t 33),oM 13 34] (sr [oM 35 7,oM 36 35,oTm 36 37 12,oT 36 38 (.bin 0 [] .eql (.t 37) (cI 0)),oO 39 (.pick (.t 36) (.t 38) (.c bF)),oM 40 39,oT 40 41 (.load (.box 9) true 2 (.t 9)),oT 40 42 (.load (.box 11) true 2 (.t 11)),oT 40 43 (pP 16 [.t 41,.t 42]),oO 44 (.pick (.t 40) (.t 43) (.c bF)),oM 45 44,oT 45 46 (.load (.box 8) true 2 (.t 8)),oTm 45 47 1,oT 45 48 (pP 19 [.t 47]),oTm 45 49 13,oT 45 50 (pP 18 [.t 46,.t 48,.t 49]),oT 45 51 (.load (.box 9) true 2 (.t 9)),oTm 45 52 1,oT 45 53 (pP 19 [.t 52]),oTm 45 54 13,oT 45 55 (pP 18 [.t 51,.t 53,.t 54]),oT 45 56 (pP 17 [.t 50,.t 55]),oO 57 (.pick (.t 45) (.t 56) (.c bF)),oM 6 57] .ret)))))))))⟩
theorem ok5:zh Tryz.prog Tryz.f5 F5=true:=by kernel_rfl
def fns:Nat->Option IFn
 |9=>some F9
 |79=>some F79
 |131=>some F131
 |163=>some F163
 |132=>some F132
 |104=>some F104
 |103=>some F103
 |133=>some F133
 |105=>some F105
 |134=>some F134
 |106=>some F106
 |136=>some F136
 |135=>some F135
 |164=>some F164
 |137=>some F137
 |144=>some F144
 |112=>some F112
 |184=>some F184
 |198=>some F198
 |185=>some F185
 |202=>some F202
 |204=>some F204
 |203=>some F203
 |199=>some F199
 |200=>some F200
 |187=>some F187
 |186=>some F186
 |166=>some F166
 |165=>some F165
 |138=>some F138
 |108=>some F108
 |107=>some F107
 |81=>some F81
 |139=>some F139
 |109=>some F109
 |82=>some F82
 |83=>some F83
 |142=>some F142
 |170=>some F170
 |191=>some F191
 |171=>some F171
 |167=>some F167
 |168=>some F168
 |188=>some F188
 |189=>some F189
 |190=>some F190
 |169=>some F169
 |141=>some F141
 |140=>some F140
 |143=>some F143
 |110=>some F110
 |111=>some F111
 |84=>some F84
 |85=>some F85
 |145=>some F145
 |114=>some F114
 |113=>some F113
 |86=>some F86
 |51=>some F51
 |115=>some F115
 |87=>some F87
 |117=>some F117
 |89=>some F89
 |53=>some F53
 |27=>some F27
 |28=>some F28
 |55=>some F55
 |56=>some F56
 |29=>some F29
 |12=>some F12
 |43=>some F43
 |44=>some F44
 |45=>some F45
 |20=>some F20
 |59=>some F59
 |61=>some F61
 |62=>some F62
 |33=>some F33
 |63=>some F63
 |94=>some F94
 |66=>some F66
 |67=>some F67
 |64=>some F64
 |65=>some F65
 |201=>some F201
 |194=>some F194
 |177=>some F177
 |195=>some F195
 |175=>some F175
 |122=>some F122
 |176=>some F176
 |152=>some F152
 |153=>some F153
 |154=>some F154
 |120=>some F120
 |95=>some F95
 |68=>some F68
 |34=>some F34
 |69=>some F69
 |96=>some F96
 |121=>some F121
 |97=>some F97
 |70=>some F70
 |35=>some F35
 |14=>some F14
 |71=>some F71
 |37=>some F37
 |16=>some F16
 |8=>some F8
 |49=>some F49
 |26=>some F26
 |25=>some F25
 |50=>some F50
 |24=>some F24
 |11=>some F11
 |38=>some F38
 |17=>some F17
 |41=>some F41
 |98=>some F98
 |72=>some F72
 |73=>some F73
 |155=>some F155
 |124=>some F124
 |123=>some F123
 |99=>some F99
 |74=>some F74
 |100=>some F100
 |75=>some F75
 |39=>some F39
 |42=>some F42
 |125=>some F125
 |128=>some F128
 |129=>some F129
 |156=>some F156
 |178=>some F178
 |157=>some F157
 |158=>some F158
 |127=>some F127
 |126=>some F126
 |101=>some F101
 |76=>some F76
 |40=>some F40
 |18=>some F18
 |19=>some F19
 |5=>some F5
 |_=>none
set_option maxRecDepth 100000 in
theorem fnsOk:∀f F,fns f=some F->∃fn,Tryz.prog.funcs[f]? =some fn/\zh Tryz.prog fn F=true:=by
 intro f F h;unfold fns at h;split at h
 ·cases h;exact⟨Tryz.f9,Tryz.func9,ok9⟩
 ·cases h;exact⟨Tryz.f79,Tryz.func79,ok79⟩
 ·cases h;exact⟨Tryz.f131,Tryz.func131,ok131⟩
 ·cases h;exact⟨Tryz.f163,Tryz.func163,ok163⟩
 ·cases h;exact⟨Tryz.f132,Tryz.func132,ok132⟩
 ·cases h;exact⟨Tryz.f104,Tryz.func104,ok104⟩
 ·cases h;exact⟨Tryz.f103,Tryz.func103,ok103⟩
 ·cases h;exact⟨Tryz.f133,Tryz.func133,ok133⟩
 ·cases h;exact⟨Tryz.f105,Tryz.func105,ok105⟩
 ·cases h;exact⟨Tryz.f134,Tryz.func134,ok134⟩
 ·cases h;exact⟨Tryz.f106,Tryz.func106,ok106⟩
 ·cases h;exact⟨Tryz.f136,Tryz.func136,ok136⟩
 ·cases h;exact⟨Tryz.f135,Tryz.func135,ok135⟩
 ·cases h;exact⟨Tryz.f164,Tryz.func164,ok164⟩
 ·cases h;exact⟨Tryz.f137,Tryz.func137,ok137⟩
 ·cases h;exact⟨Tryz.f144,Tryz.func144,ok144⟩
 ·cases h;exact⟨Tryz.f112,Tryz.func112,ok112⟩
 ·cases h;exact⟨Tryz.f184,Tryz.func184,ok184⟩
 ·cases h;exact⟨Tryz.f198,Tryz.func198,ok198⟩
 ·cases h;exact⟨Tryz.f185,Tryz.func185,ok185⟩
 ·cases h;exact⟨Tryz.f202,Tryz.func202,ok202⟩
 ·cases h;exact⟨Tryz.f204,Tryz.func204,ok204⟩
 ·cases h;exact⟨Tryz.f203,Tryz.func203,ok203⟩
 ·cases h;exact⟨Tryz.f199,Tryz.func199,ok199⟩
 ·cases h;exact⟨Tryz.f200,Tryz.func200,ok200⟩
 ·cases h;exact⟨Tryz.f187,Tryz.func187,ok187⟩
 ·cases h;exact⟨Tryz.f186,Tryz.func186,ok186⟩
 ·cases h;exact⟨Tryz.f166,Tryz.func166,ok166⟩
 ·cases h;exact⟨Tryz.f165,Tryz.func165,ok165⟩
 ·cases h;exact⟨Tryz.f138,Tryz.func138,ok138⟩
 ·cases h;exact⟨Tryz.f108,Tryz.func108,ok108⟩
 ·cases h;exact⟨Tryz.f107,Tryz.func107,ok107⟩
 ·cases h;exact⟨Tryz.f81,Tryz.func81,ok81⟩
 ·cases h;exact⟨Tryz.f139,Tryz.func139,ok139⟩
 ·cases h;exact⟨Tryz.f109,Tryz.func109,ok109⟩
 ·cases h;exact⟨Tryz.f82,Tryz.func82,ok82⟩
 ·cases h;exact⟨Tryz.f83,Tryz.func83,ok83⟩
 ·cases h;exact⟨Tryz.f142,Tryz.func142,ok142⟩
 ·cases h;exact⟨Tryz.f170,Tryz.func170,ok170⟩
 ·cases h;exact⟨Tryz.f191,Tryz.func191,ok191⟩
 ·cases h;exact⟨Tryz.f171,Tryz.func171,ok171⟩
 ·cases h;exact⟨Tryz.f167,Tryz.func167,ok167⟩
 ·cases h;exact⟨Tryz.f168,Tryz.func168,ok168⟩
 ·cases h;exact⟨Tryz.f188,Tryz.func188,ok188⟩
 ·cases h;exact⟨Tryz.f189,Tryz.func189,ok189⟩
 ·cases h;exact⟨Tryz.f190,Tryz.func190,ok190⟩
 ·cases h;exact⟨Tryz.f169,Tryz.func169,ok169⟩
 ·cases h;exact⟨Tryz.f141,Tryz.func141,ok141⟩
 ·cases h;exact⟨Tryz.f140,Tryz.func140,ok140⟩
 ·cases h;exact⟨Tryz.f143,Tryz.func143,ok143⟩
 ·cases h;exact⟨Tryz.f110,Tryz.func110,ok110⟩
 ·cases h;exact⟨Tryz.f111,Tryz.func111,ok111⟩
 ·cases h;exact⟨Tryz.f84,Tryz.func84,ok84⟩
 ·cases h;exact⟨Tryz.f85,Tryz.func85,ok85⟩
 ·cases h;exact⟨Tryz.f145,Tryz.func145,ok145⟩
 ·cases h;exact⟨Tryz.f114,Tryz.func114,ok114⟩
 ·cases h;exact⟨Tryz.f113,Tryz.func113,ok113⟩
 ·cases h;exact⟨Tryz.f86,Tryz.func86,ok86⟩
 ·cases h;exact⟨Tryz.f51,Tryz.func51,ok51⟩
 ·cases h;exact⟨Tryz.f115,Tryz.func115,ok115⟩
 ·cases h;exact⟨Tryz.f87,Tryz.func87,ok87⟩
 ·cases h;exact⟨Tryz.f117,Tryz.func117,ok117⟩
 ·cases h;exact⟨Tryz.f89,Tryz.func89,ok89⟩
 ·cases h;exact⟨Tryz.f53,Tryz.func53,ok53⟩
 ·cases h;exact⟨Tryz.f27,Tryz.func27,ok27⟩
 ·cases h;exact⟨Tryz.f28,Tryz.func28,ok28⟩
 ·cases h;exact⟨Tryz.f55,Tryz.func55,ok55⟩
 ·cases h;exact⟨Tryz.f56,Tryz.func56,ok56⟩
 ·cases h;exact⟨Tryz.f29,Tryz.func29,ok29⟩
 ·cases h;exact⟨Tryz.f12,Tryz.func12,ok12⟩
 ·cases h;exact⟨Tryz.f43,Tryz.func43,ok43⟩
 ·cases h;exact⟨Tryz.f44,Tryz.func44,ok44⟩
 ·cases h;exact⟨Tryz.f45,Tryz.func45,ok45⟩
 ·cases h;exact⟨Tryz.f20,Tryz.func20,ok20⟩
 ·cases h;exact⟨Tryz.f59,Tryz.func59,ok59⟩
 ·cases h;exact⟨Tryz.f61,Tryz.func61,ok61⟩
 ·cases h;exact⟨Tryz.f62,Tryz.func62,ok62⟩
 ·cases h;exact⟨Tryz.f33,Tryz.func33,ok33⟩
 ·cases h;exact⟨Tryz.f63,Tryz.func63,ok63⟩
 ·cases h;exact⟨Tryz.f94,Tryz.func94,ok94⟩
 ·cases h;exact⟨Tryz.f66,Tryz.func66,ok66⟩
 ·cases h;exact⟨Tryz.f67,Tryz.func67,ok67⟩
 ·cases h;exact⟨Tryz.f64,Tryz.func64,ok64⟩
 ·cases h;exact⟨Tryz.f65,Tryz.func65,ok65⟩
 ·cases h;exact⟨Tryz.f201,Tryz.func201,ok201⟩
 ·cases h;exact⟨Tryz.f194,Tryz.func194,ok194⟩
 ·cases h;exact⟨Tryz.f177,Tryz.func177,ok177⟩
 ·cases h;exact⟨Tryz.f195,Tryz.func195,ok195⟩
 ·cases h;exact⟨Tryz.f175,Tryz.func175,ok175⟩
 ·cases h;exact⟨Tryz.f122,Tryz.func122,ok122⟩
 ·cases h;exact⟨Tryz.f176,Tryz.func176,ok176⟩
 ·cases h;exact⟨Tryz.f152,Tryz.func152,ok152⟩
 ·cases h;exact⟨Tryz.f153,Tryz.func153,ok153⟩
 ·cases h;exact⟨Tryz.f154,Tryz.func154,ok154⟩
 ·cases h;exact⟨Tryz.f120,Tryz.func120,ok120⟩
 ·cases h;exact⟨Tryz.f95,Tryz.func95,ok95⟩
 ·cases h;exact⟨Tryz.f68,Tryz.func68,ok68⟩
 ·cases h;exact⟨Tryz.f34,Tryz.func34,ok34⟩
 ·cases h;exact⟨Tryz.f69,Tryz.func69,ok69⟩
 ·cases h;exact⟨Tryz.f96,Tryz.func96,ok96⟩
 ·cases h;exact⟨Tryz.f121,Tryz.func121,ok121⟩
 ·cases h;exact⟨Tryz.f97,Tryz.func97,ok97⟩
 ·cases h;exact⟨Tryz.f70,Tryz.func70,ok70⟩
 ·cases h;exact⟨Tryz.f35,Tryz.func35,ok35⟩
 ·cases h;exact⟨Tryz.f14,Tryz.func14,ok14⟩
 ·cases h;exact⟨Tryz.f71,Tryz.func71,ok71⟩
 ·cases h;exact⟨Tryz.f37,Tryz.func37,ok37⟩
 ·cases h;exact⟨Tryz.f16,Tryz.func16,ok16⟩
 ·cases h;exact⟨Tryz.f8,Tryz.func8,ok8⟩
 ·cases h;exact⟨Tryz.f49,Tryz.func49,ok49⟩
 ·cases h;exact⟨Tryz.f26,Tryz.func26,ok26⟩
 ·cases h;exact⟨Tryz.f25,Tryz.func25,ok25⟩
 ·cases h;exact⟨Tryz.f50,Tryz.func50,ok50⟩
 ·cases h;exact⟨Tryz.f24,Tryz.func24,ok24⟩
 ·cases h;exact⟨Tryz.f11,Tryz.func11,ok11⟩
 ·cases h;exact⟨Tryz.f38,Tryz.func38,ok38⟩
 ·cases h;exact⟨Tryz.f17,Tryz.func17,ok17⟩
 ·cases h;exact⟨Tryz.f41,Tryz.func41,ok41⟩
 ·cases h;exact⟨Tryz.f98,Tryz.func98,ok98⟩
 ·cases h;exact⟨Tryz.f72,Tryz.func72,ok72⟩
 ·cases h;exact⟨Tryz.f73,Tryz.func73,ok73⟩
 ·cases h;exact⟨Tryz.f155,Tryz.func155,ok155⟩
 ·cases h;exact⟨Tryz.f124,Tryz.func124,ok124⟩
 ·cases h;exact⟨Tryz.f123,Tryz.func123,ok123⟩
 ·cases h;exact⟨Tryz.f99,Tryz.func99,ok99⟩
 ·cases h;exact⟨Tryz.f74,Tryz.func74,ok74⟩
 ·cases h;exact⟨Tryz.f100,Tryz.func100,ok100⟩
 ·cases h;exact⟨Tryz.f75,Tryz.func75,ok75⟩
 ·cases h;exact⟨Tryz.f39,Tryz.func39,ok39⟩
 ·cases h;exact⟨Tryz.f42,Tryz.func42,ok42⟩
 ·cases h;exact⟨Tryz.f125,Tryz.func125,ok125⟩
 ·cases h;exact⟨Tryz.f128,Tryz.func128,ok128⟩
 ·cases h;exact⟨Tryz.f129,Tryz.func129,ok129⟩
 ·cases h;exact⟨Tryz.f156,Tryz.func156,ok156⟩
 ·cases h;exact⟨Tryz.f178,Tryz.func178,ok178⟩
 ·cases h;exact⟨Tryz.f157,Tryz.func157,ok157⟩
 ·cases h;exact⟨Tryz.f158,Tryz.func158,ok158⟩
 ·cases h;exact⟨Tryz.f127,Tryz.func127,ok127⟩
 ·cases h;exact⟨Tryz.f126,Tryz.func126,ok126⟩
 ·cases h;exact⟨Tryz.f101,Tryz.func101,ok101⟩
 ·cases h;exact⟨Tryz.f76,Tryz.func76,ok76⟩
 ·cases h;exact⟨Tryz.f40,Tryz.func40,ok40⟩
 ·cases h;exact⟨Tryz.f18,Tryz.func18,ok18⟩
 ·cases h;exact⟨Tryz.f19,Tryz.func19,ok19⟩
 ·cases h;exact⟨Tryz.f5,Tryz.func5,ok5⟩
 ·cases h
def hand:Nat->Option HFn
 |_=>none
set_option maxRecDepth 100000 in
theorem handOk:∀f H,hand f=some H->∃fn cl,Tryz.prog.funcs[f]? =some fn/\Tryz.prog.funcs[H.k]? =some cl/\checkH Tryz.prog fn cl H=true:=by
 intro f H h;unfold hand at h;split at h
 ·cases h
end PE.U

namespace PE
open Go Go.RowKit
variable {F:Fence} {n:Nat} {P:Program}
def NoEnd(F:Fence)(n:Nat)(P:Program)(g:Nat)(lb:Array Value)(encs:Nat->Array Value)(Kp:World->World->Prop)(N:Nat)(w:World):Prop:=
 ∀(l:Nat) (J Jx:Nat->World->Prop) (W:World),Below w.heap.size w W->AbidesFrom W.heap.size J->AbidesFrom W.heap.size Jx→
  (∀k W1,J k W1->k<N/\YieldAt F (n-1) P l (encs k) W1 fun e W'=>
   (e= .returned (.bool true)/\J (k+1) W'/\Kp W1 W')\/(e= .returned (.bool false)/\Jx k W'))→
  J 0 W→
  CallsIn F n P g (#[.func (.yield l) #[] #[]]++lb) W fun e W'=>(∃v,e= .returned v)/\∃k,Jx k W'
def roundEnd(Kp:World->World->Prop)(I:Nat->World->Prop)(Ix:Code->Nat->World->Prop)(k:Nat)(W:World):Exit->Act->World->Prop
 | .normal,_,W'=>KeepsOthers W W'/\Kp W W'/\I (k+1) W'
 | .ret,_,W'=>KeepsOthers W W'/\Ix .ret k W'
 | .exit id,_,W'=>KeepsOthers W W'/\Ix (.exit id) k W'
 | .goto t,_,W'=>KeepsOthers W W'/\Ix (.goto t) k W'
 | .panic _,_,_=>False
 | .outgrown,_,_=>False
theorem wpIn_rangeFunc_noEnd{g:Operand}{ps:Array Tmp}{assign body:Code}{Q:Exit->Act->World->Prop}{a:Act}{w:World}
  (hro:F.round=none) (h1:1<=n) {gf:Nat} {lb:Array Value} (hg:a.eval g= .func (.func gf) #[] lb) (hFg:F.fn gf) (eg:∀args w,(callFunc gf args).run P w= .ok (.enter gf args) w)
  {encs:Nat->Array Value} {Kp:World->World->Prop} {N:Nat} {w0:World} (hseq:NoEnd F (n-1) P gf lb encs Kp N w0)
  (hKt:∀{A B C:World},Kp A B->Kp B C->Kp A C) (hKb:∀(W:World) (l:Nat) (o o':Go.Obj),w.heap.size<=l->W.heap[l]? =some o->o.isCells=false->o.isWalk=false->Kp W (W.putObj l o')) (hb0:Below w0.heap.size w0 w) (hps:∀x,(encs x).size=ps.size)
  (I:Nat->World->Prop) (Ix:Code->Nat->World->Prop) (hI:OwnFrom w.heap.size I) (hIx:∀c,OwnFrom w.heap.size (Ix c)) (h0:I 0 w) (a₁:Nat->Act) (hN:∀k W,I k W->k<N)
  (hassign:∀(l k:Nat) (W:World) (K:Act->World->Prop),K (a₁ k) W→
   assign.wpIn (F.inRound l) (n-1-1) P (Exit.then K (fun _ _ _=>False)) {tmps:=(ps.zip (encs k)).foldl (fun t (p,v)=>t.setIfInBounds p v) a.tmps,defers:=[]} W)
  (hbody:∀(l k:Nat) (W:World),I k W->body.wpIn (F.inRound l) (n-1-1) P (roundEnd Kp I Ix k W) (a₁ k) W)
  (hstop:∀(D:Nat) (c:Code) (k:Nat) (W:World),w.heap.size<=D->Ix c k W->W.heap[D]? =some (.deferred (some []))->c.wpIn F n P Q {a with defers:={target:= .collected D,args:= #[]}::a.defers} W):
  (Code.rangeFunc g ps assign body).wpIn F n P Q a w:=by
 refine wpIn_rangeFunc ?_;intro fn hfn;rw[hro];obtain⟨rec,hrec⟩:∃rec:LoopState->Option Code->Loop,rec=fun st pe=>{state:=st,pending:=pe,fn,tmps:=a.tmps,params:=ps,assign,body,defers:=w.heap.size}:=⟨_,rfl⟩
 obtain⟨W1,hW1⟩:∃W1,(w.alloc (.deferred (some []))).alloc (.loop (rec .ready none))=W1:=⟨_,rfl⟩
 have hL1:W1.heap[w.heap.size+1]? =some (.loop (rec .ready none)):=by
  rw[<-hW1];have:=World.alloc_heap_new (w.alloc (.deferred (some []))) (.loop (rec .ready none));rwa[World.size_alloc]at this
 have hK1:W1.heap[w.heap.size]? =some (.deferred (some [])):=by
  rw[<-hW1];exact(Below.heap_alloc _ _ _ (by simp)).trans (World.alloc_heap_new w _)
 have hI1:I 0 W1:=by rw[<-hW1];exact hI.alloc _ (hI.alloc _ h0)
 have hb1:Below w0.heap.size w0 W1:=by
  rw[<-hW1];exact hb0.trans ((((Below.refl _ w).alloc (yd _) _).alloc (by simp) _).mono hb0.size)
 refine⟨w.heap.size+1,[{target:= .collected w.heap.size,args:= #[]}],W1,{target:= .fn (.func gf) lb,args:= #[.func (.yield (w.heap.size+1)) #[] #[]]},W1,gf,
  #[.func (.yield (w.heap.size+1)) #[] #[]]++lb,W1,?_,?_,?_,?_,fun _=>h1,?_⟩
 ·rw[<-hW1,hrec];exact run_enterLoop_outer _ _ _ _ _
 ·simp only[resolve,hg];simp[go_sem]
 ·intro f' hf';simp[Target.leads]at hf';subst hf';exact hFg
 ·simp[invoke,go_sem,eg]
 ·have hnw:∀{A B:World} {row:Option Nat},(∀r,row=some r->W1.heap.size<=r/\∃o:Go.Obj,A.heap[r]? =some o/\o.isWalk=true)->(∀r,row=some r->w.heap.size<=r/\∃o:Go.Obj,A.heap[r]? =some o/\o.isCells=false):=
   fun hr r e=>by obtain⟨hB,o,ho,hw⟩:=hr r e;exact⟨by rw[<-hW1]at hB;simp at hB;omega,o,ho,Obj.not_cells_of_walk hw⟩
  refine(hseq (w.heap.size+1)
   (fun k W=>I k W/\W.heap[w.heap.size+1]? =some (.loop (rec .ready none))/\W.heap[w.heap.size]? =some (.deferred (some [])))
   (fun k W=>∃c,Ix c k W/\W.heap[w.heap.size+1]? =some (.loop (rec .done (some c)))/\W.heap[w.heap.size]? =some (.deferred (some [])))
   W1 hb1
   (fun s A B row hs hg' hr=>⟨hI s A B row hs.1 hg' (hnw (B:=B) hr),(grownBy_keeps hg' (fun r e=>(hr r e).2) hs.2.1 rfl).trans hs.2.1,(grownBy_keeps hg' (fun r e=>(hr r e).2) hs.2.2 rfl).trans hs.2.2⟩)
   (fun s A B row hs hg' hr=>by
    obtain⟨c,hc,hl,hk⟩:=hs;exact⟨c,hIx c s A B row hc hg' (hnw (B:=B) hr),(grownBy_keeps hg' (fun r e=>(hr r e).2) hl rfl).trans hl,(grownBy_keeps hg' (fun r e=>(hr r e).2) hk rfl).trans hk⟩)
   ?_ ⟨hI1,hL1,hK1⟩).mono ?_
  ·rintro k W ⟨hi,hl,hk⟩
   refine⟨hN k W hi,?_⟩;have hlt:w.heap.size+1<W.heap.size:=(yr.1 hl).1;have hy:=run_yield (P:=P) (args:=encs k) hl (by rw[hrec];exact hps k);rw[hrec]at hy;refine⟨fn,_,assign,body,hy,roundIn_of_wpIn hfn (hassign _ k W _ ⟨_,run_beginRound hl (by rw[hrec]),?_⟩)⟩;have hl2:(W.putObj (w.heap.size+1) (.loop {rec .ready none with state:= .busy})).heap[w.heap.size+1]? =some (.loop {rec .ready none with state:= .busy}):=World.putObj_heap_same hlt;have hk2:(W.putObj (w.heap.size+1) (.loop {rec .ready none with state:= .busy})).heap[w.heap.size]? =some (.deferred (some [])):=(World.putObj_heap_other (by omega)).trans hk;have hw2:Kp W (W.putObj (w.heap.size+1) (.loop {rec .ready none with state:= .busy})):=hKb _ _ _ _ (by omega) hl rfl rfl;refine wpIn_mono (hbody _ k _ (hI.putObj _ hi (by omega) hl rfl)) ?_;have fin:∀(jump:Option Code) (W3:World),KeepsOthers (W.putObj (w.heap.size+1) (.loop {rec .ready none with state:= .busy})) W3→
     (Instr.endRound (w.heap.size+1) jump).run P W3= .ok (.bool jump.isNone) (W3.putObj (w.heap.size+1) (.loop (rec (if jump.isNone then .ready else .done) jump)))∧
     W3.heap[w.heap.size+1]? =some (.loop {rec .ready none with state:= .busy})∧
     (W3.putObj (w.heap.size+1) (.loop (rec (if jump.isNone then .ready else .done) jump))).heap[w.heap.size+1]? =some (.loop (rec (if jump.isNone then .ready else .done) jump))∧
     (W3.putObj (w.heap.size+1) (.loop (rec (if jump.isNone then .ready else .done) jump))).heap[w.heap.size]? =some (.deferred (some [])):=fun jump W3 hk3=>by
    have hl3:=hk3.same _ _ hl2 rfl;have:=run_endRound (P:=P) jump hl3;rw[hrec]at this ⊢;exact⟨this,by rw[hrec]at hl3;exact hl3,World.putObj_heap_same (yr.1 hl3).1,(World.putObj_heap_other (by omega)).trans (hk3.same _ _ hk2 rfl)⟩
   rintro e a3 W3 hp
   cases e with
   |normal=>
    obtain⟨hk3,hkp3,hi3⟩:=hp;obtain⟨hr,hl3,hl4,hk4⟩:=fin none W3 hk3;exact⟨_,_,hr,.inl ⟨rfl,⟨hI.putObj _ hi3 (by omega) hl3 rfl,hl4,hk4⟩,hKt (hKt hw2 hkp3) (hKb _ _ _ _ (by omega) hl3 rfl rfl)⟩⟩
   |ret=>
    obtain⟨hk3,hi3⟩:=hp;obtain⟨hr,hl3,hl4,hk4⟩:=fin (some .ret) W3 hk3;exact⟨_,_,hr,.inr ⟨rfl,.ret,(hIx _).putObj _ hi3 (by omega) hl3 rfl,hl4,hk4⟩⟩
   |exit id=>
    obtain⟨hk3,hi3⟩:=hp;obtain⟨hr,hl3,hl4,hk4⟩:=fin (some (.exit id)) W3 hk3;exact⟨_,_,hr,.inr ⟨rfl,.exit id,(hIx _).putObj _ hi3 (by omega) hl3 rfl,hl4,hk4⟩⟩
   |goto t=>
    obtain⟨hk3,hi3⟩:=hp;obtain⟨hr,hl3,hl4,hk4⟩:=fin (some (.goto t)) W3 hk3;exact⟨_,_,hr,.inr ⟨rfl,.goto t,(hIx _).putObj _ hi3 (by omega) hl3 rfl,hl4,hk4⟩⟩
   |panic ch=>exact hp.elim
   |outgrown=>exact hp.elim
  ·rintro e W2 ⟨⟨v,rfl⟩,k,c,hi,hl,hk⟩
   exact⟨some c,_,by have:=run_endLoop (P:=P) hl (by rw[hrec];simp);rw[hrec]at this;exact this,hstop _ c k _ (yd _) ((hIx c).putObj _ hi (by omega) hl rfl) ((World.putObj_heap_other (by omega)).trans hk)⟩
end PE

namespace PE.R
open Go Go.Proofs Go.RowKit Go.Shelf PE
attribute [local go_sem] Oper.semAt_some
def nthK(n:Nat):Nat:=if n<216 then n else if n<227 then n+1 else if n<422 then n+2 else if n<433 then n+3 else if n<836 then n+4 else if n<847 then n+5 else n+6
def fromK(n:Nat):Nat:=if n=0 then 0 else nthK (n-1)+1
def wds:List (List UInt8):=[[105,110,116],[98,111,111,108],[105,102],[101,108,115,101],[119,104,105,108,101],[98,114,101,97,107],[99,111,110,116,105,110,117,101],[114,101,116,117,114,110],[112,114,105,110,116],[114,101,97,100],[116,114,117,101],[102,97,108,115,101],[105,56],[105,49,54],[105,51,50],[117,56],[117,49,54],[117,51,50]]
set_option maxRecDepth 100000 in
set_option maxHeartbeats 2000000 in
theorem word_in(F:Fence)(n:Nat)(hF:F.fn 79)(hro:F.round=none)(s:List UInt8)(w:World):
  CallsIn F n Tryz.prog 79 #[.string ⟨s.toArray⟩] w fun e w'=>e= .returned (.bool (wds.contains s))/\w'=w:=by
 refine callsIn_of_wp Tryz.func79 rfl hF ?_ hro;simp only[Tryz.ntmps79,ysa,yj,yn,Nat.reduceAdd,Nat.reduceSub,ydb,yeb,ylb,ygb,yla,yT]
 gi_wp2
 all_goals(refine bodyPost_ret (results_tmp rfl _ _ _) rfl ?_;refine⟨?_,rfl⟩;congr 2;symm;simp_all[wds])
attribute [local go_sem] Oper.semAt_some
def dg(m:Nat):List UInt8:=if m=0 then[]else Lib.itoa m
def txt(p:Nat):List UInt8:=yG (97+p%26)::dg (p/26)
structure Steps(pos frm:Nat->Nat)(N:Nat):Prop where
 zero:frm 0=0
 succ:∀k,frm (k+1)=pos k+1
 le:∀k,frm k<=pos k
 word:∀k p,k<N->frm k<=p->p<pos k->wds.contains (txt p)=true
 name:∀k,k<N->wds.contains (txt (pos k))=false
 small:∀k,k<N->pos k<1000000000000
abbrev abc:ByteArray:=⟨#[97,98,99,100,101,102,103,104,105,106,107,108,109,110,111,112,113,114,115,116,117,118,119,120,121,122]⟩
theorem abc_dec:∀p,p<26->Utf8.decode abc p=(97+p,1):=by decide+kernel
theorem und21:Tryz.prog.underlying 21=some (.int .i32):=by kernel_rfl
theorem und9:Tryz.prog.underlying 9=some .string:=by kernel_rfl
theorem enc_abc:∀i,i<26->Utf8.encode ((97+i:Nat):Int)=⟨#[yG (97+i)]⟩:=by decide+kernel
theorem conv_abc(i:Nat)(hi:i<26)(w:World):(convert 21 9 (.int .i32 (97+(i:Int)))).run Tryz.prog w= .ok (.string ⟨#[yG (97+i)]⟩) w:=by
 rw[run_convert_int_string w 21 9 .i32 _ (by rw[und21];rfl) und9,<-enc_abc i hi];rfl
theorem bytes_cat(a b:List UInt8):(⟨a.toArray⟩:ByteArray)++⟨b.toArray⟩=⟨(a++b).toArray⟩:=by
 apply ByteArray.ext;simp
theorem txt_at(m i:Nat)(hi:i<26):txt (26*m+i)=(97+yG i)::dg m:=by
 unfold txt;rw[show(26*m+i)%26=i by omega,show(26*m+i)/26=m by omega,UInt8.ofNat_add];rfl
theorem grown_iterAt{W:World}{B:Nat}{A:ByteArray}{p:Nat}(q:Nat):W.grownBy (W.iterAt B A q) (some B):=
 ⟨rfl,rfl,rfl,by rw[Lib.iterAt_size];exact yd _,fun j _ hj=>Lib.iterAt_other W B j A _ (fun e=>hj (by rw[e]))⟩
theorem grown_grow(W:World)(k:Nat)(os:Array Go.Obj):W.grownBy (Sort.grow (W.drewN k) os) none:=
 ⟨rfl,rfl,rfl,by simp,fun j hj _=>Sort.heap_grow_old (W.drewN k) os hj⟩
def Kp0(n₀:Nat)(A B:World):Prop:=KeepsWalks A B/\Below n₀ A B
set_option maxRecDepth 4000 in
set_option maxHeartbeats 4000000 in
theorem all1_noEnd(gT:Nat)(tab:Array Value)
  (hIt:∀(n:Int) (w:World),-9223372036854775808<=n->n<=9223372036854775807->(∃e fr,w.heap[gT]? =some (.cells tab e fr))→
   Calls Tryz.prog 78 #[.int .i64 n] w fun e w'=>e= .returned (.string ⟨(Lib.itoa n).toArray⟩)/\∃k os,w'=Sort.grow (w.drewN k) os)
  {pos frm:Nat->Nat} {N:Nat} (hp:Steps pos frm N) (w:World) (htab:∃e fr,w.heap[gT]? =some (.cells tab e fr)) (n₀:Nat) (hgT:gT<n₀) (hn₀:n₀<=w.heap.size):
  NoEnd Fence.wide 2 Tryz.prog 77 #[] (fun k=> #[.string ⟨(txt (pos k)).toArray⟩]) (Kp0 n₀) N w:=by
 intro l J Jx W hBW0 hJ hJx hY h0;have hBW:Below n₀ w W:=hBW0.mono hn₀;refine callsIn_of_wp Tryz.func77 rfl trivial ?_ rfl;simp only[Tryz.ntmps77,ysa,yj,yn,Nat.reduceAdd,Nat.reduceSub,ydb,yeb,ylb,ygb,yla,yT]
 gi_wp2
 gi_loopw [2] (fun v wr=>∃(m k:Nat),v= .int .i64 m/\J k wr/\frm k<=26*m/\26*m<=pos k/\Below n₀ w wr/\W.heap.size<=wr.heap.size)
  (fun v wr=>1000000000000-(intOf v).toNat)
 case atStart=>
  exact⟨0,0,rfl,h0,by rw[hp.zero];omega,by omega,hBW,yd _⟩
 case round=>
  obtain⟨m,k,rfl,hJk,hf,hl,hB,hWs⟩:=hrel;have hkN:=(hY k wr hJk).1;have hsm:=hp.small k hkN;obtain⟨e,fr,ht⟩:=htab;have ht':wr.heap[gT]? =some (.cells tab e fr):=(hB.block gT hgT).trans ht;by_cases hm:m=0
  ·subst hm;rw[show((0:Nat):Int)=0 from rfl]
   gi_wp2
   obtain⟨B,hBe⟩:∃B,B=wr.heap.size:=⟨_,rfl⟩
   rw[<-hBe];have hit0:(wr.iter abc 0).heap[B]? =some (.stringIter abc 0):=by rw[hBe];exact World.iter_heap wr abc 0
   have hJ0:J k (wr.iter abc 0):=hJ k _ _ none hJk (World.grownBy_alloc _ _ none) (fun r e=>by cases e);have hB0:Below n₀ w (wr.iter abc 0):=hB.alloc (by have:=hBW.size;omega) _;have hWB:W.heap.size<=B:=by omega
   clear hBe;obtain⟨A,hA⟩:∃A,A=abc:=⟨_,rfl⟩
   have hAd:∀p,p<26->Utf8.decode A p=(97+p,1):=by rw[hA];exact abc_dec
   have hAs:A.size=26:=by rw[hA];rfl
   change Code.wpIn _ _ _ _ _ _ (wr.iter abc 0);rw[<-hA]at hit0 hJ0 hB0 ⊢;clear hA
   gi_loopw [] (fun wi=>∃(k i:Nat),J k wi/\frm k<=26*0+i/\26*0+i<=pos k/\i<=26/\Below n₀ w wi/\wi.heap[B]? =some (.stringIter A i))
    (fun wi=>26-wi.iterPos B)
   case atStart=>
    exact⟨k,0,hJ0,hf,hl,by omega,hB0,hit0⟩
   case round=>
    obtain⟨k2,i,hJ2,hf2,hl2,hi26,hB2,hit⟩:=hrel;by_cases hi:i<26
    ·obtain⟨c,hc⟩:∃c:Nat,c=97+i:=⟨_,rfl⟩
     have hnx:∀ty,(Instr.next (.pointer (some ⟨B,0,none⟩)) true ty).run Tryz.prog wr= .ok (.tuple #[.bool true,.int .i64 i,.int .i32 c]) (wr.iterAt B A (i+1)):=by
      intro ty;rw[Lib.run_next_any_at wr B A i ty hit (by rw[hAs];exact hi),hAd i hi,hc]
     have hcv:=conv_abc i hi;obtain⟨S,hS⟩:∃S,S=txt (26*0+i):=⟨_,rfl⟩
     have heq:(({data:= #[97+yG i]}:ByteArray)++{data:= #[]})=⟨S.toArray⟩:=by
      rw[hS,txt_at 0 i hi];exact bytes_cat [97+yG i] []
     have hJ3:J k2 (wr.iterAt B A (i+1)):=hJ k2 _ _ (some B) hJ2 (grown_iterAt (p:=i) _) (fun r e=>by cases e;exact⟨hWB,_,hit,rfl⟩);have hB3:Below n₀ w (wr.iterAt B A (i+1)):=Lib.below_iterAt hB2 (k:=B) (by have:=hBW.size;omega) A (i+1);have hit3:(wr.iterAt B A (i+1)).heap[B]? =some (.stringIter A (i+1)):=Lib.iterAt_heap wr B A i (i+1) hit;by_cases hw:wds.contains S=true
     ·have hne:26*0+i<pos k2:=by
       rcases yB (26*0+i) (pos k2)with h|h
       ·exact h
       ·rw[hS,show 26*0+i=pos k2 by omega,hp.name k2 (hY k2 _ hJ3).1]at hw;cases hw
      clear hS
      gi_wp2_with (refine⟨trivial,?_⟩;gi_at_call 79;refine(word_in _ _ trivial rfl _ _).mono ?_;rw[hw];rintro e2 w2 ⟨rfl,rfl⟩)
      refine⟨fun _ h=>(by cases h),?_⟩
      gi_wp2
      go_roundw
      case rel=>exact⟨k2,i+1,hJ3,by omega,by omega,by omega,hB3,hit3⟩
      case measure=>
       simp only[World.iterPos,hit3,hit];omega
     ·have hw':wds.contains S=false:=by simpa using hw
      have hpk:pos k2=26*0+i:=by
       rcases yB (26*0+i) (pos k2)with h|h
       ·rw[hS,hp.word k2 _ (hY k2 _ hJ3).1 hf2 h]at hw';cases hw'
       ·omega
      obtain⟨fn,tmps,assign,body,hy,hR⟩:=(hY k2 _ hJ3).2;rw[hpk,<-hS]at hy;clear hS
      gi_wp2_with (refine⟨trivial,?_⟩;gi_at_call 79;refine(word_in _ _ trivial rfl _ _).mono ?_;rw[hw'];rintro e2 w2 ⟨rfl,rfl⟩)
      refine hR.mono ?_
      rintro e3 W3 (⟨rfl,hJ4,hK4⟩|⟨rfl,hJx4⟩)
      ·have hit4:W3.heap[B]? =some (.stringIter A (i+1)):=hK4.1.same _ _ hit3 rfl
       gi_wp2
       go_roundw
       case rel=>exact⟨k2+1,i+1,hJ4,by rw[hp.succ];omega,by have:=hp.le (k2+1);rw[hp.succ]at this;omega,by omega,hB3.trans hK4.2,hit4⟩
       case measure=>
        simp only[World.iterPos,hit4,hit];omega
      ·gi_wp2
       refine bodyPost_ret (results_none rfl _ _ _) rfl ?_;exact⟨⟨_,rfl⟩,k2,hJx4⟩
    ·have hi':i=26:=by omega
     subst hi';have hnx:∀ty,(Instr.next (.pointer (some ⟨B,0,none⟩)) true ty).run Tryz.prog wr=_:=fun ty=>Lib.run_next_end_at wr B A 26 ty hit (by rw[hAs];omega)
     gi_wp2
     go_roundw
     case rel=>exact⟨0+1,k2,by simp,hJ2,by omega,by omega,hB2,by have:=(yr.1 hit).1;omega⟩
     case measure=>
      simp[intOf]
  ·have hm':(0:Int)<m:=by omega
   have hil:=Lib.itoa_length_le (m:Int) (by omega) (by omega)
   gi_wp2_with (refine⟨trivial,?_⟩;gi_at_call 78;refine(callsIn_wide.2 (hIt m wr (by omega) (by omega) ⟨e,fr,ht'⟩)).mono ?_;rintro e2 w2 ⟨rfl,kk,os,rfl⟩)
   obtain⟨B,hBe⟩:∃B,B=wr.heap.size+os.size:=⟨_,rfl⟩
   rw[<-hBe];have hit0:((Sort.grow (wr.drewN kk) os).iter abc 0).heap[B]? =some (.stringIter abc 0):=by rw[hBe];exact by have:=World.iter_heap (Sort.grow (wr.drewN kk) os) abc 0;simpa using this
   have hJ0:J k ((Sort.grow (wr.drewN kk) os).iter abc 0):=hJ k _ _ none (hJ k _ _ none hJk (grown_grow wr kk os) (fun r e=>by cases e)) (World.grownBy_alloc _ _ none) (fun r e=>by cases e);have hB0:Below n₀ w ((Sort.grow (wr.drewN kk) os).iter abc 0):=(hB.grown (grown_grow wr kk os) (by have:=hBW.size;omega) (fun r e=>by cases e)).alloc (by have:=hBW.size;simp;omega) _;have hWB:W.heap.size<=B:=by omega
   clear hBe;obtain⟨A,hA⟩:∃A,A=abc:=⟨_,rfl⟩
   have hAd:∀p,p<26->Utf8.decode A p=(97+p,1):=by rw[hA];exact abc_dec
   have hAs:A.size=26:=by rw[hA];rfl
   change Code.wpIn _ _ _ _ _ _ ((Sort.grow (wr.drewN kk) os).iter abc 0);rw[<-hA]at hit0 hJ0 hB0 ⊢;clear hA
   gi_loopw [] (fun wi=>∃(k i:Nat),J k wi/\frm k<=26*m+i/\26*m+i<=pos k/\i<=26/\Below n₀ w wi/\wi.heap[B]? =some (.stringIter A i))
    (fun wi=>26-wi.iterPos B)
   case atStart=>
    exact⟨k,0,hJ0,hf,hl,by omega,hB0,hit0⟩
   case round=>
    obtain⟨k2,i,hJ2,hf2,hl2,hi26,hB2,hit⟩:=hrel;by_cases hi:i<26
    ·obtain⟨c,hc⟩:∃c:Nat,c=97+i:=⟨_,rfl⟩
     have hnx:∀ty,(Instr.next (.pointer (some ⟨B,0,none⟩)) true ty).run Tryz.prog wr= .ok (.tuple #[.bool true,.int .i64 i,.int .i32 c]) (wr.iterAt B A (i+1)):=by
      intro ty;rw[Lib.run_next_any_at wr B A i ty hit (by rw[hAs];exact hi),hAd i hi,hc]
     have hcv:=conv_abc i hi;obtain⟨S,hS⟩:∃S,S=txt (26*m+i):=⟨_,rfl⟩
     have heq:(({data:= #[97+yG i]}:ByteArray)++{data:=(Lib.itoa m).toArray})=⟨S.toArray⟩:=by
      rw[hS,txt_at m i hi,show dg m=Lib.itoa m by unfold dg;rw[if_neg hm]];exact bytes_cat [97+yG i] (Lib.itoa m)
     have hJ3:J k2 (wr.iterAt B A (i+1)):=hJ k2 _ _ (some B) hJ2 (grown_iterAt (p:=i) _) (fun r e=>by cases e;exact⟨hWB,_,hit,rfl⟩);have hB3:Below n₀ w (wr.iterAt B A (i+1)):=Lib.below_iterAt hB2 (k:=B) (by have:=hBW.size;omega) A (i+1);have hit3:(wr.iterAt B A (i+1)).heap[B]? =some (.stringIter A (i+1)):=Lib.iterAt_heap wr B A i (i+1) hit;by_cases hw:wds.contains S=true
     ·have hne:26*m+i<pos k2:=by
       rcases yB (26*m+i) (pos k2)with h|h
       ·exact h
       ·rw[hS,show 26*m+i=pos k2 by omega,hp.name k2 (hY k2 _ hJ3).1]at hw;cases hw
      clear hS
      gi_wp2_with (refine⟨trivial,?_⟩;gi_at_call 79;refine(word_in _ _ trivial rfl _ _).mono ?_;rw[hw];rintro e2 w2 ⟨rfl,rfl⟩)
      refine⟨fun _ h=>(by cases h),?_⟩
      gi_wp2
      go_roundw
      case rel=>exact⟨k2,i+1,hJ3,by omega,by omega,by omega,hB3,hit3⟩
      case measure=>
       simp only[World.iterPos,hit3,hit];omega
     ·have hw':wds.contains S=false:=by simpa using hw
      have hpk:pos k2=26*m+i:=by
       rcases yB (26*m+i) (pos k2)with h|h
       ·rw[hS,hp.word k2 _ (hY k2 _ hJ3).1 hf2 h]at hw';cases hw'
       ·omega
      obtain⟨fn,tmps,assign,body,hy,hR⟩:=(hY k2 _ hJ3).2;rw[hpk,<-hS]at hy;clear hS
      gi_wp2_with (refine⟨trivial,?_⟩;gi_at_call 79;refine(word_in _ _ trivial rfl _ _).mono ?_;rw[hw'];rintro e2 w2 ⟨rfl,rfl⟩)
      refine hR.mono ?_
      rintro e3 W3 (⟨rfl,hJ4,hK4⟩|⟨rfl,hJx4⟩)
      ·have hit4:W3.heap[B]? =some (.stringIter A (i+1)):=hK4.1.same _ _ hit3 rfl
       gi_wp2
       go_roundw
       case rel=>exact⟨k2+1,i+1,hJ4,by rw[hp.succ];omega,by have:=hp.le (k2+1);rw[hp.succ]at this;omega,by omega,hB3.trans hK4.2,hit4⟩
       case measure=>
        simp only[World.iterPos,hit4,hit];omega
      ·gi_wp2
       refine bodyPost_ret (results_none rfl _ _ _) rfl ?_;exact⟨⟨_,rfl⟩,k2,hJx4⟩
    ·have hi':i=26:=by omega
     subst hi';have hnx:∀ty,(Instr.next (.pointer (some ⟨B,0,none⟩)) true ty).run Tryz.prog wr=_:=fun ty=>Lib.run_next_end_at wr B A 26 ty hit (by rw[hAs];omega)
     gi_wp2
     go_roundw
     case rel=>exact⟨m+1,k2,by simp,hJ2,by omega,by omega,hB2,by have:=(yr.1 hit).1;omega⟩
     case measure=>
      simp[intOf];omega
attribute [local go_sem] Oper.semAt_some
theorem all_in(n:Nat)(w:World):CallsIn Fence.wide n Tryz.prog 47 #[] w fun e w'=>e= .returned (.func (.func 77) #[] #[])/\w'=w:=by
 refine callsIn_of_wp Tryz.func47 rfl trivial ?_ rfl;simp only[Tryz.ntmps47,ysa,yj,yn,Nat.reduceAdd,Nat.reduceSub,ydb,yeb,ylb,ygb,yla,yT]
 gi_wp2
 go_ret
 exact⟨rfl,rfl⟩
theorem info9:(Tryz.prog.info? 9).map (fun i=>(i.zero,i.size,i.bytes))=some (some (.string ⟨#[]⟩),1,16):=by kernel_rfl
theorem und51:Tryz.prog.underlying 51=some (.slice 9):=by kernel_rfl
def zu(pos:Nat->Nat)(k:Nat):List Value:=(yI k).map fun j=>Value.string ⟨(txt (pos j)).toArray⟩
theorem namesV_succ(pos:Nat->Nat)(k:Nat):zu pos (k+1)=zu pos k++[Value.string ⟨(txt (pos k)).toArray⟩]:=by
 simp[zu,List.range_succ]
set_option maxRecDepth 100000 in
set_option maxHeartbeats 4000000 in
theorem first_in(gT:Nat)(tab:Array Value)
  (hIt:∀(n:Int) (w:World),-9223372036854775808<=n->n<=9223372036854775807->(∃e fr,w.heap[gT]? =some (.cells tab e fr))→
   Calls Tryz.prog 78 #[.int .i64 n] w fun e w'=>e= .returned (.string ⟨(Lib.itoa n).toArray⟩)/\∃k os,w'=Sort.grow (w.drewN k) os)
  {pos frm:Nat->Nat} {n:Nat} (hp:Steps pos frm (n+1)) (hn:n<=200000000000) (w:World) (htab:∃e fr,w.heap[gT]? =some (.cells tab e fr)):
  CallsIn Fence.wide 3 Tryz.prog 22 #[.int .i64 n] w fun e W'=>∃v,e= .returned v/\W'.ownsRow w.heap.size 9 1 v n (zu pos n)/\Below w.heap.size w W':=by
 obtain⟨i0,hi,hz0,hz1,hz2⟩:=info_parts info9;have hgT:gT<w.heap.size:=by obtain⟨e,fr,h⟩:=htab;exact(yr.1 h).1
 refine callsIn_of_wp_marks Tryz.func22 rfl trivial ?_ rfl;simp only[Tryz.ntmps22,ysa,yj,yn,Nat.reduceAdd,Nat.reduceSub,ydb,yeb,ylb,ygb,yla,yT]
 gi_wp2_with (refine⟨trivial,?_⟩;gi_at_call 47;refine(all_in _ _).mono ?_;rintro e w' ⟨rfl,rfl⟩)
 obtain⟨W0,hW0⟩:∃W0,(w.alloc (.cells #[.int .i64 n] 3)).alloc (.cells #[.slice none 0 0] 51)=W0:=⟨_,rfl⟩
 have bN:Boxed W0 w.heap.size 3 (.int .i64 n):=by rw[<-hW0];exact(Boxed.new w 3 _).alloc _
 have bO:Boxed W0 (w.heap.size+1) 51 (.slice none 0 0):=by
  rw[<-hW0];have:=Boxed.new (w.alloc (.cells #[.int .i64 n] 3)) 51 (.slice none 0 0);rwa[World.size_alloc]at this
 have hB0:Below w.heap.size w W0:=by rw[<-hW0];exact((Below.refl _ w).alloc (yd _) _).alloc (by simp) _
 have hs0:W0.heap.size=w.heap.size+2:=by rw[<-hW0];simp
 rw[hW0];clear hW0;have htab0:∃e fr,W0.heap[gT]? =some (.cells tab e fr):=by
  obtain⟨e,fr,h⟩:=htab;exact⟨e,fr,(hB0.block gT hgT).trans h⟩
 refine wpIn_rangeFunc_noEnd rfl (by omega) (gf:=77) (lb:= #[]) rfl trivial (enters_of Tryz.func77 (by kernel_rfl) rfl)
  (all1_noEnd gT tab hIt hp W0 htab0 w.heap.size hgT (by omega)) (fun h k=>⟨h.1.trans k.1,h.2.trans k.2⟩) (fun W l o o' hl h hc hw=>⟨walksK_b W l o o' hl h hc hw,belowK_b (by omega) W l o o' hl h hc hw⟩) (Below.refl _ _) (fun _=>rfl)
  (fun k W=>(∃v,Boxed W (w.heap.size+1) 51 v/\W.ownsRow w.heap.size 9 1 v k (zu pos k)/\True)/\Boxed W w.heap.size 3 (.int .i64 n)/\Below w.heap.size w W/\k<=n)
  (fun c k W=>c= .exit 0/\(∃v,Boxed W (w.heap.size+1) 51 v/\W.ownsRow w.heap.size 9 1 v n (zu pos n)/\True)/\Below w.heap.size w W)
  (OwnFrom.and (Own.from (holdsRow_own w.heap.size (w.heap.size+1) 51 9 1 (fun k=>k) (fun k=>zu pos k) (fun _ _=>True)) _) (OwnFrom.and (Own.from (boxed_own _ _ _) _) (OwnFrom.and (ownFrom_below (yd _) (by omega)) (ownFrom_pure _ (fun k=>k<=n)))))
  (fun c=>OwnFrom.and (ownFrom_pure _ (fun _=>c= .exit 0)) (OwnFrom.and (Own.from (holdsRow_own w.heap.size (w.heap.size+1) 51 9 1 (fun _=>n) (fun _=>zu pos n) (fun _ _=>True)) _) (ownFrom_below (yd _) (by omega))))
  ⟨⟨_,bO,World.ownsRow_nil _ _ _ _,trivial⟩,bN,hB0,Nat.zero_le _⟩
  (fun k=>{tmps:= #[.int .i64 n,.pointer (some ⟨w.heap.size,0,none⟩),.pointer (some ⟨w.heap.size+1,0,none⟩),.string ⟨(txt (pos k)).toArray⟩,.func (.func 77) #[] #[],.string ⟨(txt (pos k)).toArray⟩,undef,undef,undef,undef,undef,undef,undef,undef,undef],defers:=[]})
  (fun k W h=>by have:=h.2.2.2;omega) ?assign ?body ?stop
 case assign=>
  intro l k W K hK
  gi_wp2
  exact hK
 case body=>
  rintro l k W ⟨⟨v,hv,hrow,-⟩,hn1,hB,hkn⟩
  obtain⟨ad,cap,rfl⟩:∃ad cap,v= .slice ad k cap:=by
   rcases hrow.2 with⟨rfl,rfl⟩|⟨g,cap,cur,rfl,_⟩
   ·exact⟨_,_,rfl⟩
   ·exact⟨_,_,rfl⟩
  have hc:=hv.cell;have hcn:=hn1.cell;obtain⟨S,hS⟩:∃S:ByteArray,S=⟨(txt (pos k)).toArray⟩:=⟨_,rfl⟩
  rw[<-hS];have HS:Hid (S=⟨(txt (pos k)).toArray⟩):=hS;clear hS;by_cases hk:k=n
  ·have hkn':(k:Int)=n:=by omega
   gi_wp2
   subst hk;exact⟨KeepsOthers.refl _,rfl,⟨_,hv,hrow,trivial⟩,hB⟩
  ·have hlt:k<n:=by omega
   have hml:k+1<=maxLen:=by show k+1<=9223372036854775807;omega
   have hkn':¬(k:Int)=n:=by omega
   gi_wp2_with (gi_at_builtin;go_loud (refine wpListIn_append_own _ rfl _ _ 51 rfl w.heap.size 9 i0 (.string ⟨#[]⟩) 1 16 und51 hi hz0 hz1 hz2 rfl (by decide) _ _ _ rfl (hrow.alloc _) ⟨W.heap.size,0,none⟩ 1 1 [.string S] rfl rfl (cell_one_new _ _ _) (by simp[Value.oneCell']) hml (by omega) (by have:=hB.size;simp;omega) ?_;intro v' w1 hown' hgrow _;obtain⟨g',cap',rfl⟩:=ownsRow_succ hown';obtain⟨hv1,hv2,hr2,hk2,hb2⟩:=hv.appended (by decide) hrow hB.size (Nat.le_succ _) hown' hgrow;have hc1:=hv1.cell;have hf1:=hv1.frozen))
   refine⟨hk2,⟨hk2.walks,hb2⟩,⟨_,hv2,?_,trivial⟩,?_,hB.trans hb2,hlt⟩
   ·rw[namesV_succ,<-HS.out];exact hr2
   ·exact((hn1.alloc _).kept hgrow (hn1.not_row (by decide) hrow)).other (by omega) _
 case stop=>
  rintro D c k W hD ⟨rfl,⟨v,hv,hrow,-⟩,hB⟩ hK
  obtain⟨ad,cap,rfl⟩:∃ad cap,v= .slice ad n cap:=by
   rcases hrow.2 with⟨rfl,hn0⟩|⟨g,cap,cur,rfl,_⟩
   ·exact⟨none,0,by rw[hn0]⟩
   ·exact⟨_,_,rfl⟩
  have hc:=hv.cell;have hf:=hv.frozen
  gi_wp2
  have hk3:(W.setCell ⟨w.heap.size+1,0,none⟩ (.slice ad n cap)).heap[D]? =some (.deferred (some [])):=(KeepsOthers.setCell _ _ _).same D _ hK rfl;refine⟨by simp,.inl ⟨_,_,rfl,run_takeDeferred hk3,?_⟩⟩;have b3:Boxed ((W.setCell ⟨w.heap.size+1,0,none⟩ (.slice ad n cap)).putObj D (Go.Obj.deferred none)) (w.heap.size+1) 51 (.slice ad n cap):=
   (hv.set _).kept (grownBy_putObj' _ _ _) (fun e=>by
    cases e;rw[show W.heap[w.heap.size+1]? =_ from hv]at hK;cases hK)
  have hc3:=b3.cell;refine⟨.slice ad n cap,?_,_,rfl,?_,?_⟩
  ·simp[results,show Tryz.f22.results= #[.cell 2 51]from rfl,go_sem,hc3]
  ·exact ownsRow_putObj (hrow.kept (grownBy_setCell' _ _ _) (.inr (hv.not_row (by decide) hrow).symm)) _ hk3 rfl
  ·exact(hB.setCell (p:=⟨w.heap.size+1,0,none⟩) (Nat.le_succ _) _).trans (belowK_b (w:=w) (yd _) _ D _ _ (by omega) hk3 rfl rfl)
end PE.R

namespace PE
open Go Go.RowKit
section
variable {G:Gh} {st:zc} {w w':World}
def Gh.seal(G:Gh)(g n:Nat):Gh:={G with fz:=fun b=>if b=g then n else G.fz b}
theorem zIe(hS:SimS G st w)(hB:Below w.heap.size w w'){g:Nat}(n:Nat)(hg:w.heap.size<=g)(κ:Cl):zid G w (G.seal g n) w' κ:=by
 intro b hb;have hlt:b<w.heap.size:=by
  rcases yB b w.heap.size with h|h
  ·exact h
  ·rw[(hS.fresh b h).2]at hb;cases hb
 refine⟨hb,?_,hB.block b hlt⟩;show(if b=g then n else G.fz b)=G.fz b
 rw[if_neg (by omega)]
theorem seal_im(hS:SimS G st w)(hB:Below w.heap.size w w'){g:Nat}(n:Nat)(hg:w.heap.size<=g):(G.im w).le ((G.seal g n).im w'):=by
 intro b o v h;unfold Gh.im at h;split at h
 ·rename_i hlt;have hb:b<w.heap.size:=by
   rcases yB b w.heap.size with h|h
   ·exact h
   ·rw[(hS.fresh b h).1]at hlt;omega
  unfold Gh.im;rw[if_pos (by show o<(if b=g then n else G.fz b);rw[if_neg (by omega)];exact hlt),World.cell?_of_block (w:=w) (a:=⟨b,o,none⟩) (hB.block b hb)];exact h
 ·cases h
theorem seal_sims(hS:SimS G st w)(hB:Below w.heap.size w w'){g:Nat}(n:Nat)(hg:w.heap.size<=g)(hg':g<w'.heap.size):SimS (G.seal g n) st w':=by
 refine⟨fun l o hl=>(hS.obj l o hl).mono (G:=G) (G':=G.seal g n) (seal_im hS hB n hg) (Loc.le_refl _) rfl (zIe hS hB n hg _) (fun _ _=>zIe hS hB n hg _),fun b hb=>?_⟩;have:=hB.size;refine⟨?_,(hS.fresh b (by omega)).2⟩;show(if b=g then n else G.fz b)=0
 rw[if_neg (by omega)];exact(hS.fresh b (by omega)).1
theorem seal_ext(hS:SimS G st w)(hB:Below w.heap.size w w'){g:Nat}(n:Nat)(hg:w.heap.size<=g):Ext G st w (G.seal g n) st w':=
 ⟨seal_im hS hB n hg,Loc.le_refl _,fun b hb=>zIe hS hB n hg .prot b hb,hB.size,hB.os,hB.output,fun x hx=>World.frozen?_of_block (hB.block x.block hx),rfl⟩
theorem comes_texts(hS:SimS G st w)(hB:Below w.heap.size w w'){e:TypeId}{v:Value}{ss:List (List UInt8)}{n:Nat}(hn:ss.length=n)
  (hrow:w'.ownsRow w.heap.size e 1 v n (ss.map fun s=>Value.string ⟨s.toArray⟩)):Comes1 G st w (.ret (.slice .plain 1 (ss.map .str))) st (.returned v) w':=by
 subst hn;rcases hrow.2 with⟨rfl,h0⟩|⟨g,cap,cur,rfl,hg,hh,hc,-,hsz,htake⟩
 ·have:ss=[]:=yLa.1 h0;subst this;refine⟨G.seal w.heap.size 0,⟨fun l o hl=>?_,fun b hb=>?_⟩,seal_ext hS hB 0 (yd _),.slice0 _ _ _ _ (by simp) (by simp)⟩
  ·exact(hS.obj l o hl).mono (G:=G) (G':=G.seal w.heap.size 0) (seal_im hS hB 0 (yd _)) (Loc.le_refl _) rfl (zIe hS hB 0 (yd _) _) (fun _ _=>zIe hS hB 0 (yd _) _)
  ·have:=hB.size;refine⟨?_,(hS.fresh b (by omega)).2⟩;show(if b=w.heap.size then 0 else G.fz b)=0
   split
   ·rfl
   ·exact(hS.fresh b (by omega)).1
 ·have hg':g<w'.heap.size:=(yr.1 hh).1;refine⟨G.seal g ss.length,seal_sims hS hB _ hg hg',seal_ext hS hB _ hg,?_⟩;have hcell:∀(i:Nat) (s:List UInt8),ss[i]? =some s->(G.seal g ss.length).im w' g i=some (.string ⟨s.toArray⟩):=by
   intro i s hi;have hlt:i<ss.length:=(ya.1 hi).1;unfold Gh.im;rw[if_pos (by show i<(if g=g then ss.length else G.fz g);rw[if_pos rfl];exact hlt)];have h1:(cur.toList.take (ss.length*1))[i]? =some (.string ⟨s.toArray⟩):=by
    rw[htake,yo,hi];rfl
   rw[yua (by omega)]at h1;simp only[World.cell?,hh];simpa using h1
  have key:VR ((G.seal g ss.length).im w') (zk (G.seal g ss.length).lc st) (.slice .plain 1 (ss.map .str)) (.slice (some ⟨g,0,none⟩) (ss.map PV.str).length cap):=?_
  ·rw[yu]at key;exact key
  refine VR.slice (o:=0) (by simp) (by simp) (by simpa using hc) (fun i _=> .string ⟨((ss[i]?.getD []).toArray)⟩) ?_ ?_ ?_
  ·intro i c hi;rw[yo]at hi;obtain⟨s,hs,rfl⟩:=yc.1 hi;exact⟨rfl,rfl⟩
  ·intro i c j d hi hj;rw[yo]at hi;obtain⟨s,hs,rfl⟩:=yc.1 hi;have hj0:j=0/\d= .str s:=by
    match j,hj with
    |0,hj=>exact⟨rfl,by simpa[cellsOf]using hj.symm⟩
    |j+1,hj=>simp[cellsOf]at hj
   obtain⟨rfl,rfl⟩:=hj0;have:=hcell i s hs;simp only[yaa,Nat.mul_one,Nat.add_zero,hs,yoa,Value.oneCell',and_true];exact this
  ·intro i c j d hi hj;rw[yo]at hi;obtain⟨s,hs,rfl⟩:=yc.1 hi;have hj0:d= .str s:=by
    match j,hj with
    |0,hj=>simpa[cellsOf]using hj.symm
    |j+1,hj=>simp[cellsOf]at hj
   subst hj0;simp only[hs,yoa];exact .str s
end
end PE

namespace PE
open Go
structure Behind(w w':World):Prop where
 heap:∀b,b<w.heap.size->w'.heap[b]? =w.heap[b]?
 size:w.heap.size<=w'.heap.size
 os:w'.os=w.os
 output:w'.output=w.output
section
variable {G:Gh} {st:zc} {w w':World}
theorem Behind.keeps(h:Behind w w')(hS:SimS G st w)(κ:Cl):zid G w G w' κ:=by
 intro b hb;refine⟨hb,rfl,h.heap b ?_⟩;rcases yB b w.heap.size with h|h
 ·exact h
 ·rw[(hS.fresh b h).2]at hb;cases hb
theorem Behind.im(h:Behind w w')(hS:SimS G st w):(G.im w).le (G.im w'):=by
 intro b o v hv;unfold Gh.im at hv ⊢;split at hv
 ·rename_i hlt;rw[if_pos hlt];have hb:b<w.heap.size:=by
   rcases yB b w.heap.size with h|h
   ·exact h
   ·rw[(hS.fresh b h).1]at hlt;omega
  rw[World.cell?_of_block (w:=w) (a:=⟨b,o,none⟩) (h.heap b hb)];exact hv
 ·cases hv
theorem Behind.sims(h:Behind w w')(hS:SimS G st w):SimS G st w':=
 ⟨fun l o hl=>(hS.obj l o hl).mono (G:=G) (G':=G) (h.im hS) (Loc.le_refl _) rfl (h.keeps hS _) (fun _ _=>h.keeps hS _),fun b hb=>hS.fresh b (yfa h.size hb)⟩
theorem Behind.ext(h:Behind w w')(hS:SimS G st w):Ext G st w G st w':=
 ⟨h.im hS,Loc.le_refl _,fun b hb=>h.keeps hS .prot b hb,h.size,h.os,h.output,fun x hx=>World.frozen?_of_block (h.heap x.block hx),rfl⟩
end
theorem Behind.refl(w:World):Behind w w:=⟨fun _ _=>rfl,yd _,rfl,rfl⟩
theorem Behind.bytes(w:World)(e:TypeId)(t:ByteArray):Behind w (Lib.bytesWorld w e t):=
 ⟨fun b hb=>Lib.bytesWorld_at_old w e t b hb,by rw[Lib.bytesWorld_size];omega,by unfold Lib.bytesWorld World.freeze;simp;rfl,by unfold Lib.bytesWorld World.freeze;simp;rfl⟩
def pureX(g:List PV->Option PV)(args:List PV)(st:zc):Option (CRes×zc):=(g args).map fun v=>(.ret v,st)
def Tabs.lie(T:Tabs)(w:World):Prop:=∀x∈T,∃e fr,w.heap[x.1]? =some (.cells x.2 e fr)
theorem pureX_good{P:Program}{T:Tabs}{f:Nat}(hfn:∃fn c,P.funcs[f]? =some fn/\(fn.name== "runtime.NumGoroutine")=false/\fn.body=some c){g:List PV->Option PV}
  (hC:∀args v,g args=some v->∀(I:Im) (L:Loc) (margs:Array Value) (w:World),T.lie w->margs.size=args.length->(∀(j:Nat) c x,args[j]? =some c->margs[j]? =some x->VR I L c x)→
   Calls P f margs w fun e w'=>∃mv,e= .returned mv/\(∀I L,VR I L v mv)/\Behind w w')
  (args:List PV) (st:zc) (r:CRes) (st':zc) (h:pureX g args st=some (r,st')):GoodF P T f args st r st':=by
 unfold pureX at h;rw[yc]at h;obtain⟨v,hv,h⟩:=h;cases h;intro G w margs hD hT hS hsz hvr;refine⟨hfn,(hC args v hv _ _ margs w (fun x hx=>(hT x hx).2) hsz hvr).mono ?_⟩
 rintro e w' ⟨mv,rfl,hm,hB⟩
 exact⟨G,hB.sims hS,hB.ext hS,hm _ _⟩
theorem margs_1{I:Im}{L:Loc}{s:List UInt8}{margs:Array Value}(hsz:margs.size=1)(h:∀(j:Nat) c x,[PV.str s][j]? =some c->margs[j]? =some x->VR I L c x):margs= #[.string ⟨s.toArray⟩]:=by
 obtain⟨x,rfl⟩:=yab.1 hsz;have:=h 0 _ x rfl rfl;cases this;rfl
def atoiG(t:Nat):List PV->Option PV
 | [.str s]=>if s.length<=281474976710656 then some (match Lib.atoiAll s with
  | .ok v=> .tup [.int .i64 v,.nilif]
  | .«syntax» => .tup [.int .i64 0,.iface t .undef]
  | .range=> .tup [.int .i64 (Lib.atoiSat s),.iface t .undef])else none
 |_=>none
theorem Behind.below{w w':World}(h:Go.RowKit.Below w.heap.size w w'):Behind w w':=⟨h.block,h.size,h.os,h.output⟩
theorem atoiG_calls{P:Program}{f t:Nat}{T:Tabs}
  (hok:∀(s:ByteArray) (v:Int) (w:World),s.size<=9223372036854775806->Lib.atoiAll s.data.toList= .ok v->Calls P f #[.string s] w fun e w'=>e= .returned (.tuple #[.int .i64 v,.nilIface])/\(w'=w\/∃e t,w'=Lib.bytesWorld w e t))
  (hsyn:∀(s:ByteArray) (w:World),T.lie w->s.size<=281474976710656->Lib.atoiAll s.data.toList= .«syntax» ->Calls P f #[.string s] w fun e w'=>∃N:Nat,e= .returned (.tuple #[.int .i64 0,.iface t (.pointer (some ⟨N,0,none⟩))])/\Go.RowKit.Below w.heap.size w w')
  (hran:∀(s:ByteArray) (w:World),T.lie w->s.size<=281474976710656->Lib.atoiAll s.data.toList= .range->Calls P f #[.string s] w fun e w'=>∃N:Nat,e= .returned (.tuple #[.int .i64 (Lib.atoiSat s.data.toList),.iface t (.pointer (some ⟨N,0,none⟩))])/\Go.RowKit.Below w.heap.size w w'):
  ∀args v,atoiG t args=some v->∀(I:Im) (L:Loc) (margs:Array Value) (w:World),T.lie w->margs.size=args.length->(∀(j:Nat) c x,args[j]? =some c->margs[j]? =some x->VR I L c x)→
   Calls P f margs w fun e w'=>∃mv,e= .returned mv/\(∀I L,VR I L v mv)/\Behind w w':=by
 intro args v h I L margs w hT hsz hv;unfold atoiG at h;split at h
 ·rename_i s;split at h
  case isFalse=>cases h
  rename_i hl;have hm:=margs_1 hsz hv;subst hm;have hl':(⟨s.toArray⟩:ByteArray).size<=281474976710656:=by simpa[ByteArray.size]using hl
  have two:∀(n:Int) (x y:_) (I:Im) (L:Loc),VR I L x y->VR I L (.tup [.int .i64 n,x]) (.tuple #[.int .i64 n,y]):=by
   intro n x y I L hxy;refine .tup rfl fun j c v hc hv=>?_
   match j with
   |0=>cases hc;cases hv;exact .int _ _
   |1=>cases hc;cases hv;exact hxy
   |j+2=>simp at hc
  cases ha:Lib.atoiAll s with
  |ok n=>
   rw[ha]at h;cases h;refine(hok _ n w (by omega) (by simpa using ha)).mono ?_
   rintro e w' ⟨rfl,hw⟩
   refine⟨_,rfl,fun I L=>two _ _ _ I L .nilif,?_⟩;rcases hw with rfl|⟨e,t,rfl⟩
   ·exact .refl _
   ·exact .bytes _ _ _
  | «syntax» =>
   rw[ha]at h;cases h;refine(hsyn _ w hT hl' (by simpa using ha)).mono ?_
   rintro e w' ⟨N,rfl,hw⟩
   exact⟨_,rfl,fun I L=>two _ _ _ I L (.iface (.undef _)),.below hw⟩
  |range=>
   rw[ha]at h;cases h;refine(hran _ w hT hl' (by simpa using ha)).mono ?_
   rintro e w' ⟨N,rfl,hw⟩
   exact⟨_,rfl,fun I L=>two _ _ _ I L (.iface (.undef _)),.below hw⟩
 ·cases h
theorem clone_good{P:Program}{T:Tabs}{f:Nat}(hfn:∃fn c,P.funcs[f]? =some fn/\(fn.name== "runtime.NumGoroutine")=false/\fn.body=some c)
  (hC:∀(b:Nat) (es:Array MapEntry) (clock:Nat) (w:World),w.heap[b]? =some (.map es clock)->Calls P f #[.map (some b)] w fun e w'=>e= .returned (.map (some w.heap.size))/\w'=w.alloc (.map es clock))
  {r:Nat} {es:List (PV×PV)} {st:zc} (h:st[r]? =some (.mp es)):GoodF P T f [.mp r] st (.ret (.mp st.length)) (st++[.mp es]):=by
 intro G w margs hD hT hS hsz hv;refine⟨hfn,?_⟩;have hm:∃x,margs= #[x]:=by
  simp at hsz;exact yab.1 hsz
 obtain⟨x,rfl⟩:=hm;have hx:=hv 0 (.mp r) x rfl rfl;have hr:zk G.lc st r=some (G.loc r,0,G.room r):=by simp[zk,Gh.lc,h,Obj.sz]
 cases hx with
 |mp hb=>
  rw[hr]at hb;cases hb;obtain⟨_,_,ents,clock,hheap,hsize,hents⟩:=hS.obj r _ h;refine(hC (G.loc r) ents clock w hheap).mono ?_
  rintro e w' ⟨rfl,rfl⟩
  have hS0:=entry_sim (args:=[]) (n:=0) (margs:= #[]) hD hS (yd _) rfl (fun j c x h=>by simp at h);obtain⟨hS',hE⟩:=hS0.alloc (.map ents clock) (by first|rfl|trivial) (G':={G with cl:=upd G.cl w.heap.size (some (.loc st.length)),loc:=upd G.loc st.length w.heap.size,room:=upd G.room st.length 0}) (fun _ _=>rfl) (fun b hb=>zkb _ _ hb)
   (fun l o hl=>pair_upd (by have:=(ya.1 hl).1;simp only at this;omega)) (fun _ _=>rfl)
  have hpush:=hS'.push (.mp es) (by
   refine⟨by simp[upd],by simp only[upd,if_true];exact(hS.fresh _ (yd _)).1,ents,clock,by simp only[upd,if_true];exact heap_alloc_new w _,hsize,fun i k v hi=>?_⟩;obtain⟨en,m1,m2,m3⟩:=hents i k v hi;exact⟨en,m1,m2.mono hE.im (Loc.le_trans hE.loc (zRa _ _ _)),m3.mono hE.im (Loc.le_trans hE.loc (zRa _ _ _))⟩)
  exact⟨_,hpush.store,⟨hE.im,Loc.le_trans hE.loc (zRa _ _ _),hE.prot,hE.size,hE.os,hE.output,hE.frozen,hE.dfr⟩,.mp (sz:=0) (q:=0) (by simp[zk,Gh.lc,upd,Obj.sz])⟩
def cloneX:List PV->zc->Option (CRes×zc)
 | [.mp r],st=>match st[r]? with
  |some (.mp es)=>some (.ret (.mp st.length),st++[.mp es])
  |_=>none
 |_,_=>none
theorem cloneX_good{P:Program}{T:Tabs}{f:Nat}(hfn:∃fn c,P.funcs[f]? =some fn/\(fn.name== "runtime.NumGoroutine")=false/\fn.body=some c)
  (hC:∀(b:Nat) (es:Array MapEntry) (clock:Nat) (w:World),w.heap[b]? =some (.map es clock)->Calls P f #[.map (some b)] w fun e w'=>e= .returned (.map (some w.heap.size))/\w'=w.alloc (.map es clock))
  (args:List PV) (st:zc) (r:CRes) (st':zc) (h:cloneX args st=some (r,st')):GoodF P T f args st r st':=by
 unfold cloneX at h;split at h
 ·split at h
  ·rename_i hs;cases h;exact clone_good hfn hC hs
  ·cases h
 ·cases h
def sclR0(sz:Nat):ICode:= .region [oC 2 (.slice .fit sz [])]
def sclA(sz:Nat):ICode:= .seq (.region [oC 2 (.slice .fit sz [])]) .ret
def sclB(sz by_:Nat)(z:PV):ICode:= .seq (.region [oO 5 (.bslice sz z 0 []),oM 6 0,oO 7 (.appendS sz by_ (.t 5) (.t 6)),oM 2 7]) .ret
def eqNilOk(P:Program)(o:Oper):Bool:=decide (o.dst=some 4)&&decide (o.guard=none)&&(match o.op with
 | .binOp .eql t (.tmp 3) (.const (.slice none 0 0)) _=>(match P.underlying t with
  |some (.slice _)=>true
  |_=>false)
 |_=>false)
def checkScl(P:Program)(fn:Func)(sz by_:Nat)(z:PV):Bool:=
 (match fn.body with
  |some (.seq r0 (.seq (.seq (.region _ ops false) (.cond (.tmp 4) A .skip)) B))=>
   zya P 8 r0 (sclR0 sz)&&zya P 8 A (sclA sz)&&zya P 8 B (sclB sz by_ z)&&
   (match ops.toList with
   | [o1,o2]=>zZd P 8 ops o1 (oM 3 0)&&eqNilOk P o2
   |_=>false)
  |_=>false)&&decide (fn.ntmps=8)&&ressOk P fn.results.toList [.tmp 2]&& !(fn.name== "runtime.NumGoroutine")
def sclX(sz by_:Nat):List PV->zc->Option (CRes×zc)
 | [.slice _ z l],st=>if z=sz then
   if l=[]then some (.ret (.slice .plain sz []),st)else
   if l.length*by_<=zo then some (.ret (.mslice st.length 0 l.length sz),st++[.arr sz l])else none
  else none
 |_,_=>none
theorem scl_inv{sz by_:Nat}{args:List PV}{st:zc}{r:CRes}{st':zc}(h:sclX sz by_ args st=some (r,st')):
  ∃k l,args=[.slice k sz l]/\(l≠ []->l.length*by_<=zo)/\r= .ret (if l=[]then .slice .plain sz []else .mslice st.length 0 l.length sz)/\st'=(if l=[]then st else st++[.arr sz l]):=by
 unfold sclX at h;split at h
 case h_2=>cases h
 rename_i k z0 l;split at h
 case isFalse=>cases h
 rename_i hz;subst hz;split at h
 ·rename_i hl;cases h;exact⟨k,l,rfl,fun h=>absurd hl h,by simp[hl],by simp[hl]⟩
 ·rename_i hl;split at h
  case isFalse=>cases h
  rename_i hb;cases h;exact⟨k,l,rfl,fun _=>hb,by simp[hl],by simp[hl]⟩
theorem scl_slice{k:SK}{sz:Nat}{l:List PV}{I:Im}{L:Loc}{m:Value}(h:VR I L (.slice k sz l) m):∃ad len cap,m= .slice ad len cap/\(ad=none->l=[]):=by
 cases h with
 |slice0 _ _ a cap hk hf=>exact⟨_,_,_,rfl,fun _=>rfl⟩
 |slice hk hf hc f hz hi hv=>exact⟨_,_,_,rfl,fun h=>by cases h⟩
theorem scl_good{P:Program}{T:Tabs}{f:Nat}{fn:Func}{sz by_:Nat}{z:PV}(hf:P.funcs[f]? =some fn)(hck:checkScl P fn sz by_ z=true)
  (args:List PV) (st:zc) (r:CRes) (st':zc) (h:sclX sz by_ args st=some (r,st')):GoodF P T f args st r st':=by
 obtain⟨k,l,rfl,hroom,rfl,rfl⟩:=scl_inv h;clear h;obtain⟨z0,hz0⟩:∃z0,z0=sz:=⟨_,rfl⟩
 subst hz0;simp only[checkScl,yb,decide_eq_true_eq,yH]at hck;obtain⟨⟨⟨hbody,hnt⟩,hres⟩,hname⟩:=hck;split at hbody
 case h_2=>cases hbody
 rename_i r0 id ops A B hb;simp only[yb]at hbody;obtain⟨⟨⟨c0,cA⟩,cB⟩,hops⟩:=hbody;split at hops
 case h_2=>cases hops
 rename_i o1 o2 hol;simp only[yb]at hops;obtain⟨ho1,ho2⟩:=hops;have ha:ops= #[o1,o2]:=by rw[<-Array.toArray_toList (xs:=ops),hol]
 subst ha;simp only[eqNilOk,yb,decide_eq_true_eq]at ho2;obtain⟨⟨d2,g2⟩,hop2⟩:=ho2;split at hop2
 case h_2=>cases hop2
 rename_i t yt hop;split at hop2
 case h_2=>cases hop2
 rename_i e hu;intro G w margs hD hT hS hsz hv;refine⟨⟨fn,_,hf,hname,hb⟩,?_⟩;refine calls_of_wp hf hb ?_;have hent:=entry_sim (n:=fn.ntmps) hD hS (by rw[hnt];simp) hsz hv;rw[hnt]at hent;have hcf:Good P T (fun _ _ _=>none):=fun f args st r st' h=>by cases h
 have hx0:zD (fun _ _ _=>none) 1 (sclR0 z0) {fr:=frOf [.slice k z0 l] 0,bx:=fun _=> .no,st:=st}=some (.normal,{fr:=upd (frOf [.slice k z0 l] 0) 2 (.slice .fit z0 []),bx:=fun _=> .no,st:=st}):=by
  simp[sclR0,zD,zOc,step,zI,IOp.sem,IOp.takes,zDa,zHa,zKb,IOp.box?,Arg.val,strip]
 refine Go.wp_seq ((zrb hcf 1).1 r0 _ _ .normal _ G _ w _ hx0 c0 (by simpa[hnt]using hent) hT ?_);intro G1 a1 w1 hS1 hE1;refine Go.wp_seq (Go.wp_seq (Go.wp_region ?_));show wpOps P #[o1,o2] _ [0,1] a1 w1
 rw[wpOps_cons];have hstep:step (fun _ _ _=>none) (oM 3 0) {fr:=upd (frOf [.slice k z0 l] 0) 2 (.slice .fit z0 []),bx:=fun _=> .no,st:=st}=some (.ok {fr:=upd (upd (frOf [.slice k z0 l] 0) 2 (.slice .fit z0 [])) 3 (strip (.slice k z0 l)),bx:=fun _=> .no,st:=st}):=by
  simp[step,zI,IOp.sem,IOp.takes,zDa,zHa,zKb,IOp.box?,Arg.val,frOf,upd]
 have hT1:=hT.ext hE1;refine step_sound hcf (i:=0) (o:=o1) rfl ho1 hS1 hT1 hstep ?_ (fun v st' e=>by cases e);intro s2 hs2 G2 a2 w2 hS2 hE2;cases hs2;have hT2:=hT1.ext hE2;have hE02:=hE1.trans hE2;rw[wpOps_cons];have h3:=hS2.tmp 3 (by omega);simp only[upd_eq]at h3;have hk:k≠ .own:=by
  rintro rfl
  have:=hv 0 _ (margs[0]'(by simp at hsz;omega)) rfl (by simp);exact VR.not_own this
 have hst3:strip (.slice k z0 l)= .slice k z0 l:=by cases k<;>first|rfl|exact absurd rfl hk
 rw[hst3]at h3 hS2;obtain⟨ad,len,cap,hm,hnil⟩:∃ad len cap,a2.tmps.getD 3 Go.undef= .slice ad len cap/\(ad=none->l=[]):=by
  refine scl_slice (k:=k) (sz:=z0) (I:=G2.im w2) (L:=zk G2.lc st) ?_;generalize a2.tmps.getD 3 Go.undef=m at h3;cases k with
  |own=>exact absurd rfl hk
  |plain=>exact h3
  |fit=>exact h3
 have hrun:(execOp a2.eval o2).run P w2= .ok (.value (.bool ad.isNone)) w2:=by
  have hev:a2.eval (.tmp 3)= .slice ad len cap:=hm;have:=Lib.run_eql_slice_nil (P:=P) w2 t e ad len cap 0 0 hu;simp only[Act.eval]at hev;simp[execOp,hop,eqGuard,Act.eval,<-yca,hm,this]
 have hw:Region.wanted o2 (yielded #[o1,o2] a2.tmps)=true:=by simp[Region.wanted,g2]
 unfold wpOp;rw[show(#[o1,o2]:Array Oper)[1]? =some o2 from rfl];simp only[hw,if_true];left;unfold Oper.wp;rw[hrun];simp only[Oper.upon];have hS3:=hS2.put (d:=o2.dst) (fun t ht=>by rw[d2]at ht;cases ht;omega) (v:= .bool ad.isNone) (mv:= .bool ad.isNone) (fun t _=>VR.tr (.bool _)) (fun k off e=>by cases e);rw[d2]at hS3 ⊢;generalize a2.put (some 4) (.bool ad.isNone)=a3 at hS3 ⊢;simp only[zHa]at hS3;have hcond:a3.eval (.tmp 4)= .bool ad.isNone:=by
  have:=hS3.tmp 4 (by omega);simp only[upd_eq]at this;have h4:VR (G2.im w2) (zk G2.lc st) (.bool ad.isNone) (a3.tmps.getD 4 Go.undef):=this;show a3.tmps.getD 4 Go.undef=_
  generalize a3.tmps.getD 4 Go.undef=m at h4;cases h4;rfl
 have hE03:Ext G st w G2 st w2:=hE02;have fin:∀{e:Ex} {s':St},(e= .normal\/e= .ret)->s'.fr 2=(if l=[]then .slice .fit z0 []else .mslice st.length 0 l.length z0)->s'.st=(if l=[]then st else st++[.arr z0 l])→
   ∀G' a' w',Sim G' 8 s' a' w'->Ext G2 st w2 G' s'.st w'->a'.defers=[]/\∃mv,(results fn a'.tmps).run P w'= .ok mv w'/\Comes1 G st w (.ret (if l=[]then .slice .plain z0 []else .mslice st.length 0 l.length z0)) (if l=[]then st else st++[.arr z0 l]) (Ending.returned mv) w':=by
  intro e s' he h2 hst G' a' w' q1 q2;have q3:=hE03.trans q2;have hget:zve s' [.tmp 2]=some [if l=[]then .slice .plain z0 []else .mslice st.length 0 l.length z0]:=by
   simp only[zve,IRes.get,h2];split<;>rfl
  obtain⟨mv,p1,p2⟩:=zbf q1 hres hget (by split<;>rfl);refine⟨q1.defers.trans (q3.dfr.trans hD),mv,p1,?_⟩;have p2':VR (G'.im w') (zk G'.lc s'.st) (if l=[]then .slice .plain z0 []else .mslice st.length 0 l.length z0) mv:=p2;rw[hst]at q3 p2';have hss:=q1.store;rw[hst]at hss;exact⟨G',hss,q3,p2'⟩
 show(Code.cond (.tmp 4) A .skip).wp P _ a3 w2
 refine Go.wp_cond hcond ?_;cases ad with
 |none=>
  simp only[Option.isNone_none,if_true];have hl:=hnil rfl;subst hl;have hx:zD (fun _ _ _=>none) 2 (sclA z0) {fr:=upd (upd (upd (frOf [.slice k z0 []] 0) 2 (.slice .fit z0 [])) 3 (.slice k z0 [])) 4 (.bool true),bx:=fun _=> .no,st:=st}=some (.ret,{fr:=upd (upd (upd (upd (frOf [.slice k z0 []] 0) 2 (.slice .fit z0 [])) 3 (.slice k z0 [])) 4 (.bool true)) 2 (.slice .fit z0 []),bx:=fun _=> .no,st:=st}):=by
   simp[sclA,zD,zOc,step,zI,IOp.sem,IOp.takes,zDa,zHa,zKb,IOp.box?,Arg.val,strip]
  refine(zrb hcf 2).1 A _ _ .ret _ G2 a3 w2 _ hx cA hS3 hT2 ?_;intro G' a' w' q1 q2;exact fin (e:= .ret) (.inr rfl) (by simp[upd]) (by simp) G' a' w' q1 q2
 |some ad=>
  simp only[Option.isNone_some,yAa,if_false];refine Go.wp_skip ?_;show B.wp P _ a3 w2
  have hx:∃s',zD (fun _ _ _=>none) 2 (sclB z0 by_ z) {fr:=upd (upd (upd (frOf [.slice k z0 l] 0) 2 (.slice .fit z0 [])) 3 (.slice k z0 l)) 4 (.bool false),bx:=fun _=> .no,st:=st}=some (.ret,s')/\s'.fr 2=(if l=[]then .slice .fit z0 []else .mslice st.length 0 l.length z0)/\s'.st=(if l=[]then st else st++[.arr z0 l]):=by
   have e1:strip (.slice .fit z0 [])= .slice .fit z0 []:=rfl;have e2:∀i o n,strip (.mslice i o n z0)= .mslice i o n z0:=fun _ _ _=>rfl
   by_cases hl:l=[]
   ·subst hl;refine⟨_,by simp[sclB,zD,zOc,step,zI,IOp.sem,IOp.takes,zDa,zHa,zKb,IOp.box?,Arg.val,zVa,zlb,frOf,upd,hst3,e1];rfl,?_,?_⟩<;>simp[upd]
   ·have hpos:0<l.length:=yva.2 hl;refine⟨_,by simp[sclB,zD,zOc,step,zI,IOp.sem,IOp.takes,zDa,zHa,zKb,IOp.box?,Arg.val,zVa,zlb,frOf,upd,hst3,e1,e2,hl,hroom hl,hpos];rfl,?_,?_⟩<;>simp[upd,hl]
  obtain⟨s',hx,h2,h3'⟩:=hx;refine(zrb hcf 2).1 B _ _ .ret _ G2 a3 w2 _ hx cB hS3 hT2 ?_;intro G' a' w' q1 q2;exact fin (e:= .ret) (.inr rfl) h2 h3' G' a' w' q1 q2
section
variable {G:Gh} {st:zc} {w:World} (k:Nat) (os:Array Go.Obj)
theorem grow_heap{b:Nat}(h:b<w.heap.size):(Sort.grow (w.drewN k) os).heap[b]? =w.heap[b]? :=Sort.heap_grow_old (w.drewN k) os h
theorem grow_keeps(hS:SimS G st w)(κ:Cl):zid G w G (Sort.grow (w.drewN k) os) κ:=by
 intro b hb;refine⟨hb,rfl,grow_heap k os ?_⟩;rcases yB b w.heap.size with h|h
 ·exact h
 ·rw[(hS.fresh b h).2]at hb;cases hb
theorem grow_im(hS:SimS G st w):(G.im w).le (G.im (Sort.grow (w.drewN k) os)):=by
 intro b o v h;unfold Gh.im at h ⊢;split at h
 ·rename_i hlt;rw[if_pos hlt];have hb:b<w.heap.size:=by
   rcases yB b w.heap.size with h|h
   ·exact h
   ·rw[(hS.fresh b h).1]at hlt;omega
  rw[World.cell?_of_block (w:=w) (a:=⟨b,o,none⟩) (grow_heap k os hb)];exact h
 ·cases h
theorem grow_sims(hS:SimS G st w):SimS G st (Sort.grow (w.drewN k) os):=by
 refine⟨fun l o hl=>(hS.obj l o hl).mono (G:=G) (G':=G) (grow_im k os hS) (Loc.le_refl _) rfl (grow_keeps k os hS _) (fun _ _=>grow_keeps k os hS _),fun b hb=>hS.fresh b ?_⟩;simp at hb;omega
theorem grow_ext(hS:SimS G st w):Ext G st w G st (Sort.grow (w.drewN k) os):=
 ⟨grow_im k os hS,Loc.le_refl _,fun b hb=>grow_keeps k os hS .prot b hb,by simp,rfl,rfl,fun x hx=>World.frozen?_of_block (grow_heap k os hx),rfl⟩
end
def itoaX:List PV->zc->Option (CRes×zc)
 | [.int .i64 n],st=>if-9223372036854775808<=n/\n<=9223372036854775807 then some (.ret (.str (Lib.itoa n)),st)else none
 |_,_=>none
theorem itoaX_good{P:Program}{T:Tabs}{f:Nat}(hfn:∃fn c,P.funcs[f]? =some fn/\(fn.name== "runtime.NumGoroutine")=false/\fn.body=some c){g:Nat}{tab:Array Value}(hT0:(g,tab)∈T)
  (hC:∀(n:Int) (w:World),-9223372036854775808<=n->n<=9223372036854775807->(∃e fr,w.heap[g]? =some (.cells tab e fr))→
   Calls P f #[.int .i64 n] w fun e w'=>e= .returned (.string ⟨(Lib.itoa n).toArray⟩)/\∃k os,w'=Sort.grow (w.drewN k) os)
  (args:List PV) (st:zc) (r:CRes) (st':zc) (h:itoaX args st=some (r,st')):GoodF P T f args st r st':=by
 unfold itoaX at h;split at h
 case h_2=>cases h
 rename_i n;split at h
 case isFalse=>cases h
 rename_i hb;cases h;intro G w margs hD hT hS hsz hv;refine⟨hfn,?_⟩;obtain⟨x,rfl⟩:=yab.1 (show margs.size=1 from hsz);have hx:=hv 0 (.int .i64 n) x rfl rfl;cases hx;refine(hC n w hb.1 hb.2 (hT _ hT0).2).mono ?_
 rintro e w' ⟨rfl,k,os,rfl⟩
 exact⟨G,grow_sims k os hS,grow_ext k os hS,.str _⟩
end PE

namespace Go.Proofs
open Go.Shelf
def Tryz.cloneL_ren:Go.Shelf.Ren:=⟨fun|5=>116|7=>146|n=>n,fun|23=>142|25=>9|3=>9|4=>4|20=>20|n=>n,fun|n=>n⟩
theorem Tryz.cloneL:Go.Proofs.SlLaysW.n5 Tryz.prog Tryz.cloneL_ren:={
 mixed:=by kernel_rfl
 f5:=⟨Tryz.f116.name,by decide,Tryz.func116.trans (congrArg some (by kernel_rfl))⟩
 f7:=Tryz.func146.trans (congrArg some (by kernel_rfl))
 t4:=Tryz.underlying4
 a4:=Tryz.isAgg4
 z4:=Tryz.sizeOf4
 v4:=Tryz.zeroValue4
 t20:=Tryz.underlying20
 a20:=Tryz.isAgg20
 z20:=Tryz.sizeOf20
 v20:=Tryz.zeroValue20
 t23:=Tryz.underlying142
 a23:=Tryz.isAgg142
 z23:=Tryz.sizeOf142
 v23:=Tryz.zeroValue142}
def Tryz.atoiL_ren:Go.Shelf.Ren:=⟨fun|172=>90|244=>118|245=>119|247=>147|279=>148|280=>149|281=>150|282=>151|287=>172|316=>173|171=>78|205=>174|321=>192|322=>193|243=>102|246=>130|283=>159|284=>160|285=>161|286=>162|129=>180|317=>179|318=>181|319=>182|320=>183|337=>196|338=>197|n=>n,fun|9=>9|3=>3|75=>147|76=>148|4=>4|5=>5|167=>192|37=>25|0=>0|85=>193|2=>2|168=>195|53=>206|175=>218|46=>220|210=>222|127=>242|145=>245|143=>243|21=>21|171=>205|173=>209|212=>227|51=>228|20=>20|213=>229|232=>249|233=>250|80=>109|n=>n,fun|15=>0|16=>1|17=>2|18=>3|19=>4|n=>n⟩
theorem Tryz.atoiL:Go.Proofs.LaysC.n172 Tryz.prog Tryz.atoiL_ren:={
 mixed:=by kernel_rfl
 f129:=Tryz.func180.trans (congrArg some (by kernel_rfl))
 f171:=Tryz.func78.trans (congrArg some (by kernel_rfl))
 f172:=Tryz.func90.trans (congrArg some (by kernel_rfl))
 f205:=Tryz.func174.trans (congrArg some (by kernel_rfl))
 f243:=Tryz.func102.trans (congrArg some (by kernel_rfl))
 f244:=Tryz.func118.trans (congrArg some (by kernel_rfl))
 f245:=Tryz.func119.trans (congrArg some (by kernel_rfl))
 f246:=Tryz.func130.trans (congrArg some (by kernel_rfl))
 f247:=Tryz.func147.trans (congrArg some (by kernel_rfl))
 f279:=Tryz.func148.trans (congrArg some (by kernel_rfl))
 f280:=Tryz.func149.trans (congrArg some (by kernel_rfl))
 f281:=Tryz.func150.trans (congrArg some (by kernel_rfl))
 f282:=Tryz.func151.trans (congrArg some (by kernel_rfl))
 f283:=Tryz.func159.trans (congrArg some (by kernel_rfl))
 f284:=Tryz.func160.trans (congrArg some (by kernel_rfl))
 f285:=Tryz.func161.trans (congrArg some (by kernel_rfl))
 f286:=Tryz.func162.trans (congrArg some (by kernel_rfl))
 f287:=Tryz.func172.trans (congrArg some (by kernel_rfl))
 f316:=Tryz.func173.trans (congrArg some (by kernel_rfl))
 f317:=Tryz.func179.trans (congrArg some (by kernel_rfl))
 f318:=Tryz.func181.trans (congrArg some (by kernel_rfl))
 f319:=Tryz.func182.trans (congrArg some (by kernel_rfl))
 f320:=Tryz.func183.trans (congrArg some (by kernel_rfl))
 f321:=Tryz.func192.trans (congrArg some (by kernel_rfl))
 f322:=Tryz.func193.trans (congrArg some (by kernel_rfl))
 f337:=Tryz.func196.trans (congrArg some (by kernel_rfl))
 f338:=Tryz.func197.trans (congrArg some (by kernel_rfl))
 t0:=Tryz.underlying0
 a0:=Tryz.isAgg0
 z0:=Tryz.sizeOf0
 v0:=Tryz.zeroValue0
 t2:=Tryz.underlying2
 a2:=Tryz.isAgg2
 z2:=Tryz.sizeOf2
 v2:=Tryz.zeroValue2
 t3:=Tryz.underlying3
 a3:=Tryz.isAgg3
 z3:=Tryz.sizeOf3
 v3:=Tryz.zeroValue3
 t4:=Tryz.underlying4
 a4:=Tryz.isAgg4
 z4:=Tryz.sizeOf4
 v4:=Tryz.zeroValue4
 t5:=Tryz.underlying5
 a5:=Tryz.isAgg5
 z5:=Tryz.sizeOf5
 v5:=Tryz.zeroValue5
 t9:=Tryz.underlying9
 a9:=Tryz.isAgg9
 z9:=Tryz.sizeOf9
 v9:=Tryz.zeroValue9
 t20:=Tryz.underlying20
 a20:=Tryz.isAgg20
 z20:=Tryz.sizeOf20
 v20:=Tryz.zeroValue20
 t21:=Tryz.underlying21
 a21:=Tryz.isAgg21
 z21:=Tryz.sizeOf21
 v21:=Tryz.zeroValue21
 t37:=Tryz.underlying25
 a37:=Tryz.isAgg25
 z37:=Tryz.sizeOf25
 v37:=Tryz.zeroValue25
 t46:=Tryz.underlying220
 a46:=Tryz.isAgg220
 z46:=Tryz.sizeOf220
 v46:=Tryz.zeroValue220
 t51:=Tryz.underlying228
 a51:=Tryz.isAgg228
 z51:=Tryz.sizeOf228
 v51:=Tryz.zeroValue228
 t53:=Tryz.underlying206
 a53:=Tryz.isAgg206
 z53:=Tryz.sizeOf206
 v53:=Tryz.zeroValue206
 t75:=Tryz.underlying147
 a75:=Tryz.isAgg147
 z75:=Tryz.sizeOf147
 v75:=Tryz.zeroValue147
 t76:=Tryz.underlying148
 a76:=Tryz.isAgg148
 z76:=Tryz.sizeOf148
 v76:=Tryz.zeroValue148
 t85:=Tryz.underlying193
 a85:=Tryz.isAgg193
 z85:=Tryz.sizeOf193
 v85:=Tryz.zeroValue193
 t127:=Tryz.underlying242
 a127:=Tryz.isAgg242
 z127:=Tryz.sizeOf242
 v127:=Tryz.zeroValue242
 t143:=Tryz.underlying243
 a143:=Tryz.isAgg243
 z143:=Tryz.sizeOf243
 v143:=Tryz.zeroValue243
 t145:=Tryz.underlying245
 a145:=Tryz.isAgg245
 z145:=Tryz.sizeOf245
 v145:=Tryz.zeroValue245
 t167:=Tryz.underlying192
 a167:=Tryz.isAgg192
 z167:=Tryz.sizeOf192
 v167:=Tryz.zeroValue192
 t168:=Tryz.underlying195
 a168:=Tryz.isAgg195
 z168:=Tryz.sizeOf195
 v168:=Tryz.zeroValue195
 t171:=Tryz.underlying205
 a171:=Tryz.isAgg205
 z171:=Tryz.sizeOf205
 v171:=Tryz.zeroValue205
 t173:=Tryz.underlying209
 a173:=Tryz.isAgg209
 z173:=Tryz.sizeOf209
 v173:=Tryz.zeroValue209
 t175:=Tryz.underlying218
 a175:=Tryz.isAgg218
 z175:=Tryz.sizeOf218
 v175:=Tryz.zeroValue218
 t210:=Tryz.underlying222
 a210:=Tryz.isAgg222
 z210:=Tryz.sizeOf222
 v210:=Tryz.zeroValue222
 t212:=Tryz.underlying227
 a212:=Tryz.isAgg227
 z212:=Tryz.sizeOf227
 v212:=Tryz.zeroValue227
 t213:=Tryz.underlying229
 a213:=Tryz.isAgg229
 z213:=Tryz.sizeOf229
 t232:=Tryz.underlying249
 a232:=Tryz.isAgg249
 z232:=Tryz.sizeOf249
 v232:=Tryz.zeroValue249
 t233:=Tryz.underlying250
 a233:=Tryz.isAgg250
 z233:=Tryz.sizeOf250
 v233:=Tryz.zeroValue250
 g15:=by kernel_rfl
 g16:=by kernel_rfl
 g17:=by kernel_rfl
 g18:=by kernel_rfl
 g19:=by kernel_rfl
 t80:=Tryz.underlying109
 a80:=Tryz.isAgg109
 z80:=Tryz.sizeOf109
 v80:=Tryz.zeroValue109
 i0:=by kernel_rfl
 i2:=by kernel_rfl
 i3:=by kernel_rfl
 i4:=by kernel_rfl
 i5:=by kernel_rfl
 i9:=by kernel_rfl
 i20:=by kernel_rfl
 i21:=by kernel_rfl
 i37:=by kernel_rfl
 i46:=by kernel_rfl
 i51:=by kernel_rfl
 i53:=by kernel_rfl
 i75:=by kernel_rfl
 i76:=by kernel_rfl
 i80:=by kernel_rfl
 i85:=by kernel_rfl
 i127:=by kernel_rfl
 i143:=by kernel_rfl
 i145:=by kernel_rfl
 i167:=by kernel_rfl
 i168:=by kernel_rfl
 i171:=by kernel_rfl
 i173:=by kernel_rfl
 i175:=by kernel_rfl
 i210:=by kernel_rfl
 i212:=by kernel_rfl
 i232:=by kernel_rfl
 i233:=by kernel_rfl
 m15:=by kernel_rfl
 m16:=by kernel_rfl
 m17:=by kernel_rfl
 m18:=by kernel_rfl
 m19:=by kernel_rfl
 c0:=by kernel_rfl
 c2:=by kernel_rfl
 c3:=by kernel_rfl
 c4:=by kernel_rfl
 c5:=by kernel_rfl
 c9:=by kernel_rfl
 c20:=by kernel_rfl
 c21:=by kernel_rfl
 c37:=by kernel_rfl
 c46:=by kernel_rfl
 c51:=by kernel_rfl
 c53:=by kernel_rfl
 c75:=by kernel_rfl
 c76:=by kernel_rfl
 c80:=by kernel_rfl
 c85:=by kernel_rfl
 c127:=by kernel_rfl
 c143:=by kernel_rfl
 c145:=by kernel_rfl
 c167:=by kernel_rfl
 c168:=by kernel_rfl
 c171:=by kernel_rfl
 c173:=by kernel_rfl
 c175:=by kernel_rfl
 c210:=by kernel_rfl
 c212:=by kernel_rfl
 c213:=by kernel_rfl
 c232:=by kernel_rfl
 c233:=by kernel_rfl}
def Tryz.itoaL_ren:Go.Shelf.Ren:=⟨fun|171=>78|243=>102|246=>130|283=>159|284=>160|285=>161|286=>162|129=>180|317=>179|318=>181|319=>182|320=>183|337=>196|338=>197|n=>n,fun|3=>3|9=>9|2=>2|4=>4|171=>205|0=>0|53=>206|37=>25|5=>5|173=>209|212=>227|51=>228|20=>20|213=>229|46=>220|232=>249|233=>250|n=>n,fun|17=>2|18=>3|19=>4|n=>n⟩
theorem Tryz.itoaL:Go.Proofs.LaysM.n171 Tryz.prog Tryz.itoaL_ren:={
 mixed:=by kernel_rfl
 f129:=Tryz.func180.trans (congrArg some (by kernel_rfl))
 f171:=Tryz.func78.trans (congrArg some (by kernel_rfl))
 f243:=Tryz.func102.trans (congrArg some (by kernel_rfl))
 f246:=Tryz.func130.trans (congrArg some (by kernel_rfl))
 f283:=Tryz.func159.trans (congrArg some (by kernel_rfl))
 f284:=Tryz.func160.trans (congrArg some (by kernel_rfl))
 f285:=Tryz.func161.trans (congrArg some (by kernel_rfl))
 f286:=Tryz.func162.trans (congrArg some (by kernel_rfl))
 f317:=Tryz.func179.trans (congrArg some (by kernel_rfl))
 f318:=Tryz.func181.trans (congrArg some (by kernel_rfl))
 f319:=Tryz.func182.trans (congrArg some (by kernel_rfl))
 f320:=Tryz.func183.trans (congrArg some (by kernel_rfl))
 f337:=Tryz.func196.trans (congrArg some (by kernel_rfl))
 f338:=Tryz.func197.trans (congrArg some (by kernel_rfl))
 t0:=Tryz.underlying0
 a0:=Tryz.isAgg0
 z0:=Tryz.sizeOf0
 v0:=Tryz.zeroValue0
 t2:=Tryz.underlying2
 a2:=Tryz.isAgg2
 z2:=Tryz.sizeOf2
 v2:=Tryz.zeroValue2
 t3:=Tryz.underlying3
 a3:=Tryz.isAgg3
 z3:=Tryz.sizeOf3
 v3:=Tryz.zeroValue3
 t4:=Tryz.underlying4
 a4:=Tryz.isAgg4
 z4:=Tryz.sizeOf4
 v4:=Tryz.zeroValue4
 t5:=Tryz.underlying5
 a5:=Tryz.isAgg5
 z5:=Tryz.sizeOf5
 v5:=Tryz.zeroValue5
 t9:=Tryz.underlying9
 a9:=Tryz.isAgg9
 z9:=Tryz.sizeOf9
 v9:=Tryz.zeroValue9
 t20:=Tryz.underlying20
 a20:=Tryz.isAgg20
 z20:=Tryz.sizeOf20
 v20:=Tryz.zeroValue20
 t37:=Tryz.underlying25
 a37:=Tryz.isAgg25
 z37:=Tryz.sizeOf25
 v37:=Tryz.zeroValue25
 t46:=Tryz.underlying220
 a46:=Tryz.isAgg220
 z46:=Tryz.sizeOf220
 v46:=Tryz.zeroValue220
 t51:=Tryz.underlying228
 a51:=Tryz.isAgg228
 z51:=Tryz.sizeOf228
 v51:=Tryz.zeroValue228
 t53:=Tryz.underlying206
 a53:=Tryz.isAgg206
 z53:=Tryz.sizeOf206
 v53:=Tryz.zeroValue206
 t171:=Tryz.underlying205
 a171:=Tryz.isAgg205
 z171:=Tryz.sizeOf205
 v171:=Tryz.zeroValue205
 t173:=Tryz.underlying209
 a173:=Tryz.isAgg209
 z173:=Tryz.sizeOf209
 v173:=Tryz.zeroValue209
 t212:=Tryz.underlying227
 a212:=Tryz.isAgg227
 z212:=Tryz.sizeOf227
 v212:=Tryz.zeroValue227
 t213:=Tryz.underlying229
 a213:=Tryz.isAgg229
 z213:=Tryz.sizeOf229
 t232:=Tryz.underlying249
 a232:=Tryz.isAgg249
 z232:=Tryz.sizeOf249
 v232:=Tryz.zeroValue249
 t233:=Tryz.underlying250
 a233:=Tryz.isAgg250
 z233:=Tryz.sizeOf250
 v233:=Tryz.zeroValue250
 g17:=by kernel_rfl
 g18:=by kernel_rfl
 g19:=by kernel_rfl
 i0:=by kernel_rfl
 i2:=by kernel_rfl
 i3:=by kernel_rfl
 i4:=by kernel_rfl
 i5:=by kernel_rfl
 i9:=by kernel_rfl
 i20:=by kernel_rfl
 i37:=by kernel_rfl
 i46:=by kernel_rfl
 i51:=by kernel_rfl
 i53:=by kernel_rfl
 i171:=by kernel_rfl
 i173:=by kernel_rfl
 i212:=by kernel_rfl
 i232:=by kernel_rfl
 i233:=by kernel_rfl
 m17:=by kernel_rfl
 m18:=by kernel_rfl
 m19:=by kernel_rfl}
end Go.Proofs
namespace PE.U
open Go PE Go.Proofs
theorem clone_calls(b:Nat)(es:Array MapEntry)(clock:Nat)(w:World)(hb:w.heap[b]? =some (.map es clock)):
  Calls Tryz.prog 116 #[.map (some b)] w fun e w'=>e= .returned (.map (some w.heap.size))/\w'=w.alloc (.map es clock):=
 AnyW.maps_Clone Tryz.cloneL b es clock w hb
def tab10:Array Value:=(Lib.pow10Tab.map fun z=>Value.int .u64 z).toArray
def tabs(c0 c1:Array Value):Tabs:=[(0,c0),(1,c1),(2,tab10)]
structure TabsOk(c0 c1:Array Value):Prop where
 s:∃ev,c0[0]? =some ev/\(ev= .nilIface\/∃te pe,ev= .iface te pe)
 r:∃ev,c1[0]? =some ev/\(ev= .nilIface\/∃te pe,ev= .iface te pe)
theorem cell_at{w:World}{b:Nat}{cs:Array Value}{v:Value}(h:∃e fr,w.heap[b]? =some (.cells cs e fr))(hc:cs[0]? =some v):w.cell? ⟨b,0,none⟩=some v:=by
 obtain⟨e,fr,h⟩:=h;simp[World.cell?,h,hc]
theorem tab_is{w:World}(h:∃e fr,w.heap[2]? =some (.cells tab10 e fr)):Lib.TabIs Tryz.prog w "internal/strconv.uint64pow10" .u64 Lib.pow10Tab:=by
 obtain⟨e,fr,h⟩:=h;have hg:Tryz.prog.globalNamed "internal/strconv.uint64pow10" =some 2:=by kernel_rfl
 unfold Lib.TabIs World.var?;rw[hg];simp only[Option.bind_some,h];rfl
theorem itoa_calls(n:Int)(w:World)(h0: -9223372036854775808<=n)(h1:n<=9223372036854775807)(h:∃e fr,w.heap[2]? =some (.cells tab10 e fr)):
  Calls Tryz.prog 78 #[.int .i64 n] w fun e w'=>e= .returned (.string ⟨(Lib.itoa n).toArray⟩)/\∃k os,w'=Sort.grow (w.drewN k) os:=
 Any.strconv_Itoa Tryz.itoaL n h0 h1 w (tab_is h)
open Classical in
noncomputable def firstX:List PV->zc->Option (CRes×zc)
 | [.int .i64 m],st=>if 0<=m/\m<=200000000000/\R.Steps R.nthK R.fromK (m.toNat+1)then
   some (.ret (.slice .plain 1 (((yI m.toNat).map fun k=>R.txt (R.nthK k)).map .str)),st)else none
 |_,_=>none
set_option maxRecDepth 100000 in
theorem firstX_good{T:Tabs}(hT2:((2,tab10):Nat×Array Value)∈T)(args:List PV)(st:zc)(r:CRes)(st':zc)(h:firstX args st=some (r,st')):GoodF Tryz.prog T 22 args st r st':=by
 unfold firstX at h;split at h
 case h_2=>cases h
 rename_i m;split at h
 case isFalse=>cases h
 rename_i hb;obtain⟨h0,h1,hst⟩:=hb;cases h;intro G w margs hD hT hS hsz hv;refine⟨⟨_,_,Tryz.func22,by decide,rfl⟩,?_⟩;obtain⟨x,rfl⟩:=yab.1 (show margs.size=1 from hsz);have hx:=hv 0 (.int .i64 m) x rfl rfl;cases hx;obtain⟨n,rfl⟩:∃n:Nat,m=n:=⟨m.toNat,by omega⟩
 rw[Int.toNat_natCast]at hst;refine(callsIn_wide.1 (R.first_in 2 tab10 (fun n w a b c=>itoa_calls n w a b c) hst (by omega) w (hT _ hT2).2)).mono ?_
 rintro e w' ⟨v,rfl,hrow,hB⟩
 refine comes_texts hS hB (e:=9) (by simp) (n:=n) (ss:=(yI ((n:Int)).toNat).map fun k=>R.txt (R.nthK k)) ?_;rw[Int.toNat_natCast,List.map_map];exact hrow
def zStmt:PV:= .agg [.int .i64 0,.int .i64 0,.str [],.slice .fit 5 [],.slice .fit 6 [],.slice .fit 6 []]
def zExpr:PV:= .agg [.int .i64 0,.int .i64 0,.int .i64 0,.str [],.slice .fit 5 []]
def zPair:PV:= .agg [.str [],.int .i64 0]
noncomputable def extE:Nat->Option (List PV->zc->Option (CRes×zc))
 |116=>some cloneX
 |78=>some itoaX
 |90=>some (pureX (atoiG 195))
 |22=>some firstX
 |52=>some (sclX 2 24)
 |88=>some (sclX 2 24)
 |54=>some (sclX 6 104)
 |91=>some (sclX 5 64)
 |_=>none
noncomputable def E:Env:={fn:=fns,ext:=extE,hand:=hand}
set_option maxRecDepth 100000 in
theorem envOk{c0 c1:Array Value}(ht:TabsOk c0 c1):EnvOk Tryz.prog (tabs c0 c1) E:=by
 obtain⟨⟨es,hs,hes⟩,⟨er,hr,her⟩⟩:=ht;have t1:∀w:World,(tabs c0 c1).lie w->w.cell? ⟨0,0,none⟩=some es:=fun w h=>cell_at (h (0,c0) (by simp[tabs])) hs
 have t2:∀w:World,(tabs c0 c1).lie w->w.cell? ⟨1,0,none⟩=some er:=fun w h=>cell_at (h (1,c1) (by simp[tabs])) hr
 refine⟨fnsOk,fun f g h args st r st' hg=>?_,handOk⟩;unfold E extE at h;simp only at h;split at h
 ·cases h;exact cloneX_good ⟨_,_,Tryz.func116,by decide,rfl⟩ clone_calls args st r st' hg
 ·cases h;exact itoaX_good ⟨_,_,Tryz.func78,by decide,rfl⟩ (g:=2) (tab:=tab10) (by simp[tabs]) itoa_calls args st r st' hg
 ·cases h;refine pureX_good ⟨_,_,Tryz.func90,by decide,rfl⟩ (atoiG_calls (fun s v w hl ha=>?_) (fun s w hT hl ha=>?_) (fun s w hT hl ha=>?_)) args st r st' hg
  ·refine(Any.strconv_Atoi_ok Tryz.atoiL s hl v ha w).mono ?_
   rintro e w' ⟨rfl,hw⟩
   refine⟨rfl,?_⟩;rcases hw with h|⟨t,h⟩
   ·exact .inl h
   ·exact .inr ⟨_,t,h⟩
  ·refine(Any.strconv_Atoi_syntax Tryz.atoiL s hl ha es w (t1 w hT) hes).mono ?_
   rintro e w' ⟨N,rfl,_,_,hb⟩
   exact⟨N,rfl,hb⟩
  ·refine(Any.strconv_Atoi_range Tryz.atoiL s hl ha er w (t2 w hT) her).mono ?_
   rintro e w' ⟨N,rfl,_,_,hb⟩
   exact⟨N,rfl,hb⟩
 ·cases h;exact firstX_good (by simp[tabs]) args st r st' hg
 ·cases h;exact scl_good (z:=zPair) Tryz.func52 (by kernel_rfl) args st r st' hg
 ·cases h;exact scl_good (z:=zPair) Tryz.func88 (by kernel_rfl) args st r st' hg
 ·cases h;exact scl_good (z:=zStmt) Tryz.func54 (by kernel_rfl) args st r st' hg
 ·cases h;exact scl_good (z:=zExpr) Tryz.func91 (by kernel_rfl) args st r st' hg
 ·cases h
end PE.U

namespace PE.U
open Go PE
def zTa(c:Int):Bool:=(decide (97<=c)&&decide (c<=122))||(decide (65<=c)&&decide (c<=90))||decide (c=95)
def zcc(c:Int):Bool:=decide (48<=c)&&decide (c<=57)
theorem zZc(c:Int)(σ:zc):zi E 131 [.int .i32 c] σ=some (.ret (.bool (zTa c)),σ):=by
 refine zd rfl rfl rfl (by simp) ?_
 (simp[*,F131,zTa])<;>(repeat' ((first|refine sP _ ?_ ?_|refine gP _ ?_ ?_|refine sN _ ?_ ?_|refine gN _ ?_ ?_|refine sM _ ?_ ?_|refine gM _ ?_ ?_|refine sB _ ?_ ?_|refine gB _ ?_ ?_)<;>intro hc<;>simp[*,F131,zTa]))
theorem digit_spec(c:Int)(σ:zc):zi E 163 [.int .i32 c] σ=some (.ret (.bool (zcc c)),σ):=by
 refine zd rfl rfl rfl (by simp) ?_
 (simp[*,F163,zcc])<;>(repeat' ((first|refine sP _ ?_ ?_|refine gP _ ?_ ?_|refine sN _ ?_ ?_|refine gN _ ?_ ?_|refine sM _ ?_ ?_|refine gM _ ?_ ?_|refine sB _ ?_ ?_|refine gB _ ?_ ?_)<;>intro hc<;>simp[*,F163,zcc]))
theorem zPa(c:Int)(σ:zc):zi E 43 [.int .u8 c] σ=some (.ret (.bool (zTa c)),σ):=by
 refine zd rfl rfl rfl (by simp) ?_
 (simp[*,F43,zTa])<;>(repeat' ((first|refine sP _ ?_ ?_|refine gP _ ?_ ?_|refine sN _ ?_ ?_|refine gN _ ?_ ?_|refine sM _ ?_ ?_|refine gM _ ?_ ?_|refine sB _ ?_ ?_|refine gB _ ?_ ?_)<;>intro hc<;>simp[*,F43,zTa]))
theorem zBb(c:Int)(σ:zc):zi E 45 [.int .u8 c] σ=some (.ret (.bool (zcc c)),σ):=by
 refine zd rfl rfl rfl (by simp) ?_
 (simp[*,F45,zcc])<;>(repeat' ((first|refine sP _ ?_ ?_|refine gP _ ?_ ?_|refine sN _ ?_ ?_|refine gN _ ?_ ?_|refine sM _ ?_ ?_|refine gM _ ?_ ?_|refine sB _ ?_ ?_|refine gB _ ?_ ?_)<;>intro hc<;>simp[*,F45,zcc]))
def words:List (List UInt8):=[[105,110,116],[98,111,111,108],[105,102],[101,108,115,101],[119,104,105,108,101],[98,114,101,97,107],[99,111,110,116,105,110,117,101],[114,101,116,117,114,110],
 [112,114,105,110,116],[114,101,97,100],[116,114,117,101],[102,97,108,115,101],[105,56],[105,49,54],[105,51,50],[117,56],[117,49,54],[117,51,50]]
def wordM(s:List UInt8):Bool:=words.contains s
theorem word_spec(s:List UInt8)(σ:zc):zi E 79 [.str s] σ=some (.ret (.bool (wordM s)),σ):=by
 refine zd rfl rfl rfl (by simp) ?_
 (simp[*,F79,wordM,words])<;>(repeat' ((first|refine sP _ ?_ ?_|refine gP _ ?_ ?_|refine sN _ ?_ ?_|refine gN _ ?_ ?_|refine sM _ ?_ ?_|refine gM _ ?_ ?_|refine sB _ ?_ ?_|refine gB _ ?_ ?_)<;>intro hc<;>simp[*,F79,wordM,words]))
theorem rword_spec(s:List UInt8)(σ:zc):zi E 44 [.str s] σ=some (.ret (.bool (wordM s)),σ):=by
 refine zd rfl rfl rfl (by simp) ?_
 (simp[*,F44,wordM,words])<;>(repeat' ((first|refine sP _ ?_ ?_|refine gP _ ?_ ?_|refine sN _ ?_ ?_|refine gN _ ?_ ?_|refine sM _ ?_ ?_|refine gM _ ?_ ?_|refine sB _ ?_ ?_|refine gB _ ?_ ?_)<;>intro hc<;>simp[*,F44,wordM,words]))
def zF(b:UInt8):Bool:=zTa b.toNat||zcc b.toNat
def runM(s:List UInt8):List UInt8:=s.takeWhile zF
def zGb(s:List UInt8):Bool:=decide (s≠ [])&&(zTa ((s.head?.getD 0).toNat)&&(s.all zF&&(decide (s.length<=20)&& !wordM s)))
theorem nameByte_high{b:UInt8}(h:128<=b.toNat):zF b=false:=by
 simp[zF,zTa,zcc];omega
theorem high_not{c:Nat}(h:128<=c):zTa c=false/\zcc c=false:=by
 simp[zTa,zcc];omega
theorem zBe{p:UInt8->Bool}:∀{s:List UInt8},s.takeWhile p=s<->s.all p=true
 | []=>by simp
 |b::r=>by
  rw[yDa];cases h:p b
  ·simp[h]
  ·simp[h,zBe (s:=r)]
theorem run_spec(s:List UInt8)(σ:zc):zi E 132 [.str s] σ=some (.ret (.str (runM s)),σ):=by
 refine zd rfl rfl rfl (by simp) ?_;simp[F132];refine zha K132_0 B132_0 (fun d=>s.length-d) (fun d=>[]) (fun d=>[(6,.iter s d)]) (fun _=>σ) (fun d=>d<=s.length/\(s.take d).all zF=true) 0 (by simp) ?_
 rintro d s1 ⟨hd,ha⟩ h1 h2 h3 h4 h5
 simp at h4;by_cases hlt:d<s.length
 ·have hs:d<(⟨s.toArray⟩:ByteArray).size:=by show d<s.toArray.size;simpa using hlt
  have hget:(⟨s.toArray⟩:ByteArray)[d]'hs=s[d]:=rfl;have htk:s.take (d+1)=s.take d++[s[d]]:=by simp
  by_cases hb:s[d].toNat<128
  ·have hdec:=decode_ascii ⟨s.toArray⟩ d hs (by rw[hget];exact hb);rw[hget]at hdec;cases hn:zF s[d]
   ·have e:runM s=s.take d:=by
     have:s=s.take d++(s[d]::s.drop (d+1)):=by simp
     unfold runM;rw[this,List.takeWhile_append_of_pos (by simpa using ha),yDa,hn];simp
    have hn2:=hn;simp only[zF,yna]at hn2;have hmin:min d s.length=d:=by omega
    simp[*,zZc,digit_spec]
   ·have hn2:=hn;simp only[zF,yS]at hn2;cases hl:zTa s[d].toNat
    ·rw[hl]at hn2;simp at hn2;simp[*,zZc,digit_spec];exact⟨d+1,by omega,rfl,by omega,by rw[<-yq,htk,yY,ha];simp[hn]⟩
    ·simp[*,zZc,digit_spec];exact⟨d+1,by omega,rfl,by omega,by rw[<-yq,htk,yY,ha];simp[hn]⟩
  ·obtain⟨hd1,hd2⟩:=decode_high ⟨s.toArray⟩ d hs (by rw[hget];omega);obtain⟨q1,q2⟩:=high_not hd1;have e:runM s=s.take d:=by
    have:s=s.take d++(s[d]::s.drop (d+1)):=by simp
    unfold runM;rw[this,List.takeWhile_append_of_pos (by simpa using ha),yDa,nameByte_high (by omega)];simp
   simp[*,zZc,digit_spec]
 ·have hd':d=s.length:=by omega
  subst hd';simp at ha;have e:runM s=s:=by
   unfold runM;exact zBe.2 (by simpa using ha)
  simp[*]
theorem name_spec(s:List UInt8)(σ:zc):zi E 104 [.str s] σ=some (.ret (.bool (zGb s)),σ):=by
 refine zd rfl rfl rfl (by simp) ?_;have hr:decide (runM s=s)=s.all zF:=by
  unfold runM;simp only[zBe,Bool.decide_eq_true]
 by_cases hne:s=[]
 ·subst hne;simp[F104,zGb]
 obtain⟨b,r,hs⟩:=List.exists_cons_of_ne_nil hne;have hb:s[0]? =some b:=by rw[hs];rfl
 have hd:s.head? =some b:=by rw[hs];rfl
 clear hs;generalize ha:s.all zF=A at hr
 (simp[*,F104,zGb,zZc,run_spec,word_spec])<;>(repeat' ((first|refine sP _ ?_ ?_|refine gP _ ?_ ?_|refine sN _ ?_ ?_|refine gN _ ?_ ?_|refine sM _ ?_ ?_|refine gM _ ?_ ?_|refine sB _ ?_ ?_|refine gB _ ?_ ?_)<;>intro hc<;>simp[*,F104,zGb,zZc,run_spec,word_spec]))
 all_goals(try grind)
theorem zGd(s:List UInt8)(σ:zc):zi E 20 [.str s] σ=some (.ret (.bool (zGb s)),σ):=by
 refine zd rfl rfl rfl (by simp) ?_;by_cases hne:s=[]
 ·subst hne;simp[F20,zGb]
 obtain⟨b,r,hs⟩:=List.exists_cons_of_ne_nil hne;have hb:s[0]? =some b:=by rw[hs];rfl
 have hd:s.head? =some b:=by rw[hs];rfl
 clear hs
 (simp[*,F20,zGb,zPa,rword_spec])<;>(repeat' ((first|refine sP _ ?_ ?_|refine gP _ ?_ ?_|refine sN _ ?_ ?_|refine gN _ ?_ ?_|refine sM _ ?_ ?_|refine gM _ ?_ ?_|refine sB _ ?_ ?_|refine gB _ ?_ ?_)<;>intro hc<;>simp[*,F20,zGb,zPa,rword_spec]))
 all_goals first|refine zG s K20_0 B20_0 (fun d=>[(3,.int .i64 d.length)]) (fun _=>σ) (fun d=>d.all zF=true) (by omega) (by simp) ?_ ?_|grind
 ·intros d x r' s hl' hlt hget hget' hw hp h1 h2 h3 h4;simp at h1 h3;have hx:=hl'.mem;clear h2
  (simp[*,zPa,zBb])<;>(repeat' ((first|refine sP _ ?_ ?_|refine gP _ ?_ ?_|refine sN _ ?_ ?_|refine gN _ ?_ ?_|refine sM _ ?_ ?_|refine gM _ ?_ ?_|refine sB _ ?_ ?_|refine gB _ ?_ ?_)<;>intro hc<;>simp[*,zPa,zBb]))
  all_goals grind [zF]
 ·intros s hp h1 h2 h3 h4;simp at h1 h3
  (simp[*])<;>(repeat' ((first|refine sP _ ?_ ?_|refine gP _ ?_ ?_|refine sN _ ?_ ?_|refine gN _ ?_ ?_|refine sM _ ?_ ?_|refine gM _ ?_ ?_|refine sB _ ?_ ?_|refine gB _ ?_ ?_)<;>intro hc<;>simp[*]))
  all_goals(try grind)
def digF:Nat->Nat->List UInt8
 |0,_=>[]
 |k+1,n=>if n<10 then[yG (48+n)]else digF k (n/10)++[yG (48+n%10)]
def zwa(n:Nat):List UInt8:=digF 20 n
theorem digF_len:∀k n,(digF k n).length<=k
 |0,_=>yd _
 |k+1,n=>by
  unfold digF;split
  ·simp
  ·have:=digF_len k (n/10);simp;omega
theorem digF_len2:∀(k j n:Nat),1<=j->n<10^j->(digF k n).length<=j
 |0,j,n,_,_=>by simp[digF]
 |k+1,j,n,hj,h=>by
  unfold digF;split
  ·simpa using hj
  ·rename_i hn;cases j with
   |zero=>omega
   |succ j=>
    cases j with
    |zero=>simp at h;omega
    |succ j=>
     have:=digF_len2 k (j+1) (n/10) (by omega) (by rw[Nat.pow_succ]at h;omega);simp only[yi,yj,yn];omega
theorem dig_byte{a:Nat}(h:a<10):zF (yG (48+a))=true:=by
 have:a=0\/a=1\/a=2\/a=3\/a=4\/a=5\/a=6\/a=7\/a=8\/a=9:=by omega
 rcases this with rfl|rfl|rfl|rfl|rfl|rfl|rfl|rfl|rfl|rfl<;>decide
theorem digF_bytes:∀(k n:Nat),(digF k n).all zF=true
 |0,n=>rfl
 |k+1,n=>by
  unfold digF;split
  ·rename_i h;rw[yea,dig_byte h];rfl
  ·rw[yY,digF_bytes k];rw[yea,dig_byte (Nat.mod_lt n (by omega:0<10))];rfl
theorem u8_dig{a b:Nat}(ha:a<10)(hb:b<10)(h:yG (48+a)=yG (48+b)):a=b:=by
 have:=congrArg UInt8.toNat h;simp at this;omega
theorem digF_inj:∀(k a b:Nat),a<10^k->b<10^k->digF k a=digF k b->a=b
 |0,a,b,ha,hb,_=>by simp at ha hb;omega
 |k+1,a,b,ha,hb,h=>by
  have ne:∀n,digF (k+1) n≠ []:=by
   intro n;unfold digF;split<;>simp
  rw[Nat.pow_succ]at ha hb;by_cases h1:a<10<;>by_cases h2:b<10
  ·rw[digF,digF,if_pos h1,if_pos h2]at h;exact u8_dig h1 h2 (by simpa using h)
  ·rw[digF,digF,if_pos h1,if_neg h2]at h;have hl:=congrArg yV h;simp at hl;cases k with
   |zero=>simp at hb;omega
   |succ k=>
    have:digF (k+1) (b/10)≠ []:=by unfold digF;split<;>simp
    exact absurd hl this
  ·rw[digF,digF,if_neg h1,if_pos h2]at h;have hl:=congrArg yV h;simp at hl;cases k with
   |zero=>simp at ha;omega
   |succ k=>
    have:digF (k+1) (a/10)≠ []:=by unfold digF;split<;>simp
    exact absurd hl this
  ·rw[digF,digF,if_neg h1,if_neg h2]at h;obtain⟨e1,e2⟩:=List.append_inj' h rfl;have:=digF_inj k (a/10) (b/10) (by omega) (by omega) e1;have:=u8_dig (Nat.mod_lt a (by omega)) (Nat.mod_lt b (by omega)) (by simpa using e2);omega
theorem digF_dig:∀(k n:Nat),∀b∈digF k n,48<=b.toNat/\b.toNat<=57
 |0,n,b,h=>by simp[digF]at h
 |k+1,n,b,h=>by
  have one:∀a,a<10->48<=(yG (48+a)).toNat/\(yG (48+a)).toNat<=57:=by
   intro a ha;rw[UInt8.toNat_ofNat'];omega
  unfold digF at h;split at h
  ·rename_i hn;simp only[yL]at h;subst h;exact one n hn
  ·rcases yx.1 h with h|h
   ·exact digF_dig k _ b h
   ·simp only[yL]at h;subst h;exact one _ (Nat.mod_lt n (by omega))
theorem digF_ne(k n:Nat):digF (k+1) n≠ []:=by unfold digF;split<;>simp
theorem zof{a b:Nat}(ha:a<10000000000000)(hb:b<10000000000000)(h:zwa a=zwa b):a=b:=
 digF_inj 20 a b (Nat.lt_trans ha (by decide)) (Nat.lt_trans hb (by decide)) h
end PE.U
