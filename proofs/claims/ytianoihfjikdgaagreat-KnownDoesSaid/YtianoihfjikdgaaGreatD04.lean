/-
  Texts joined by program: AZU6r, AZU7, AZU8, AZU9, AZU10, AZU11, AZU12, AZU13, AZA1, AZU14, AZU15, AZU16, AZU17, AZU18, AZU19, AZA2, AZA3, AZE1, AZE2, AZE3, AZE4, AZE5, AZE6, AZE7, AZE8, AZE9, AZI1, AZE10, AZE11.
-/
import Derived.Test.YtianoihfjikdgaaGreatD03
set_option linter.unusedVariables false
set_option linter.unusedSectionVars false
set_option linter.unusedSimpArgs false
open BitVec renaming ofInt→yy
open Bool renaming and_eq_false_iff→yK,and_eq_true→ya,false_eq_true→yv,false_or→yNa,not_eq_true'→yG,or_eq_false_iff→yB,or_eq_true→yw
open Eq renaming trans→ye
open Function renaming comp_def→yL
open Go.IntKind renaming bits→yca,wrap→yba
open List renaming all_eq_true→yj,append_assoc→yY,append_nil→yla,concat_eq_append→yC,cons_append→yI,contains_iff_mem→yAa,dropLast_concat→yia,eq_nil_or_concat→yz,findIdx?_eq_none_iff→yfa,foldl_append→ySa,foldl_cons→yU,foldl_nil→yYa,getElem?_eq_getElem→yd,getElem?_eq_some_iff→yb,getElem?_map→yk,getElem?_of_mem→yP,getElem?_zip_eq_some→yM,getLast?_concat→yEa,length_append→ym,length_cons→yZ,length_map→yV,length_nil→yea,map_append→yDa,map_cons→yR,map_eq_nil_iff→yMa,map_set→yxa,mem_append→yh,mem_append_left→yma,mem_append_right→yva,mem_cons→yA,mem_cons_of_mem→yha,mem_map→yka,mem_of_getElem?→yr,mem_range→yya,mem_zipIdx_iff_getElem?→yBa,nil_append→yqa,range→yaa,range_succ→yRa,replicate→yf,set_append_right→yGa,sum_append→yab
open Nat renaming le_refl→yg,le_trans→yta,strongRecOn→ysa,zero_add→yX
open Option renaming bind_eq_some_iff→yN,map_eq_some_iff→yc
open Prod renaming fst→yUa
namespace PE.U
open Go PE
def signList:List (List UInt8):=[[],[43],[45],[42],[47],[37],[38],[124],[94],[60,60],[62,62],[62,62,62],[60],[60,61],[62],[62,61],[61,61],[33,61],[38,38],[124,124],[45],[126],[33],[105,56],[105,49,54],[105,51,50],[117,56],[117,49,54],[117,51,50]]
def zVe:List Int:=[0,9,9,10,10,10,5,3,4,8,8,8,7,7,7,7,6,6,2,1,0,0,0,0,0,0,0,0,0]
def sgn(op:Int):List UInt8:=if op<0 then[]else(signList[op.toNat]?).getD []
def lvl(op:Int):Int:=if op<0 then 0 else(zVe[op.toNat]?).getD 0
theorem rowCells:∀n:Nat,n<29->List.take 2 (List.drop (n*2) [.str [],.int .i64 0,.str [43],.int .i64 9,.str [45],.int .i64 9,.str [42],.int .i64 10,.str [47],.int .i64 10,.str [37],.int .i64 10,.str [38],.int .i64 5,.str [124],.int .i64 3,.str [94],.int .i64 4,.str [60,60],.int .i64 8,.str [62,62],.int .i64 8,.str [62,62,62],.int .i64 8,.str [60],.int .i64 7,.str [60,61],.int .i64 7,.str [62],.int .i64 7,.str [62,61],.int .i64 7,.str [61,61],.int .i64 6,.str [33,61],.int .i64 6,.str [38,38],.int .i64 2,.str [124,124],.int .i64 1,.str [45],.int .i64 0,.str [126],.int .i64 0,.str [33],.int .i64 0,.str [105,56],.int .i64 0,.str [105,49,54],.int .i64 0,.str [105,51,50],.int .i64 0,.str [117,56],.int .i64 0,.str [117,49,54],.int .i64 0,.str [117,51,50],.int .i64 0])=[PV.str ((signList[n]?).getD []),PV.int .i64 ((zVe[n]?).getD 0)]
 |0,_=>rfl
 |1,_=>rfl
 |2,_=>rfl
 |3,_=>rfl
 |4,_=>rfl
 |5,_=>rfl
 |6,_=>rfl
 |7,_=>rfl
 |8,_=>rfl
 |9,_=>rfl
 |10,_=>rfl
 |11,_=>rfl
 |12,_=>rfl
 |13,_=>rfl
 |14,_=>rfl
 |15,_=>rfl
 |16,_=>rfl
 |17,_=>rfl
 |18,_=>rfl
 |19,_=>rfl
 |20,_=>rfl
 |21,_=>rfl
 |22,_=>rfl
 |23,_=>rfl
 |24,_=>rfl
 |25,_=>rfl
 |26,_=>rfl
 |27,_=>rfl
 |28,_=>rfl
 |n+29,h=>by omega
set_option maxHeartbeats 4000000 in
theorem rowOf_spec(op:Int)(σ:zd):zk E 163 [.int .i64 op] σ=some (.ret (.agg [.str (sgn op),.int .i64 (lvl op)]),σ):=by
 refine zc rfl rfl rfl (by simp) ?_;by_cases h0:op<0
 ·simp[F163,h0,sgn,lvl]
 by_cases h1:29<=op
 ·have:29<=op.toNat:=by omega
  simp[F163,h0,h1,sgn,lvl,signList,zVe,List.getElem?_eq_none,this]
 have h2:op.toNat<29:=by omega
 have h3:0<=op:=by omega
 have h4:op.toNat*2<=56:=by omega
 have e1:sgn op=((signList[op.toNat]?).getD []):=by simp[sgn,h0]
 have e2:lvl op=((zVe[op.toNat]?).getD 0):=by simp[lvl,h0]
 rw[e1,e2];have e3:=rowCells op.toNat h2;generalize((signList[op.toNat]?).getD [])=s at*;generalize((zVe[op.toNat]?).getD 0)=l at*;simp[F163,h0,h1,h2,h3,h4,e3]
theorem level_spec(op:Int)(σ:zd):zk E 157 [.int .i64 op] σ=some (.ret (.int .i64 (lvl op)),σ):=by
 refine zc rfl rfl rfl (by simp) ?_
 (simp[*,F157,rowOf_spec])<;>(repeat' ((first|refine sP _ ?_ ?_|refine gP _ ?_ ?_|refine sN _ ?_ ?_|refine gN _ ?_ ?_|refine sM _ ?_ ?_|refine gM _ ?_ ?_|refine sB _ ?_ ?_|refine gB _ ?_ ?_)<;>intro hc<;>simp[*,F157,rowOf_spec]))
theorem lvl_pos(op:Int):(0<lvl op/\op<=17)=(1<=op/\op<=17):=by
 apply propext;constructor
 ·rintro⟨h,h'⟩
  refine⟨?_,h'⟩;by_cases h0:op<0
  ·simp[lvl,h0]at h
  ·by_cases h1:op=0
   ·subst h1;simp[lvl,zVe]at h
   ·omega
 ·rintro⟨h,h'⟩
  refine⟨?_,h'⟩;have:op=1\/op=2\/op=3\/op=4\/op=5\/op=6\/op=7\/op=8\/op=9\/op=10\/op=11\/op=12\/op=13\/op=14\/op=15\/op=16\/op=17:=by omega
  rcases this with h|h|h|h|h|h|h|h|h|h|h|h|h|h|h|h|h<;>subst h<;>decide
structure Place where
 inIf:Bool
 inLoop:Bool
 yield:List Int
 next:List Int
 left:List Int
def zg(p:Place):PV:= .agg [.bool p.inIf,.bool p.inLoop,ints p.yield,ints p.next,ints p.left]
structure UOk(u:Unt):Prop where
 arrs:u.arrays.length<1099511627776
 flows:u.flows.length<1099511627776
 pars:∀f∈u.flows,0<=f.params/\f.params<=f.types.length
 types:∀f∈u.flows,f.types.length<1099511627776
def sumM(ty:List Int)(S:St1)(n:Node):Bool×St1:=
 if n.kind=3 then
  if 20<=n.op/\n.op<=28/\zEb ty S n.args [takes n.op]=true then setM ty S n.outs [ztb n.op]else(false,S)
 else
  if 1<=n.op/\n.op<=17/\zEb ty S n.args [takes n.op,takes n.op]=true/\at0 ty (at0 n.args 0)=at0 ty (at0 n.args 1)then setM ty S n.outs [ztb n.op]else(false,S)
theorem usesM_two{ty S l:List Int}{t t':Int}(h:zEb ty S l [t,t']=true):∃a b,l=[a,b]/\0<=a/\a<ty.length/\0<=b/\b<ty.length:=by
 unfold zEb eqM at h
 match l with
 | []=>simp at h
 | [_]=>simp at h
 |a::b::_::_=>simp at h
 | [a,b]=>
  simp[eqGo,useG]at h;split at h
  ·rename_i q;split at h
   ·rename_i q';obtain⟨r0,r1⟩:=zBa q.1;obtain⟨r2,r3⟩:=zBa q'.1;exact⟨a,b,rfl,r0,r1,r2,r3⟩
   ·simp at h
  ·simp at h
theorem sum_spec(u:Unt)(f:Flow)(S:St1)(x:Node)(hS:S.length=f.types.length)(hx:wtN x<1099511627776)(hk:x.kind=3\/x.kind=4):
  zk E 137 [chkV u f f.types.length,zK x] [stO S]=some (.ret (.bool (sumM f.types S x).1),[stO (sumM f.types S x).2]):=by
 refine zc rfl rfl rfl (by simp[za,chkV]) ?_;have hw:=zlb x;have h1:=zGb u f S x.args [takes x.op] hS (by omega);have h2:=zGb u f S x.args [takes x.op,takes x.op] hS (by omega);have h3:=set_spec u f S x.outs [ztb x.op] hS (by omega);have h4:=operand_spec x.op;have h5:=level_spec x.op [];have h6:=lvl_pos x.op;simp[chkV,ints]at h1 h2 h3;rcases hk with hk|hk
 ·have e:sumM f.types S x=if 20<=x.op/\x.op<=28/\zEb f.types S x.args [takes x.op]=true then setM f.types S x.outs [ztb x.op]else(false,S):=by simp[sumM,hk]
  (simp[*,F137,za,chkV,ints])<;>(repeat' ((first|refine sP _ ?_ ?_|refine gP _ ?_ ?_|refine sN _ ?_ ?_|refine gN _ ?_ ?_|refine sM _ ?_ ?_|refine gM _ ?_ ?_|refine sB _ ?_ ?_|refine gB _ ?_ ?_)<;>intro hc<;>simp[*,F137,za,chkV,ints]))
 ·have e:sumM f.types S x=if 1<=x.op/\x.op<=17/\zEb f.types S x.args [takes x.op,takes x.op]=true/\at0 f.types (at0 x.args 0)=at0 f.types (at0 x.args 1)then setM f.types S x.outs [ztb x.op]else(false,S):=by simp[sumM,hk]
  by_cases hu:zEb f.types S x.args [takes x.op,takes x.op]=true
  ·obtain⟨a,b,e1,r0,r1,r2,r3⟩:=usesM_two hu;have q1:=zid r0 r1;have q2:a.toNat<f.types.length:=by omega
   have q3:=zwc r0 r1 q2;have q1':=zid r2 r3;have q2':b.toNat<f.types.length:=by omega
   have q3':=zwc r2 r3 q2';have z0:at0 [a,b] 0=a:=rfl;have z1:at0 [a,b] 1=b:=rfl;rw[e1]at h1 h2 e hu;rw[hu]at h2;clear h1 hw;simp at h2
   (simp[*,F137,za,chkV,ints])<;>(repeat' ((first|refine sP _ ?_ ?_|refine gP _ ?_ ?_|refine sN _ ?_ ?_|refine gN _ ?_ ?_|refine sM _ ?_ ?_|refine gM _ ?_ ?_|refine sB _ ?_ ?_|refine gB _ ?_ ?_)<;>intro hc<;>simp[*,F137,za,chkV,ints]))
   all_goals(try grind)
  ·have hu':zEb f.types S x.args [takes x.op,takes x.op]=false:=by simpa using hu
   rw[hu']at h2;clear h1 hw
   (simp[*,F137,za,chkV,ints])<;>(repeat' ((first|refine sP _ ?_ ?_|refine gP _ ?_ ?_|refine sN _ ?_ ?_|refine gN _ ?_ ?_|refine sM _ ?_ ?_|refine gM _ ?_ ?_|refine sB _ ?_ ?_|refine gB _ ?_ ?_)<;>intro hc<;>simp[*,F137,za,chkV,ints]))
   all_goals(try grind)
def endM(f:Flow)(S:St1)(n:Node)(p:Place):Bool:=
 decide (n.outs=[])&&(if n.kind=12 then p.inIf&&zEb f.types S n.args p.yield else if n.kind=13 then p.inLoop&&zEb f.types S n.args p.next
  else if n.kind=14 then p.inLoop&&zEb f.types S n.args p.left else zEb f.types S n.args [f.type])
theorem end_spec(u:Unt)(f:Flow)(S:St1)(x:Node)(p:Place)(hS:S.length=f.types.length)(hx:wtN x<1099511627776):
  zk E 111 [chkV u f f.types.length,zK x,zg p] [stO S]=some (.ret (.bool (endM f S x p)),[stO S]):=by
 refine zc rfl rfl rfl (by simp[za,chkV,zg]) ?_;have hw:=zlb x;have h1:=zGb u f S x.args p.yield hS (by omega);have h2:=zGb u f S x.args p.next hS (by omega);have h3:=zGb u f S x.args p.left hS (by omega);have h4:=zGb u f S x.args [f.type] hS (by omega);have ho:decide ((x.outs.length:Int)=0)=decide (x.outs=[]):=by simp
 simp[chkV,ints]at h1 h2 h3 h4;clear hw;by_cases h0:x.outs=[]
 ·(simp[*,F111,za,chkV,ints,zg,endM])<;>(repeat' ((first|refine sP _ ?_ ?_|refine gP _ ?_ ?_|refine sN _ ?_ ?_|refine gN _ ?_ ?_|refine sM _ ?_ ?_|refine gM _ ?_ ?_|refine sB _ ?_ ?_|refine gB _ ?_ ?_)<;>intro hc<;>simp[*,F111,za,chkV,ints,zg,endM]))
 ·(simp[*,F111,za,chkV,ints,zg,endM])<;>(repeat' ((first|refine sP _ ?_ ?_|refine gP _ ?_ ?_|refine sN _ ?_ ?_|refine gN _ ?_ ?_|refine sM _ ?_ ?_|refine gM _ ?_ ?_|refine sB _ ?_ ?_|refine gB _ ?_ ?_)<;>intro hc<;>simp[*,F111,za,chkV,ints,zg,endM]))
def pars(f:Flow):List Int:=f.types.take f.params.toNat
def zTb(u:Unt)(f:Flow)(S:St1)(n:Node):Bool×St1:=
 let ty:=f.types
 if n.kind=1 then if zEb ty S n.args []then setM ty S n.outs [1]else(false,S)
 else if n.kind=2 then if(n.n=0\/n.n=1)/\zEb ty S n.args []=true then setM ty S n.outs [2]else(false,S)
 else if n.kind=3\/n.kind=4 then sumM ty S n
 else if n.kind=5 then if zsc u.arrays n.name&&zEb ty S n.args [1]then setM ty S n.outs [1]else(false,S)
 else if n.kind=6 then if zsc u.arrays n.name&&zEb ty S n.args [1,1]then setM ty S n.outs []else(false,S)
 else if n.kind=8 then if zEb ty S n.args []then setM ty S n.outs [1]else(false,S)
 else if n.kind=9 then if zEb ty S n.args [1]then setM ty S n.outs []else(false,S)
 else if n.kind=7 then
  match u.flows[(zZ u.flows n.name).toNat]? with
  |some g=>if 0<=zZ u.flows n.name/\zEb ty S n.args (pars g)=true then setM ty S n.outs [g.type]else(false,S)
  |none=>(false,S)
 else(false,S)
theorem place_get{l:List Flow}{s:List UInt8}(h:0<=zZ l s):∃g,l[(zZ l s).toNat]? =some g/\g∈l/\g.name=s/\(zZ l s).toNat<l.length:=by
 unfold zZ idx at h ⊢;cases hf:l.findIdx? (fun f=>decide (f.name=s))with
 |none=>rw[hf]at h;simp at h
 |some i=>
  rw[List.findIdx?_eq_some_iff_getElem]at hf;obtain⟨hi,h1,_⟩:=hf;refine⟨l[i],by simp[hi],List.getElem_mem hi,by simpa using h1,by simpa using hi⟩
theorem simple_spec(u:Unt)(f:Flow)(S:St1)(x:Node)(hu:UOk u)(hS:S.length=f.types.length)(hx:wtN x<1099511627776):
  zk E 112 [chkV u f f.types.length,zK x] [stO S]=some (.ret (.bool (zTb u f S x).1),[stO (zTb u f S x).2]):=by
 refine zc rfl rfl rfl (by simp[za,chkV]) ?_;have hw:=zlb x;have h0:=zGb u f S x.args [] hS (by omega);have h1:=zGb u f S x.args [1] hS (by omega);have h2:=zGb u f S x.args [1,1] hS (by omega);have h3:=set_spec u f S x.outs [] hS (by omega);have h4:=set_spec u f S x.outs [1] hS (by omega);have h5:=set_spec u f S x.outs [2] hS (by omega);have h6:=hasArray_spec u x.name [] hu.arrs;have h7:=place_spec u x.name [] hu.flows;simp[chkV,ints,encUnt,za]at h0 h1 h2 h3 h4 h5 h6 h7;clear hw;by_cases k34:x.kind=3\/x.kind=4
 ·have h8:=sum_spec u f S x hS hx k34;have e:zTb u f S x=sumM f.types S x:=by rcases k34 with h|h<;>simp[zTb,h]
  simp[chkV,ints,encUnt,za]at h8
  (simp[*,F112,za,chkV,ints])<;>(repeat' (first|((first|refine sP _ ?_ ?_|refine gP _ ?_ ?_|refine sN _ ?_ ?_|refine gN _ ?_ ?_)<;>intro hc<;>(first|replace hc:=eqn hc|replace hc:=eqp hc)<;>simp[*,F112,za,chkV,ints])|((first|refine sM _ ?_ ?_|refine gM _ ?_ ?_|refine sB _ ?_ ?_|refine gB _ ?_ ?_)<;>intro hc<;>simp[*,F112,za,chkV,ints])))
  all_goals(try grind)
 by_cases k7:x.kind=7
 ·by_cases hp:0<=zZ u.flows x.name
  ·obtain⟨g,q1,q2,q3,q4⟩:=place_get hp;obtain⟨p1,p2⟩:=hu.pars g q2;have q5:u.flows[(zZ u.flows x.name).toNat]=g:=by simpa[q4]using q1
   have e:zTb u f S x=if 0<=zZ u.flows x.name/\zEb f.types S x.args (pars g)=true then setM f.types S x.outs [g.type]else(false,S):=by simp[zTb,k7,q1]
   have h8:=zGb u f S x.args (pars g) hS (by have:=zlb x;omega);have h9:=set_spec u f S x.outs [g.type] hS (by have:=zlb x;omega);have p3:g.params.toNat<=g.types.length:=by omega
   have p4:¬zZ u.flows x.name<0:=by omega
   simp[chkV,ints,encUnt,za,k7,flows,pars,List.map_take]at h8 h9 h7;clear h0 h1 h2 h3 h4 h5 h6 hu
   (simp[*,F112,za,chkV,ints,flows,zf,pars,List.map_take])<;>(repeat' ((first|refine sP _ ?_ ?_|refine gP _ ?_ ?_|refine sN _ ?_ ?_|refine gN _ ?_ ?_|refine sM _ ?_ ?_|refine gM _ ?_ ?_|refine sB _ ?_ ?_|refine gB _ ?_ ?_)<;>intro hc<;>simp[*,F112,za,chkV,ints,flows,zf,pars,List.map_take]))
  ·have e:zTb u f S x=(false,S):=by
    simp only[zTb,k7];simp;split<;>simp[hp]
   have p4:zZ u.flows x.name<0:=by omega
   (simp[*,F112,za,chkV,ints])<;>(repeat' ((first|refine sP _ ?_ ?_|refine gP _ ?_ ?_|refine sN _ ?_ ?_|refine gN _ ?_ ?_|refine sM _ ?_ ?_|refine gM _ ?_ ?_|refine sB _ ?_ ?_|refine gB _ ?_ ?_)<;>intro hc<;>simp[*,F112,za,chkV,ints]))
 have k3:¬x.kind=3:=fun h=>k34 (.inl h)
 have k4:¬x.kind=4:=fun h=>k34 (.inr h)
 have hs:zTb u f S x=if x.kind=1 then if zEb f.types S x.args []then setM f.types S x.outs [1]else(false,S)
  else if x.kind=2 then if(x.n=0\/x.n=1)/\zEb f.types S x.args []=true then setM f.types S x.outs [2]else(false,S)
  else if x.kind=5 then if zsc u.arrays x.name&&zEb f.types S x.args [1]then setM f.types S x.outs [1]else(false,S)
  else if x.kind=6 then if zsc u.arrays x.name&&zEb f.types S x.args [1,1]then setM f.types S x.outs []else(false,S)
  else if x.kind=8 then if zEb f.types S x.args []then setM f.types S x.outs [1]else(false,S)
  else if x.kind=9 then if zEb f.types S x.args [1]then setM f.types S x.outs []else(false,S)
  else(false,S):=by simp[zTb,k34,k7]
 (simp[*,F112,za,chkV,ints,encUnt])<;>(repeat' ((first|refine sP _ ?_ ?_|refine gP _ ?_ ?_|refine sN _ ?_ ?_|refine gN _ ?_ ?_|refine sM _ ?_ ?_|refine gM _ ?_ ?_|refine sB _ ?_ ?_|refine gB _ ?_ ?_)<;>intro hc<;>simp[*,F112,za,chkV,ints,encUnt]))
 all_goals(try grind)
def listE(l:List Node)(q:Bool×St1):Bool×St1:=if q.1 then(!l.isEmpty,zwd q.2 (l.flatMap Node.outs))else(false,q.2)
def zde(ty:List Int)(x:Node)(q:Bool×St1):Bool×St1:=if q.1&&(decide (x.outs=[])|| !zb x)then allM ty q.2 x.outs else(false,q.2)
def loopE(ty:List Int)(x:Node)(q:Bool×St1):Bool×St1:=if q.1 then(if decide (x.outs=[])|| !zb x then allM ty (zwd q.2 x.params) x.outs else(false,zwd q.2 x.params))else(false,q.2)
mutual
def nodeM(u:Unt)(f:Flow):Node->Place->Int->St1->Bool×St1
 |⟨k,o,n,s,a,us,ps,ks⟩,p,deep,S=>
  if !zca ⟨k,o,n,s,a,us,ps,ks⟩then(false,S)
  else if k=10 then
   if zEb f.types S a [2]then zde f.types ⟨k,o,n,s,a,us,ps,ks⟩ (zrf u f ks {p with inIf:=true,yield:=typesM f.types us} (deep+1) S)else(false,S)
  else if k=11 then
   if zEb f.types S a (typesM f.types ps)then
    if(allM f.types S ps).1 then loopE f.types ⟨k,o,n,s,a,us,ps,ks⟩ (zrf u f ks ⟨false,true,[],typesM f.types ps,typesM f.types us⟩ (deep+1) (allM f.types S ps).2)
    else(false,(allM f.types S ps).2)
   else(false,S)
  else if endK k then(endM f S ⟨k,o,n,s,a,us,ps,ks⟩ p,S)
  else zTb u f S ⟨k,o,n,s,a,us,ps,ks⟩
def zrf(u:Unt)(f:Flow):List (List Node)->Place->Int->St1->Bool×St1
 | [],p,deep,S=>(true,S)
 |l::r,p,deep,S=>if(listE l (goM u f l p deep S)).1 then zrf u f r p deep (listE l (goM u f l p deep S)).2 else(false,(listE l (goM u f l p deep S)).2)
def goM(u:Unt)(f:Flow):List Node->Place->Int->St1->Bool×St1
 | [],p,deep,S=>(true,S)
 |x::r,p,deep,S=>if 100<deep then(false,S)else
   if(nodeM u f x p deep S).1 then(if zb x=r.isEmpty then goM u f r p deep (nodeM u f x p deep S).2 else(false,(nodeM u f x p deep S).2))else(false,(nodeM u f x p deep S).2)
end
def zkc(u:Unt)(f:Flow)(l:List Node)(p:Place)(deep:Int)(S:St1):Bool×St1:=listE l (goM u f l p deep S)
theorem nodeM_eq(u:Unt)(f:Flow)(x:Node)(p:Place)(deep:Int)(S:St1):nodeM u f x p deep S=
  if !zca x then(false,S)
  else if x.kind=10 then
   if zEb f.types S x.args [2]then zde f.types x (zrf u f x.kids {p with inIf:=true,yield:=typesM f.types x.outs} (deep+1) S)else(false,S)
  else if x.kind=11 then
   if zEb f.types S x.args (typesM f.types x.params)then
    if(allM f.types S x.params).1 then loopE f.types x (zrf u f x.kids ⟨false,true,[],typesM f.types x.params,typesM f.types x.outs⟩ (deep+1) (allM f.types S x.params).2)
    else(false,(allM f.types S x.params).2)
   else(false,S)
  else if endK x.kind then(endM f S x p,S)
  else zTb u f S x:=by
 cases x;rw[nodeM]
theorem sumM_len(ty:List Int)(S:St1)(x:Node):(sumM ty S x).2.length=S.length:=by
 unfold sumM;split<;>split<;>simp[zhf]
theorem simpleM_len(u:Unt)(f:Flow)(S:St1)(x:Node):(zTb u f S x).2.length=S.length:=by
 simp only[zTb]
 repeat' split
 all_goals simp[zhf,sumM_len]
theorem choiceE_len(ty:List Int)(x:Node)(q:Bool×St1):(zde ty x q).2.length=q.2.length:=by
 unfold zde;split<;>simp[allM,zhf]
theorem loopE_len(ty:List Int)(x:Node)(q:Bool×St1):(loopE ty x q).2.length=q.2.length:=by
 unfold loopE;split
 ·split<;>simp[allM,zhf,zWe]
 ·rfl
theorem listE_len(l:List Node)(q:Bool×St1):(listE l q).2.length=q.2.length:=by
 unfold listE;split<;>simp[zWe]
mutual
theorem nodeM_len(u:Unt)(f:Flow):∀(x:Node) (p:Place) (deep:Int) (S:St1),(nodeM u f x p deep S).2.length=S.length
 |⟨k,o,n,s,a,us,ps,ks⟩,p,deep,S=>by
  rw[nodeM];split
  ·rfl
  split
  ·split
   ·rw[choiceE_len,kidsM_len u f ks]
   ·rfl
  split
  ·split
   ·split
    ·rw[loopE_len,kidsM_len u f ks];simp[allM,zhf]
    ·simp[allM,zhf]
   ·rfl
  split
  ·rfl
  ·exact simpleM_len _ _ _ _
theorem kidsM_len(u:Unt)(f:Flow):∀(ks:List (List Node)) (p:Place) (deep:Int) (S:St1),(zrf u f ks p deep S).2.length=S.length
 | [],p,deep,S=>rfl
 |l::r,p,deep,S=>by
  rw[zrf];split
  ·rw[kidsM_len u f r,listE_len,goM_len u f l]
  ·simp only;rw[listE_len,goM_len u f l]
theorem goM_len(u:Unt)(f:Flow):∀(l:List Node) (p:Place) (deep:Int) (S:St1),(goM u f l p deep S).2.length=S.length
 | [],p,deep,S=>rfl
 |x::r,p,deep,S=>by
  rw[goM];split
  ·rfl
  split
  ·split
   ·rw[goM_len u f r,nodeM_len u f x]
   ·exact nodeM_len u f x p deep S
  ·exact nodeM_len u f x p deep S
end
theorem listM_len(u:Unt)(f:Flow)(l:List Node)(p:Place)(deep:Int)(S:St1):(zkc u f l p deep S).2.length=S.length:=by
 unfold zkc;rw[listE_len,goM_len]
theorem eqGo_setG_ok{ty:List Int}:∀{l:List (Int×Int)} {S:St1},(eqGo (setG ty) S l).1=true->∀q∈l,0<=q.1/\q.1<ty.length
 | [],S,_,q,hq=>by cases hq
 |p::r,S,h,q,hq=>by
  simp only[eqGo]at h;split at h
  ·rename_i hp;rcases yA.1 hq with rfl|hq
   ·unfold setG at hp;split at hp
    ·rename_i hv;simp only[ya]at hv;exact zBa hv.1
    ·cases hp
   ·exact eqGo_setG_ok h q hq
  ·cases h
theorem setM_ok{ty:List Int}{S:St1}{l ts:List Int}(h:(setM ty S l ts).1=true):∀v∈l,0<=v/\v<ty.length:=by
 unfold setM eqM at h;split at h
 ·rename_i hl;intro v hv;have:=eqGo_setG_ok h;obtain⟨i,hi,rfl⟩:=List.getElem_of_mem hv;exact this (l[i],ts[i]) (List.mem_iff_getElem.2 ⟨i,by simp;omega,by simp⟩)
 ·cases h
theorem nodeM_outs{u:Unt}{f:Flow}{x:Node}{p:Place}{deep:Int}{S:St1}(h:(nodeM u f x p deep S).1=true):∀v∈x.outs,0<=v/\v<f.types.length:=by
 rw[nodeM_eq]at h;split at h
 ·cases h
 split at h
 ·split at h
  ·unfold zde at h;split at h
   ·exact setM_ok h
   ·cases h
  ·cases h
 split at h
 ·split at h
  ·split at h
   ·unfold loopE at h;split at h
    ·split at h
     ·exact setM_ok h
     ·cases h
    ·cases h
   ·cases h
  ·cases h
 split at h
 ·simp only[endM,ya,decide_eq_true_eq]at h;rw[h.1];simp
 ·simp only[zTb]at h
  repeat' split at h
  all_goals first|(cases h;done)|exact setM_ok h|skip
  all_goals
   simp only[sumM]at h
   repeat' split at h
   all_goals first|(cases h;done)|exact setM_ok h
theorem kidsM_nil(u:Unt)(f:Flow)(p:Place)(deep:Int)(S:St1):zrf u f [] p deep S=(true,S):=by rw[zrf]
theorem kidsM_cons(u:Unt)(f:Flow)(l:List Node)(r:List (List Node))(p:Place)(deep:Int)(S:St1):zrf u f (l::r) p deep S=if(zkc u f l p deep S).1 then zrf u f r p deep (zkc u f l p deep S).2 else(false,(zkc u f l p deep S).2):=by rw[zrf];rfl
def ListOk(u:Unt)(f:Flow)(deep:Int)(l:List Node):Prop:=∀p S,S.length=f.types.length→
 zk E 59 [chkV u f f.types.length,zh l,zg p,.int .i64 deep] [stO S]=some (.ret (.bool (zkc u f l p deep S).1),[stO (zkc u f l p deep S).2])
theorem choice_spec(u:Unt)(f:Flow)(S:St1)(x:Node)(p:Place)(deep:Int)(hS:S.length=f.types.length)(hx:wtN x<1099511627776)(hk:x.kids.length=2)(hl:∀l∈x.kids,ListOk u f deep l):
  zk E 109 [chkV u f f.types.length,zK x,zg p,.int .i64 deep] [stO S]=
   let q:=if zEb f.types S x.args [2]then zde f.types x (zrf u f x.kids {p with inIf:=true,yield:=typesM f.types x.outs} deep S)else(false,S)
   some (.ret (.bool q.1),[stO q.2]):=by
 refine zc rfl rfl rfl (by simp[za,chkV,zg]) ?_;have hw:=zlb x;obtain⟨a,b,hab⟩:∃a b,x.kids=[a,b]:=by
  match hh:x.kids with
  | []=>rw[hh]at hk;cases hk
  | [_]=>rw[hh]at hk;cases hk
  | [a,b]=>exact⟨a,b,rfl⟩
  |_::_::_::_=>rw[hh]at hk;simp at hk
 generalize hp':({p with inIf:=true,yield:=typesM f.types x.outs}:Place)=p';have e1:p'.inIf=true:=by rw[<-hp']
 have e2:p'.inLoop=p.inLoop:=by rw[<-hp']
 have e3:p'.yield=typesM f.types x.outs:=by rw[<-hp']
 have e4:p'.next=p.next:=by rw[<-hp']
 have e5:p'.left=p.left:=by rw[<-hp']
 have h0:=types_spec u f f.types.length x.outs [stO S] (by omega);have h1:=zGb u f S x.args [2] hS (by omega);have h2:=hl a (by rw[hab];simp) p' S hS;have hS2:(zkc u f a p' deep S).2.length=f.types.length:=by rw[listM_len];exact hS
 have h3:=hl b (by rw[hab];simp) p' _ hS2;have hS3:(zkc u f b p' deep (zkc u f a p' deep S).2).2.length=f.types.length:=by rw[listM_len];exact hS2
 have h4:=all_spec u f _ x.outs hS3 (by omega);have h5:=zXb x [] hx;have ho:decide ((x.outs.length:Int)=0)=decide (x.outs=[]):=by simp
 have ek:zrf u f [a,b] p' deep S=if(zkc u f a p' deep S).1 then if(zkc u f b p' deep (zkc u f a p' deep S).2).1 then(true,(zkc u f b p' deep (zkc u f a p' deep S).2).2)else(false,(zkc u f b p' deep (zkc u f a p' deep S).2).2)else(false,(zkc u f a p' deep S).2):=by
  rw[kidsM_cons,kidsM_cons,kidsM_nil]
 simp[chkV,ints,za,zg,kids,hab,e1,e2,e3,e4,e5]at h0 h1 h2 h3 h4 h5;generalize zkc u f a p' deep S=ra at*;generalize zkc u f b p' deep ra.2=rb at*;clear hw hl;simp only[hab]
 (simp[*,F109,za,chkV,ints,zg,kids,zde])<;>(repeat' (first|((first|refine sP _ ?_ ?_|refine gP _ ?_ ?_|refine sN _ ?_ ?_|refine gN _ ?_ ?_)<;>intro hc<;>(first|replace hc:=eqn hc|replace hc:=eqp hc)<;>simp[*,F109,za,chkV,ints,zg,kids,zde])|((first|refine sM _ ?_ ?_|refine gM _ ?_ ?_|refine sB _ ?_ ?_|refine gB _ ?_ ?_)<;>intro hc<;>simp[*,F109,za,chkV,ints,zg,kids,zde])))
 all_goals(try grind)
theorem loop_spec(u:Unt)(f:Flow)(S:St1)(x:Node)(deep:Int)(hS:S.length=f.types.length)(hx:wtN x<1099511627776)(hk:x.kids.length=1)(hl:∀l∈x.kids,ListOk u f deep l):
  zk E 110 [chkV u f f.types.length,zK x,.int .i64 deep] [stO S]=
   let q:=if zEb f.types S x.args (typesM f.types x.params)then
     if(allM f.types S x.params).1 then loopE f.types x (zrf u f x.kids ⟨false,true,[],typesM f.types x.params,typesM f.types x.outs⟩ deep (allM f.types S x.params).2)
     else(false,(allM f.types S x.params).2)
    else(false,S)
   some (.ret (.bool q.1),[stO q.2]):=by
 refine zc rfl rfl rfl (by simp[za,chkV,zg]) ?_;have hw:=zlb x;obtain⟨a,hab⟩:∃a,x.kids=[a]:=by
  match hh:x.kids with
  | []=>rw[hh]at hk;cases hk
  | [a]=>exact⟨a,rfl⟩
  |_::_::_=>rw[hh]at hk;simp at hk
 generalize hp':(⟨false,true,[],typesM f.types x.params,typesM f.types x.outs⟩:Place)=p';have e1:p'.inIf=false:=by rw[<-hp']
 have e2:p'.inLoop=true:=by rw[<-hp']
 have e3:p'.yield=[]:=by rw[<-hp']
 have e4:p'.next=typesM f.types x.params:=by rw[<-hp']
 have e5:p'.left=typesM f.types x.outs:=by rw[<-hp']
 have h0:=types_spec u f f.types.length x.outs [stO S] (by omega);have h0':=types_spec u f f.types.length x.params [stO S] (by omega);have h1:=zGb u f S x.args (typesM f.types x.params) hS (by omega);have h6:=all_spec u f S x.params hS (by omega);have hS1:(allM f.types S x.params).2.length=f.types.length:=by simp only[allM,zhf];exact hS
 have h2:=hl a (by rw[hab];simp) p' _ hS1;have hS2:(zkc u f a p' deep (allM f.types S x.params).2).2.length=f.types.length:=by rw[listM_len];exact hS1
 have h5:=zXb x [] hx;have ho:decide ((x.outs.length:Int)=0)=decide (x.outs=[]):=by simp
 have ek:zrf u f [a] p' deep (allM f.types S x.params).2=if(zkc u f a p' deep (allM f.types S x.params).2).1 then(true,(zkc u f a p' deep (allM f.types S x.params).2).2)else(false,(zkc u f a p' deep (allM f.types S x.params).2).2):=by
  rw[kidsM_cons,kidsM_nil]
 cases hok:(allM f.types S x.params).1
 ·simp[chkV,ints,za,zg,kids,hab,e1,e2,e3,e4,e5,hok]at h0 h0' h1 h2 h5 h6;clear hw hl;simp only[hab]
  (simp[*,F110,za,chkV,ints,zg,kids,loopE])<;>(repeat' (first|((first|refine sP _ ?_ ?_|refine gP _ ?_ ?_|refine sN _ ?_ ?_|refine gN _ ?_ ?_)<;>intro hc<;>(first|replace hc:=eqn hc|replace hc:=eqp hc)<;>simp[*,F110,za,chkV,ints,zg,kids,loopE])|((first|refine sM _ ?_ ?_|refine gM _ ?_ ?_|refine sB _ ?_ ?_|refine gB _ ?_ ?_)<;>intro hc<;>simp[*,F110,za,chkV,ints,zg,kids,loopE])))
  all_goals(try grind)
 ·have h7:=hide_spec u f _ x.params hS2 (by omega) (setM_ok hok);have hS3:(zwd (zkc u f a p' deep (allM f.types S x.params).2).2 x.params).length=f.types.length:=by rw[zWe];exact hS2
  have h4:=all_spec u f _ x.outs hS3 (by omega);simp[chkV,ints,za,zg,kids,hab,e1,e2,e3,e4,e5,hok]at h0 h0' h1 h2 h4 h5 h6 h7;generalize zkc u f a p' deep (allM f.types S x.params).2=ra at*;clear hw hl;simp only[hab]
  (simp[*,F110,za,chkV,ints,zg,kids,loopE])<;>(repeat' (first|((first|refine sP _ ?_ ?_|refine gP _ ?_ ?_|refine sN _ ?_ ?_|refine gN _ ?_ ?_)<;>intro hc<;>(first|replace hc:=eqn hc|replace hc:=eqp hc)<;>simp[*,F110,za,chkV,ints,zg,kids,loopE])|((first|refine sM _ ?_ ?_|refine gM _ ?_ ?_|refine sB _ ?_ ?_|refine gB _ ?_ ?_)<;>intro hc<;>simp[*,F110,za,chkV,ints,zg,kids,loopE])))
  all_goals(try grind)
theorem node_spec(u:Unt)(f:Flow)(S:St1)(x:Node)(p:Place)(deep:Int)(hu:UOk u)(hS:S.length=f.types.length)(hx:wtN x<1099511627776)(hd:0<=deep/\deep<=100)(hl:∀l∈x.kids,ListOk u f (deep+1) l):
  zk E 85 [chkV u f f.types.length,zK x,zg p,.int .i64 deep] [stO S]=some (.ret (.bool (nodeM u f x p deep S).1),[stO (nodeM u f x p deep S).2]):=by
 refine zc rfl rfl rfl (by simp[za,chkV,zg]) ?_;have hw:zW .i64 (deep+1)=deep+1:=zm (by omega) (by omega);have h0:=bare_spec x;have h1:=ends_raw x.kind;have h2:=end_spec u f S x p hS hx;have h3:=simple_spec u f S x hu hS hx;have he:=nodeM_eq u f x p deep S;rw[he];clear he;have hb:zca x=true->(x.kids.length:Int)=zXa x.kind:=by
  intro h;simp only[zca,ya,decide_eq_true_eq]at h;exact h.2
 cases hbx:zca x
 ·simp[chkV,za,zg,hbx]at h0 h2 h3;clear hl hb
  (simp[*,F85,za,chkV,zg])<;>(repeat' (first|((first|refine sP _ ?_ ?_|refine gP _ ?_ ?_|refine sN _ ?_ ?_|refine gN _ ?_ ?_)<;>intro hc<;>(first|replace hc:=eqn hc|replace hc:=eqp hc)<;>simp[*,F85,za,chkV,zg])|((first|refine sM _ ?_ ?_|refine gM _ ?_ ?_|refine sB _ ?_ ?_|refine gB _ ?_ ?_)<;>intro hc<;>simp[*,F85,za,chkV,zg])))
 have hb:=hb hbx;by_cases h10:x.kind=10
 ·have hk:x.kids.length=2:=by simp[zXa,h10]at hb;omega
  have h4:=choice_spec u f S x p (deep+1) hS hx hk hl;simp[chkV,za,zg,hbx,h10]at h0 h2 h3 h4;clear hl hb
  (simp[*,F85,za,chkV,zg])<;>(repeat' ((first|refine sP _ ?_ ?_|refine gP _ ?_ ?_|refine sN _ ?_ ?_|refine gN _ ?_ ?_|refine sM _ ?_ ?_|refine gM _ ?_ ?_|refine sB _ ?_ ?_|refine gB _ ?_ ?_)<;>intro hc<;>simp[*,F85,za,chkV,zg]))
 by_cases h11:x.kind=11
 ·have hk:x.kids.length=1:=by simp[zXa,h11]at hb;omega
  have h4:=loop_spec u f S x (deep+1) hS hx hk hl;simp[chkV,za,zg,hbx,h11]at h0 h2 h3 h4;clear hl hb
  (simp[*,F85,za,chkV,zg])<;>(repeat' ((first|refine sP _ ?_ ?_|refine gP _ ?_ ?_|refine sN _ ?_ ?_|refine gN _ ?_ ?_|refine sM _ ?_ ?_|refine gM _ ?_ ?_|refine sB _ ?_ ?_|refine gB _ ?_ ?_)<;>intro hc<;>simp[*,F85,za,chkV,zg]))
 simp[chkV,za,zg,hbx]at h0 h2 h3;clear hl hb;cases hek:endK x.kind
 ·(simp[*,F85,za,chkV,zg])<;>(repeat' ((first|refine sP _ ?_ ?_|refine gP _ ?_ ?_|refine sN _ ?_ ?_|refine gN _ ?_ ?_|refine sM _ ?_ ?_|refine gM _ ?_ ?_|refine sB _ ?_ ?_|refine gB _ ?_ ?_)<;>intro hc<;>simp[*,F85,za,chkV,zg]))
 ·(simp[*,F85,za,chkV,zg])<;>(repeat' ((first|refine sP _ ?_ ?_|refine gP _ ?_ ?_|refine sN _ ?_ ?_|refine gN _ ?_ ?_|refine sM _ ?_ ?_|refine gM _ ?_ ?_|refine sB _ ?_ ?_|refine gB _ ?_ ?_)<;>intro hc<;>simp[*,F85,za,chkV,zg]))
def sdM(u:Unt)(f:Flow)(p:Place)(deep:Int)(S:St1)(d:List Node):St1:=d.foldl (fun S x=>(nodeM u f x p deep S).2) S
theorem sdM_snoc(u:Unt)(f:Flow)(p:Place)(deep:Int)(S:St1)(d:List Node)(x:Node):sdM u f p deep S (d++[x])=(nodeM u f x p deep (sdM u f p deep S d)).2:=by simp[sdM]
theorem sdM_len(u:Unt)(f:Flow)(p:Place)(deep:Int)(d:List Node):∀S:St1,(sdM u f p deep S d).length=S.length:=by
 induction d with
 |nil=>intro S;rfl
 |cons x r ih=>intro S;simp only[sdM,yU];rw[<-sdM,ih,nodeM_len]
section
variable (u:Unt) (f:Flow) (n:Nat)
@[simp] theorem strip_chk:strip (chkV u f n)=chkV u f n:=ye rfl rfl
@[simp] theorem stripA_chk:stripA (chkV u f n)=chkV u f n:=ye rfl rfl
@[simp] theorem isVar_chk:zJ (chkV u f n)=true:=ye rfl rfl
end
@[simp] theorem avoids_chk(dead:List Nat)(u:Unt)(f:Flow)(n:Nat):zwe dead (chkV u f n)=true:=ye rfl rfl
theorem split_of{α:Type}{l d r:List α}{x:α}(h:Split l d x r):∀{r'},l=d++r'->r'=x::r:=by
 intro r' h';have:=h.eq;rw[h']at this;exact List.append_cancel_left this
theorem split_last{α:Type}{l d r:List α}{x:α}(h:Split l d x r):decide ((d.length:Int)=(l.length:Int)-1)=r.isEmpty:=by
 have:=congrArg List.length h.eq;simp at this;cases r with
 |nil=>simp at this ⊢;omega
 |cons y t=>simp at this ⊢;omega
theorem list_spec(u:Unt)(f:Flow)(hu:UOk u):∀(N:Nat) (l:List Node) (deep:Int),wtL l<=N->N<1099511627776->0<=deep->deep<=101->ListOk u f deep l:=by
 intro N
 induction N using ysa with
 |ind N ih=>
  intro l deep hl hN hd0 hd1 p S hS;refine zc rfl rfl rfl (by simp[chkV,zg]) ?_;have hll:=zlc l;simp[F59,zg,zh];refine zG l K59_0 B59_0 (fun d=>[(15,.int .i64 d.length)]) (fun d=>[stO (sdM u f p deep S d)]) (fun d=>(∃r,l=d++r/\goM u f l p deep S=goM u f r p deep (sdM u f p deep S d))/\∀y∈d,∀v∈y.outs,0<=v/\v<f.types.length) (by omega) (by simp[sdM]) ?_ ?_
  ·rintro d x r s hl' hlt hget hget' hw ⟨⟨r',hr1,hr2⟩,hp⟩ h1 h2 h3 h4
   have:=split_of hl' hr1;subst this;simp at h1 h2 h3;have hwx:=zHe hl'.mem;have hS1:(sdM u f p deep S d).length=f.types.length:=by rw[sdM_len];exact hS
   rw[goM]at hr2;have hsn:=sdM_snoc u f p deep S d x;have hlast:=split_last hl';have hw2:zW .i64 ((l.length:Int)-1)=(l.length:Int)-1:=zm (by omega) (by omega);have hc:=zXb x [] (by omega);have hout:=nodeM_outs (u:=u) (f:=f) (x:=x) (p:=p) (deep:=deep) (S:=sdM u f p deep S d);have hlm:zkc u f l p deep S=listE l (goM u f l p deep S):=rfl;by_cases hdeep:100<deep
   ·have e:zkc u f l p deep S=(false,sdM u f p deep S d):=by rw[hlm,hr2,if_pos hdeep];rfl
    clear ih hout hr1 hlm
    (simp[*,za,zh])<;>(repeat' (first|((first|refine sP _ ?_ ?_|refine gP _ ?_ ?_|refine sN _ ?_ ?_|refine gN _ ?_ ?_)<;>intro hc<;>(first|replace hc:=eqn hc|replace hc:=eqp hc)<;>simp[*,za,zh])|((first|refine sM _ ?_ ?_|refine gM _ ?_ ?_|refine sB _ ?_ ?_|refine gB _ ?_ ?_)<;>intro hc<;>simp[*,za,zh])))
   have hn:=node_spec u f (sdM u f p deep S d) x p deep hu hS1 (by omega) (by omega) (fun k hk=>by
    have:=zld hk;exact ih (wtL k) (by omega) k (deep+1) (yg _) (by omega) (by omega) (by omega))
   rw[if_neg hdeep]at hr2;simp[za,zg]at hn hc;generalize hq:nodeM u f x p deep (sdM u f p deep S d)=q at*;cases hq1:q.1
   ·rw[hq1]at hr2 hn;have e:zkc u f l p deep S=(false,q.2):=by rw[hlm,hr2];rfl
    clear ih hout hr1 hlm
    (simp[*,za,zh])<;>(repeat' (first|((first|refine sP _ ?_ ?_|refine gP _ ?_ ?_|refine sN _ ?_ ?_|refine gN _ ?_ ?_)<;>intro hc<;>(first|replace hc:=eqn hc|replace hc:=eqp hc)<;>simp[*,za,zh])|((first|refine sM _ ?_ ?_|refine gM _ ?_ ?_|refine sB _ ?_ ?_|refine gB _ ?_ ?_)<;>intro hc<;>simp[*,za,zh])))
   rw[hq1]at hr2 hn;simp at hr2;by_cases hcl:zb x=r.isEmpty
   ·rw[if_pos hcl]at hr2;have hout':=hout hq1;clear ih hout hc hr1 hlm;have hc:=zXb x [] (by omega);simp[za]at hc;rw[hcl]at hc;have e:∃r',l=d++([x]++r')/\goM u f l p deep S=goM u f r' p deep q.2:=⟨r,by rw[hl'.eq];rfl,hr2⟩
    have e':∃r',l=d++x::r'/\goM u f l p deep S=goM u f r' p deep q.2:=⟨r,by rw[hl'.eq],hr2⟩
    (simp[*,za,zh])<;>(repeat' (first|((first|refine sP _ ?_ ?_|refine gP _ ?_ ?_|refine sN _ ?_ ?_|refine gN _ ?_ ?_)<;>intro hc<;>(first|replace hc:=eqn hc|replace hc:=eqp hc)<;>simp[*,za,zh])|((first|refine sM _ ?_ ?_|refine gM _ ?_ ?_|refine sB _ ?_ ?_|refine gB _ ?_ ?_)<;>intro hc<;>simp[*,za,zh])))
    all_goals(try grind)
   ·rw[if_neg hcl]at hr2;have e:zkc u f l p deep S=(false,q.2):=by rw[hlm,hr2];rfl
    clear ih hout hr1 hlm
    (simp[*,za,zh])<;>(repeat' (first|((first|refine sP _ ?_ ?_|refine gP _ ?_ ?_|refine sN _ ?_ ?_|refine gN _ ?_ ?_)<;>intro hc<;>(first|replace hc:=eqn hc|replace hc:=eqp hc)<;>simp[*,za,zh])|((first|refine sM _ ?_ ?_|refine gM _ ?_ ?_|refine sB _ ?_ ?_|refine gB _ ?_ ?_)<;>intro hc<;>simp[*,za,zh])))
    all_goals exact absurd (of_eq_true (by assumption)) hcl
  ·rintro s ⟨⟨r',hr1,hr2⟩,hp⟩ h1 h2 h3 h4
   have:r'=[]:=by
    have:=congrArg List.length hr1;simp at this;exact this
   subst this;simp at h1 h2 h3;rw[goM]at hr2;have hlm:zkc u f l p deep S=(!l.isEmpty,zwd (sdM u f p deep S l) (l.flatMap Node.outs)):=by
    show listE l (goM u f l p deep S)=_
    rw[hr2];rfl
   clear ih hr1;simp[*,zg,zh];refine zG l K59_1 B59_1 (fun d=>[(43,.int .i64 d.length)]) (fun d=>[stO (zwd (sdM u f p deep S l) (d.flatMap Node.outs))]) (fun d=>True) (by omega) (by simp[zwd]) ?_ ?_
   ·intros d x r s' hl' hlt hget hget' hw _ h1' h2' h3' h4';have hwx:=zHe hl'.mem;have hxe:=zlb x;have hh:=hide_spec u f (zwd (sdM u f p deep S l) (d.flatMap Node.outs)) x.outs (by rw[zWe,sdM_len];exact hS) (by omega) (hp x hl'.mem);have hh2:zwd (zwd (sdM u f p deep S l) (d.flatMap Node.outs)) x.outs=zwd (sdM u f p deep S l) (d.flatMap Node.outs++x.outs):=by simp[zwd]
    rw[hh2]at hh;simp at h1' h3';clear h2' hp h1 h2
    (simp[*,za,zh])<;>(repeat' (first|((first|refine sP _ ?_ ?_|refine gP _ ?_ ?_|refine sN _ ?_ ?_|refine gN _ ?_ ?_)<;>intro hc<;>(first|replace hc:=eqn hc|replace hc:=eqp hc)<;>simp[*,za,zh])|((first|refine sM _ ?_ ?_|refine gM _ ?_ ?_|refine sB _ ?_ ?_|refine gB _ ?_ ?_)<;>intro hc<;>simp[*,za,zh])))
   ·intros s' _ h1' h2' h3' h4';simp at h1' h3';clear h2' hp h1 h2;have hz:decide (0<l.length)= !l.isEmpty:=by cases l<;>simp
    (simp[*,zh])<;>(repeat' (first|((first|refine sP _ ?_ ?_|refine gP _ ?_ ?_|refine sN _ ?_ ?_|refine gN _ ?_ ?_)<;>intro hc<;>(first|replace hc:=eqn hc|replace hc:=eqp hc)<;>simp[*,zh])|((first|refine sM _ ?_ ?_|refine gM _ ?_ ?_|refine sB _ ?_ ?_|refine gB _ ?_ ?_)<;>intro hc<;>simp[*,zh])))
def tyOk(t:Int):Bool:=decide (t=1)||decide (t=2)
theorem isType_spec(t:Int)(σ:zd):zk E 55 [.int .i64 t] σ=some (.ret (.bool (tyOk t)),σ):=by
 refine zc rfl rfl rfl (by simp) ?_
 (simp[*,F55,tyOk])<;>(repeat' ((first|refine sP _ ?_ ?_|refine gP _ ?_ ?_|refine sN _ ?_ ?_|refine gN _ ?_ ?_|refine sM _ ?_ ?_|refine gM _ ?_ ?_|refine sB _ ?_ ?_|refine gB _ ?_ ?_)<;>intro hc<;>simp[*,F55,tyOk]))
theorem notType_spec(t:Int)(σ:zd):zk E 58 [.int .i64 t] σ=some (.ret (.bool (!tyOk t)),σ):=by
 refine zc rfl rfl rfl (by simp) ?_
 (simp[*,F58,isType_spec])<;>(repeat' ((first|refine sP _ ?_ ?_|refine gP _ ?_ ?_|refine sN _ ?_ ?_|refine gN _ ?_ ?_|refine sM _ ?_ ?_|refine gM _ ?_ ?_|refine sB _ ?_ ?_|refine gB _ ?_ ?_)<;>intro hc<;>simp[*,F58,isType_spec]))
def initM(f:Flow)(k:Nat):St1:=yf k 1++yf (f.types.length-k) 0
def zQa:Place:=⟨false,false,[],[],[]⟩
def flowM(u:Unt)(f:Flow):Bool:=
 !(decide (8<f.params)||decide (20000<f.types.length)||f.types.any (fun t=> !tyOk t))&&(zkc u f f.body zQa 1 (initM f f.params.toNat)).1
theorem initM_len(f:Flow)(k:Nat)(h:k<=f.types.length):(initM f k).length=f.types.length:=by simp[initM];omega
theorem initM_set(f:Flow)(k:Nat)(h:k<f.types.length):(initM f k).set k 1=initM f (k+1):=by
 unfold initM;have:f.types.length-k=(f.types.length-(k+1))+1:=by omega
 rw[this,List.replicate_succ,yGa _ _ (by simp)];simp[List.replicate_succ']
theorem flow_spec(u:Unt)(f:Flow)(hu:UOk u)(hp:0<=f.params/\f.params<=f.types.length)(ht:f.types.length<1099511627776)(hb:wtL f.body<1099511627776):
  zk E 39 [encUnt u,zf f] []=some (.ret (.bool (flowM u f)),[]):=by
 refine zc rfl rfl rfl (by simp[encUnt,zf]) ?_;have h1:=containsFuncInt f.types (fun t=> !tyOk t) 58 [] [] [] ht (by simp) (fun x _=>notType_spec x []);have h2:=list_spec u f hu (wtL f.body) f.body 1 (yg _) hb (by omega) (by omega) zQa (initM f f.params.toNat) (initM_len f _ (by omega));simp[zg,zQa]at h2;have ho:decide ((20000:Int)<f.types.length)=decide (20000<f.types.length):=by simp;omega
 have l1:(0:Int)<=(f.types.length:Int):=by omega
 have l2:(f.types.length:Int)<=9223372036854775807:=by omega
 have l3:8*(f.types.length:Int)<=281474976710656:=by omega
 (simp[*,F39,encUnt,zf,ints,flowM,zQa])<;>(repeat' (first|((first|refine sP _ ?_ ?_|refine gP _ ?_ ?_|refine sN _ ?_ ?_|refine gN _ ?_ ?_)<;>intro hc<;>(first|replace hc:=eqn hc|replace hc:=eqp hc)<;>simp[*,F39,encUnt,zf,ints,flowM,zQa])|((first|refine sM _ ?_ ?_|refine gM _ ?_ ?_|refine sB _ ?_ ?_|refine gB _ ?_ ?_)<;>intro hc<;>simp[*,F39,encUnt,zf,ints,flowM,zQa])))
 all_goals first
  |refine zG (yaa f.params.toNat) K39_0 B39_0 (fun d=>[(31,.int .i64 d.length)]) (fun d=>[stO (initM f d.length)]) (fun _=>True) (by simp;omega) (by simp[initM,stO]) ?_ ?_
  |(try grind)
 ·intros d x r s hl' hlt hget hget' hw _ q1 q2 q3 q4;simp at hlt;have e1:(d.length:Int)<f.params:=by omega
  have e2:d.length<f.types.length:=by omega
  have e3:=initM_set f d.length e2;have e4:=initM_len f d.length (by omega);have e5:(initM f (d.length+1)).map (PV.int .i64)=((initM f d.length).map (PV.int .i64)).set d.length (.int .i64 1):=by rw[<-e3,yxa]
  simp at q1 q2 q3 q4;clear h1 h2 hget hget' e3
  (simp[*,zf,ints,zN,zRa,stO])<;>(repeat' (first|((first|refine sP _ ?_ ?_|refine gP _ ?_ ?_|refine sN _ ?_ ?_|refine gN _ ?_ ?_)<;>intro hc<;>(first|replace hc:=eqn hc|replace hc:=eqp hc)<;>simp[*,zf,ints,zN,zRa,stO])|((first|refine sM _ ?_ ?_|refine gM _ ?_ ?_|refine sB _ ?_ ?_|refine gB _ ?_ ?_)<;>intro hc<;>simp[*,zf,ints,zN,zRa,stO])))
 ·intros s _ q1 q2 q3 q4;have e0:(f.params.toNat:Int)=f.params:=by omega
  simp at q1 q2 q3 q4;clear h1;simp[chkV,ints,flowM,zQa,stO]at h2
  (simp[*,zf,ints,stO])<;>(repeat' (first|((first|refine sP _ ?_ ?_|refine gP _ ?_ ?_|refine sN _ ?_ ?_|refine gN _ ?_ ?_)<;>intro hc<;>(first|replace hc:=eqn hc|replace hc:=eqp hc)<;>simp[*,zf,ints,stO])|((first|refine sM _ ?_ ?_|refine gM _ ?_ ?_|refine sB _ ?_ ?_|refine gB _ ?_ ?_)<;>intro hc<;>simp[*,zf,ints,stO])))
  all_goals(try grind)
def bump:List (List UInt8×Int)->List UInt8->List (List UInt8×Int)
 | [],s=>[(s,yba .i64 (0+1))]
 |(k,v)::r,s=>if s=k then(s,yba .i64 (v+1))::r else(k,v)::bump r s
def bumps(l:List (List UInt8)):List (List UInt8×Int):=l.foldl bump []
def encM(m:List (List UInt8×Int)):List (PV×PV):=m.map fun p=>(.str p.1,.int .i64 p.2)
def findC(s:List UInt8):List (List UInt8×Int)->Option Int
 | []=>none
 |(k,v)::r=>if s=k then some v else findC s r
theorem mapFind_enc(s:List UInt8):∀m,zya true (.str s) (encM m)=some ((findC s m).map (PV.int .i64))
 | []=>rfl
 |(k,v)::r=>by
  have ih:=mapFind_enc s r;simp only[encM]at ih;simp only[encM,yR,zya,zDd,findC];by_cases h:s=k
  ·simp[h]
  ·simp[h,ih]
theorem mapSet_enc(s:List UInt8):∀m,zMc true (.str s) (.int .i64 (zW .i64 ((findC s m).getD 0+1))) (encM m)=some (encM (bump m s))
 | []=>by simp[encM,zMc,findC,bump,zY]
 |(k,v)::r=>by
  have ih:=mapSet_enc s r;simp only[encM]at ih;simp only[encM,yR,zMc,zDd,findC,bump];by_cases h:s=k
  ·simp[h,zY]
  ·simp[h,ih]
theorem bump_keys(s:List UInt8):∀m,(bump m s).map yUa=if s∈m.map yUa then m.map yUa else m.map yUa++[s]
 | []=>by simp[bump]
 |(k,v)::r=>by
  have ih:=bump_keys s r;simp only[bump];by_cases h:s=k
  ·simp[h]
  ·simp only[h,if_false,yR,ih,yA,false_or];split<;>simp
def dist(l:List (List UInt8)):List (List UInt8):=l.foldl (fun d s=>if s∈d then d else d++[s]) []
theorem bumps_keys(l:List (List UInt8)):(bumps l).map yUa=dist l:=by
 have:∀(l:List (List UInt8)) m,(l.foldl bump m).map yUa=l.foldl (fun d s=>if s∈d then d else d++[s]) (m.map yUa):=by
  intro l
  induction l with
  |nil=>intro m;rfl
  |cons s r ih=>intro m;simp only[yU,ih,bump_keys]
 exact this l []
theorem dist_nodup(l:List (List UInt8)):decide ((dist l).length=l.length)=decide l.Nodup:=by
 have key:∀(l d:List (List UInt8)),d.Nodup->(l.foldl (fun d s=>if s∈d then d else d++[s]) d).length<=d.length+l.length∧
   ((l.foldl (fun d s=>if s∈d then d else d++[s]) d).length=d.length+l.length<->(d++l).Nodup):=by
  intro l
  induction l with
  |nil=>intro d hd;simp[hd]
  |cons s r ih=>
   intro d hd;simp only[yU];by_cases h:s∈d
   ·rw[if_pos h];obtain⟨h1,h2⟩:=ih d hd;refine⟨by simp;omega,⟨fun e=>by simp at e;omega,fun e=>?_⟩⟩;rw[List.nodup_append]at e;exact absurd rfl (e.2.2 s h s (by simp))
   ·rw[if_neg h];have hd':(d++[s]).Nodup:=by
     rw[List.nodup_append];exact⟨hd,by simp,fun a ha b hb e=>by simp at hb;subst hb;subst e;exact h ha⟩
    obtain⟨h1,h2⟩:=ih (d++[s]) hd';refine⟨by simp at h1 ⊢;omega,?_⟩;rw[show d++s::r=d++[s]++r by simp,<-h2];simp;omega
 have:=(key l [] (by simp)).2;simp only[yqa,yea,yX]at this;unfold dist;simp only[decide_eq_decide];exact this
theorem bumps_snoc(l:List (List UInt8))(s:List UInt8):bumps (l++[s])=bump (bumps l) s:=by simp[bumps]
theorem encM_len(m:List (List UInt8×Int)):(encM m).length=(m.map yUa).length:=by simp[encM]
def zzd(u:Unt):List (List UInt8):=u.arrays.map Arr.name++u.flows.map Flow.name
def zCf(a:Arr):Bool:=nameM a.name&&decide (1<=a.size)&&decide (a.size<=1000)
def zqd(f:Flow):Bool:=nameM f.name&&tyOk f.type&&decide (0<=f.params)&&decide (f.params<=f.types.length)
def zw:List UInt8:=[109,97,105,110]
def zWd(u:Unt):Bool:=match u.flows[(zZ u.flows zw).toNat]? with
 |some g=>decide (0<=zZ u.flows zw)&&decide (g.type=1)&&decide (g.params=0)
 |none=>false
def zcd(u:Unt):Bool:=u.arrays.all zCf&&u.flows.all zqd&&decide (zzd u).Nodup&&zWd u
theorem findC_cases(s:List UInt8)(m:List (List UInt8×Int)):∃o,findC s m=o/\zya true (.str s) (encM m)=some (o.map (PV.int .i64))/\zMc true (.str s) (.int .i64 (zW .i64 (o.getD 0+1))) (encM m)=some (encM (bump m s)):=
 ⟨_,rfl,mapFind_enc s m,mapSet_enc s m⟩
theorem head_spec(u:Unt)(hu1:u.arrays.length<1099511627776)(hu2:u.flows.length<1099511627776):zk E 38 [encUnt u] []=some (.ret (.bool (zcd u)),[]):=by
 refine zc rfl rfl rfl (by simp[encUnt]) ?_;simp[F38,encUnt,arrs];refine zG u.arrays K38_0 B38_0 (fun d=>[(13,.int .i64 d.length)]) (fun d=>[.mp (encM (bumps (d.map Arr.name)))]) (fun d=>d.all zCf=true) (by omega) (by simp[bumps,encM]) ?_ ?_
 ·intros d x r s hl' hlt hget hget' hw hp h1 h2 h3 h4;simp at h1 h2 h3;have hn:=name_spec x.name [];have hall:u.arrays.all zCf=(d.all zCf&&(zCf x&&r.all zCf)):=by rw[hl'.eq];simp
  have hsn:bumps (List.map Arr.name d++[x.name])=bump (bumps (List.map Arr.name d)) x.name:=bumps_snoc _ _;obtain⟨o,o1,o2,o3⟩:=findC_cases x.name (bumps (d.map Arr.name));clear o1;cases hnm:nameM x.name
  ·have hx:zCf x=false:=by simp[zCf,hnm]
   have hh:zcd u=false:=by simp only[zcd,hall,hx];simp
   cases o<;>(simp at o3;(simp[*,zga,arrs])<;>(repeat' (first|((first|refine sP _ ?_ ?_|refine gP _ ?_ ?_|refine sN _ ?_ ?_|refine gN _ ?_ ?_)<;>intro hc<;>(first|replace hc:=eqn hc|replace hc:=eqp hc)<;>simp[*,zga,arrs])|((first|refine sM _ ?_ ?_|refine gM _ ?_ ?_|refine sB _ ?_ ?_|refine gB _ ?_ ?_)<;>intro hc<;>simp[*,zga,arrs]))))
  ·by_cases hs1:x.size<1
   ·have hx:zCf x=false:=by simp[zCf];omega
    have hh:zcd u=false:=by simp only[zcd,hall,hx];simp
    cases o<;>(simp at o3;(simp[*,zga,arrs])<;>(repeat' (first|((first|refine sP _ ?_ ?_|refine gP _ ?_ ?_|refine sN _ ?_ ?_|refine gN _ ?_ ?_)<;>intro hc<;>(first|replace hc:=eqn hc|replace hc:=eqp hc)<;>simp[*,zga,arrs])|((first|refine sM _ ?_ ?_|refine gM _ ?_ ?_|refine sB _ ?_ ?_|refine gB _ ?_ ?_)<;>intro hc<;>simp[*,zga,arrs]))))
   ·by_cases hs2:1000<x.size
    ·have hx:zCf x=false:=by simp[zCf];omega
     have hh:zcd u=false:=by simp only[zcd,hall,hx];simp
     cases o<;>(simp at o3;(simp[*,zga,arrs])<;>(repeat' (first|((first|refine sP _ ?_ ?_|refine gP _ ?_ ?_|refine sN _ ?_ ?_|refine gN _ ?_ ?_)<;>intro hc<;>(first|replace hc:=eqn hc|replace hc:=eqp hc)<;>simp[*,zga,arrs])|((first|refine sM _ ?_ ?_|refine gM _ ?_ ?_|refine sB _ ?_ ?_|refine gB _ ?_ ?_)<;>intro hc<;>simp[*,zga,arrs]))))
    ·have hx:zCf x=true:=by simp[zCf,hnm];omega
     have hpp:∀y∈d,zCf y=true:=by simpa using hp
     clear hall;cases o<;>(simp at o3;(simp[*,zga,arrs])<;>(repeat' (first|((first|refine sP _ ?_ ?_|refine gP _ ?_ ?_|refine sN _ ?_ ?_|refine gN _ ?_ ?_)<;>intro hc<;>(first|replace hc:=eqn hc|replace hc:=eqp hc)<;>simp[*,zga,arrs])|((first|refine sM _ ?_ ?_|refine gM _ ?_ ?_|refine sB _ ?_ ?_|refine gB _ ?_ ?_)<;>intro hc<;>simp[*,zga,arrs]))))<;>(try grind)
 intros s0 hpa h1 h2 h3 h4;simp at h1 h2 h3;simp[*,arrs,flows];refine zG u.flows K38_1 B38_1 (fun d=>[(40,.int .i64 d.length)]) (fun d=>[.mp (encM (bumps (u.arrays.map Arr.name++d.map Flow.name)))]) (fun d=>d.all zqd=true) (by omega) (by simp) ?_ ?_
 ·intros d x r s hl' hlt hget hget' hw hp h1' h2' h3' h4';simp at h1' h2' h3';clear h1 h2 h3 h4;have hn:=name_spec x.name [];have ht:=isType_spec x.type [];have hall:u.flows.all zqd=(d.all zqd&&(zqd x&&r.all zqd)):=by rw[hl'.eq];simp
  have hsn:bumps (List.map Arr.name u.arrays++(List.map Flow.name d++[x.name]))=bump (bumps (List.map Arr.name u.arrays++List.map Flow.name d)) x.name:=by rw[<-yY];exact bumps_snoc _ _
  obtain⟨o,o1,o2,o3⟩:=findC_cases x.name (bumps (u.arrays.map Arr.name++d.map Flow.name));clear o1;have hh:zqd x=false->zcd u=false:=fun hx=>by simp only[zcd,hall,hx];simp
  have hpp:∀y∈d,zqd y=true:=by simpa using hp
  cases hx:zqd x
  ·have hh:=hh hx;simp only[zqd]at hx;clear hall;cases o<;>(simp at o3;(simp[*,zf,flows,ints])<;>(repeat' (first|((first|refine sP _ ?_ ?_|refine gP _ ?_ ?_|refine sN _ ?_ ?_|refine gN _ ?_ ?_)<;>intro hc<;>(first|replace hc:=eqn hc|replace hc:=eqp hc)<;>simp[*,zf,flows,ints])|((first|refine sM _ ?_ ?_|refine gM _ ?_ ?_|refine sB _ ?_ ?_|refine gB _ ?_ ?_)<;>intro hc<;>simp[*,zf,flows,ints]))))<;>(try grind)
  ·have hx2:=hx;simp only[zqd,ya,decide_eq_true_eq]at hx2;obtain⟨⟨⟨n1,n2⟩,n3⟩,n4⟩:=hx2;have n3':¬x.params<0:=by omega
   have n4':¬(x.types.length:Int)<x.params:=by omega
   clear hall hh;cases o<;>(simp at o3;(simp[*,zf,flows,ints])<;>(repeat' (first|((first|refine sP _ ?_ ?_|refine gP _ ?_ ?_|refine sN _ ?_ ?_|refine gN _ ?_ ?_)<;>intro hc<;>(first|replace hc:=eqn hc|replace hc:=eqp hc)<;>simp[*,zf,flows,ints])|((first|refine sM _ ?_ ?_|refine gM _ ?_ ?_|refine sB _ ?_ ?_|refine gB _ ?_ ?_)<;>intro hc<;>simp[*,zf,flows,ints]))))<;>(try grind)
 ·intros s hp h1' h2' h3' h4';simp at h1' h2' h3';clear h1 h2 h3 h4;have hpl:=place_spec u zw [] hu2;simp[encUnt,zw,arrs,flows]at hpl;have hk:(encM (bumps (u.arrays.map Arr.name++u.flows.map Flow.name))).length=(dist (zzd u)).length:=by rw[encM_len,bumps_keys];rfl
  have hd:=dist_nodup (zzd u);have hul:(zzd u).length=u.arrays.length+u.flows.length:=by simp[zzd]
  have hw:zW .i64 ((u.arrays.length:Int)+u.flows.length)=(u.arrays.length:Int)+u.flows.length:=zm (by omega) (by omega);have hh:zcd u=(decide (zzd u).Nodup&&zWd u):=by simp only[zcd,hpa,hp];simp
  have hz:decide (((dist (zzd u)).length:Int)=(u.arrays.length:Int)+u.flows.length)=decide (zzd u).Nodup:=by
   rw[<-hd,hul];simp;omega
  by_cases hp0:0<=zZ u.flows zw
  ·obtain⟨g,q1,q2,q3,q4⟩:=place_get hp0;have q5:u.flows[(zZ u.flows zw).toNat]=g:=by simpa[q4]using q1
   have hm:zWd u=(decide (g.type=1)&&decide (g.params=0)):=by simp[zWd,q1,hp0]
   simp[zw]at hp0 q1 q4 q5;clear hd hul hpa hp;cases hnd:decide (zzd u).Nodup
   ·rw[hnd]at hz hh
    (simp[*,flows,zf,arrs])<;>(repeat' (first|((first|refine sP _ ?_ ?_|refine gP _ ?_ ?_|refine sN _ ?_ ?_|refine gN _ ?_ ?_)<;>intro hc<;>(first|replace hc:=eqn hc|replace hc:=eqp hc)<;>simp[*,flows,zf,arrs])|((first|refine sM _ ?_ ?_|refine gM _ ?_ ?_|refine sB _ ?_ ?_|refine gB _ ?_ ?_)<;>intro hc<;>simp[*,flows,zf,arrs])))
   ·rw[hnd]at hz hh
    (simp[*,flows,zf,arrs])<;>(repeat' (first|((first|refine sP _ ?_ ?_|refine gP _ ?_ ?_|refine sN _ ?_ ?_|refine gN _ ?_ ?_)<;>intro hc<;>(first|replace hc:=eqn hc|replace hc:=eqp hc)<;>simp[*,flows,zf,arrs])|((first|refine sM _ ?_ ?_|refine gM _ ?_ ?_|refine sB _ ?_ ?_|refine gB _ ?_ ?_)<;>intro hc<;>simp[*,flows,zf,arrs])))
  ·have hm:zWd u=false:=by
    unfold zWd;split<;>simp;omega
   simp only[zw]at hp0;clear hd hul hpa hp;cases hnd:decide (zzd u).Nodup
   ·rw[hnd]at hz hh
    (simp[*,flows,zf,arrs])<;>(repeat' (first|((first|refine sP _ ?_ ?_|refine gP _ ?_ ?_|refine sN _ ?_ ?_|refine gN _ ?_ ?_)<;>intro hc<;>(first|replace hc:=eqn hc|replace hc:=eqp hc)<;>simp[*,flows,zf,arrs])|((first|refine sM _ ?_ ?_|refine gM _ ?_ ?_|refine sB _ ?_ ?_|refine gB _ ?_ ?_)<;>intro hc<;>simp[*,flows,zf,arrs])))
   ·rw[hnd]at hz hh
    (simp[*,flows,zf,arrs])<;>(repeat' (first|((first|refine sP _ ?_ ?_|refine gP _ ?_ ?_|refine sN _ ?_ ?_|refine gN _ ?_ ?_)<;>intro hc<;>(first|replace hc:=eqn hc|replace hc:=eqp hc)<;>simp[*,flows,zf,arrs])|((first|refine sM _ ?_ ?_|refine gM _ ?_ ?_|refine sB _ ?_ ?_|refine gB _ ?_ ?_)<;>intro hc<;>simp[*,flows,zf,arrs])))
structure USz(u:Unt):Prop where
 arrs:u.arrays.length<1099511627776
 flows:u.flows.length<1099511627776
 types:∀f∈u.flows,f.types.length<1099511627776
 body:∀f∈u.flows,wtL f.body<1099511627776
theorem USz.ok{u:Unt}(h:USz u)(hh:zcd u=true):UOk u:=by
 refine⟨h.arrs,h.flows,fun f hf=>?_,h.types⟩;simp only[zcd,ya,yj]at hh;have:=hh.1.1.2 f hf;simp only[zqd,ya,decide_eq_true_eq]at this;exact⟨this.1.2,this.2⟩
def zJa(u:Unt):Int×Int:=if zcd u then(match u.flows.findIdx? (fun f=> !flowM u f)with
 |some i=>(80,(i:Int))
 |none=>(0,0))else(1,0)
theorem check_spec(u:Unt)(hu:USz u):zk E 23 [encUnt u] []=some (.ret (.tup [.int .i64 (zJa u).1,.int .i64 (zJa u).2]),[]):=by
 refine zc rfl rfl rfl (by simp[encUnt]) ?_;have h1:=head_spec u hu.arrs hu.flows;cases hh:zcd u
 ·simp[encUnt,hh,flows]at h1;have hc:zJa u=(1,0):=by simp[zJa,hh]
  (simp[*,F23,encUnt,flows])<;>(repeat' (first|((first|refine sP _ ?_ ?_|refine gP _ ?_ ?_|refine sN _ ?_ ?_|refine gN _ ?_ ?_)<;>intro hc<;>(first|replace hc:=eqn hc|replace hc:=eqp hc)<;>simp[*,F23,encUnt,flows])|((first|refine sM _ ?_ ?_|refine gM _ ?_ ?_|refine sB _ ?_ ?_|refine gB _ ?_ ?_)<;>intro hc<;>simp[*,F23,encUnt,flows])))
 ·have ho:=hu.ok hh;simp[encUnt,hh,flows]at h1;have hf:∀f∈u.flows,zk E 39 [encUnt u,zf f] []=some (.ret (.bool (flowM u f)),[]):=fun f hf=>flow_spec u f ho (ho.pars f hf) (hu.types f hf) (hu.body f hf)
  have hfl:=hu.flows;simp[F23,encUnt,flows,h1];refine zG u.flows K23_0 B23_0 (fun d=>[(12,.int .i64 d.length)]) (fun d=>[]) (fun d=>∀f∈d,flowM u f=true) (by omega) (by simp) ?_ ?_
  ·intros d x r s hl' hlt hget hget' hw hp q1 q2 q3 q4;simp at q1 q2 q3;have hfx:=hf x hl'.mem;simp[encUnt,flows,zf]at hfx;clear hf hu ho h1;cases hx:flowM u x
   ·have hi:=zCe (p:=fun f=> !flowM u f) hl' (by simpa using hp) (by simp[hx]);have hcx:zJa u=(80,(d.length:Int)):=by
     unfold idx at hi;simp only[zJa,hh,if_true];cases hfi:u.flows.findIdx? (fun f=> !flowM u f)with
     |none=>rw[hfi]at hi;simp at hi
     |some i=>rw[hfi]at hi;simp at hi;simp[hi]
    (simp[*,zf,flows])<;>(repeat' (first|((first|refine sP _ ?_ ?_|refine gP _ ?_ ?_|refine sN _ ?_ ?_|refine gN _ ?_ ?_)<;>intro hc<;>(first|replace hc:=eqn hc|replace hc:=eqp hc)<;>simp[*,zf,flows])|((first|refine sM _ ?_ ?_|refine gM _ ?_ ?_|refine sB _ ?_ ?_|refine gB _ ?_ ?_)<;>intro hc<;>simp[*,zf,flows])))
   ·(simp[*,zf,flows])<;>(repeat' (first|((first|refine sP _ ?_ ?_|refine gP _ ?_ ?_|refine sN _ ?_ ?_|refine gN _ ?_ ?_)<;>intro hc<;>(first|replace hc:=eqn hc|replace hc:=eqp hc)<;>simp[*,zf,flows])|((first|refine sM _ ?_ ?_|refine gM _ ?_ ?_|refine sB _ ?_ ?_|refine gB _ ?_ ?_)<;>intro hc<;>simp[*,zf,flows])))
    all_goals(try grind)
  ·intros s hp q1 q2 q3 q4;simp at q1 q2 q3;have hcx:zJa u=(0,0):=by
    have:u.flows.findIdx? (fun f=> !flowM u f)=none:=by rw[yfa];simpa using hp
    simp[zJa,hh,this]
   clear hf hu ho hh h1 hp
   (simp[*])<;>(repeat' (first|((first|refine sP _ ?_ ?_|refine gP _ ?_ ?_|refine sN _ ?_ ?_|refine gN _ ?_ ?_)<;>intro hc<;>(first|replace hc:=eqn hc|replace hc:=eqp hc)<;>simp[*])|((first|refine sM _ ?_ ?_|refine gM _ ?_ ?_|refine sB _ ?_ ?_|refine gB _ ?_ ?_)<;>intro hc<;>simp[*])))
structure RS where
 inp:List Int
 arrs:List (List Int)
 out:List Int
 cost:Int
 fuel:Nat
inductive Rt(α:Type) where
 |ok (a:α)
 |stop (k:Int)
structure Wy where
 kind:Int
 l:List Int
abbrev NEv:=Node->List Int->RS->Rt Wy×List Int×RS
def oneC(op a:Int):Int:=
 if op=20 then yba .i64 (0-a)else if op=21 then yba .i64 (-1-a)else if op=22 then(if a=0 then 1 else 0)
 else if op=23 then(a+128)%256-128 else if op=24 then(a+32768)%65536-32768 else if op=25 then(a+2147483648)%4294967296-2147483648
 else if op=26 then a%256 else if op=27 then a%65536 else if op=28 then a%4294967296 else 0
def and64C(a b:Int):Int:=(yy 64 a&&&yy 64 b).toInt
def or64C(a b:Int):Int:=(yy 64 a|||yy 64 b).toInt
def xor64C(a b:Int):Int:=(yy 64 a^^^yy 64 b).toInt
def twoC(op a b:Int):Int×Bool:=
 if(cmp op a b).2=true then(if(cmp op a b).1=true then 1 else 0,true)
 else if op=1 then(yba .i64 (a+b),true)else if op=2 then(yba .i64 (a-b),true)else if op=3 then(yba .i64 (a*b),true)
 else if op=6 then(and64C a b,true)else if op=7 then(or64C a b,true)else if op=8 then(xor64C a b,true)
 else if op=9 then(yba .i64 (a*2^(b%64).toNat),true)else if op=10 then(a.fdiv (2^(b%64).toNat),true)
 else if op=11 then(yba .i64 ((a%18446744073709551616).fdiv (2^(b%64).toNat)),true)
 else if b=0 then(0,false)else if op=4 then(yba .i64 (a.tdiv b),true)else if op=5 then(a.tmod b,true)else(0,false)
theorem one_eqC(op a:Int):one op a=oneC op a:=by
 unfold one oneC;by_cases h1:op=20
 ·subst h1;simp[W,zY]
 by_cases h2:op=21
 ·subst h2;simp[not64,W,zY]
 by_cases h3:op=22
 ·subst h3;simp
 by_cases h4:op=26
 ·subst h4;simp only[wrapK_u8];simp;rw[W_id]<;>omega
 by_cases h5:op=27
 ·subst h5;simp only[wrapK_u16];simp;rw[W_id]<;>omega
 by_cases h6:op=28
 ·subst h6;simp only[wrapK_u32];simp;rw[W_id]<;>omega
 by_cases h7:op=23
 ·subst h7;simp only[wrapK_i8];simp;rw[W_id]<;>omega
 by_cases h8:op=24
 ·subst h8;simp only[wrapK_i16];simp;rw[W_id]<;>omega
 by_cases h9:op=25
 ·subst h9;simp only[wrapK_i32];simp;rw[W_id]<;>omega
 simp[h1,h2,h3,h4,h5,h6,h7,h8,h9]
theorem wrap64u(n:Int):yba .u64 n=n%18446744073709551616:=by simp[yba,yca,IntKind.signed]
theorem two_eqC(op a b:Int):two op a b=twoC op a b:=by
 have h63:zDf b 63=b%64:=by have:=and_mask b 6 (by decide);simpa using this
 have hm:min (b%64).toNat 64=(b%64).toNat:=by omega
 unfold two twoC;rw[h63,hm];simp only[W,zY,and64_eq,or64_eq,xor64_eq,remK_eq,shrK_eq,and64C,or64C,xor64C,wrap64u]
def zq(S:RS):RS:={S with cost:=yba .i64 (S.cost+1)}
def atA(l:List Int)(i:Nat):Int:=(l[i]?).getD 0
def cellAt(u:Unt)(S:RS)(nm:List UInt8)(n:Int):Option Int:=
 if n<0 then none else(S.arrs[(zFe u.arrays nm).toNat]?).bind fun l=>l[n.toNat]?
def putAt(u:Unt)(S:RS)(nm:List UInt8)(n m:Int):Option RS:=
 if n<0 then none else(S.arrs[(zFe u.arrays nm).toNat]?).bind fun l=>if n.toNat<l.length then some {S with arrs:=S.arrs.set (zFe u.arrays nm).toNat (l.set n.toNat m)}else none
def flowAt(u:Unt)(nm:List UInt8):Option Flow:=u.flows[(zZ u.flows nm).toNat]?
def setW:List Int->List Int->List Int->List Int
 |v,o::os,n::ns=>setW (v.set o.toNat n) os ns
 |v,_,_=>v
def ofW(v l:List Int):List Int:=l.map (at0 v)
def kid0(n:Node):List Node:=(n.kids[0]?).getD []
def kid1(n:Node):List Node:=(n.kids[1]?).getD []
section
variable (u:Unt) (ev:NEv)
def zB:List Node->List Int->RS->Rt Wy×List Int×RS
 | [],v,S=>(.ok ⟨0,[]⟩,v,S)
 |n::r,v,S=>match ev n v S with
  |(.ok w,v1,S1)=>if w.kind=0 then zB r v1 S1 else(.ok w,v1,S1)
  |(.stop k,v1,S1)=>(.stop k,v1,S1)
def zRc(f:Flow)(l:List Int)(S:RS):Rt Int×RS:=match zB ev f.body (l++yf (f.types.length-l.length) 0) S with
 |(.ok w,_,S1)=>(.ok (atA w.l 0),S1)
 |(.stop k,_,S1)=>(.stop k,S1)
def zoa(n:Node)(l:List Int)(S:RS):Rt (List Int)×RS:=
 if n.kind=3 then(.ok [oneC n.op (atA l 0)],S)
 else if n.kind=4 then(if(twoC n.op (atA l 0) (atA l 1)).2 then(.ok [(twoC n.op (atA l 0) (atA l 1)).1],S)else(.stop 2,S))
 else if n.kind=5 then(match cellAt u S n.name (atA l 0)with
  |some m=>(.ok [m],S)
  |none=>(.stop 3,S))
 else if n.kind=6 then(match putAt u S n.name (atA l 0) (atA l 1)with
  |some S1=>(.ok [],S1)
  |none=>(.stop 3,S))
 else if n.kind=7 then(match flowAt u n.name with
  |some f=>match zRc ev f l S with
   |(.ok m,S1)=>(.ok [m],S1)
   |(.stop k,S1)=>(.stop k,S1)
  |none=>(.ok [],S))
 else if n.kind=8 then(match S.inp with
  | []=>(.stop 4,S)
  |m::r=>(.ok [m],{S with inp:=r}))
 else if n.kind=9 then(.ok [],{S with out:=S.out++[atA l 0]})
 else(.ok [],S)
def zUa(n:Node)(c:Int)(v:List Int)(S:RS):Rt Wy×List Int×RS:=match zB ev (if c=0 then kid1 n else kid0 n) v S with
 |(.ok w,v1,S1)=>if w.kind=12 then(.ok ⟨0,[]⟩,setW v1 n.outs w.l,S1)else(.ok w,v1,S1)
 |(.stop k,v1,S1)=>(.stop k,v1,S1)
def zTa(n:Node):Nat->List Int->List Int->RS->Rt Wy×List Int×RS
 |0,_,v,S=>(.stop 0,v,S)
 |k+1,l,v,S=>match zB ev (kid0 n) (setW v n.params l) S with
  |(.ok w,v1,S1)=>if w.kind=15 then(.ok w,v1,S1)else if w.kind=14 then(.ok ⟨0,[]⟩,setW v1 n.outs w.l,S1)else zTa n k w.l v1 S1
  |(.stop j,v1,S1)=>(.stop j,v1,S1)
def zmb(w:Nat)(n:Node)(v:List Int)(S:RS):Rt Wy×List Int×RS:=
 if n.kind=1\/n.kind=2 then(.ok ⟨0,[]⟩,setW v n.outs [n.n],S)
 else if 12<=n.kind/\n.kind<=15 then(.ok ⟨n.kind,ofW v n.args⟩,v,S)
 else if n.kind=10 then zUa ev n (atA (ofW v n.args) 0) v S
 else if n.kind=11 then zTa ev n (w+1) (ofW v n.args) v S
 else match zoa u ev n (ofW v n.args) (zq S)with
  |(.ok m,S1)=>(.ok ⟨0,[]⟩,setW v n.outs m,S1)
  |(.stop k,S1)=>(.stop k,v,S1)
end
def evN(u:Unt):Nat->NEv
 |0=>fun _ v S=>(.stop 0,v,S)
 |w+1=>fun n v S=>match S.fuel with
  |0=>(.stop 0,v,S)
  |k+1=>zmb u (evN u w) w n v {S with fuel:=k}
structure Rn where
 status:Int
 code:Int
 out:List Int
 cost:Int
 fuel:Nat
def run0(u:Unt)(inp:List Int)(fuel:Int):RS:=⟨inp,u.arrays.map (fun a=>yf a.size.toNat 0),[],0,fuel.toNat⟩
def runEnd:Rt Int×RS->Rn
 |(.ok n,S)=>⟨1,n,S.out,S.cost,S.fuel⟩
 |(.stop k,S)=>⟨k,0,S.out,S.cost,S.fuel⟩
def mainW(u:Unt)(S:RS):Rt Int×RS:=match flowAt u zw with
 |some f=>zRc (evN u S.fuel) f [] S
 |none=>(.ok 0,S)
def zHa(u:Unt)(inp:List Int)(fuel:Int):Rn:=
 if(zJa u).1=0 then runEnd (mainW u (run0 u inp fuel))else⟨0,0,[],0,0⟩
abbrev Set1:=List Bool
def seO(Z:Set1):Obj:= .arr 1 (Z.map PV.bool)
def atB(l:List Bool)(v:Int):Bool:=(l[v.toNat]?).getD false
theorem atB_get{l:List Bool}{v:Int}(h0:0<=v)(h1:v<l.length):l[v.toNat]? =some (atB l v):=by
 unfold atB;have:v.toNat<l.length:=by omega
 simp[this]
theorem atB_get'{l:List Bool}{v:Int}(h0:0<=v)(h1:v<l.length)(h:v.toNat<l.length):l[v.toNat]'h=atB l v:=by
 unfold atB;simp[h]
theorem in_spec(l:List Int)(n:Int)(σ:zd)(hl:l.length<1099511627776):zk E 143 [ints l,.int .i64 n] σ=some (.ret (.bool (l.contains n)),σ):=by
 refine zc rfl rfl rfl (by simp) ?_;simp[F143];refine zG l K143_0 B143_0 (fun d=>[(5,.int .i64 d.length)]) (fun _=>σ) (fun d=>n ∉ d) (by omega) (by simp) ?_ ?_
 ·intros d x r s hl' hlt hget hget' hw hp h1 h2 h3 h4;simp at h1 h3;have hm:=hl'.mem
  (simp[*,ints])<;>(repeat' (first|((first|refine sP _ ?_ ?_|refine gP _ ?_ ?_|refine sN _ ?_ ?_|refine gN _ ?_ ?_)<;>intro hc<;>(first|replace hc:=eqn hc|replace hc:=eqp hc)<;>simp[*,ints])|((first|refine sM _ ?_ ?_|refine gM _ ?_ ?_|refine sB _ ?_ ?_|refine gB _ ?_ ?_)<;>intro hc<;>simp[*,ints])))
  all_goals(try grind)
 ·intros s hp h1 h2 h3 h4;simp at h1 h3
  (simp[*,ints])<;>(repeat' (first|((first|refine sP _ ?_ ?_|refine gP _ ?_ ?_|refine sN _ ?_ ?_|refine gN _ ?_ ?_)<;>intro hc<;>(first|replace hc:=eqn hc|replace hc:=eqp hc)<;>simp[*,ints])|((first|refine sM _ ?_ ?_|refine gM _ ?_ ?_|refine sB _ ?_ ?_|refine gB _ ?_ ?_)<;>intro hc<;>simp[*,ints])))
theorem of_spec(u:Unt)(f:Flow)(n:Nat)(l:List Int)(σ:zd)(hl:l.length<1099511627776):zk E 120 [chkV u f n,ints l] σ=some (.ret (ints (typesM f.types l)),σ):=by
 refine zc rfl rfl rfl (by simp) ?_;simp[F120,ints];refine zG l K120_0 B120_0 (fun d=>[(6,.int .i64 d.length),(5,acc 1 (d.map fun v=> .int .i64 (at0 f.types v)))]) (fun _=>σ) (fun d=>d.all (fun v=>valM f.types v 0)=true) (by omega) (by simp) ?_ ?_
 ·intros d x r s hl' hlt hget hget' hw hp h1 h2 h3 h4;simp at h1 h3;clear h2;have hn:valM f.types x 0=false->typesM f.types l=[]:=by
   intro hx;unfold typesM;rw[if_neg];rw[hl'.eq];simp[hx]
  by_cases r0:x<0
  ·have hn:=hn (by simp[valM];omega)
   (simp[*,chkV,ints])<;>(repeat' (first|((first|refine sP _ ?_ ?_|refine gP _ ?_ ?_|refine sN _ ?_ ?_|refine gN _ ?_ ?_)<;>intro hc<;>(first|replace hc:=eqn hc|replace hc:=eqp hc)<;>simp[*,chkV,ints])|((first|refine sM _ ?_ ?_|refine gM _ ?_ ?_|refine sB _ ?_ ?_|refine gB _ ?_ ?_)<;>intro hc<;>simp[*,chkV,ints])))
  by_cases r1:(f.types.length:Int)<=x
  ·have hn:=hn (by simp[valM];omega)
   (simp[*,chkV,ints])<;>(repeat' (first|((first|refine sP _ ?_ ?_|refine gP _ ?_ ?_|refine sN _ ?_ ?_|refine gN _ ?_ ?_)<;>intro hc<;>(first|replace hc:=eqn hc|replace hc:=eqp hc)<;>simp[*,chkV,ints])|((first|refine sM _ ?_ ?_|refine gM _ ?_ ?_|refine sB _ ?_ ?_|refine gB _ ?_ ?_)<;>intro hc<;>simp[*,chkV,ints])))
  ·have r0':0<=x:=by omega
   have r1':x<f.types.length:=by omega
   have hv:valM f.types x 0=true:=by simp[valM];omega
   have q1:=zid r0' r1';have q2:x.toNat<f.types.length:=by omega
   have q3:=zwc r0' r1' q2;have q4:(d.length+1)*8<=zo:=by simp only[zo];omega
   clear hn
   (simp[*,chkV,ints])<;>(repeat' (first|((first|refine sP _ ?_ ?_|refine gP _ ?_ ?_|refine sN _ ?_ ?_|refine gN _ ?_ ?_)<;>intro hc<;>(first|replace hc:=eqn hc|replace hc:=eqp hc)<;>simp[*,chkV,ints])|((first|refine sM _ ?_ ?_|refine gM _ ?_ ?_|refine sB _ ?_ ?_|refine gB _ ?_ ?_)<;>intro hc<;>simp[*,chkV,ints])))
 ·intros s hp h1 h2 h3 h4;simp at h1 h3;have:typesM f.types l=l.map (at0 f.types):=by
   unfold typesM;rw[if_pos hp]
  (simp[*,ints])<;>(repeat' (first|((first|refine sP _ ?_ ?_|refine gP _ ?_ ?_|refine sN _ ?_ ?_|refine gN _ ?_ ?_)<;>intro hc<;>(first|replace hc:=eqn hc|replace hc:=eqp hc)<;>simp[*,ints])|((first|refine sM _ ?_ ?_|refine gM _ ?_ ?_|refine sB _ ?_ ?_|refine gB _ ?_ ?_)<;>intro hc<;>simp[*,ints])))
def useR(ty:List Int)(seen:List Int)(v t:Int):Bool:=decide (0<=v)&&(decide (v<ty.length)&&(seen.contains v&&(decide (t=0)||decide (at0 ty v=t))))
def zC(ty:List Int)(seen:List Int)(l want:List Int):Bool:=decide (l.length=want.length)&&(l.zip want).all fun p=>useR ty seen p.1 p.2
theorem zip_get{l ts d:List Int}{q:Nat}{v t:Int}(hget:(l.zip ts)[q]? =some (v,t)):l[q]? =some v/\ts[q]? =some t:=by
 rw[yM]at hget;exact hget
theorem rtypes_spec(u:Unt)(f:Flow)(n:Nat)(l seen want:List Int)(σ:zd)(hl:l.length<1099511627776)(hs:seen.length<1099511627776):
  zk E 121 [chkV u f n,ints l,ints seen,ints want] σ=some (.ret (.bool (zC f.types seen l want)),σ):=by
 refine zc rfl rfl rfl (by simp) ?_;by_cases hlen:l.length=want.length
 ·simp[F121,ints,hlen];have ht:zC f.types seen l want=(l.zip want).all fun p=>useR f.types seen p.1 p.2:=by simp[zC,hlen]
  refine zG (l.zip want) K121_0 B121_0 (fun d=>[(9,.int .i64 d.length)]) (fun _=>σ) (fun d=>∀p∈d,useR f.types seen p.1 p.2=true) (by simp;omega) (by simp) ?_ ?_
  ·rintro d ⟨v,t⟩ r s hl' hlt hget hget' hw hp h1 h2 h3 h4
   simp at h1 h3;clear h2;obtain⟨g1,g2⟩:=zip_get (d:=l) hget;have hlt1:d.length<l.length:=by simp at hlt;omega
   have hlt2:d.length<want.length:=by omega
   have g1':l[d.length]=v:=by simpa[hlt1]using g1
   have g2':want[d.length]=t:=by simpa[hlt2]using g2
   have hin:=in_spec seen v [] hs;have hf:useR f.types seen v t=false->zC f.types seen l want=false:=fun hx=>by
    rw[ht,hl'.eq];simp[hx]
   clear hget hget' ht;simp[ints]at hin;by_cases r0:v<0
   ·have hf:=hf (by simp[useR];omega)
    (simp[*,chkV,ints])<;>(repeat' (first|((first|refine sP _ ?_ ?_|refine gP _ ?_ ?_|refine sN _ ?_ ?_|refine gN _ ?_ ?_)<;>intro hc<;>(first|replace hc:=eqn hc|replace hc:=eqp hc)<;>simp[*,chkV,ints])|((first|refine sM _ ?_ ?_|refine gM _ ?_ ?_|refine sB _ ?_ ?_|refine gB _ ?_ ?_)<;>intro hc<;>simp[*,chkV,ints])))
   by_cases r1:(f.types.length:Int)<=v
   ·have hf:=hf (by simp[useR];omega)
    (simp[*,chkV,ints])<;>(repeat' (first|((first|refine sP _ ?_ ?_|refine gP _ ?_ ?_|refine sN _ ?_ ?_|refine gN _ ?_ ?_)<;>intro hc<;>(first|replace hc:=eqn hc|replace hc:=eqp hc)<;>simp[*,chkV,ints])|((first|refine sM _ ?_ ?_|refine gM _ ?_ ?_|refine sB _ ?_ ?_|refine gB _ ?_ ?_)<;>intro hc<;>simp[*,chkV,ints])))
   have r0':0<=v:=by omega
   have r1':v<f.types.length:=by omega
   have q1:=zid r0' r1';have q2:v.toNat<f.types.length:=by omega
   have q3:=zwc r0' r1' q2;have hu:(seen.contains v&&(decide (t=0)||decide (at0 f.types v=t)))=useR f.types seen v t:=by simp[useR,r0',r1']
   cases hx:useR f.types seen v t
   ·have hf:=hf hx;rw[hx]at hu
    (simp[*,chkV,ints])<;>(repeat' (first|((first|refine sP _ ?_ ?_|refine gP _ ?_ ?_|refine sN _ ?_ ?_|refine gN _ ?_ ?_)<;>intro hc<;>(first|replace hc:=eqn hc|replace hc:=eqp hc)<;>simp[*,chkV,ints])|((first|refine sM _ ?_ ?_|refine gM _ ?_ ?_|refine sB _ ?_ ?_|refine gB _ ?_ ?_)<;>intro hc<;>simp[*,chkV,ints])))
    all_goals(try grind)
   ·clear hf;rw[hx]at hu
    (simp[*,chkV,ints])<;>(repeat' (first|((first|refine sP _ ?_ ?_|refine gP _ ?_ ?_|refine sN _ ?_ ?_|refine gN _ ?_ ?_)<;>intro hc<;>(first|replace hc:=eqn hc|replace hc:=eqp hc)<;>simp[*,chkV,ints])|((first|refine sM _ ?_ ?_|refine gM _ ?_ ?_|refine sB _ ?_ ?_|refine gB _ ?_ ?_)<;>intro hc<;>simp[*,chkV,ints])))
    all_goals(try grind)
  ·rintro s hp h1 h2 h3 h4
   have hz:(l.zip want).length=l.length:=by simp;omega
   rw[hz]at h3;simp at h1 h3;have ht2:zC f.types seen l want=true:=by rw[ht,yj];exact hp
   clear hp ht
   (simp[*,ints])<;>(repeat' (first|((first|refine sP _ ?_ ?_|refine gP _ ?_ ?_|refine sN _ ?_ ?_|refine gN _ ?_ ?_)<;>intro hc<;>(first|replace hc:=eqn hc|replace hc:=eqp hc)<;>simp[*,ints])|((first|refine sM _ ?_ ?_|refine gM _ ?_ ?_|refine sB _ ?_ ?_|refine gB _ ?_ ?_)<;>intro hc<;>simp[*,ints])))
 ·have ht:zC f.types seen l want=false:=by simp[zC,hlen]
  have hlen':¬(l.length:Int)=want.length:=by omega
  (simp[*,F121,ints])<;>(repeat' (first|((first|refine sP _ ?_ ?_|refine gP _ ?_ ?_|refine sN _ ?_ ?_|refine gN _ ?_ ?_)<;>intro hc<;>(first|replace hc:=eqn hc|replace hc:=eqp hc)<;>simp[*,F121,ints])|((first|refine sM _ ?_ ?_|refine gM _ ?_ ?_|refine sB _ ?_ ?_|refine gB _ ?_ ?_)<;>intro hc<;>simp[*,F121,ints])))
def zha(ty:List Int)(Z:Set1)(v t:Int):Bool×Set1:=if valM ty v t&& !atB Z v then(true,Z.set v.toNat true)else(false,Z)
def zD(ty:List Int)(Z:Set1)(l want:List Int):Bool×Set1:=eqM (zha ty) Z l want
theorem setRG_len(ty:List Int)(Z:Set1)(v t:Int):(zha ty Z v t).2.length=Z.length:=by
 unfold zha;split<;>simp
theorem zEe(ty:List Int):∀(l:List (Int×Int)) (S:Set1),(eqGo (zha ty) S l).2.length=S.length
 | [],S=>rfl
 |p::r,S=>by
  simp only[eqGo];split
  ·rw[zEe ty r,setRG_len]
  ·rw[setRG_len]
theorem zfb(ty:List Int)(S:Set1)(l ts:List Int):(zD ty S l ts).2.length=S.length:=by
 unfold zD eqM;split
 ·exact zEe _ _ _
 ·rfl
theorem rsets_spec(u:Unt)(f:Flow)(Z:Set1)(l want:List Int)(hZ:Z.length=f.types.length)(hl:l.length<1099511627776):
  zk E 122 [chkV u f f.types.length,ints l,ints want] [seO Z]=some (.ret (.bool (zD f.types Z l want).1),[seO (zD f.types Z l want).2]):=by
 refine zc rfl rfl rfl (by simp) ?_;by_cases hlen:l.length=want.length
 ·simp[F122,ints,hlen];have hm:zD f.types Z l want=eqGo (zha f.types) Z (l.zip want):=by simp[zD,eqM,hlen]
  refine zG (l.zip want) K122_0 B122_0 (fun d=>[(7,.int .i64 d.length)]) (fun d=>[seO (eqGo (zha f.types) Z d).2]) (fun d=>(eqGo (zha f.types) Z d).1=true) (by simp;omega) (by simp[eqGo]) ?_ ?_
  ·rintro d ⟨v,t⟩ r s hl' hlt hget hget' hw hp h1 h2 h3 h4
   simp at h1 h3;clear h2;obtain⟨g1,g2⟩:=zip_get (d:=l) hget;have hlt1:d.length<l.length:=by simp at hlt;omega
   have hlt2:d.length<want.length:=by omega
   have g1':l[d.length]=v:=by simpa[hlt1]using g1
   have g2':want[d.length]=t:=by simpa[hlt2]using g2
   have hZ1:(eqGo (zha f.types) Z d).2.length=f.types.length:=by rw[zEe];exact hZ
   generalize hzd:(eqGo (zha f.types) Z d).2=Z1 at*;have e1:eqGo (zha f.types) Z (d++[(v,t)])=((zha f.types Z1 v t).1,(zha f.types Z1 v t).2):=by
    rw[zfd,hp,hzd];simp only[eqGo,if_true];cases(zha f.types Z1 v t).1<;>rfl
   have e2:(zha f.types Z1 v t).1=false->zD f.types Z l want=(false,Z1):=by
    intro hf;have h2:(zha f.types Z1 v t).2=Z1:=by
     by_cases hc:(valM f.types v t&& !atB Z1 v)=true
     ·rw[zha,if_pos hc]at hf;cases hf
     ·rw[zha,if_neg hc]
    rw[hm,hl'.eq,zfd,hp,hzd];simp[eqGo,hf,h2]
   clear hget hget' hm;by_cases r0:v<0
   ·have hv:valM f.types v t=false:=by simp[valM];omega
    have e2:=e2 (by simp[zha,hv])
    (simp[*,chkV,ints])<;>(repeat' (first|((first|refine sP _ ?_ ?_|refine gP _ ?_ ?_|refine sN _ ?_ ?_|refine gN _ ?_ ?_)<;>intro hc<;>(first|replace hc:=eqn hc|replace hc:=eqp hc)<;>simp[*,chkV,ints])|((first|refine sM _ ?_ ?_|refine gM _ ?_ ?_|refine sB _ ?_ ?_|refine gB _ ?_ ?_)<;>intro hc<;>simp[*,chkV,ints])))
   by_cases r1:(f.types.length:Int)<=v
   ·have hv:valM f.types v t=false:=by simp[valM];omega
    have e2:=e2 (by simp[zha,hv])
    (simp[*,chkV,ints])<;>(repeat' (first|((first|refine sP _ ?_ ?_|refine gP _ ?_ ?_|refine sN _ ?_ ?_|refine gN _ ?_ ?_)<;>intro hc<;>(first|replace hc:=eqn hc|replace hc:=eqp hc)<;>simp[*,chkV,ints])|((first|refine sM _ ?_ ?_|refine gM _ ?_ ?_|refine sB _ ?_ ?_|refine gB _ ?_ ?_)<;>intro hc<;>simp[*,chkV,ints])))
   have r0':0<=v:=by omega
   have r1':v<f.types.length:=by omega
   have rz:v<Z1.length:=by omega
   have q1:=zid r0' r1';have q2:v.toNat<f.types.length:=by omega
   have q3:=zwc r0' r1' q2;have q4:=atB_get r0' rz;have q5:v.toNat<Z1.length:=by omega
   have q6:=atB_get' r0' rz q5;have hv:(decide (t=0)||decide (at0 f.types v=t))=valM f.types v t:=by simp[valM,r0',r1']
   cases hb:atB Z1 v
   ·cases hx:valM f.types v t
    ·have e2:=e2 (by simp[zha,hx]);rw[hx]at hv
     (simp[*,chkV,ints,seO,zN,zRa])<;>(repeat' (first|((first|refine sP _ ?_ ?_|refine gP _ ?_ ?_|refine sN _ ?_ ?_|refine gN _ ?_ ?_)<;>intro hc<;>(first|replace hc:=eqn hc|replace hc:=eqp hc)<;>simp[*,chkV,ints,seO,zN,zRa])|((first|refine sM _ ?_ ?_|refine gM _ ?_ ?_|refine sB _ ?_ ?_|refine gB _ ?_ ?_)<;>intro hc<;>simp[*,chkV,ints,seO,zN,zRa])))
     all_goals(try grind)
    ·have e3:zha f.types Z1 v t=(true,Z1.set v.toNat true):=by simp[zha,hx,hb]
     rw[hx]at hv;rw[e3]at e1;clear e2
     (simp[*,chkV,ints,seO,zN,zRa,yxa])<;>(repeat' (first|((first|refine sP _ ?_ ?_|refine gP _ ?_ ?_|refine sN _ ?_ ?_|refine gN _ ?_ ?_)<;>intro hc<;>(first|replace hc:=eqn hc|replace hc:=eqp hc)<;>simp[*,chkV,ints,seO,zN,zRa,yxa])|((first|refine sM _ ?_ ?_|refine gM _ ?_ ?_|refine sB _ ?_ ?_|refine gB _ ?_ ?_)<;>intro hc<;>simp[*,chkV,ints,seO,zN,zRa,yxa])))
     all_goals(try grind)
   ·have e2:=e2 (by simp[zha,hb])
    (simp[*,chkV,ints,seO])<;>(repeat' (first|((first|refine sP _ ?_ ?_|refine gP _ ?_ ?_|refine sN _ ?_ ?_|refine gN _ ?_ ?_)<;>intro hc<;>(first|replace hc:=eqn hc|replace hc:=eqp hc)<;>simp[*,chkV,ints,seO])|((first|refine sM _ ?_ ?_|refine gM _ ?_ ?_|refine sB _ ?_ ?_|refine gB _ ?_ ?_)<;>intro hc<;>simp[*,chkV,ints,seO])))
  ·rintro s hp h1 h2 h3 h4
   have hz:(l.zip want).length=l.length:=by simp;omega
   rw[hz]at h3;simp at h1 h3
   (simp[*,ints])<;>(repeat' (first|((first|refine sP _ ?_ ?_|refine gP _ ?_ ?_|refine sN _ ?_ ?_|refine gN _ ?_ ?_)<;>intro hc<;>(first|replace hc:=eqn hc|replace hc:=eqp hc)<;>simp[*,ints])|((first|refine sM _ ?_ ?_|refine gM _ ?_ ?_|refine sB _ ?_ ?_|refine gB _ ?_ ?_)<;>intro hc<;>simp[*,ints])))
 ·have ht:zD f.types Z l want=(false,Z):=by simp[zD,eqM,hlen]
  have hlen':¬(l.length:Int)=want.length:=by omega
  (simp[*,F122,ints])<;>(repeat' (first|((first|refine sP _ ?_ ?_|refine gP _ ?_ ?_|refine sN _ ?_ ?_|refine gN _ ?_ ?_)<;>intro hc<;>(first|replace hc:=eqn hc|replace hc:=eqp hc)<;>simp[*,F122,ints])|((first|refine sM _ ?_ ?_|refine gM _ ?_ ?_|refine sB _ ?_ ?_|refine gB _ ?_ ?_)<;>intro hc<;>simp[*,F122,ints])))
def takesR(op:Int):Int:=if op=18\/op=19\/op=22 then 2 else if op=16\/op=17 then 0 else 1
def makesR(op:Int):Int:=if op=18\/op=19\/op=22\/(12<=op/\op<=17)then 2 else 1
theorem roperand_spec(op:Int):zk E 144 [.int .i64 op] []=some (.ret (.tup [.int .i64 (takesR op),.int .i64 (makesR op)]),[]):=by
 refine zc rfl rfl rfl (by simp) ?_
 (simp[*,F144,takesR,makesR])<;>(repeat' ((first|refine sP _ ?_ ?_|refine gP _ ?_ ?_|refine sN _ ?_ ?_|refine gN _ ?_ ?_|refine sM _ ?_ ?_|refine gM _ ?_ ?_|refine sB _ ?_ ?_|refine gB _ ?_ ?_)<;>intro hc<;>simp[*,F144,takesR,makesR]))
 all_goals(try grind)
def isOne(op:Int):Bool:=decide (20<=op)&&decide (op<=28)
def isTwo(op:Int):Bool:=decide (1<=op)&&decide (op<=17)
theorem isOne_spec(op:Int):zk E 145 [.int .i64 op] []=some (.ret (.bool (isOne op)),[]):=by
 refine zc rfl rfl rfl (by simp) ?_
 (simp[*,F145,isOne])<;>(repeat' ((first|refine sP _ ?_ ?_|refine gP _ ?_ ?_|refine sN _ ?_ ?_|refine gN _ ?_ ?_|refine sM _ ?_ ?_|refine gM _ ?_ ?_|refine sB _ ?_ ?_|refine gB _ ?_ ?_)<;>intro hc<;>simp[*,F145,isOne]))
theorem isTwo_spec(op:Int):zk E 146 [.int .i64 op] []=some (.ret (.bool (isTwo op)),[]):=by
 refine zc rfl rfl rfl (by simp) ?_
 (simp[*,F146,isTwo])<;>(repeat' ((first|refine sP _ ?_ ?_|refine gP _ ?_ ?_|refine sN _ ?_ ?_|refine gN _ ?_ ?_|refine sM _ ?_ ?_|refine gM _ ?_ ?_|refine sB _ ?_ ?_|refine gB _ ?_ ?_)<;>intro hc<;>simp[*,F146,isTwo]))
theorem takesR_one{op:Int}(h:isOne op=true):takesR op=takes op/\makesR op=ztb op:=by
 simp[isOne]at h;constructor<;>simp[takesR,takes,makesR,ztb]<;>grind
theorem takesR_two{op:Int}(h:isTwo op=true):takesR op=takes op/\makesR op=ztb op:=by
 simp[isTwo]at h;constructor<;>simp[takesR,takes,makesR,ztb]<;>grind
theorem rbare_spec(x:Node):zk E 119 [zK x] []=some (.ret (.bool (zca x)),[]):=by
 refine zc rfl rfl rfl (by simp[za]) ?_;have hp:decide ((x.params.length:Int)=0)=decide (x.params=[]):=by simp
 by_cases h10:x.kind=10
 ·(simp[*,F119,za,ints,kids,zca,zXa])<;>(repeat' ((first|refine sP _ ?_ ?_|refine gP _ ?_ ?_|refine sN _ ?_ ?_|refine gN _ ?_ ?_|refine sM _ ?_ ?_|refine gM _ ?_ ?_|refine sB _ ?_ ?_|refine gB _ ?_ ?_)<;>intro hc<;>simp[*,F119,za,ints,kids,zca,zXa]))
  all_goals(try grind)
 ·by_cases h11:x.kind=11
  ·(simp[*,F119,za,ints,kids,zca,zXa])<;>(repeat' ((first|refine sP _ ?_ ?_|refine gP _ ?_ ?_|refine sN _ ?_ ?_|refine gN _ ?_ ?_|refine sM _ ?_ ?_|refine gM _ ?_ ?_|refine sB _ ?_ ?_|refine gB _ ?_ ?_)<;>intro hc<;>simp[*,F119,za,ints,kids,zca,zXa]))
   all_goals(try grind)
  ·(simp[*,F119,za,ints,kids,zca,zXa])<;>(repeat' ((first|refine sP _ ?_ ?_|refine gP _ ?_ ?_|refine sN _ ?_ ?_|refine gN _ ?_ ?_|refine sM _ ?_ ?_|refine gM _ ?_ ?_|refine sB _ ?_ ?_|refine gB _ ?_ ?_)<;>intro hc<;>simp[*,F119,za,ints,kids,zca,zXa]))
   all_goals(try grind)
def zp(u:Unt)(f:Flow)(seen:List Int)(w:Place)(Z:Set1)(n:Node):Bool×Set1:=
 let ty:=f.types
 if n.kind=1 then if zC ty seen n.args []then zD ty Z n.outs [1]else(false,Z)
 else if n.kind=2 then if(n.n=0\/n.n=1)/\zC ty seen n.args []=true then zD ty Z n.outs [2]else(false,Z)
 else if n.kind=3 then if isOne n.op&&zC ty seen n.args [takes n.op]then zD ty Z n.outs [ztb n.op]else(false,Z)
 else if n.kind=4 then if(isTwo n.op&&zC ty seen n.args [takes n.op,takes n.op])=true/\at0 ty (at0 n.args 0)=at0 ty (at0 n.args 1)then zD ty Z n.outs [ztb n.op]else(false,Z)
 else if n.kind=5 then if zsc u.arrays n.name&&zC ty seen n.args [1]then zD ty Z n.outs [1]else(false,Z)
 else if n.kind=6 then(zsc u.arrays n.name&&(zC ty seen n.args [1,1]&&decide (n.outs=[])),Z)
 else if n.kind=7 then
  match u.flows[(zZ u.flows n.name).toNat]? with
  |some g=>if 0<=zZ u.flows n.name/\zC ty seen n.args (pars g)=true then zD ty Z n.outs [g.type]else(false,Z)
  |none=>(false,Z)
 else if n.kind=8 then if n.args=[]then zD ty Z n.outs [1]else(false,Z)
 else if n.kind=9 then(zC ty seen n.args [1]&&decide (n.outs=[]),Z)
 else if n.kind=12 then(w.inIf&&(zC ty seen n.args w.yield&&decide (n.outs=[])),Z)
 else if n.kind=13 then(w.inLoop&&(zC ty seen n.args w.next&&decide (n.outs=[])),Z)
 else if n.kind=14 then(w.inLoop&&(zC ty seen n.args w.left&&decide (n.outs=[])),Z)
 else if n.kind=15 then(zC ty seen n.args [f.type]&&decide (n.outs=[]),Z)
 else(false,Z)
theorem typesR_two{ty seen l:List Int}{t t':Int}(h:zC ty seen l [t,t']=true):∃a b,l=[a,b]/\0<=a/\a<ty.length/\0<=b/\b<ty.length:=by
 unfold zC at h
 match l with
 | []=>simp at h
 | [_]=>simp at h
 |a::b::_::_=>simp at h
 | [a,b]=>
  simp[useR]at h;exact⟨a,b,rfl,h.1.1,h.1.2.1,h.2.1,h.2.2.1⟩
theorem arrAt_has(l:List Arr)(s:List UInt8):decide (0<=zFe l s)=zsc l s:=idx_ge _ _
set_option maxHeartbeats 1000000 in
theorem rsimple_spec(u:Unt)(f:Flow)(seen:List Int)(w:Place)(Z:Set1)(x:Node)(hu:UOk u)(hZ:Z.length=f.types.length)(hx:wtN x<1099511627776)(hs:seen.length<1099511627776):
  zk E 123 [chkV u f f.types.length,zK x,ints seen,zg w] [seO Z]=some (.ret (.bool (zp u f seen w Z x).1),[seO (zp u f seen w Z x).2]):=by
 refine zc rfl rfl rfl (by simp[za,chkV,zg]) ?_;have hw:=zlb x;have hT:=fun want=>rtypes_spec u f f.types.length x.args seen want [seO Z] (by omega) hs
 have hS:=fun want=>rsets_spec u f Z x.outs want hZ (by omega)
 have h6:=rarray_spec u x.name [] hu.arrs;have h7:=zWc u x.name [] hu.flows;have ho:=arrAt_has u.arrays x.name;have hl0:decide ((x.outs.length:Int)=0)=decide (x.outs=[]):=by simp
 have hl1:decide ((x.args.length:Int)=0)=decide (x.args=[]):=by simp
 by_cases k7:x.kind=7
 ·by_cases hp:0<=zZ u.flows x.name
  ·obtain⟨g,q1,q2,q3,q4⟩:=place_get hp;obtain⟨p1,p2⟩:=hu.pars g q2;have q5:u.flows[(zZ u.flows x.name).toNat]=g:=by simpa[q4]using q1
   have e:zp u f seen w Z x=if zC f.types seen x.args (pars g)=true then zD f.types Z x.outs [g.type]else(false,Z):=by simp[zp,k7,q1,hp]
   have h8:=hT (pars g);have h9:=hS [g.type];have p3:g.params.toNat<=g.types.length:=by omega
   simp[chkV,ints,encUnt,za,k7,flows,pars,List.map_take]at h8 h9 h7;clear h6 hu hT hS hw hl0 hl1 ho
   (simp[*,F123,za,chkV,ints,flows,zf,pars,List.map_take,zg])<;>(repeat' ((first|refine sP _ ?_ ?_|refine gP _ ?_ ?_|refine sN _ ?_ ?_|refine gN _ ?_ ?_|refine sM _ ?_ ?_|refine gM _ ?_ ?_|refine sB _ ?_ ?_|refine gB _ ?_ ?_)<;>intro hc<;>simp[*,F123,za,chkV,ints,flows,zf,pars,List.map_take,zg]))
  ·have e:zp u f seen w Z x=(false,Z):=by
    simp only[zp,k7];simp;split<;>simp[hp]
   simp[chkV,ints,encUnt,za,k7]at h7;clear h6 hu hT hS hw hl0 hl1 ho
   (simp[*,F123,za,chkV,ints,zg])<;>(repeat' ((first|refine sP _ ?_ ?_|refine gP _ ?_ ?_|refine sN _ ?_ ?_|refine gN _ ?_ ?_|refine sM _ ?_ ?_|refine gM _ ?_ ?_|refine sB _ ?_ ?_|refine gB _ ?_ ?_)<;>intro hc<;>simp[*,F123,za,chkV,ints,zg]))
 by_cases k3:x.kind=3
 ·have e:zp u f seen w Z x=if isOne x.op&&zC f.types seen x.args [takes x.op]then zD f.types Z x.outs [ztb x.op]else(false,Z):=by simp[zp,k3]
  have a1:=roperand_spec x.op;have a2:=isOne_spec x.op;cases ho1:isOne x.op
  ·rw[ho1]at e a2;clear h6 h7 hu hT hS hw hl0 hl1 ho
   (simp[*,F123,za,chkV,ints,zg])<;>(repeat' ((first|refine sP _ ?_ ?_|refine gP _ ?_ ?_|refine sN _ ?_ ?_|refine gN _ ?_ ?_|refine sM _ ?_ ?_|refine gM _ ?_ ?_|refine sB _ ?_ ?_|refine gB _ ?_ ?_)<;>intro hc<;>simp[*,F123,za,chkV,ints,zg]))
  ·obtain⟨t1,t2⟩:=takesR_one ho1;rw[t1,t2]at a1;rw[ho1]at e a2;have h8:=hT [takes x.op];have h9:=hS [ztb x.op];simp[chkV,ints,za]at h8 h9;clear h6 h7 hu hT hS hw hl0 hl1 ho
   (simp[*,F123,za,chkV,ints,zg])<;>(repeat' ((first|refine sP _ ?_ ?_|refine gP _ ?_ ?_|refine sN _ ?_ ?_|refine gN _ ?_ ?_|refine sM _ ?_ ?_|refine gM _ ?_ ?_|refine sB _ ?_ ?_|refine gB _ ?_ ?_)<;>intro hc<;>simp[*,F123,za,chkV,ints,zg]))
 by_cases k4:x.kind=4
 ·have e:zp u f seen w Z x=if(isTwo x.op&&zC f.types seen x.args [takes x.op,takes x.op])=true/\at0 f.types (at0 x.args 0)=at0 f.types (at0 x.args 1)then zD f.types Z x.outs [ztb x.op]else(false,Z):=by simp[zp,k4]
  have a1:=roperand_spec x.op;have a2:=isTwo_spec x.op;cases ho1:isTwo x.op
  ·rw[ho1]at e a2;clear h6 h7 hu hT hS hw hl0 hl1 ho
   (simp[*,F123,za,chkV,ints,zg])<;>(repeat' ((first|refine sP _ ?_ ?_|refine gP _ ?_ ?_|refine sN _ ?_ ?_|refine gN _ ?_ ?_|refine sM _ ?_ ?_|refine gM _ ?_ ?_|refine sB _ ?_ ?_|refine gB _ ?_ ?_)<;>intro hc<;>simp[*,F123,za,chkV,ints,zg]))
  ·obtain⟨t1,t2⟩:=takesR_two ho1;rw[t1,t2]at a1;rw[ho1]at e a2;have h8:=hT [takes x.op,takes x.op];have h9:=hS [ztb x.op];cases hty:zC f.types seen x.args [takes x.op,takes x.op]
   ·rw[hty]at e h8;simp[chkV,ints,za]at h8 h9;clear h6 h7 hu hT hS hw hl0 hl1 ho
    (simp[*,F123,za,chkV,ints,zg])<;>(repeat' ((first|refine sP _ ?_ ?_|refine gP _ ?_ ?_|refine sN _ ?_ ?_|refine gN _ ?_ ?_|refine sM _ ?_ ?_|refine gM _ ?_ ?_|refine sB _ ?_ ?_|refine gB _ ?_ ?_)<;>intro hc<;>simp[*,F123,za,chkV,ints,zg]))
   ·obtain⟨a,b,e1,r0,r1,r2,r3⟩:=typesR_two hty;have q1:=zid r0 r1;have q2:a.toNat<f.types.length:=by omega
    have q3:=zwc r0 r1 q2;have q1':=zid r2 r3;have q2':b.toNat<f.types.length:=by omega
    have q3':=zwc r2 r3 q2';have z0:at0 [a,b] 0=a:=rfl;have z1:at0 [a,b] 1=b:=rfl;rw[hty]at e h8;rw[e1]at e h8 hty;simp[chkV,ints,za]at h8 h9;clear h6 h7 hu hT hS hw hl0 hl1 ho
    (simp[*,F123,za,chkV,ints,zg])<;>(repeat' ((first|refine sP _ ?_ ?_|refine gP _ ?_ ?_|refine sN _ ?_ ?_|refine gN _ ?_ ?_|refine sM _ ?_ ?_|refine gM _ ?_ ?_|refine sB _ ?_ ?_|refine gB _ ?_ ?_)<;>intro hc<;>simp[*,F123,za,chkV,ints,zg]))
    all_goals(try grind)
 have e:zp u f seen w Z x=if x.kind=1 then if zC f.types seen x.args []then zD f.types Z x.outs [1]else(false,Z)
  else if x.kind=2 then if(x.n=0\/x.n=1)/\zC f.types seen x.args []=true then zD f.types Z x.outs [2]else(false,Z)
  else if x.kind=5 then if zsc u.arrays x.name&&zC f.types seen x.args [1]then zD f.types Z x.outs [1]else(false,Z)
  else if x.kind=6 then(zsc u.arrays x.name&&(zC f.types seen x.args [1,1]&&decide (x.outs=[])),Z)
  else if x.kind=8 then if x.args=[]then zD f.types Z x.outs [1]else(false,Z)
  else if x.kind=9 then(zC f.types seen x.args [1]&&decide (x.outs=[]),Z)
  else if x.kind=12 then(w.inIf&&(zC f.types seen x.args w.yield&&decide (x.outs=[])),Z)
  else if x.kind=13 then(w.inLoop&&(zC f.types seen x.args w.next&&decide (x.outs=[])),Z)
  else if x.kind=14 then(w.inLoop&&(zC f.types seen x.args w.left&&decide (x.outs=[])),Z)
  else if x.kind=15 then(zC f.types seen x.args [f.type]&&decide (x.outs=[]),Z)
  else(false,Z):=by simp[zp,k7,k3,k4]
 have t0:=hT [];have t1:=hT [1];have t2:=hT [1,1];have t3:=hT w.yield;have t4:=hT w.next;have t5:=hT w.left;have t6:=hT [f.type];have s1:=hS [1];have s2:=hS [2];simp[chkV,ints,za,encUnt]at t0 t1 t2 t3 t4 t5 t6 s1 s2 h6;clear h7 hu hT hS hw;rw[e]
 (simp[*,F123,za,chkV,ints,zg,encUnt])<;>(repeat' (first|((first|refine sP _ ?_ ?_|refine gP _ ?_ ?_|refine sN _ ?_ ?_|refine gN _ ?_ ?_)<;>intro hc<;>(first|replace hc:=eqn hc|replace hc:=eqp hc)<;>simp[*,F123,za,chkV,ints,zg,encUnt])|((first|refine sM _ ?_ ?_|refine gM _ ?_ ?_|refine sB _ ?_ ?_|refine gB _ ?_ ?_)<;>intro hc<;>simp[*,F123,za,chkV,ints,zg,encUnt])))
 all_goals(try grind)
def zNa(l:List Node)(q:Bool×Set1):Bool×Set1:=if q.1 then(!l.isEmpty,q.2)else(false,q.2)
def endR(ty:List Int)(x:Node)(q:Bool×Set1):Bool×Set1:=if q.1&&(decide (x.outs=[])|| !zb x)then zD ty q.2 x.outs (zna x.outs.length)else(false,q.2)
mutual
def zy(u:Unt)(f:Flow):Node->List Int->Place->Int->Set1->Bool×Set1
 |⟨k,o,n,s,a,us,ps,ks⟩,seen,w,deep,Z=>
  if !zca ⟨k,o,n,s,a,us,ps,ks⟩then(false,Z)
  else if k=10 then
   if zC f.types seen a [2]then endR f.types ⟨k,o,n,s,a,us,ps,ks⟩ (zH u f ks seen {w with inIf:=true,yield:=typesM f.types us} (deep+1) Z)else(false,Z)
  else if k=11 then
   if zC f.types seen a (typesM f.types ps)then
    if(zD f.types Z ps (zna ps.length)).1 then endR f.types ⟨k,o,n,s,a,us,ps,ks⟩ (zH u f ks (seen++ps) ⟨false,true,[],typesM f.types ps,typesM f.types us⟩ (deep+1) (zD f.types Z ps (zna ps.length)).2)
    else(false,(zD f.types Z ps (zna ps.length)).2)
   else(false,Z)
  else zp u f seen w Z ⟨k,o,n,s,a,us,ps,ks⟩
def zH(u:Unt)(f:Flow):List (List Node)->List Int->Place->Int->Set1->Bool×Set1
 | [],seen,w,deep,Z=>(true,Z)
 |l::r,seen,w,deep,Z=>if(zNa l (goR u f l seen w deep Z)).1 then zH u f r seen w deep (zNa l (goR u f l seen w deep Z)).2 else(false,(zNa l (goR u f l seen w deep Z)).2)
def goR(u:Unt)(f:Flow):List Node->List Int->Place->Int->Set1->Bool×Set1
 | [],seen,w,deep,Z=>(true,Z)
 |x::r,seen,w,deep,Z=>if 100<deep then(false,Z)else
   if(zy u f x seen w deep Z).1 then(if zb x=r.isEmpty then goR u f r (seen++x.outs) w deep (zy u f x seen w deep Z).2 else(false,(zy u f x seen w deep Z).2))else(false,(zy u f x seen w deep Z).2)
end
def zIb(u:Unt)(f:Flow)(l:List Node)(seen:List Int)(w:Place)(deep:Int)(Z:Set1):Bool×Set1:=zNa l (goR u f l seen w deep Z)
theorem zsa(u:Unt)(f:Flow)(x:Node)(seen:List Int)(w:Place)(deep:Int)(Z:Set1):zy u f x seen w deep Z=
  if !zca x then(false,Z)
  else if x.kind=10 then
   if zC f.types seen x.args [2]then endR f.types x (zH u f x.kids seen {w with inIf:=true,yield:=typesM f.types x.outs} (deep+1) Z)else(false,Z)
  else if x.kind=11 then
   if zC f.types seen x.args (typesM f.types x.params)then
    if(zD f.types Z x.params (zna x.params.length)).1 then endR f.types x (zH u f x.kids (seen++x.params) ⟨false,true,[],typesM f.types x.params,typesM f.types x.outs⟩ (deep+1) (zD f.types Z x.params (zna x.params.length)).2)
    else(false,(zD f.types Z x.params (zna x.params.length)).2)
   else(false,Z)
  else zp u f seen w Z x:=by
 cases x;rw[zy]
theorem kidsR_nil(u:Unt)(f:Flow)(seen:List Int)(w:Place)(deep:Int)(Z:Set1):zH u f [] seen w deep Z=(true,Z):=by rw[zH]
theorem kidsR_cons(u:Unt)(f:Flow)(l:List Node)(r:List (List Node))(seen:List Int)(w:Place)(deep:Int)(Z:Set1):zH u f (l::r) seen w deep Z=if(zIb u f l seen w deep Z).1 then zH u f r seen w deep (zIb u f l seen w deep Z).2 else(false,(zIb u f l seen w deep Z).2):=by rw[zH];rfl
theorem len_ite{c:Prop}[Decidable c]{a b:Bool×Set1}{n:Nat}(ha:a.2.length=n)(hb:b.2.length=n):(if c then a else b).2.length=n:=by
 split<;>assumption
theorem simpleR_len(u:Unt)(f:Flow)(seen:List Int)(w:Place)(Z:Set1)(x:Node):(zp u f seen w Z x).2.length=Z.length:=by
 unfold zp;dsimp only
 repeat' (first|exact zfb _ _ _ _|exact rfl|refine len_ite ?_ ?_|split)
theorem endR_len(ty:List Int)(x:Node)(q:Bool×Set1):(endR ty x q).2.length=q.2.length:=by
 unfold endR;split<;>simp[zfb]
theorem lastE_len(l:List Node)(q:Bool×Set1):(zNa l q).2.length=q.2.length:=by
 unfold zNa;split<;>simp
mutual
theorem nodeR_len(u:Unt)(f:Flow):∀(x:Node) (seen:List Int) (p:Place) (deep:Int) (Z:Set1),(zy u f x seen p deep Z).2.length=Z.length
 |⟨k,o,n,s,a,us,ps,ks⟩,seen,p,deep,Z=>by
  rw[zy];split
  ·rfl
  split
  ·split
   ·rw[endR_len,kidsR_len u f ks]
   ·rfl
  split
  ·split
   ·split
    ·rw[endR_len,kidsR_len u f ks];simp[zfb]
    ·simp[zfb]
   ·rfl
  ·exact simpleR_len _ _ _ _ _ _
theorem kidsR_len(u:Unt)(f:Flow):∀(ks:List (List Node)) (seen:List Int) (p:Place) (deep:Int) (Z:Set1),(zH u f ks seen p deep Z).2.length=Z.length
 | [],seen,p,deep,Z=>rfl
 |l::r,seen,p,deep,Z=>by
  rw[zH];split
  ·rw[kidsR_len u f r,lastE_len,goR_len u f l]
  ·simp only;rw[lastE_len,goR_len u f l]
theorem goR_len(u:Unt)(f:Flow):∀(l:List Node) (seen:List Int) (p:Place) (deep:Int) (Z:Set1),(goR u f l seen p deep Z).2.length=Z.length
 | [],seen,p,deep,Z=>rfl
 |x::r,seen,p,deep,Z=>by
  rw[goR];split
  ·rfl
  split
  ·split
   ·rw[goR_len u f r,nodeR_len u f x]
   ·exact nodeR_len u f x seen p deep Z
  ·exact nodeR_len u f x seen p deep Z
end
theorem listR_len(u:Unt)(f:Flow)(l:List Node)(seen:List Int)(p:Place)(deep:Int)(Z:Set1):(zIb u f l seen p deep Z).2.length=Z.length:=by
 unfold zIb;rw[lastE_len,goR_len]
def RListOk(u:Unt)(f:Flow)(deep:Int)(seen:List Int)(l:List Node):Prop:=∀p Z,Z.length=f.types.length→
 zk E 63 [chkV u f f.types.length,zh l,ints seen,zg p,.int .i64 deep] [seO Z]=some (.ret (.bool (zIb u f l seen p deep Z).1),[seO (zIb u f l seen p deep Z).2])
set_option maxHeartbeats 1000000 in
theorem rnode_spec(u:Unt)(f:Flow)(seen:List Int)(Z:Set1)(x:Node)(p:Place)(deep:Int)(hu:UOk u)(hZ:Z.length=f.types.length)(hx:wtN x<1099511627776)(hd:0<=deep/\deep<=100)
  (hs:seen.length+wtN x<1099511627776) (hl:∀l∈x.kids,∀seen',seen'.length<=seen.length+x.params.length->RListOk u f (deep+1) seen' l):
  zk E 91 [chkV u f f.types.length,zK x,ints seen,zg p,.int .i64 deep] [seO Z]=some (.ret (.bool (zy u f x seen p deep Z).1),[seO (zy u f x seen p deep Z).2]):=by
 refine zc rfl rfl rfl (by simp[za,chkV,zg]) ?_;have hw:zW .i64 (deep+1)=deep+1:=zm (by omega) (by omega);have hwx:=zlb x;have h0:=rbare_spec x;have h3:=rsimple_spec u f seen p Z x hu hZ hx (by omega);have he:=zsa u f x seen p deep Z;rw[he];clear he;have hb:zca x=true->(x.kids.length:Int)=zXa x.kind:=by
  intro h;simp only[zca,ya,decide_eq_true_eq]at h;exact h.2
 cases hbx:zca x
 ·simp[chkV,za,zg,hbx]at h0 h3;clear hl hb hwx
  (simp[*,F91,za,chkV,zg])<;>(repeat' (first|((first|refine sP _ ?_ ?_|refine gP _ ?_ ?_|refine sN _ ?_ ?_|refine gN _ ?_ ?_)<;>intro hc<;>(first|replace hc:=eqn hc|replace hc:=eqp hc)<;>simp[*,F91,za,chkV,zg])|((first|refine sM _ ?_ ?_|refine gM _ ?_ ?_|refine sB _ ?_ ?_|refine gB _ ?_ ?_)<;>intro hc<;>simp[*,F91,za,chkV,zg])))
 have hb:=hb hbx;have ho:decide ((x.outs.length:Int)=0)=decide (x.outs=[]):=by simp
 have lo1:(0:Int)<=(x.outs.length:Int):=by omega
 have lo2:(x.outs.length:Int)<=9223372036854775807:=by omega
 have lo3:8*(x.outs.length:Int)<=281474976710656:=by omega
 have lp1:(0:Int)<=(x.params.length:Int):=by omega
 have lp2:(x.params.length:Int)<=9223372036854775807:=by omega
 have lp3:8*(x.params.length:Int)<=281474976710656:=by omega
 have h5:=zCb x [] hx;have hof:=of_spec u f f.types.length x.outs [seO Z] (by omega);by_cases h10:x.kind=10
 ·have hk:x.kids.length=2:=by simp[zXa,h10]at hb;omega
  obtain⟨a,b,hab⟩:∃a b,x.kids=[a,b]:=by
   match hh:x.kids with
   | []=>rw[hh]at hk;cases hk
   | [_]=>rw[hh]at hk;cases hk
   | [a,b]=>exact⟨a,b,rfl⟩
   |_::_::_::_=>rw[hh]at hk;simp at hk
  generalize hp':({p with inIf:=true,yield:=typesM f.types x.outs}:Place)=p';have e1:p'.inIf=true:=by rw[<-hp']
  have e2:p'.inLoop=p.inLoop:=by rw[<-hp']
  have e3:p'.yield=typesM f.types x.outs:=by rw[<-hp']
  have e4:p'.next=p.next:=by rw[<-hp']
  have e5:p'.left=p.left:=by rw[<-hp']
  have hT:=rtypes_spec u f f.types.length x.args seen [2] [seO Z] (by omega) (by omega);have h1:=hl a (by rw[hab];simp) seen (by omega) p' Z hZ;have hZ2:(zIb u f a seen p' (deep+1) Z).2.length=f.types.length:=by rw[listR_len];exact hZ
  have h2:=hl b (by rw[hab];simp) seen (by omega) p' _ hZ2;have hZ3:(zIb u f b seen p' (deep+1) (zIb u f a seen p' (deep+1) Z).2).2.length=f.types.length:=by rw[listR_len];exact hZ2
  have hS:=rsets_spec u f _ x.outs (zna x.outs.length) hZ3 (by omega);have ek:zH u f [a,b] seen p' (deep+1) Z=if(zIb u f a seen p' (deep+1) Z).1 then if(zIb u f b seen p' (deep+1) (zIb u f a seen p' (deep+1) Z).2).1 then(true,(zIb u f b seen p' (deep+1) (zIb u f a seen p' (deep+1) Z).2).2)else(false,(zIb u f b seen p' (deep+1) (zIb u f a seen p' (deep+1) Z).2).2)else(false,(zIb u f a seen p' (deep+1) Z).2):=by
   rw[kidsR_cons,kidsR_cons,kidsR_nil]
  simp[chkV,ints,za,zg,kids,hab,e1,e2,e3,e4,e5,hbx,zna]at h0 h1 h2 hT hS h5 hof;generalize zIb u f a seen p' (deep+1) Z=ra at*;generalize zIb u f b seen p' (deep+1) ra.2=rb at*;simp[h10]at h0 h5;clear hl hb hwx h3;simp only[hab]
  (simp[*,F91,za,chkV,ints,zg,kids,endR,zna])<;>(repeat' (first|((first|refine sP _ ?_ ?_|refine gP _ ?_ ?_|refine sN _ ?_ ?_|refine gN _ ?_ ?_)<;>intro hc<;>(first|replace hc:=eqn hc|replace hc:=eqp hc)<;>simp[*,F91,za,chkV,ints,zg,kids,endR,zna])|((first|refine sM _ ?_ ?_|refine gM _ ?_ ?_|refine sB _ ?_ ?_|refine gB _ ?_ ?_)<;>intro hc<;>simp[*,F91,za,chkV,ints,zg,kids,endR,zna])))
  all_goals(try grind)
 by_cases h11:x.kind=11
 ·have hk:x.kids.length=1:=by simp[zXa,h11]at hb;omega
  obtain⟨a,hab⟩:∃a,x.kids=[a]:=by
   match hh:x.kids with
   | []=>rw[hh]at hk;cases hk
   | [a]=>exact⟨a,rfl⟩
   |_::_::_=>rw[hh]at hk;simp at hk
  generalize hp':(⟨false,true,[],typesM f.types x.params,typesM f.types x.outs⟩:Place)=p';have e1:p'.inIf=false:=by rw[<-hp']
  have e2:p'.inLoop=true:=by rw[<-hp']
  have e3:p'.yield=[]:=by rw[<-hp']
  have e4:p'.next=typesM f.types x.params:=by rw[<-hp']
  have e5:p'.left=typesM f.types x.outs:=by rw[<-hp']
  have hop:=of_spec u f f.types.length x.params [seO Z] (by omega);have hT:=rtypes_spec u f f.types.length x.args seen (typesM f.types x.params) [seO Z] (by omega) (by omega);have hP:=rsets_spec u f Z x.params (zna x.params.length) hZ (by omega);have hZ1:(zD f.types Z x.params (zna x.params.length)).2.length=f.types.length:=by rw[zfb];exact hZ
  have h1:=hl a (by rw[hab];simp) (seen++x.params) (by simp) p' _ hZ1;have hZ2:(zIb u f a (seen++x.params) p' (deep+1) (zD f.types Z x.params (zna x.params.length)).2).2.length=f.types.length:=by rw[listR_len];exact hZ1
  have hS:=rsets_spec u f _ x.outs (zna x.outs.length) hZ2 (by omega);have ek:zH u f [a] (seen++x.params) p' (deep+1) (zD f.types Z x.params (zna x.params.length)).2=if(zIb u f a (seen++x.params) p' (deep+1) (zD f.types Z x.params (zna x.params.length)).2).1 then(true,(zIb u f a (seen++x.params) p' (deep+1) (zD f.types Z x.params (zna x.params.length)).2).2)else(false,(zIb u f a (seen++x.params) p' (deep+1) (zD f.types Z x.params (zna x.params.length)).2).2):=by
   rw[kidsR_cons,kidsR_nil]
  have r1:(seen.length)*8<=zo:=by simp only[zo];omega
  have r2:(seen.length+x.params.length)*8<=zo:=by simp only[zo];omega
  simp[chkV,ints,za,zg,kids,hab,e1,e2,e3,e4,e5,hbx,zna]at h0 h1 hT hS h5 hof hop hP;simp[zna]at hZ1 hZ2 ek;obtain⟨ra,hra⟩:∃ra,zIb u f a (seen++x.params) p' (deep+1) (zD f.types Z x.params (yf x.params.length 0)).2=ra:=⟨_,rfl⟩
  simp only[hra]at h1 hS ek hZ2;simp[h11]at h0 h5;clear hl hb hwx h3;simp only[hab]
  (simp[*,F91,za,chkV,ints,zg,kids,endR,zna])<;>(repeat' (first|((first|refine sP _ ?_ ?_|refine gP _ ?_ ?_|refine sN _ ?_ ?_|refine gN _ ?_ ?_)<;>intro hc<;>(first|replace hc:=eqn hc|replace hc:=eqp hc)<;>simp[*,F91,za,chkV,ints,zg,kids,endR,zna])|((first|refine sM _ ?_ ?_|refine gM _ ?_ ?_|refine sB _ ?_ ?_|refine gB _ ?_ ?_)<;>intro hc<;>simp[*,F91,za,chkV,ints,zg,kids,endR,zna])))
  all_goals(try grind)
 simp[chkV,za,zg,hbx]at h0 h3;clear hl hb hwx h5 hof
 (simp[*,F91,za,chkV,zg])<;>(repeat' (first|((first|refine sP _ ?_ ?_|refine gP _ ?_ ?_|refine sN _ ?_ ?_|refine gN _ ?_ ?_)<;>intro hc<;>(first|replace hc:=eqn hc|replace hc:=eqp hc)<;>simp[*,F91,za,chkV,zg])|((first|refine sM _ ?_ ?_|refine gM _ ?_ ?_|refine sB _ ?_ ?_|refine gB _ ?_ ?_)<;>intro hc<;>simp[*,F91,za,chkV,zg])))
def sdR(u:Unt)(f:Flow)(p:Place)(deep:Int)(seen:List Int)(Z:Set1)(d:List Node):Set1×List Int:=d.foldl (fun q x=>((zy u f x q.2 p deep q.1).2,q.2++x.outs)) (Z,seen)
theorem sdR_snoc(u:Unt)(f:Flow)(p:Place)(deep:Int)(seen:List Int)(Z:Set1)(d:List Node)(x:Node):sdR u f p deep seen Z (d++[x])=((zy u f x (sdR u f p deep seen Z d).2 p deep (sdR u f p deep seen Z d).1).2,(sdR u f p deep seen Z d).2++x.outs):=by simp[sdR]
theorem sdR_len(u:Unt)(f:Flow)(p:Place)(deep:Int)(d:List Node):∀seen Z,(sdR u f p deep seen Z d).1.length=Z.length:=by
 induction d with
 |nil=>intro seen Z;rfl
 |cons x r ih=>intro seen Z;simp only[sdR,yU];rw[<-sdR,ih,nodeR_len]
def ztd(l:List Node):List Int:=l.flatMap fun x=>x.outs
theorem wt_kid2{x:Node}{l:List Node}(h:l∈x.kids):wtL l+1<=wtK x.kids:=by
 generalize x.kids=ks at h
 induction ks with
 |nil=>cases h
 |cons y r ih=>
  simp only[wtK];rcases yA.1 h with rfl|h
  ·omega
  ·have:=ih h;omega
@[simp] theorem louts_nil:ztd []=[]:=rfl
theorem louts_append(a b:List Node):ztd (a++b)=ztd a++ztd b:=by simp[ztd]
@[simp] theorem louts_snoc(a:List Node)(x:Node):ztd (a++[x])=ztd a++x.outs:=by simp[ztd]
theorem louts_cons(a:List Node)(x:Node):ztd (x::a)=x.outs++ztd a:=by simp[ztd]
theorem sdR_seen(u:Unt)(f:Flow)(p:Place)(deep:Int)(d:List Node):∀seen Z,(sdR u f p deep seen Z d).2=seen++ztd d:=by
 induction d with
 |nil=>intro seen Z;simp[sdR]
 |cons x r ih=>intro seen Z;simp only[sdR,yU];rw[<-sdR,ih,louts_cons];simp
theorem outs_wt(l:List Node):(ztd l).length<=wtL l:=by
 induction l with
 |nil=>simp
 |cons x r ih=>rw[louts_cons,ym,wtL];have:=zlb x;omega
theorem rlist_spec(u:Unt)(f:Flow)(hu:UOk u):∀(N:Nat) (l:List Node) (deep:Int) (seen:List Int),wtL l<=N->seen.length+N<1099511627776->0<=deep->deep<=101->RListOk u f deep seen l:=by
 intro N
 induction N using ysa with
 |ind N ih=>
  intro l deep seen hl hN hd0 hd1 p Z hZ;refine zc rfl rfl rfl (by simp[chkV,zg]) ?_;have hll:=zlc l;have r1:(seen.length)*8<=zo:=by simp only[zo];omega
  simp[F63,zg,zh,ints,r1];refine zG l K63_0 B63_0 (fun d=>[(12,.int .i64 d.length),(11,acc 1 ((seen++ztd d).map (PV.int .i64)))]) (fun d=>[seO (sdR u f p deep seen Z d).1]) (fun d=>∃r,l=d++r/\goR u f l seen p deep Z=goR u f r (seen++ztd d) p deep (sdR u f p deep seen Z d).1) (by omega) (by simp[sdR]) ?_ ?_
  ·rintro d x r s hl' hlt hget hget' hw ⟨r',hr1,hr2⟩ h1 h2 h3 h4
   have:=split_of hl' hr1;subst this;simp at h1 h2 h3;have hwx:=zHe hl'.mem;have hxe:=zlb x;have hZ1:(sdR u f p deep seen Z d).1.length=f.types.length:=by rw[sdR_len];exact hZ
   have hseen:=sdR_seen u f p deep d seen Z;rw[goR]at hr2;have hsn:=sdR_snoc u f p deep seen Z d x;rw[hseen]at hsn;have hlast:=split_last hl';have hw2:zW .i64 ((l.length:Int)-1)=(l.length:Int)-1:=zm (by omega) (by omega);have hc:=zCb x [] (by omega);have hlm:zIb u f l seen p deep Z=zNa l (goR u f l seen p deep Z):=rfl;have hfl:(ztd l)=ztd d++(x.outs++ztd r):=by rw[hl'.eq,louts_append,louts_cons]
   have how:=outs_wt l;have hdw:wtL l=wtL d+(1+wtN x+wtL r):=by rw[hl'.eq,zzc];rfl
   have hod:=outs_wt d;have hlen:(ztd d).length+x.outs.length<=wtL l:=by omega
   clear hfl;by_cases hdeep:100<deep
   ·have e:zIb u f l seen p deep Z=(false,(sdR u f p deep seen Z d).1):=by rw[hlm,hr2,if_pos hdeep];rfl
    clear ih hr1 hlm
    (simp[*,za,zh])<;>(repeat' (first|((first|refine sP _ ?_ ?_|refine gP _ ?_ ?_|refine sN _ ?_ ?_|refine gN _ ?_ ?_)<;>intro hc<;>(first|replace hc:=eqn hc|replace hc:=eqp hc)<;>simp[*,za,zh])|((first|refine sM _ ?_ ?_|refine gM _ ?_ ?_|refine sB _ ?_ ?_|refine gB _ ?_ ?_)<;>intro hc<;>simp[*,za,zh])))
   have hn:=rnode_spec u f (seen++ztd d) (sdR u f p deep seen Z d).1 x p deep hu hZ1 (by omega) (by omega) (by simp only[ym];omega) (fun k hk seen' hs'=>by
    have:=wt_kid2 hk;refine ih (wtL k) (by omega) k (deep+1) seen' (yg _) ?_ (by omega) (by omega);simp only[ym]at hs';omega)
   rw[if_neg hdeep]at hr2;generalize hq:zy u f x (seen++ztd d) p deep (sdR u f p deep seen Z d).1=q at*;have r2:(seen.length+(ztd d).length+x.outs.length)*8<=zo:=by simp only[zo];omega
   simp[za,zg,ints]at hn hc;cases hq1:q.1
   ·rw[hq1]at hr2 hn;have e:zIb u f l seen p deep Z=(false,q.2):=by rw[hlm,hr2];rfl
    clear ih hr1 hlm
    (simp[*,za,zh,ints])<;>(repeat' (first|((first|refine sP _ ?_ ?_|refine gP _ ?_ ?_|refine sN _ ?_ ?_|refine gN _ ?_ ?_)<;>intro hc<;>(first|replace hc:=eqn hc|replace hc:=eqp hc)<;>simp[*,za,zh,ints])|((first|refine sM _ ?_ ?_|refine gM _ ?_ ?_|refine sB _ ?_ ?_|refine gB _ ?_ ?_)<;>intro hc<;>simp[*,za,zh,ints])))
   rw[hq1]at hr2 hn;simp at hr2;by_cases hcl:zb x=r.isEmpty
   ·rw[if_pos hcl]at hr2;clear ih hc hr1 hlm;have hc:=zCb x [] (by omega);simp[za,ints]at hc;rw[hcl]at hc;have e:∃r',l=d++x::r'/\goR u f l seen p deep Z=goR u f r' (seen++(ztd d++x.outs)) p deep q.2:=⟨r,by rw[hl'.eq],by rw[hr2]⟩
    (simp[*,za,zh,ints])<;>(repeat' (first|((first|refine sP _ ?_ ?_|refine gP _ ?_ ?_|refine sN _ ?_ ?_|refine gN _ ?_ ?_)<;>intro hc<;>(first|replace hc:=eqn hc|replace hc:=eqp hc)<;>simp[*,za,zh,ints])|((first|refine sM _ ?_ ?_|refine gM _ ?_ ?_|refine sB _ ?_ ?_|refine gB _ ?_ ?_)<;>intro hc<;>simp[*,za,zh,ints])))
    all_goals(try grind)
   ·rw[if_neg hcl]at hr2;have e:zIb u f l seen p deep Z=(false,q.2):=by rw[hlm,hr2];rfl
    clear ih hr1 hlm
    (simp[*,za,zh,ints])<;>(repeat' (first|((first|refine sP _ ?_ ?_|refine gP _ ?_ ?_|refine sN _ ?_ ?_|refine gN _ ?_ ?_)<;>intro hc<;>(first|replace hc:=eqn hc|replace hc:=eqp hc)<;>simp[*,za,zh,ints])|((first|refine sM _ ?_ ?_|refine gM _ ?_ ?_|refine sB _ ?_ ?_|refine gB _ ?_ ?_)<;>intro hc<;>simp[*,za,zh,ints])))
    all_goals exact absurd (of_eq_true (by assumption)) hcl
  ·rintro s ⟨r',hr1,hr2⟩ h1 h2 h3 h4
   have:r'=[]:=by
    have:=congrArg List.length hr1;simp at this;exact this
   subst this;simp at h1 h2 h3;rw[goR]at hr2;have hlm:zIb u f l seen p deep Z=(!l.isEmpty,(sdR u f p deep seen Z l).1):=by
    show zNa l (goR u f l seen p deep Z)=_
    rw[hr2];rfl
   have hz:decide (0<l.length)= !l.isEmpty:=by cases l<;>simp
   clear ih hr1
   (simp[*,zg,zh])<;>(repeat' (first|((first|refine sP _ ?_ ?_|refine gP _ ?_ ?_|refine sN _ ?_ ?_|refine gN _ ?_ ?_)<;>intro hc<;>(first|replace hc:=eqn hc|replace hc:=eqp hc)<;>simp[*,zg,zh])|((first|refine sM _ ?_ ?_|refine gM _ ?_ ?_|refine sB _ ?_ ?_|refine gB _ ?_ ?_)<;>intro hc<;>simp[*,zg,zh])))
def zmc(f:Flow)(k:Nat):Set1:=yf k true++yf (f.types.length-k) false
def zIa(k:Nat):List Int:=(yaa k).map fun(i:Nat)=>(i:Int)
def zvb(u:Unt)(f:Flow):Bool:=
 !(decide (f.params<0)||decide (8<f.params)||decide ((f.types.length:Int)<f.params)||decide (20000<f.types.length)||f.types.any (fun t=> !tyOk t))&&
  (zIb u f f.body (zIa f.params.toNat) zQa 1 (zmc f f.params.toNat)).1
theorem zVb(f:Flow)(k:Nat)(h:k<=f.types.length):(zmc f k).length=f.types.length:=by simp[zmc];omega
theorem initR_set(f:Flow)(k:Nat)(h:k<f.types.length):(zmc f k).set k true=zmc f (k+1):=by
 unfold zmc;have:f.types.length-k=(f.types.length-(k+1))+1:=by omega
 rw[this,List.replicate_succ,yGa _ _ (by simp)];simp[List.replicate_succ']
theorem firsts_succ(k:Nat):zIa (k+1)=zIa k++[(k:Int)]:=by simp[zIa,yRa]
theorem firsts_len(k:Nat):(zIa k).length=k:=by simp[zIa]
theorem rflow_spec(u:Unt)(f:Flow)(hu:UOk u)(ht:f.types.length<1099511627776)(hb:wtL f.body<1099511000000):
  zk E 43 [encUnt u,zf f] []=some (.ret (.bool (zvb u f)),[]):=by
 refine zc rfl rfl rfl (by simp[encUnt,zf]) ?_;have ho:decide ((20000:Int)<f.types.length)=decide (20000<f.types.length):=by simp;omega
 have l1:(0:Int)<=(f.types.length:Int):=by omega
 have l2:(f.types.length:Int)<=9223372036854775807:=by omega
 have l3:8*(f.types.length:Int)<=281474976710656:=by omega
 have l4:(f.types.length:Int)<=281474976710656:=by omega
 by_cases c1:f.params<0
 ·have e:zvb u f=false:=by simp[zvb,c1]
  (simp[*,F43,encUnt,zf,ints])<;>(repeat' (first|((first|refine sP _ ?_ ?_|refine gP _ ?_ ?_|refine sN _ ?_ ?_|refine gN _ ?_ ?_)<;>intro hc<;>(first|replace hc:=eqn hc|replace hc:=eqp hc)<;>simp[*,F43,encUnt,zf,ints])|((first|refine sM _ ?_ ?_|refine gM _ ?_ ?_|refine sB _ ?_ ?_|refine gB _ ?_ ?_)<;>intro hc<;>simp[*,F43,encUnt,zf,ints])))
 by_cases c2:8<f.params
 ·have e:zvb u f=false:=by simp[zvb,c2]
  (simp[*,F43,encUnt,zf,ints])<;>(repeat' (first|((first|refine sP _ ?_ ?_|refine gP _ ?_ ?_|refine sN _ ?_ ?_|refine gN _ ?_ ?_)<;>intro hc<;>(first|replace hc:=eqn hc|replace hc:=eqp hc)<;>simp[*,F43,encUnt,zf,ints])|((first|refine sM _ ?_ ?_|refine gM _ ?_ ?_|refine sB _ ?_ ?_|refine gB _ ?_ ?_)<;>intro hc<;>simp[*,F43,encUnt,zf,ints])))
 by_cases c3:(f.types.length:Int)<f.params
 ·have e:zvb u f=false:=by simp[zvb,c3]
  (simp[*,F43,encUnt,zf,ints])<;>(repeat' (first|((first|refine sP _ ?_ ?_|refine gP _ ?_ ?_|refine sN _ ?_ ?_|refine gN _ ?_ ?_)<;>intro hc<;>(first|replace hc:=eqn hc|replace hc:=eqp hc)<;>simp[*,F43,encUnt,zf,ints])|((first|refine sM _ ?_ ?_|refine gM _ ?_ ?_|refine sB _ ?_ ?_|refine gB _ ?_ ?_)<;>intro hc<;>simp[*,F43,encUnt,zf,ints])))
 by_cases c4:20000<f.types.length
 ·have e:zvb u f=false:=by simp[zvb,c4]
  have c4':(20000:Int)<f.types.length:=by omega
  (simp[*,F43,encUnt,zf,ints])<;>(repeat' (first|((first|refine sP _ ?_ ?_|refine gP _ ?_ ?_|refine sN _ ?_ ?_|refine gN _ ?_ ?_)<;>intro hc<;>(first|replace hc:=eqn hc|replace hc:=eqp hc)<;>simp[*,F43,encUnt,zf,ints])|((first|refine sM _ ?_ ?_|refine gM _ ?_ ?_|refine sB _ ?_ ?_|refine gB _ ?_ ?_)<;>intro hc<;>simp[*,F43,encUnt,zf,ints])))
 have c4':¬(20000:Int)<f.types.length:=by omega
 have e:zvb u f=(!(f.types.any (fun t=> !tyOk t))&&(zIb u f f.body (zIa f.params.toNat) zQa 1 (zmc f f.params.toNat)).1):=by simp[zvb,c1,c2,c3,c4]
 have h2:=rlist_spec u f hu (wtL f.body) f.body 1 (zIa f.params.toNat) (yg _) (by rw[firsts_len];omega) (by omega) (by omega) zQa (zmc f f.params.toNat) (zVb f _ (by omega));simp[F43,encUnt,zf,ints,c1,c2,c3,c4'];refine zG f.types K43_0 B43_0 (fun d=>[(5,.int .i64 d.length)]) (fun _=>[]) (fun d=>d.all tyOk=true) (by omega) (by simp) ?_ ?_
 ·intros d x r s hl' hlt hget hget' hw hp q1 q2 q3 q4;simp at q1 q2 q3;have hf:tyOk x=false->zvb u f=false:=fun h=>by
   rw[e];have:f.types.any (fun t=> !tyOk t)=true:=by rw[hl'.eq];simp[h]
   rw[this];rfl
  have ht:tyOk x=(decide (x=1)||decide (x=2)):=rfl;have hpp:∀y∈d,tyOk y=true:=by simpa using hp
  clear h2 e;cases hx:tyOk x
  ·have hf:=hf hx;rw[hx]at ht;replace ht:=ht.symm
   (simp[*,ints])<;>(repeat' (first|((first|refine sP _ ?_ ?_|refine gP _ ?_ ?_|refine sN _ ?_ ?_|refine gN _ ?_ ?_)<;>intro hc<;>(first|replace hc:=eqn hc|replace hc:=eqp hc)<;>simp[*,ints])|((first|refine sM _ ?_ ?_|refine gM _ ?_ ?_|refine sB _ ?_ ?_|refine gB _ ?_ ?_)<;>intro hc<;>simp[*,ints])))
   all_goals(try grind)
  ·rw[hx]at ht;replace ht:=ht.symm;clear hf
   (simp[*,ints])<;>(repeat' (first|((first|refine sP _ ?_ ?_|refine gP _ ?_ ?_|refine sN _ ?_ ?_|refine gN _ ?_ ?_)<;>intro hc<;>(first|replace hc:=eqn hc|replace hc:=eqp hc)<;>simp[*,ints])|((first|refine sM _ ?_ ?_|refine gM _ ?_ ?_|refine sB _ ?_ ?_|refine gB _ ?_ ?_)<;>intro hc<;>simp[*,ints])))
   all_goals(try grind)
 intros s hpt q1 q2 q3 q4;simp at q1 q2 q3;have hany:f.types.any (fun t=> !tyOk t)=false:=by
  have:∀t∈f.types,tyOk t=true:=by simpa using hpt
  simpa using this
 rw[hany]at e;clear hpt hany;simp[*,ints,zf];refine zG (yaa f.params.toNat) K43_1 B43_1 (fun d=>[(8,.int .i64 d.length),(7,acc 1 ((zIa d.length).map (PV.int .i64)))]) (fun d=>[seO (zmc f d.length)]) (fun _=>True) (by simp;omega) (by simp[zmc,seO,zIa]) ?_ ?_
 ·intros d x r s hl' hlt hget hget' hw _ q1' q2' q3' q4';simp at hlt;have e1:(d.length:Int)<f.params:=by omega
  have e2:d.length<f.types.length:=by omega
  have e3:=initR_set f d.length e2;have e4:=zVb f d.length (by omega);have e5:(zmc f (d.length+1)).map PV.bool=((zmc f d.length).map PV.bool).set d.length (.bool true):=by rw[<-e3,yxa]
  have e6:=firsts_succ d.length;have e7:=firsts_len d.length;have r2:(d.length+1)*8<=zo:=by simp only[zo];omega
  simp at q1' q2' q3' q4';clear h2 hget hget' e3 q1 q2 q3 q4 e
  (simp[*,zf,ints,zN,zRa,seO])<;>(repeat' (first|((first|refine sP _ ?_ ?_|refine gP _ ?_ ?_|refine sN _ ?_ ?_|refine gN _ ?_ ?_)<;>intro hc<;>(first|replace hc:=eqn hc|replace hc:=eqp hc)<;>simp[*,zf,ints,zN,zRa,seO])|((first|refine sM _ ?_ ?_|refine gM _ ?_ ?_|refine sB _ ?_ ?_|refine gB _ ?_ ?_)<;>intro hc<;>simp[*,zf,ints,zN,zRa,seO])))
 ·intros s _ q1' q2' q3' q4';have e0:(f.params.toNat:Int)=f.params:=by omega
  simp at q1' q2' q3' q4';clear q1 q2 q3 q4;simp[chkV,ints,zg,zQa,seO]at h2
  (simp[*,zf,ints,seO,zQa])<;>(repeat' (first|((first|refine sP _ ?_ ?_|refine gP _ ?_ ?_|refine sN _ ?_ ?_|refine gN _ ?_ ?_)<;>intro hc<;>(first|replace hc:=eqn hc|replace hc:=eqp hc)<;>simp[*,zf,ints,seO,zQa])|((first|refine sM _ ?_ ?_|refine gM _ ?_ ?_|refine sB _ ?_ ?_|refine gB _ ?_ ?_)<;>intro hc<;>simp[*,zf,ints,seO,zQa])))
  all_goals(try grind)
def arrGood(u:Unt)(p:Arr×Nat):Bool:=zCf p.1&&(decide (zFe u.arrays p.1.name=p.2)&&decide (zZ u.flows p.1.name<0))
def zxf(u:Unt)(p:Flow×Nat):Bool:=zqd p.1&&decide (zZ u.flows p.1.name=p.2)
def rheadM(u:Unt):Bool:=u.arrays.zipIdx.all (arrGood u)&&(u.flows.zipIdx.all (zxf u)&&zWd u)
theorem split_idx{α:Type}{l d r:List α}{x:α}(h:Split l d x r):l.zipIdx=d.zipIdx++(x,d.length)::r.zipIdx (d.length+1):=by
 rw[h.eq,List.zipIdx_append,List.zipIdx_cons];simp
theorem rglobals_spec(u:Unt)(hu1:u.arrays.length<1099511627776)(hu2:u.flows.length<1099511627776):zk E 42 [encUnt u] []=some (.ret (.bool (rheadM u)),[]):=by
 refine zc rfl rfl rfl (by simp[encUnt]) ?_;simp[F42,encUnt,arrs];refine zG u.arrays K42_0 B42_0 (fun d=>[(3,.int .i64 d.length)]) (fun _=>[]) (fun d=>d.zipIdx.all (arrGood u)=true) (by omega) (by simp) ?_ ?_
 ·intros d x r s hl' hlt hget hget' hw hp h1 h2 h3 h4;simp at h1 h2 h3;have hn:=rname_spec x.name [];have ha:=rarray_spec u x.name [] hu1;have hpl:=zWc u x.name [] hu2;have hall:arrGood u (x,d.length)=false->rheadM u=false:=fun h=>by simp only[rheadM,split_idx hl',List.all_append,List.all_cons,h];simp
  have hg:arrGood u (x,d.length)=((nameM x.name&&decide (1<=x.size)&&decide (x.size<=1000))&&(decide (zFe u.arrays x.name=d.length)&&decide (zZ u.flows x.name<0))):=rfl;have hz:(d++[x]).zipIdx=d.zipIdx++[(x,d.length)]:=by rw[List.zipIdx_append];simp
  simp[encUnt,flows,arrs]at ha hpl;cases hgx:arrGood u (x,d.length)
  ·have hall:=hall hgx;rw[hgx]at hg;replace hg:=hg.symm;clear hgx hz hp
   (simp[*,zga,arrs,flows])<;>(repeat' (first|((first|refine sP _ ?_ ?_|refine gP _ ?_ ?_|refine sN _ ?_ ?_|refine gN _ ?_ ?_)<;>intro hc<;>(first|replace hc:=eqn hc|replace hc:=eqp hc)<;>simp[*,zga,arrs,flows])|((first|refine sM _ ?_ ?_|refine gM _ ?_ ?_|refine sB _ ?_ ?_|refine gB _ ?_ ?_)<;>intro hc<;>simp[*,zga,arrs,flows])))
   all_goals(try grind)
  ·clear hall;rw[hgx]at hg;replace hg:=hg.symm;simp only[ya,decide_eq_true_eq]at hg;obtain⟨⟨⟨g1,g2⟩,g3⟩,g4,g5⟩:=hg;have g2':¬x.size<1:=by omega
   have g3':¬1000<x.size:=by omega
   have g5':¬0<=zZ u.flows x.name:=by omega
   have hp':(d++[x]).zipIdx.all (arrGood u)=true:=by rw[hz,List.all_append,hp];simp[hgx]
   clear hp hz g2 g3
   (simp[*,zga,arrs,flows])<;>(repeat' (first|((first|refine sP _ ?_ ?_|refine gP _ ?_ ?_|refine sN _ ?_ ?_|refine gN _ ?_ ?_)<;>intro hc<;>(first|replace hc:=eqn hc|replace hc:=eqp hc)<;>simp[*,zga,arrs,flows])|((first|refine sM _ ?_ ?_|refine gM _ ?_ ?_|refine sB _ ?_ ?_|refine gB _ ?_ ?_)<;>intro hc<;>simp[*,zga,arrs,flows])))
   all_goals(try grind)
 intros s0 hpa h1 h2 h3 h4;simp only[List.forall_mem_cons]at h1 h2;simp at h1 h2 h3;simp[*,arrs,flows];refine zG u.flows K42_1 B42_1 (fun d=>[(5,.int .i64 d.length)]) (fun _=>[]) (fun d=>d.zipIdx.all (zxf u)=true) (by omega) (by simp) ?_ ?_
 ·intros d x r s hl' hlt hget hget' hw hp h1' h2' h3' h4';simp at h1' h2' h3';clear h1 h2 h3 h4;have hn:=rname_spec x.name [];have hpl:=zWc u x.name [] hu2;have hall:zxf u (x,d.length)=false->rheadM u=false:=fun h=>by simp only[rheadM,split_idx hl',List.all_append,List.all_cons,h];simp
  have hg:zxf u (x,d.length)=((nameM x.name&&(decide (x.type=1)||decide (x.type=2))&&decide (0<=x.params)&&decide (x.params<=x.types.length))&&decide (zZ u.flows x.name=d.length)):=rfl;have hz:(d++[x]).zipIdx=d.zipIdx++[(x,d.length)]:=by rw[List.zipIdx_append];simp
  simp[encUnt,flows,arrs]at hpl;cases hgx:zxf u (x,d.length)
  ·have hall:=hall hgx;rw[hgx]at hg;replace hg:=hg.symm;clear hgx hz hp hpa
   (simp[*,zf,arrs,flows,ints])<;>(repeat' (first|((first|refine sP _ ?_ ?_|refine gP _ ?_ ?_|refine sN _ ?_ ?_|refine gN _ ?_ ?_)<;>intro hc<;>(first|replace hc:=eqn hc|replace hc:=eqp hc)<;>simp[*,zf,arrs,flows,ints])|((first|refine sM _ ?_ ?_|refine gM _ ?_ ?_|refine sB _ ?_ ?_|refine gB _ ?_ ?_)<;>intro hc<;>simp[*,zf,arrs,flows,ints])))
   all_goals(try grind)
  ·clear hall;rw[hgx]at hg;replace hg:=hg.symm;simp only[ya,decide_eq_true_eq]at hg;obtain⟨⟨⟨⟨g1,g2⟩,g3⟩,g3b⟩,g4⟩:=hg;have g3':¬x.params<0:=by omega
   have g3b':¬(x.types.length:Int)<x.params:=by omega
   have hp':(d++[x]).zipIdx.all (zxf u)=true:=by rw[hz,List.all_append,hp];simp[hgx]
   clear hp hz g3 g3b hpa
   (simp[*,zf,arrs,flows,ints])<;>(repeat' (first|((first|refine sP _ ?_ ?_|refine gP _ ?_ ?_|refine sN _ ?_ ?_|refine gN _ ?_ ?_)<;>intro hc<;>(first|replace hc:=eqn hc|replace hc:=eqp hc)<;>simp[*,zf,arrs,flows,ints])|((first|refine sM _ ?_ ?_|refine gM _ ?_ ?_|refine sB _ ?_ ?_|refine gB _ ?_ ?_)<;>intro hc<;>simp[*,zf,arrs,flows,ints])))
   all_goals(try grind)
 ·intros s hp h1' h2' h3' h4';simp at h1' h2' h3';clear h1 h2 h3 h4;have hpl:=zWc u zw [] hu2;simp[encUnt,zw,arrs,flows]at hpl;have hh:rheadM u=zWd u:=by simp only[rheadM,hpa,hp];simp
  by_cases hp0:0<=zZ u.flows zw
  ·obtain⟨g,q1,q2,q3,q4⟩:=place_get hp0;have q5:u.flows[(zZ u.flows zw).toNat]=g:=by simpa[q4]using q1
   have hm:zWd u=(decide (g.type=1)&&decide (g.params=0)):=by simp[zWd,q1,hp0]
   simp only[zw]at hp0 q1 q4 q5;clear hpa hp
   (simp[*,flows,zf,arrs])<;>(repeat' (first|((first|refine sP _ ?_ ?_|refine gP _ ?_ ?_|refine sN _ ?_ ?_|refine gN _ ?_ ?_)<;>intro hc<;>(first|replace hc:=eqn hc|replace hc:=eqp hc)<;>simp[*,flows,zf,arrs])|((first|refine sM _ ?_ ?_|refine gM _ ?_ ?_|refine sB _ ?_ ?_|refine gB _ ?_ ?_)<;>intro hc<;>simp[*,flows,zf,arrs])))
  ·have hm:zWd u=false:=by
    unfold zWd;split<;>simp;omega
   simp only[zw]at hp0;clear hpa hp
   (simp[*,flows,zf,arrs])<;>(repeat' (first|((first|refine sP _ ?_ ?_|refine gP _ ?_ ?_|refine sN _ ?_ ?_|refine gN _ ?_ ?_)<;>intro hc<;>(first|replace hc:=eqn hc|replace hc:=eqp hc)<;>simp[*,flows,zf,arrs])|((first|refine sM _ ?_ ?_|refine gM _ ?_ ?_|refine sB _ ?_ ?_|refine gB _ ?_ ?_)<;>intro hc<;>simp[*,flows,zf,arrs])))
theorem idx_first{α:Type}{p:α->Bool}{l:List α}{k:Nat}(h:idx p l=k):∀j (hj:j<l.length),j<k->p l[j]=false:=by
 unfold idx at h;cases hf:l.findIdx? p with
 |none=>rw[hf]at h;simp at h
 |some i=>
  rw[hf]at h;have h:i=k:=by simp at h;omega
  subst h;rw[List.findIdx?_eq_some_iff_getElem]at hf;obtain⟨hi,h1,h2⟩:=hf;intro j hj hji;have:=h2 j hji;simpa using this
theorem idx_nodup{α:Type}(g:α->List UInt8)(l:List α):(∀p∈l.zipIdx,idx (fun y=>decide (g y=g p.1)) l=p.2)<->(l.map g).Nodup:=by
 rw[List.nodup_iff_pairwise_ne,List.pairwise_map,List.pairwise_iff_getElem];constructor
 ·intro h i j hi hj hij e;have h1:=h (l[j],j) (by rw[yBa];simp[hj]);have h2:=idx_first h1 i hi hij;simp at h2;exact h2 e
 ·rintro h ⟨x,i⟩ hp
  rw[yBa]at hp;simp only at hp;obtain⟨hi,rfl⟩:=yb.1 hp;have hs:Split l (l.take i) l[i] (l.drop (i+1)):=by
   show l=_
   simp
  have:=zCe (p:=fun y=>decide (g y=g l[i])) hs (by
   intro y hy;obtain⟨j,hj,rfl⟩:=List.getElem_of_mem hy;simp at hj;rw[List.getElem_take];have:=h j i (by omega) hi (by omega);simpa using this) (by simp)
  simp only;rw[this];simp;omega
theorem place_neg(l:List Flow)(s:List UInt8):zZ l s<0<->s ∉ l.map Flow.name:=by
 have h:=idx_ge (fun f=>decide (f.name=s)) l;unfold zZ;constructor
 ·intro h0 hm;obtain⟨f,hf,rfl⟩:=yka.1 hm;have:l.any (fun g=>decide (g.name=f.name))=true:=by rw[List.any_eq_true];exact⟨f,hf,by simp⟩
  rw[this]at h;simp at h;omega
 ·intro hm;have:l.any (fun g=>decide (g.name=s))=false:=by
   rw[List.any_eq_false];intro f hf;simp;rintro rfl;exact hm (yka.2 ⟨f,hf,rfl⟩)
  rw[this]at h;simp at h;omega
theorem zip_all{α:Type}{l:List α}{p:α->Bool}:(∀x∈l,p x=true)<->∀q∈l.zipIdx,p q.1=true:=by
 constructor
 ·rintro h ⟨x,i⟩ hq
  rw[yBa]at hq;exact h x (yr hq)
 ·intro h x hx;obtain⟨i,hi,rfl⟩:=List.getElem_of_mem hx;exact h (l[i],i) (by rw[yBa];simp[hi])
theorem rhead_eq(u:Unt):rheadM u=zcd u:=by
 unfold rheadM zcd;rw[Bool.eq_iff_iff];simp only[ya,yj,decide_eq_true_eq,arrGood,zxf,zzd,List.nodup_append];have h1:=idx_nodup Arr.name u.arrays;have h2:=idx_nodup Flow.name u.flows;have h3:(∀p∈u.arrays.zipIdx,zZ u.flows p.1.name<0)<->∀a∈u.arrays.map Arr.name,∀b∈u.flows.map Flow.name,a≠b:=by
  constructor
  ·intro h a ha b hb e;obtain⟨x,hx,rfl⟩:=yka.1 ha;have:=(zip_all (p:=fun x=>decide (zZ u.flows x.name<0))).2 (fun q hq=>by simpa using h q hq) x hx;simp[place_neg]at this;subst e;obtain⟨y,hy,e⟩:=yka.1 hb;exact this y hy e
  ·rintro h ⟨x,i⟩ hq
   rw[yBa]at hq;rw[place_neg];intro hm;exact h x.name (yka.2 ⟨x,yr hq,rfl⟩) x.name hm rfl
 have h4:=zip_all (l:=u.arrays) (p:=zCf);have h5:=zip_all (l:=u.flows) (p:=zqd);have h6:∀p∈u.arrays.zipIdx,(zFe u.arrays p.1.name=p.2<->idx (fun y=>decide (y.name=p.1.name)) u.arrays=p.2):=fun p _=>Iff.rfl
 have h7:∀p∈u.flows.zipIdx,(zZ u.flows p.1.name=p.2<->idx (fun y=>decide (y.name=p.1.name)) u.flows=p.2):=fun p _=>Iff.rfl
 constructor
 ·rintro⟨a,b,c⟩
  exact⟨⟨⟨h4.2 fun q hq=>(a q hq).1,h5.2 fun q hq=>(b q hq).1⟩,h1.1 fun q hq=>(a q hq).2.1,h2.1 fun q hq=>(b q hq).2,h3.1 fun q hq=>(a q hq).2.2⟩,c⟩
 ·rintro⟨⟨⟨a,b⟩,c,d,e⟩,m⟩
  exact⟨fun q hq=>⟨h4.1 a q hq,h1.2 c q hq,h3.2 e q hq⟩,fun q hq=>⟨h5.1 b q hq,h2.2 d q hq⟩,m⟩
def zXc(u:Unt):Int×Int:=if rheadM u then(match u.flows.findIdx? (fun f=> !zvb u f)with
 |some i=>(80,(i:Int))
 |none=>(0,0))else(1,0)
theorem rcheck_spec(u:Unt)(hu:USz u)(hb:∀f∈u.flows,wtL f.body<1099511000000):zk E 25 [encUnt u] []=some (.ret (.tup [.int .i64 (zXc u).1,.int .i64 (zXc u).2]),[]):=by
 refine zc rfl rfl rfl (by simp[encUnt]) ?_;have h1:=rglobals_spec u hu.arrs hu.flows;cases hh:rheadM u
 ·simp[encUnt,hh,flows]at h1;have hc:zXc u=(1,0):=by simp[zXc,hh]
  (simp[*,F25,encUnt,flows])<;>(repeat' (first|((first|refine sP _ ?_ ?_|refine gP _ ?_ ?_|refine sN _ ?_ ?_|refine gN _ ?_ ?_)<;>intro hc<;>(first|replace hc:=eqn hc|replace hc:=eqp hc)<;>simp[*,F25,encUnt,flows])|((first|refine sM _ ?_ ?_|refine gM _ ?_ ?_|refine sB _ ?_ ?_|refine gB _ ?_ ?_)<;>intro hc<;>simp[*,F25,encUnt,flows])))
 ·have ho:=hu.ok (by rw[<-rhead_eq];exact hh);simp[encUnt,hh,flows]at h1;have hf:∀f∈u.flows,zk E 43 [encUnt u,zf f] []=some (.ret (.bool (zvb u f)),[]):=fun f hf=>rflow_spec u f ho (hu.types f hf) (hb f hf)
  have hfl:=hu.flows;simp[F25,encUnt,flows,h1];refine zG u.flows K25_0 B25_0 (fun d=>[(4,.int .i64 d.length)]) (fun d=>[]) (fun d=>∀f∈d,zvb u f=true) (by omega) (by simp) ?_ ?_
  ·intros d x r s hl' hlt hget hget' hw hp q1 q2 q3 q4;simp at q1 q2 q3;have hfx:=hf x hl'.mem;simp[encUnt,flows,zf]at hfx;clear hf hu ho h1 hb;cases hx:zvb u x
   ·have hi:=zCe (p:=fun f=> !zvb u f) hl' (by simpa using hp) (by simp[hx]);have hcx:zXc u=(80,(d.length:Int)):=by
     unfold idx at hi;simp only[zXc,hh,if_true];cases hfi:u.flows.findIdx? (fun f=> !zvb u f)with
     |none=>rw[hfi]at hi;simp at hi
     |some i=>rw[hfi]at hi;simp at hi;simp[hi]
    (simp[*,zf,flows])<;>(repeat' (first|((first|refine sP _ ?_ ?_|refine gP _ ?_ ?_|refine sN _ ?_ ?_|refine gN _ ?_ ?_)<;>intro hc<;>(first|replace hc:=eqn hc|replace hc:=eqp hc)<;>simp[*,zf,flows])|((first|refine sM _ ?_ ?_|refine gM _ ?_ ?_|refine sB _ ?_ ?_|refine gB _ ?_ ?_)<;>intro hc<;>simp[*,zf,flows])))
   ·(simp[*,zf,flows])<;>(repeat' (first|((first|refine sP _ ?_ ?_|refine gP _ ?_ ?_|refine sN _ ?_ ?_|refine gN _ ?_ ?_)<;>intro hc<;>(first|replace hc:=eqn hc|replace hc:=eqp hc)<;>simp[*,zf,flows])|((first|refine sM _ ?_ ?_|refine gM _ ?_ ?_|refine sB _ ?_ ?_|refine gB _ ?_ ?_)<;>intro hc<;>simp[*,zf,flows])))
    all_goals(try grind)
  ·intros s hp q1 q2 q3 q4;simp at q1 q2 q3;have hcx:zXc u=(0,0):=by
    have:u.flows.findIdx? (fun f=> !zvb u f)=none:=by rw[yfa];simpa using hp
    simp[zXc,hh,this]
   clear hf hu ho hh h1 hp hb
   (simp[*,flows])<;>(repeat' (first|((first|refine sP _ ?_ ?_|refine gP _ ?_ ?_|refine sN _ ?_ ?_|refine gN _ ?_ ?_)<;>intro hc<;>(first|replace hc:=eqn hc|replace hc:=eqp hc)<;>simp[*,flows])|((first|refine sM _ ?_ ?_|refine gM _ ?_ ?_|refine sB _ ?_ ?_|refine gB _ ?_ ?_)<;>intro hc<;>simp[*,flows])))
structure Rel(ty:List Int)(S:St1)(seen:List Int)(Z:Set1):Prop where
 s:S.length=ty.length
 z:Z.length=ty.length
 set:∀v,0<=v->v<(ty.length:Int)->(atB Z v=true<->at0 S v≠0)
 seen:∀v,0<=v->v<(ty.length:Int)->(v∈seen<->at0 S v=1)
theorem at0_set{S:St1}{v w c:Int}(hv:0<=v)(hv':v<S.length)(hw:0<=w)(hw':w<S.length):at0 (S.set v.toNat c) w=if w=v then c else at0 S w:=by
 unfold at0;rw[List.getElem?_set];by_cases h:w=v
 ·subst h;have:w.toNat<S.length:=by omega
  simp[this]
 ·have:v.toNat≠w.toNat:=by omega
  simp[h,this]
theorem atB_set{S:Set1}{v w:Int}{c:Bool}(hv:0<=v)(hv':v<S.length)(hw:0<=w)(hw':w<S.length):atB (S.set v.toNat c) w=if w=v then c else atB S w:=by
 unfold atB;rw[List.getElem?_set];by_cases h:w=v
 ·subst h;have:w.toNat<S.length:=by omega
  simp[this]
 ·have:v.toNat≠w.toNat:=by omega
  simp[h,this]
theorem eqGo_use{ty:List Int}{S:St1}:∀l,(eqGo (useG ty) S l).1=l.all fun p=>(useG ty S p.1 p.2).1
 | []=>rfl
 |p::r=>by
  simp only[eqGo,List.all_cons];split
  ·rename_i h;rw[h,Bool.true_and];exact eqGo_use r
  ·rename_i h;simp only[Bool.not_eq_true]at h;rw[h];rfl
theorem use_rel{ty:List Int}{S:St1}{seen:List Int}{Z:Set1}(h:Rel ty S seen Z)(l ts:List Int):zEb ty S l ts=zC ty seen l ts:=by
 have key:∀v t,(useG ty S v t).1=useR ty seen v t:=by
  intro v t;simp only[useG,useR,valM];by_cases h0:0<=v
  ·by_cases h1:v<(ty.length:Int)
   ·have:=h.seen v h0 h1;have e:seen.contains v=decide (at0 S v=1):=by rw[Bool.eq_iff_iff];simpa using this
    rw[e];simp[h0,h1];grind
   ·simp[h1]
  ·simp[h0]
 unfold zEb eqM zC;by_cases hl:l.length=ts.length
 ·rw[if_pos hl,eqGo_use];simp only[hl,decide_true,Bool.true_and];congr 1;funext p;exact key _ _
 ·rw[if_neg hl];simp[hl]
theorem setGo_rel{ty:List Int}:∀(zs:List (Int×Int)) (S:St1) (seen:List Int) (Z:Set1),Rel ty S seen Z→
  (eqGo (setG ty) S zs).1=(eqGo (zha ty) Z zs).1/\((eqGo (setG ty) S zs).1=true->Rel ty (eqGo (setG ty) S zs).2 (seen++zs.map yUa) (eqGo (zha ty) Z zs).2/\∀v∈zs.map yUa,0<=v/\v<ty.length/\at0 S v=0)
 | [],S,seen,Z,h=>⟨rfl,fun _=>⟨by simpa[eqGo]using h,fun v hv=>by simp at hv⟩⟩
 |(v,t)::r,S,seen,Z,h=>by
  have hc:(valM ty v t&&decide (at0 S v=0))=(valM ty v t&& !atB Z v):=by
   cases hv:valM ty v t
   ·rfl
   ·obtain⟨h0,h1⟩:=zBa hv;have:=h.set v h0 h1;cases hz:atB Z v<;>simp[hz]at this ⊢ <;>omega
  simp only[eqGo,setG,zha,hc];by_cases hb:(valM ty v t&& !atB Z v)=true
  ·simp only[hb,if_true];have hb':=hb;rw[<-hc]at hb';simp only[ya,decide_eq_true_eq]at hb';obtain⟨h0,h1⟩:=zBa hb'.1;have hr:Rel ty (S.set v.toNat 1) (seen++[v]) (Z.set v.toNat true):=by
    refine⟨by simp[h.s],by simp[h.z],fun w hw hw'=>?_,fun w hw hw'=>?_⟩
    ·rw[at0_set h0 (by rw[h.s];exact h1) hw (by rw[h.s];exact hw'),atB_set h0 (by rw[h.z];exact h1) hw (by rw[h.z];exact hw')];by_cases e:w=v
     ·simp[e]
     ·simp only[e,if_false];exact h.set w hw hw'
    ·rw[at0_set h0 (by rw[h.s];exact h1) hw (by rw[h.s];exact hw')];by_cases e:w=v
     ·simp[e]
     ·simp only[yh,List.mem_singleton,e,or_false,if_false];exact h.seen w hw hw'
   obtain⟨q1,q2⟩:=setGo_rel r _ _ _ hr;refine⟨q1,fun hok=>?_⟩;obtain⟨q3,q4⟩:=q2 hok;refine⟨by simpa using q3,fun w hw=>?_⟩;simp only[yR,yA]at hw;rcases hw with rfl|hw
   ·exact⟨h0,h1,hb'.2⟩
   ·obtain⟨p1,p2,p3⟩:=q4 w hw;rw[at0_set h0 (by rw[h.s];exact h1) p1 (by rw[h.s];exact p2)]at p3;split at p3
    ·omega
    ·exact⟨p1,p2,p3⟩
  ·simp only[Bool.not_eq_true]at hb;simp[hb]
theorem zip_fst{l ts:List Int}(h:l.length=ts.length):(l.zip ts).map yUa=l:=by
 rw[List.map_fst_zip];omega
def znb(ty:List Int)(seen outs:List Int)(q:Bool×St1)(r:Bool×Set1):Prop:=
 q.1=r.1/\(q.1=true->Rel ty q.2 (seen++outs) r.2/\∀v∈outs,0<=v/\v<(ty.length:Int)/\v ∉ seen)
theorem zze{ty:List Int}{S:St1}{seen:List Int}{Z:Set1}(h:Rel ty S seen Z)(l ts:List Int):znb ty seen l (setM ty S l ts) (zD ty Z l ts):=by
 unfold setM zD eqM;by_cases hl:l.length=ts.length
 ·rw[if_pos hl,if_pos hl];obtain⟨q1,q2⟩:=setGo_rel (l.zip ts) S seen Z h;refine⟨q1,fun hok=>?_⟩;obtain⟨q3,q4⟩:=q2 hok;rw[zip_fst hl]at q3 q4;refine⟨q3,fun v hv=>?_⟩;obtain⟨p1,p2,p3⟩:=q4 v hv;exact⟨p1,p2,fun hm=>by have:=(h.seen v p1 p2).1 hm;omega⟩
 ·rw[if_neg hl,if_neg hl];exact⟨rfl,fun h=>by cases h⟩
theorem znb.fail{ty:List Int}{seen outs:List Int}{S:St1}{Z:Set1}:znb ty seen outs (false,S) (false,Z):=⟨rfl,fun h=>by cases h⟩
theorem znb.nil{ty:List Int}{seen:List Int}{S:St1}{Z:Set1}{outs:List Int}{b:Bool}(h:Rel ty S seen Z)(ho:b=true->outs=[]):znb ty seen outs (b,S) (b,Z):=
 ⟨rfl,fun hb=>by simp only at hb;rw[ho hb];exact⟨by simpa using h,fun v hv=>by simp at hv⟩⟩
theorem setM_nil(ty:List Int)(S:St1)(l:List Int):setM ty S l []=(decide (l=[]),S):=by
 unfold setM eqM;cases l with
 |nil=>rfl
 |cons x r=>simp
theorem usesM_nil(ty:List Int)(S:St1)(l:List Int):zEb ty S l []=decide (l=[]):=by
 unfold zEb eqM;cases l with
 |nil=>rfl
 |cons x r=>simp
theorem znb.ite{ty:List Int}{seen outs:List Int}{q:Bool×St1}{r:Bool×Set1}{S:St1}{Z:Set1}{b c:Prop}[Decidable b][Decidable c](hbc:b<->c)(h:znb ty seen outs q r):znb ty seen outs (if b then q else(false,S)) (if c then r else(false,Z)):=by
 by_cases hb:b
 ·rw[if_pos hb,if_pos (hbc.1 hb)];exact h
 ·rw[if_neg hb,if_neg (fun hc=>hb (hbc.2 hc))];exact znb.fail
theorem simple_rel{u:Unt}{f:Flow}{S:St1}{seen:List Int}{Z:Set1}(h:Rel f.types S seen Z)(x:Node)(w:Place)(hk:endK x.kind=false):znb f.types seen x.outs (zTb u f S x) (zp u f seen w Z x):=by
 have hu:=use_rel h;have k12:¬x.kind=12:=by rintro e;simp[endK,e]at hk
 have k13:¬x.kind=13:=by rintro e;simp[endK,e]at hk
 have k14:¬x.kind=14:=by rintro e;simp[endK,e]at hk
 have k15:¬x.kind=15:=by rintro e;simp[endK,e]at hk
 unfold zTb zp;simp only[hu,k12,k13,k14,k15,if_false];by_cases k1:x.kind=1
 ·simp only[k1,if_true];exact znb.ite Iff.rfl (zze h _ _)
 by_cases k2:x.kind=2
 ·simp only[k2,if_true];simp;exact znb.ite Iff.rfl (zze h _ _)
 by_cases k3:x.kind=3
 ·simp[k3,sumM,hu];refine znb.ite ?_ (zze h _ _);simp[isOne];grind
 by_cases k4:x.kind=4
 ·simp[k4,sumM,hu];refine znb.ite ?_ (zze h _ _);simp[isTwo];grind
 by_cases k5:x.kind=5
 ·simp[k5];exact znb.ite Iff.rfl (zze h _ _)
 by_cases k6:x.kind=6
 ·simp[k6,setM_nil];by_cases hc:zsc u.arrays x.name=true/\zC f.types seen x.args [1,1]=true
  ·rw[if_pos hc];simp[hc.1,hc.2];exact znb.nil h (by simp)
  ·rw[if_neg hc];have:(zsc u.arrays x.name&&(zC f.types seen x.args [1,1]&&decide (x.outs=[])))=false:=by
    cases h1:zsc u.arrays x.name<;>cases h2:zC f.types seen x.args [1,1]<;>simp_all
   rw[this];exact znb.fail
 by_cases k7:x.kind=7
 ·simp[k7];cases hfl:u.flows[(zZ u.flows x.name).toNat]? with
  |none=>exact znb.fail
  |some g=>exact znb.ite Iff.rfl (zze h _ _)
 by_cases k8:x.kind=8
 ·simp[k8];have:(zC f.types seen x.args []=true)<->x.args=[]:=by rw[<-hu,usesM_nil];simp
  exact znb.ite this (zze h _ _)
 by_cases k9:x.kind=9
 ·simp[k9,setM_nil];cases hc:zC f.types seen x.args [1]
  ·simp;exact znb.fail
  ·simp;exact znb.nil h (by simp)
 simp[k1,k2,k3,k4,k5,k6,k7,k8,k9];exact znb.fail
theorem end_rel{u:Unt}{f:Flow}{S:St1}{seen:List Int}{Z:Set1}(h:Rel f.types S seen Z)(x:Node)(w:Place)(hk:endK x.kind=true):znb f.types seen x.outs (endM f S x w,S) (zp u f seen w Z x):=by
 have hu:=use_rel h;have e:zp u f seen w Z x=(endM f S x w,Z):=by
  simp only[endK,ya,decide_eq_true_eq]at hk;have:x.kind=12\/x.kind=13\/x.kind=14\/x.kind=15:=by omega
  unfold zp endM;rcases this with k|k|k|k<;>simp[k,hu]<;>grind
 rw[e];refine znb.nil h (fun hb=>?_);simp only[endM,ya,decide_eq_true_eq]at hb;exact hb.1
theorem at0_hide(S:St1)(l:List Int):∀{n:Nat},S.length=n->(∀v∈l,0<=v/\v<(n:Int))->∀w,0<=w->w<(n:Int)->at0 (zwd S l) w=if w∈l then 2 else at0 S w:=by
 induction l generalizing S with
 |nil=>intro n hS hl w h0 h1;simp[zwd]
 |cons v r ih=>
  intro n hS hl w h0 h1;obtain⟨v0,v1⟩:=hl v (by simp);have e:zwd S (v::r)=zwd (S.set v.toNat 2) r:=rfl;rw[e,ih (S.set v.toNat 2) (by simpa using hS) (fun x hx=>hl x (yha _ hx)) w h0 h1];rw[at0_set v0 (by omega) h0 (by omega)];by_cases hw:w=v
  ·subst hw;by_cases hr:w∈r<;>simp[hr]
  ·by_cases hr:w∈r<;>simp[hr,hw]
theorem Rel.hide{ty:List Int}{S:St1}{seen:List Int}{Z:Set1}{l:List Int}(h:Rel ty S (seen++l) Z)(hl:∀v∈l,0<=v/\v<(ty.length:Int)/\v ∉ seen):Rel ty (zwd S l) seen Z:=by
 have hh:=at0_hide S l h.s (fun v hv=>⟨(hl v hv).1,(hl v hv).2.1⟩);refine⟨by rw[zWe];exact h.s,h.z,fun v h0 h1=>?_,fun v h0 h1=>?_⟩
 ·rw[hh v h0 h1,h.set v h0 h1];by_cases hv:v∈l
  ·have:=(h.seen v h0 h1).1 (yva _ hv);simp[hv,this]
  ·simp[hv]
 ·rw[hh v h0 h1];have hs:=h.seen v h0 h1;rw[yh]at hs;by_cases hv:v∈l
  ·simp[hv,(hl v hv).2.2]
  ·simp only[hv,or_false,if_false]at hs ⊢;exact hs
def Same1(ty:List Int)(seen:List Int)(q:Bool×St1)(r:Bool×Set1):Prop:=q.1=r.1/\(q.1=true->Rel ty q.2 seen r.2)
theorem list_rel{ty:List Int}{seen:List Int}{l:List Node}{q:Bool×St1}{r:Bool×Set1}(h:znb ty seen (ztd l) q r):Same1 ty seen (listE l q) (zNa l r):=by
 obtain⟨h1,h2⟩:=h;unfold listE zNa;rw[<-h1];cases hq:q.1
 ·exact⟨rfl,fun h=>by cases h⟩
 ·simp only[if_true];refine⟨rfl,fun _=>?_⟩;obtain⟨h3,h4⟩:=h2 hq;exact h3.hide h4
theorem choice_rel{ty:List Int}{seen:List Int}{x:Node}{q:Bool×St1}{r:Bool×Set1}(h:Same1 ty seen q r):znb ty seen x.outs (zde ty x q) (endR ty x r):=by
 obtain⟨h1,h2⟩:=h;unfold zde endR;rw[<-h1];cases hq:q.1
 ·simp;exact znb.fail
 ·by_cases hb:(decide (x.outs=[])|| !zb x)=true
  ·simp only[hb,Bool.and_self,if_true];exact zze (h2 hq) _ _
  ·simp only[hb,Bool.true_and];exact znb.fail
theorem loop_rel{ty:List Int}{seen:List Int}{x:Node}{q:Bool×St1}{r:Bool×Set1}(h:Same1 ty (seen++x.params) q r)(hp:∀v∈x.params,0<=v/\v<(ty.length:Int)/\v ∉ seen):znb ty seen x.outs (loopE ty x q) (endR ty x r):=by
 obtain⟨h1,h2⟩:=h;unfold loopE endR;rw[<-h1];cases hq:q.1
 ·simp;exact znb.fail
 ·by_cases hb:(decide (x.outs=[])|| !zb x)=true
  ·simp only[hb,Bool.and_self,if_true];exact zze ((h2 hq).hide hp) _ _
  ·simp only[hb,Bool.true_and,if_true];exact znb.fail
mutual
theorem node_rel(u:Unt)(f:Flow):∀(x:Node) (w:Place) (deep:Int) (S:St1) (seen:List Int) (Z:Set1),Rel f.types S seen Z->znb f.types seen x.outs (nodeM u f x w deep S) (zy u f x seen w deep Z)
 |⟨k,o,n,s,a,us,ps,ks⟩,w,deep,S,seen,Z,h=>by
  have hu:=use_rel h;rw[nodeM,zy];cases hb:zca ⟨k,o,n,s,a,us,ps,ks⟩
  ·simp;exact znb.fail
  simp only[Bool.not_true,yv,if_false];by_cases k10:k=10
  ·simp only[k10,if_true];refine znb.ite (by rw[hu]) ?_;exact choice_rel (kids_rel u f ks _ _ S seen Z h)
  simp only[k10,if_false];by_cases k11:k=11
  ·simp only[k11,if_true];rw[hu];cases hc:zC f.types seen a (typesM f.types ps)
   ·simp;exact znb.fail
   simp only[if_true];obtain⟨p1,p2⟩:=zze h ps (zna ps.length);have e:allM f.types S ps=setM f.types S ps (zna ps.length):=rfl;rw[e,<-p1];cases hok:(setM f.types S ps (zna ps.length)).1
   ·simp;exact znb.fail
   simp only[if_true];obtain⟨p3,p4⟩:=p2 hok;exact loop_rel (kids_rel u f ks _ _ _ _ _ p3) p4
  simp only[k11,if_false];cases hk:endK k
  ·simp only[yv,if_false];exact simple_rel h _ w hk
  ·simp only[if_true];exact end_rel h _ w hk
theorem kids_rel(u:Unt)(f:Flow):∀(ks:List (List Node)) (w:Place) (deep:Int) (S:St1) (seen:List Int) (Z:Set1),Rel f.types S seen Z->Same1 f.types seen (zrf u f ks w deep S) (zH u f ks seen w deep Z)
 | [],w,deep,S,seen,Z,h=>by rw[zrf,zH];exact⟨rfl,fun _=>h⟩
 |l::r,w,deep,S,seen,Z,h=>by
  rw[zrf,zH];obtain⟨h1,h2⟩:=list_rel (go_rel u f l w deep S seen Z h);rw[<-h1];cases hq:(listE l (goM u f l w deep S)).1
  ·simp only[yv,if_false];exact⟨rfl,fun h=>by cases h⟩
  ·simp only[if_true];exact kids_rel u f r w deep _ seen _ (h2 hq)
theorem go_rel(u:Unt)(f:Flow):∀(l:List Node) (w:Place) (deep:Int) (S:St1) (seen:List Int) (Z:Set1),Rel f.types S seen Z->znb f.types seen (ztd l) (goM u f l w deep S) (goR u f l seen w deep Z)
 | [],w,deep,S,seen,Z,h=>by rw[goM,goR];exact znb.nil h (fun _=>rfl)
 |x::r,w,deep,S,seen,Z,h=>by
  rw[goM,goR];by_cases hd:100<deep
  ·rw[if_pos hd,if_pos hd];exact znb.fail
  rw[if_neg hd,if_neg hd];obtain⟨h1,h2⟩:=node_rel u f x w deep S seen Z h;rw[<-h1];cases hq:(nodeM u f x w deep S).1
  ·simp only[yv,if_false];exact znb.fail
  simp only[if_true];obtain⟨h3,h4⟩:=h2 hq;by_cases hc:zb x=r.isEmpty
  ·rw[if_pos hc,if_pos hc];obtain⟨q1,q2⟩:=go_rel u f r w deep _ _ _ h3;refine⟨q1,fun hok=>?_⟩;obtain⟨q3,q4⟩:=q2 hok;rw[louts_cons];refine⟨by simpa[yY]using q3,fun v hv=>?_⟩;rcases yh.1 hv with hv|hv
   ·exact h4 v hv
   ·obtain⟨p1,p2,p3⟩:=q4 v hv;exact⟨p1,p2,fun hm=>p3 (yma _ hm)⟩
  ·rw[if_neg hc,if_neg hc];exact znb.fail
end
theorem init_rel(f:Flow)(hp:0<=f.params/\f.params<=f.types.length):Rel f.types (initM f f.params.toNat) (zIa f.params.toNat) (zmc f f.params.toNat):=by
 have hk:f.params.toNat<=f.types.length:=by omega
 refine⟨initM_len f _ hk,zVb f _ hk,fun v h0 h1=>?_,fun v h0 h1=>?_⟩
 ·have hv:v.toNat<f.types.length:=by omega
  unfold at0 atB initM zmc;rw[List.getElem?_append,List.getElem?_append];by_cases h:v.toNat<f.params.toNat
  ·simp[h]
  ·have:v.toNat-f.params.toNat<f.types.length-f.params.toNat:=by omega
   simp[h,this]
 ·have hv:v.toNat<f.types.length:=by omega
  have hm:v∈zIa f.params.toNat<->v.toNat<f.params.toNat:=by
   simp only[zIa,yka,yya];constructor
   ·rintro⟨i,hi,rfl⟩;simpa using hi
   ·intro h;exact⟨v.toNat,h,by omega⟩
  rw[hm];unfold at0 initM;rw[List.getElem?_append];by_cases h:v.toNat<f.params.toNat
  ·simp[h]
  ·have:v.toNat-f.params.toNat<f.types.length-f.params.toNat:=by omega
   simp[h,this]
theorem flow_eq(u:Unt)(f:Flow)(hp:0<=f.params/\f.params<=f.types.length):flowM u f=zvb u f:=by
 have h:=list_rel (go_rel u f f.body zQa 1 _ _ _ (init_rel f hp));have h1:¬f.params<0:=by omega
 have h2:¬(f.types.length:Int)<f.params:=by omega
 have h3:(zkc u f f.body zQa 1 (initM f f.params.toNat)).1=(zIb u f f.body (zIa f.params.toNat) zQa 1 (zmc f f.params.toNat)).1:=h.1;simp only[flowM,zvb,h1,h2,h3,decide_false,yNa,Bool.or_false]
theorem findIdx_congr{α:Type}{p q:α->Bool}:∀{l:List α},(∀x∈l,p x=q x)->l.findIdx? p=l.findIdx? q
 | [],_=>rfl
 |x::r,h=>by
  rw[List.findIdx?_cons,List.findIdx?_cons,h x (by simp),findIdx_congr (fun y hy=>h y (yha _ hy))]
theorem check_eq(u:Unt):zJa u=zXc u:=by
 unfold zJa zXc;rw[rhead_eq];cases hh:zcd u
 ·rfl
 ·have:u.flows.findIdx? (fun f=> !flowM u f)=u.flows.findIdx? (fun f=> !zvb u f):=by
   refine findIdx_congr (fun f hf=>?_);simp only[zcd,ya,yj]at hh;have:=hh.1.1.2 f hf;simp only[zqd,ya,decide_eq_true_eq]at this;rw[flow_eq u f ⟨this.1.2,this.2⟩]
  rw[this]<;>rfl
def inR(m:Nat)(l:List Int):Prop:=∀v∈l,0<=v/\v<(m:Int)
structure Pl where
 y:Option Nat
 x:Option Nat
 l:Option Nat
structure okH(u:Unt)(m:Nat)(p:Pl)(n:Node):Prop where
 args:inR m n.args
 outs:inR m n.outs
 prs:inR m n.params
 k12:(n.kind=1\/n.kind=2)->n.outs.length=1
 k3:n.kind=3->n.args.length=1/\n.outs.length=1
 k4:n.kind=4->n.args.length=2/\n.outs.length=1
 k5:n.kind=5->zsc u.arrays n.name=true/\n.args.length=1/\n.outs.length=1
 k6:n.kind=6->zsc u.arrays n.name=true/\n.args.length=2/\n.outs.length=0
 k7:n.kind=7->∃g,flowAt u n.name=some g/\0<=zZ u.flows n.name/\n.args.length=(pars g).length/\n.outs.length=1
 k8:n.kind=8->n.outs.length=1
 k9:n.kind=9->n.args.length=1/\n.outs.length=0
 k10:n.kind=10->n.args.length=1/\n.kids.length=2
 k11:n.kind=11->n.args.length=n.params.length/\n.kids.length=1
 k12':n.kind=12->p.y=some n.args.length
 k13:n.kind=13->p.x=some n.args.length
 k14:n.kind=14->p.l=some n.args.length
 k15:n.kind=15->n.args.length=1
 k:1<=n.kind/\n.kind<=15
def plIn(p:Pl)(k:Int)(us ps:List Int):Pl:=if k=11 then⟨none,some ps.length,some us.length⟩else{p with y:=some us.length}
mutual
def okN(u:Unt)(m:Nat):Pl->Node->Prop
 |p,⟨k,o,n,s,a,us,ps,ks⟩=>okH u m p ⟨k,o,n,s,a,us,ps,ks⟩/\okK u m (plIn p k us ps) ks
def okK(u:Unt)(m:Nat):Pl->List (List Node)->Prop
 |p,[]=>True
 |p,l::r=>(l≠ []/\okL u m p l)/\okK u m p r
def okL(u:Unt)(m:Nat):Pl->List Node->Prop
 |p,[]=>True
 |p,x::r=>okN u m p x/\zb x=r.isEmpty/\okL u m p r
end
theorem zhb(u:Unt)(m:Nat)(p:Pl)(x:Node):okN u m p x=(okH u m p x/\okK u m (plIn p x.kind x.outs x.params) x.kids):=by
 cases x;rw[okN]
theorem zjb{u:Unt}{m:Nat}{p:Pl}:∀{ks:List (List Node)},okK u m p ks->∀l∈ks,l≠ []/\okL u m p l
 | [],_,l,h=>by cases h
 |k::r,h,l,hl=>by
  rw[okK]at h;rcases yA.1 hl with rfl|hl
  ·exact h.1
  ·exact zjb h.2 l hl
def plOf(w:Place):Pl:=⟨if w.inIf then some w.yield.length else none,if w.inLoop then some w.next.length else none,if w.inLoop then some w.left.length else none⟩
theorem zSa{ty seen l want:List Int}(h:zC ty seen l want=true):inR ty.length l/\l.length=want.length:=by
 unfold zC at h;rw[ya,decide_eq_true_eq,yj]at h;refine⟨fun v hv=>?_,h.1⟩;obtain⟨i,hi⟩:=yP hv;have hlt:=(yb.1 hi).1;obtain⟨t,ht⟩:∃t,want[i]? =some t:=⟨_,yd (by omega)⟩
 have hm:(v,t)∈l.zip want:=yr (i:=i) (by rw[yM];exact⟨hi,ht⟩);have:=h.2 _ hm;simp only[useR,ya,decide_eq_true_eq]at this;exact⟨this.1,this.2.1⟩
theorem setRG_go{ty:List Int}:∀{l:List (Int×Int)} {S:Set1},(eqGo (zha ty) S l).1=true->∀q∈l,0<=q.1/\q.1<ty.length
 | [],_,_,q,hq=>by cases hq
 |(v,t)::r,S,h,q,hq=>by
  simp only[eqGo,zha]at h;by_cases hb:(valM ty v t&& !atB S v)=true
  ·simp only[hb,if_true]at h;rcases yA.1 hq with rfl|hq
   ·rw[ya]at hb;exact zBa hb.1
   ·exact setRG_go h q hq
  ·simp only[Bool.not_eq_true]at hb;simp[hb]at h
theorem zOb{ty:List Int}{Z:Set1}{l want:List Int}(h:(zD ty Z l want).1=true):inR ty.length l/\l.length=want.length:=by
 unfold zD eqM at h;split at h
 ·rename_i hl;refine⟨fun v hv=>?_,hl⟩;have:v∈(l.zip want).map yUa:=by rw[zip_fst hl];exact hv
  obtain⟨q,hq,rfl⟩:=yka.1 this;exact setRG_go h q hq
 ·cases h
theorem typesM_len{ty l:List Int}(h:inR ty.length l):(typesM ty l).length=l.length:=by
 unfold typesM;rw[if_pos,yV];rw[yj];intro v hv;obtain⟨h0,h1⟩:=h v hv;simp[valM,h0,h1]
theorem znc(m:Nat):inR m []:=fun v h=>by cases h
theorem endR_ok{ty:List Int}{x:Node}{q:Bool×Set1}(h:(endR ty x q).1=true):q.1=true/\inR ty.length x.outs:=by
 unfold endR at h;split at h
 ·rename_i hc;rw[ya]at hc;exact⟨hc.1,(zOb h).1⟩
 ·cases h
theorem bareM_ok{x:Node}(h:zca x=true):(x.kids.length:Int)=zXa x.kind/\(x.kind=11\/x.params=[]):=by
 simp only[zca,ya,yw,decide_eq_true_eq]at h;exact⟨h.2,h.1.2⟩
theorem simpleR_ok{u:Unt}{f:Flow}{seen:List Int}{w:Place}{Z:Set1}{x:Node}(hb:zca x=true)(h10:x.kind≠10)(h11:x.kind≠11)(h:(zp u f seen w Z x).1=true):okH u f.types.length (plOf w) x:=by
 obtain⟨_,hp⟩:=bareM_ok hb;have hp:x.params=[]:=hp.resolve_left h11;have hpar:inR f.types.length x.params:=by rw[hp];exact znc _
 unfold zp at h;dsimp only at h;by_cases k1:x.kind=1
 ·rw[if_pos k1]at h;split at h
  ·rename_i ha;have a:=zSa ha;have o:=zOb h;refine⟨a.1,o.1,hpar,?_,?_,?_,?_,?_,?_,?_,?_,?_,?_,?_,?_,?_,?_,?_⟩<;>intros<;>first|omega|(simp_all;done)|skip
  ·cases h
 rw[if_neg k1]at h;by_cases k2:x.kind=2
 ·rw[if_pos k2]at h;split at h
  ·rename_i ha;have a:=zSa ha.2;have o:=zOb h;refine⟨a.1,o.1,hpar,?_,?_,?_,?_,?_,?_,?_,?_,?_,?_,?_,?_,?_,?_,?_⟩<;>intros<;>first|omega|(simp_all;done)|skip
  ·cases h
 rw[if_neg k2]at h;by_cases k3:x.kind=3
 ·rw[if_pos k3]at h;split at h
  ·rename_i ha;rw[ya]at ha;have a:=zSa ha.2;have o:=zOb h;refine⟨a.1,o.1,hpar,?_,?_,?_,?_,?_,?_,?_,?_,?_,?_,?_,?_,?_,?_,?_⟩<;>intros<;>first|omega|(simp_all;done)|skip
  ·cases h
 rw[if_neg k3]at h;by_cases k4:x.kind=4
 ·rw[if_pos k4]at h;split at h
  ·rename_i ha;have ha:=ha.1;rw[ya]at ha;have a:=zSa ha.2;have o:=zOb h;refine⟨a.1,o.1,hpar,?_,?_,?_,?_,?_,?_,?_,?_,?_,?_,?_,?_,?_,?_,?_⟩<;>intros<;>first|omega|(simp_all;done)|skip
  ·cases h
 rw[if_neg k4]at h;by_cases k5:x.kind=5
 ·rw[if_pos k5]at h;split at h
  ·rename_i ha;rw[ya]at ha;have a:=zSa ha.2;have o:=zOb h;refine⟨a.1,o.1,hpar,?_,?_,?_,?_,?_,?_,?_,?_,?_,?_,?_,?_,?_,?_,?_⟩<;>intros<;>first|omega|(simp_all;done)|skip
  ·cases h
 rw[if_neg k5]at h;by_cases k6:x.kind=6
 ·rw[if_pos k6]at h;simp only[ya,decide_eq_true_eq]at h;have a:=zSa h.2.1;have o:inR f.types.length x.outs:=by rw[h.2.2];exact znc _
  have o2:x.outs.length=0:=by rw[h.2.2];rfl
  refine⟨a.1,o,hpar,?_,?_,?_,?_,?_,?_,?_,?_,?_,?_,?_,?_,?_,?_,?_⟩<;>intros<;>first|omega|(simp_all;done)|skip
 rw[if_neg k6]at h;by_cases k7:x.kind=7
 ·rw[if_pos k7]at h;split at h
  ·rename_i g hg;split at h
   ·rename_i ha;have a:=zSa ha.2;have o:=zOb h;have hk:∃g,flowAt u x.name=some g/\0<=zZ u.flows x.name/\x.args.length=(pars g).length/\x.outs.length=1:=⟨g,hg,ha.1,a.2,o.2⟩
    refine⟨a.1,o.1,hpar,?_,?_,?_,?_,?_,fun _=>hk,?_,?_,?_,?_,?_,?_,?_,?_,?_⟩<;>intros<;>omega
   ·cases h
  ·cases h
 rw[if_neg k7]at h;by_cases k8:x.kind=8
 ·rw[if_pos k8]at h;split at h
  ·rename_i ha;have o:=zOb h;have a:inR f.types.length x.args:=by rw[ha];exact znc _
   refine⟨a,o.1,hpar,?_,?_,?_,?_,?_,?_,?_,?_,?_,?_,?_,?_,?_,?_,?_⟩<;>intros<;>first|omega|(simp_all;done)|skip
  ·cases h
 rw[if_neg k8]at h;by_cases k9:x.kind=9
 ·rw[if_pos k9]at h;simp only[ya,decide_eq_true_eq]at h;have a:=zSa h.1;have o:inR f.types.length x.outs:=by rw[h.2];exact znc _
  have o2:x.outs.length=0:=by rw[h.2];rfl
  refine⟨a.1,o,hpar,?_,?_,?_,?_,?_,?_,?_,?_,?_,?_,?_,?_,?_,?_,?_⟩<;>intros<;>first|omega|(simp_all;done)|skip
 rw[if_neg k9]at h;by_cases k12:x.kind=12
 ·rw[if_pos k12]at h;simp only[ya,decide_eq_true_eq]at h;have a:=zSa h.2.1;have o:inR f.types.length x.outs:=by rw[h.2.2];exact znc _
  have hy:(plOf w).y=some x.args.length:=by simp only[plOf,h.1,if_true,a.2]
  refine⟨a.1,o,hpar,?_,?_,?_,?_,?_,?_,?_,?_,?_,?_,?_,?_,?_,?_,?_⟩<;>intros<;>first|omega|(simp_all;done)|skip
 rw[if_neg k12]at h;by_cases k13:x.kind=13
 ·rw[if_pos k13]at h;simp only[ya,decide_eq_true_eq]at h;have a:=zSa h.2.1;have o:inR f.types.length x.outs:=by rw[h.2.2];exact znc _
  have hy:(plOf w).x=some x.args.length:=by simp only[plOf,h.1,if_true,a.2]
  refine⟨a.1,o,hpar,?_,?_,?_,?_,?_,?_,?_,?_,?_,?_,?_,?_,?_,?_,?_⟩<;>intros<;>first|omega|(simp_all;done)|skip
 rw[if_neg k13]at h;by_cases k14:x.kind=14
 ·rw[if_pos k14]at h;simp only[ya,decide_eq_true_eq]at h;have a:=zSa h.2.1;have o:inR f.types.length x.outs:=by rw[h.2.2];exact znc _
  have hy:(plOf w).l=some x.args.length:=by simp only[plOf,h.1,if_true,a.2]
  refine⟨a.1,o,hpar,?_,?_,?_,?_,?_,?_,?_,?_,?_,?_,?_,?_,?_,?_,?_⟩<;>intros<;>first|omega|(simp_all;done)|skip
 rw[if_neg k14]at h;by_cases k15:x.kind=15
 ·rw[if_pos k15]at h;simp only[ya,decide_eq_true_eq]at h;have a:=zSa h.1;have o:inR f.types.length x.outs:=by rw[h.2];exact znc _
  refine⟨a.1,o,hpar,?_,?_,?_,?_,?_,?_,?_,?_,?_,?_,?_,?_,?_,?_,?_⟩<;>intros<;>first|omega|(simp_all;done)|skip
 rw[if_neg k15]at h;cases h
theorem plOf_if{w:Place}{ty us ps:List Int}(h:inR ty.length us):plOf {w with inIf:=true,yield:=typesM ty us}=plIn (plOf w) 10 us ps:=by
 simp[plOf,plIn,typesM_len h]
theorem plOf_loop{p:Pl}{ty us ps:List Int}(h:inR ty.length us)(h':inR ty.length ps):plOf ⟨false,true,[],typesM ty ps,typesM ty us⟩=plIn p 11 us ps:=by
 simp[plOf,plIn,typesM_len h,typesM_len h']
mutual
theorem nodeR_ok(u:Unt)(f:Flow):∀(x:Node) (seen:List Int) (w:Place) (deep:Int) (Z:Set1),(zy u f x seen w deep Z).1=true->okN u f.types.length (plOf w) x
 |⟨k,o,n,s,a,us,ps,ks⟩,seen,w,deep,Z,h=>by
  rw[okN];rw[zy]at h;by_cases hb:zca ⟨k,o,n,s,a,us,ps,ks⟩=true
  ·rw[hb]at h;simp only[Bool.not_true,yv,if_false]at h;obtain⟨hk,hp⟩:=bareM_ok hb;simp only at hk hp;by_cases k10:k=10
   ·rw[if_pos k10]at h;split at h
    ·rename_i ha;have a1:=zSa ha;obtain⟨q1,q2⟩:=endR_ok h;simp only at q2;have hp0:ps=[]:=hp.resolve_left (by omega);have hk2:ks.length=2:=by rw[k10]at hk;simp[zXa]at hk;omega
     have hkid:=kidsR_ok u f ks _ _ _ _ q1;rw[plOf_if (ps:=ps) q2]at hkid;rw[k10];refine⟨⟨a1.1,q2,by simp only[hp0];exact znc _,?_,?_,?_,?_,?_,?_,?_,?_,?_,?_,?_,?_,?_,?_,?_⟩,hkid⟩<;>intros<;>(try dsimp only at*)<;>first|omega|exact⟨a1.2,hk2⟩|exact⟨by simpa using a1.2,hk2⟩
    ·cases h
   ·rw[if_neg k10]at h;by_cases k11:k=11
    ·rw[if_pos k11]at h;split at h
     ·rename_i ha;split at h
      ·rename_i hs;have s1:=zOb hs;have a1:=zSa ha;rw[typesM_len s1.1]at a1;obtain⟨q1,q2⟩:=endR_ok h;simp only at q2;have hk2:ks.length=1:=by rw[k11]at hk;simp[zXa]at hk;omega
       have hkid:=kidsR_ok u f ks _ _ _ _ q1;rw[plOf_loop (p:=plOf w) q2 s1.1]at hkid;rw[k11];refine⟨⟨a1.1,q2,s1.1,?_,?_,?_,?_,?_,?_,?_,?_,?_,?_,?_,?_,?_,?_,?_⟩,hkid⟩<;>intros<;>(try dsimp only at*)<;>first|omega|exact⟨a1.2,hk2⟩|exact⟨by simpa using a1.2,hk2⟩
      ·cases h
     ·cases h
    ·rw[if_neg k11]at h;have hh:=simpleR_ok hb k10 k11 h;have hk0:ks=[]:=by
      simp[zXa,k10,k11]at hk;exact hk
     exact⟨hh,by rw[hk0,okK];trivial⟩
  ·simp only[Bool.not_eq_true]at hb;rw[hb]at h;simp at h
theorem kidsR_ok(u:Unt)(f:Flow):∀(ks:List (List Node)) (seen:List Int) (w:Place) (deep:Int) (Z:Set1),(zH u f ks seen w deep Z).1=true->okK u f.types.length (plOf w) ks
 | [],seen,w,deep,Z,h=>by rw[okK];trivial
 |l::r,seen,w,deep,Z,h=>by
  rw[okK];rw[zH]at h;split at h
  ·rename_i hl;refine⟨?_,kidsR_ok u f r _ _ _ _ h⟩;unfold zNa at hl;split at hl
   ·rename_i hg;refine⟨?_,goR_ok u f l _ _ _ _ hg⟩
    rintro rfl
    simp at hl
   ·cases hl
  ·cases h
theorem goR_ok(u:Unt)(f:Flow):∀(l:List Node) (seen:List Int) (w:Place) (deep:Int) (Z:Set1),(goR u f l seen w deep Z).1=true->okL u f.types.length (plOf w) l
 | [],seen,w,deep,Z,h=>by rw[okL];trivial
 |x::r,seen,w,deep,Z,h=>by
  rw[okL];rw[goR]at h;split at h
  ·cases h
  ·split at h
   ·rename_i hn;split at h
    ·rename_i hc;exact⟨nodeR_ok u f x _ _ _ _ hn,hc,goR_ok u f r _ _ _ _ h⟩
    ·cases h
   ·cases h
end
structure OkU(u:Unt):Prop where
 sz:USz u
 body:∀f∈u.flows,f.body≠ []/\okL u f.types.length ⟨none,none,none⟩ f.body
 pars:∀f∈u.flows,0<=f.params/\f.params<=f.types.length
 arrs:∀a∈u.arrays,1<=a.size/\a.size<=1000
 names:(u.arrays.map Arr.name).Nodup
 main:∃f,flowAt u zw=some f/\f∈u.flows/\0<=zZ u.flows zw/\f.params=0
theorem zcf{u:Unt}(hz:USz u)(h:(zJa u).1=0):OkU u:=by
 have h2:=h;rw[check_eq]at h2;unfold zXc at h2;rw[rhead_eq]at h2;cases hh:zcd u
 ·rw[hh]at h2;simp at h2
 ·rw[hh]at h2;simp only[if_true]at h2;have hfl:∀f∈u.flows,zvb u f=true:=by
   cases hx:u.flows.findIdx? (fun f=> !zvb u f)with
   |some i=>rw[hx]at h2;simp at h2
   |none=>rw[yfa]at hx;simpa using hx
  simp only[zcd,ya,yj,decide_eq_true_eq]at hh;obtain⟨⟨⟨ha,hf⟩,hn⟩,hm⟩:=hh;refine⟨hz,fun f hf'=>?_,fun f hf'=>?_,fun a ha'=>?_,?_,?_⟩
  ·have h3:=hfl f hf';unfold zvb at h3;rw[ya]at h3;have h4:=h3.2;unfold zIb zNa at h4;split at h4
   ·rename_i hg;refine⟨?_,goR_ok u f f.body _ _ _ _ hg⟩;intro e;rw[e]at h4;simp at h4
   ·cases h4
  ·have:=hf f hf';simp only[zqd,ya,decide_eq_true_eq]at this;exact⟨this.1.2,this.2⟩
  ·have:=ha a ha';simp only[zCf,ya,decide_eq_true_eq]at this;exact⟨this.1.2,this.2⟩
  ·unfold zzd at hn;rw[List.nodup_append]at hn;exact hn.1
  ·unfold zWd at hm;unfold flowAt;split at hm
   ·rename_i f hf';simp only[ya,decide_eq_true_eq]at hm;exact⟨f,hf',yr hf',by grind,by grind⟩
   ·cases hm
structure Mono(S S1:RS):Prop where
 fuel:S1.fuel<=S.fuel
 out:S1.out.length+S1.fuel<=S.out.length+S.fuel
 arrs:S1.arrs.map List.length=S.arrs.map List.length
theorem Mono.refl(S:RS):Mono S S:=⟨yg _,yg _,rfl⟩
theorem Mono.trans{a b c:RS}(h:Mono a b)(k:Mono b c):Mono a c:=⟨yta k.1 h.1,yta k.2 h.2,k.3.trans h.3⟩
structure Mono1(S S1:RS):Prop where
 fuel:S1.fuel<=S.fuel
 out:S1.out.length+S1.fuel<=S.out.length+S.fuel+1
 arrs:S1.arrs.map List.length=S.arrs.map List.length
theorem Mono.one{a b:RS}(h:Mono a b):Mono1 a b:=⟨h.1,by have:=h.2;omega,h.3⟩
theorem zDa:∀(v o n:List Int),(setW v o n).length=v.length
 |v,[],n=>by simp[setW]
 |v,_::_,[]=>by simp[setW]
 |v,o::os,n::ns=>by rw[setW,zDa];simp
theorem zKc(v l:List Int):(ofW v l).length=l.length:=by simp[ofW]
def Ended(p:Pl)(r:Wy):Prop:=
 (r.kind=12/\p.y=some r.l.length)\/(r.kind=13/\p.x=some r.l.length)\/(r.kind=14/\p.l=some r.l.length)\/(r.kind=15/\r.l.length=1)
theorem Ended.ne{p:Pl}{r:Wy}(h:Ended p r):r.kind≠0:=by
 rcases h with h|h|h|h<;>omega
def NodeOk(m:Nat)(p:Pl)(x:Node)(S:RS)(q:Rt Wy×List Int×RS):Prop:=
 Mono S q.2.2/\q.2.1.length=m/\∀r,q.1= .ok r->q.2.2.fuel<S.fuel/\((r.kind=0/\zb x=false)\/(Ended p r/\(r.kind=12->x.kind=12)/\(r.kind=14->x.leaves=true)))
def ListRun(m:Nat)(p:Pl)(l:List Node)(S:RS)(q:Rt Wy×List Int×RS):Prop:=
 Mono S q.2.2/\q.2.1.length=m/\∀r,q.1= .ok r->q.2.2.fuel<S.fuel/\Ended p r/\(r.kind=12->zF l=true)/\(r.kind=14->zu l=true)
def EvOk(u:Unt)(ev:NEv):Prop:=∀m p x v S,okN u m p x->v.length=m->NodeOk m p x S (ev x v S)
theorem closed_ends{x:Node}(h:12<=x.kind/\x.kind<=15):zb x=true:=by
 unfold zb;rw[if_neg (by omega),if_neg (by omega)];simp[Node.ends,h.1,h.2]
theorem yields_cons{x:Node}{r:List Node}(h:r≠ []):zF (x::r)=zF r:=by
 unfold zF;cases r with
 |nil=>exact absurd rfl h
 |cons y r=>rw[List.getLast?_cons_cons]
section
variable {u:Unt} {ev:NEv} (H:EvOk u ev)
include H
theorem zpb{m:Nat}{p:Pl}:∀(l:List Node) (v:List Int) (S:RS),l≠ []->okL u m p l->v.length=m->ListRun m p l S (zB ev l v S)
 | [],v,S,hne,_,_=>absurd rfl hne
 |x::r,v,S,_,ho,hv=>by
  rw[okL]at ho;obtain⟨o1,o2,o3⟩:=ho;obtain⟨h1,f2,h2⟩:=H m p x v S o1 hv;unfold zB;generalize ev x v S=q at*;obtain⟨a,v1,S1⟩:=q;simp only at f2 h1;cases a with
  |stop k=>exact⟨h1,f2,fun r e=>by cases e⟩
  |ok w=>
   obtain⟨f1,f3⟩:=h2 w rfl;simp only;by_cases hk:w.kind=0
   ·rw[if_pos hk];have hc:zb x=false:=by
     rcases f3 with f3|f3
     ·exact f3.2
     ·exact absurd hk f3.1.ne
    have hne:r≠ []:=by rintro rfl;rw[hc]at o2;cases o2
    obtain⟨i1,i0,i2⟩:=zpb r v1 S1 hne o3 f2;refine⟨h1.trans i1,i0,fun r' e=>?_⟩;obtain⟨j1,j3,j4,j5⟩:=i2 r' e;refine⟨by simp only at f1;omega,j3,fun e=>?_,fun e=>?_⟩
    ·rw[yields_cons hne];exact j4 e
    ·rw[zMb,List.any_cons,<-zMb,j5 e,Bool.or_true]
   ·rw[if_neg hk];refine⟨h1,f2,fun r' e=>?_⟩;cases e;rcases f3 with f3|⟨f3,f4,f5⟩
    ·exact absurd f3.1 hk
    ·refine⟨f1,f3,fun e=>?_,fun e=>?_⟩
     ·have hx:=f4 e;have hc:=closed_ends (x:=x) (by omega);rw[hc]at o2;have:r=[]:=by simpa using o2.symm
      subst this;simp[zF,hx]
     ·rw[zMb,List.any_cons,f5 e,Bool.true_or]
theorem callW_ok{f:Flow}(hb:f.body≠ []/\okL u f.types.length ⟨none,none,none⟩ f.body){l:List Int}(hl:l.length<=f.types.length)(S:RS):
  Mono S (zRc ev f l S).2/\(∀n,(zRc ev f l S).1= .ok n->(zRc ev f l S).2.fuel<S.fuel):=by
 have h:=zpb H f.body (l++yf (f.types.length-l.length) 0) S hb.1 hb.2 (by simp;omega);unfold zRc;generalize zB ev f.body (l++yf (f.types.length-l.length) 0) S=q at*;obtain⟨a,v1,S1⟩:=q;obtain⟨h1,_,h2⟩:=h;cases a with
 |stop k=>exact⟨h1,fun n e=>by cases e⟩
 |ok w=>exact⟨h1,fun n e=>(h2 w rfl).1⟩
theorem plainW_ok(hU:OkU u){m:Nat}{p:Pl}{x:Node}(ho:okH u m p x)(hk:3<=x.kind/\x.kind<=9){l:List Int}(hl:l.length=x.args.length)(S:RS):
  Mono1 S (zoa u ev x l S).2/\∀n,(zoa u ev x l S).1= .ok n->n.length=x.outs.length:=by
 unfold zoa;by_cases k3:x.kind=3
 ·rw[if_pos k3];exact⟨(Mono.refl _).one,fun n e=>by cases e;rw[(ho.k3 k3).2];rfl⟩
 rw[if_neg k3];by_cases k4:x.kind=4
 ·rw[if_pos k4];split
  ·exact⟨(Mono.refl _).one,fun n e=>by cases e;rw[(ho.k4 k4).2];rfl⟩
  ·exact⟨(Mono.refl _).one,fun n e=>by cases e⟩
 rw[if_neg k4];by_cases k5:x.kind=5
 ·rw[if_pos k5];split
  ·exact⟨(Mono.refl _).one,fun n e=>by cases e;rw[(ho.k5 k5).2.2];rfl⟩
  ·exact⟨(Mono.refl _).one,fun n e=>by cases e⟩
 rw[if_neg k5];by_cases k6:x.kind=6
 ·rw[if_pos k6];split
  ·rename_i S1 hp;refine⟨?_,fun n e=>by cases e;rw[(ho.k6 k6).2.2];rfl⟩;unfold putAt at hp;split at hp
   ·cases hp
   ·rw[yN]at hp;obtain⟨row,hr,hp⟩:=hp;split at hp
    ·cases hp;refine Mono.one ⟨yg _,yg _,?_⟩;simp only[yxa,List.length_set];have hlt:=(yb.1 hr).1;have e:row.length=(S.arrs.map List.length)[(zFe u.arrays x.name).toNat]'(by simpa using hlt):=by
      rw[List.getElem_map,(yb.1 hr).2]
     rw[e,List.set_getElem_self]
    ·cases hp
  ·exact⟨(Mono.refl _).one,fun n e=>by cases e⟩
 rw[if_neg k6];by_cases k7:x.kind=7
 ·rw[if_pos k7];obtain⟨g,hg,_,ha,hs⟩:=ho.k7 k7;rw[hg];simp only;have hgm:g∈u.flows:=yr hg;have hc:=callW_ok H (hU.body g hgm) (l:=l) (by rw[hl,ha];simp[pars];omega) S;generalize zRc ev g l S=q at*;obtain⟨a,S1⟩:=q;cases a with
  |stop k=>exact⟨hc.1.one,fun n e=>by cases e⟩
  |ok k=>exact⟨hc.1.one,fun n e=>by cases e;rw[hs];rfl⟩
 rw[if_neg k7];by_cases k8:x.kind=8
 ·rw[if_pos k8];split
  ·exact⟨(Mono.refl _).one,fun n e=>by cases e⟩
  ·exact⟨Mono.one ⟨yg _,yg _,rfl⟩,fun n e=>by cases e;rw[ho.k8 k8];rfl⟩
 rw[if_neg k8];by_cases k9:x.kind=9
 ·rw[if_pos k9];exact⟨⟨yg _,by simp;omega,rfl⟩,fun n e=>by cases e;rw[(ho.k9 k9).2];rfl⟩
 omega
omit H in
theorem kids_two{x:Node}(h:x.kids.length=2):x.kids=[kid0 x,kid1 x]:=by
 unfold kid0 kid1
 match hk:x.kids with
 | [a,b]=>rfl
 | []=>rw[hk]at h;cases h
 | [_]=>rw[hk]at h;cases h
 |_::_::_::_=>rw[hk]at h;simp at h
omit H in
theorem zqf{x:Node}(h:x.kids.length=1):x.kids=[kid0 x]:=by
 unfold kid0
 match hk:x.kids with
 | [a]=>rfl
 | []=>rw[hk]at h;cases h
 |_::_::_=>rw[hk]at h;simp at h
omit H in
theorem Mono.less{k:Nat}{S:RS}{q:RS}(hf:S.fuel=k+1)(h:Mono {S with fuel:=k} q):Mono S q/\q.fuel<S.fuel:=by
 obtain⟨h1,h2,h3⟩:=h;simp only at h1 h2 h3;exact⟨⟨by omega,by omega,h3⟩,by omega⟩
theorem choiceW_ok{m:Nat}{p:Pl}{x:Node}(ho:okN u m p x)(hk:x.kind=10)(c:Int){v:List Int}(hv:v.length=m)(S:RS):
  Mono S (zUa ev x c v S).2.2/\(zUa ev x c v S).2.1.length=m/\∀r,(zUa ev x c v S).1= .ok r->((r.kind=0/\zb x=false)\/(Ended p r/\(r.kind=12->x.kind=12)/\(r.kind=14->x.leaves=true))):=by
 rw[zhb]at ho;obtain⟨o1,o2⟩:=ho;have hkid:=kids_two (o1.k10 hk).2;have hp:plIn p x.kind x.outs x.params={p with y:=some x.outs.length}:=by rw[hk];rfl
 rw[hp]at o2;have hmem:(if c=0 then kid1 x else kid0 x)∈x.kids:=by rw[hkid];split<;>simp
 obtain⟨h1,h2⟩:=zjb o2 _ hmem;have h:=zpb H _ v S h1 h2 hv;unfold zUa;generalize(if c=0 then kid1 x else kid0 x)=l at*;generalize zB ev l v S=q at*;obtain⟨a,v1,S1⟩:=q;obtain⟨h3,g2,h4⟩:=h;simp only at g2 h3;cases a with
 |stop k=>exact⟨h3,g2,fun r e=>by cases e⟩
 |ok w=>
  obtain⟨g1,g3,g4,g5⟩:=h4 w rfl;simp only;by_cases hw:w.kind=12
  ·rw[if_pos hw];refine⟨h3,by simp only[zDa];exact g2,fun r e=>?_⟩;cases e;refine .inl ⟨rfl,?_⟩;have hy:=g4 hw;unfold zb;rw[if_pos ⟨hk,(o1.k10 hk).2⟩];rw[<-Bool.not_eq_true,yj];intro hall;have:=hall l hmem;rw[hy]at this;cases this
  ·rw[if_neg hw];refine⟨h3,g2,fun r e=>?_⟩;cases e;refine .inr ⟨?_,fun e=>absurd e hw,fun e=>?_⟩
   ·rcases g3 with g3|g3
    ·exact absurd g3.1 hw
    ·exact .inr g3
   ·rw[zrc,hk];simp only[decide_true,Bool.true_and];rw[yw,List.any_eq_true];exact .inr ⟨l,hmem,g5 e⟩
theorem loopW_ok{m:Nat}{p:Pl}{x:Node}(ho:okN u m p x)(hk:x.kind=11):∀(k:Nat) {l v:List Int} (hl:l.length=x.params.length) (hv:v.length=m) (S:RS),
  Mono S (zTa ev x k l v S).2.2/\(zTa ev x k l v S).2.1.length=m/\∀r,(zTa ev x k l v S).1= .ok r->((r.kind=0/\zb x=false)\/(Ended p r/\(r.kind=12->x.kind=12)/\(r.kind=14->x.leaves=true)))
 |0,l,v,hl,hv,S=>⟨Mono.refl _,hv,fun r e=>by cases e⟩
 |k+1,l,v,hl,hv,S=>by
  have ho':=ho;rw[zhb]at ho';obtain⟨o1,o2⟩:=ho';have hkid:=zqf (o1.k11 hk).2;have hp:plIn p x.kind x.outs x.params=⟨none,some x.params.length,some x.outs.length⟩:=by rw[hk];rfl
  rw[hp]at o2;have hmem:kid0 x∈x.kids:=by rw[hkid];simp
  obtain⟨h1,h2⟩:=zjb o2 _ hmem;have h:=zpb H _ (setW v x.params l) S h1 h2 (by rw[zDa];exact hv);have ih:=fun l v hl hv S=>loopW_ok ho hk k (l:=l) (v:=v) hl hv S
  unfold zTa;generalize zB ev (kid0 x) (setW v x.params l) S=q at*;obtain⟨a,v1,S1⟩:=q;obtain⟨h3,g2,h4⟩:=h;simp only at g2 h3;cases a with
  |stop k=>exact⟨h3,g2,fun r e=>by cases e⟩
  |ok w=>
   obtain⟨g1,g3,g4,g5⟩:=h4 w rfl;simp only;by_cases hw:w.kind=15
   ·rw[if_pos hw];refine⟨h3,g2,fun r e=>?_⟩;cases e;refine .inr ⟨?_,fun e=>by omega,fun e=>by omega⟩;rcases g3 with g3|g3|g3|g3
    ·omega
    ·omega
    ·omega
    ·exact .inr (.inr (.inr g3))
   ·rw[if_neg hw];by_cases hw4:w.kind=14
    ·rw[if_pos hw4];refine⟨h3,by simp only[zDa];exact g2,fun r e=>?_⟩;cases e;refine .inl ⟨rfl,?_⟩;have hy:=g5 hw4;unfold zb;rw[if_neg (by omega),if_pos ⟨hk,(o1.k11 hk).2⟩,hkid];simp[hy]
    ·rw[if_neg hw4];have hlen:w.l.length=x.params.length:=by
      rcases g3 with g3|g3|g3|g3
      ·cases g3.2
      ·have:=g3.2;simp at this;omega
      ·omega
      ·omega
     obtain⟨i1,i0,i2⟩:=ih w.l v1 hlen g2 S1;exact⟨h3.trans i1,i0,i2⟩
theorem nodeW_ok(hU:OkU u){m:Nat}{p:Pl}{x:Node}(ho:okN u m p x){v:List Int}(hv:v.length=m)(w:Nat){k:Nat}{S:RS}(hf:S.fuel=k+1):
  NodeOk m p x S (zmb u ev w x v {S with fuel:=k}):=by
 have ho':=ho;rw[zhb]at ho';obtain⟨o1,o2⟩:=ho';unfold zmb;by_cases k1:x.kind=1\/x.kind=2
 ·rw[if_pos k1];obtain⟨q1,q2⟩:=Mono.less hf (Mono.refl _);refine⟨q1,by simp only[zDa];exact hv,fun r e=>?_⟩;cases e;refine⟨q2,.inl ⟨rfl,?_⟩⟩;unfold zb;rw[if_neg (by omega),if_neg (by omega)];simp only[Node.ends,yK,decide_eq_false_iff_not];omega
 rw[if_neg k1];by_cases k2:12<=x.kind/\x.kind<=15
 ·rw[if_pos k2];obtain⟨q1,q2⟩:=Mono.less hf (Mono.refl _);refine⟨q1,hv,fun r e=>?_⟩;cases e;refine⟨q2,.inr ⟨?_,fun e=>e,fun e=>?_⟩⟩
  ·unfold Ended;simp only[zKc];have h12:=o1.k12';have h13:=o1.k13;have h14:=o1.k14;have h15:=o1.k15;rcases(show x.kind=12\/x.kind=13\/x.kind=14\/x.kind=15 from by omega)with e|e|e|e
   ·exact .inl ⟨e,h12 e⟩
   ·exact .inr (.inl ⟨e,h13 e⟩)
   ·exact .inr (.inr (.inl ⟨e,h14 e⟩))
   ·exact .inr (.inr (.inr ⟨e,h15 e⟩))
  ·simp only at e;rw[zrc,e];rfl
 rw[if_neg k2];by_cases k10:x.kind=10
 ·rw[if_pos k10];obtain⟨h1,h0,h2⟩:=choiceW_ok H ho k10 (atA (ofW v x.args) 0) hv {S with fuel:=k};obtain⟨q1,q2⟩:=Mono.less hf h1;exact⟨q1,h0,fun r e=>⟨q2,h2 r e⟩⟩
 rw[if_neg k10];by_cases k11:x.kind=11
 ·rw[if_pos k11];obtain⟨h1,h0,h2⟩:=loopW_ok H ho k11 (w+1) (l:=ofW v x.args) (by rw[zKc];exact(o1.k11 k11).1) hv {S with fuel:=k};obtain⟨q1,q2⟩:=Mono.less hf h1;exact⟨q1,h0,fun r e=>⟨q2,h2 r e⟩⟩
 rw[if_neg k11];have hkk:3<=x.kind/\x.kind<=9:=by have:=o1.k;omega
 have h:=plainW_ok H hU o1 hkk (zKc v x.args) (zq {S with fuel:=k});have hc:zb x=false:=by
  unfold zb;rw[if_neg (by omega),if_neg (by omega)];simp only[Node.ends,yK,decide_eq_false_iff_not];omega
 generalize zoa u ev x (ofW v x.args) (zq {S with fuel:=k})=q at*;obtain⟨a,S1⟩:=q;obtain⟨⟨h1,h2,h3⟩,h4⟩:=h;simp only[zq]at h1 h2 h3;have q1:Mono S S1:=⟨by omega,by omega,h3⟩
 cases a with
 |stop j=>exact⟨q1,hv,fun r e=>by cases e⟩
 |ok l=>
  refine⟨q1,by simp only[zDa];exact hv,fun r e=>?_⟩;cases e;exact⟨by simp only;omega,.inl ⟨rfl,hc⟩⟩
end
theorem zic{u:Unt}(hU:OkU u):∀w,EvOk u (evN u w)
 |0=>fun m p x v S ho hv=>⟨Mono.refl _,hv,fun r e=>by cases e⟩
 |w+1=>fun m p x v S ho hv=>by
  have ih:=zic hU w;simp only[evN];cases hf:S.fuel with
  |zero=>exact⟨Mono.refl _,hv,fun r e=>by cases e⟩
  |succ k=>exact nodeW_ok ih hU ho hv w hf
abbrev Fact:=Option Int
abbrev zA:=List (Int×Fact)
abbrev KS:=zA×Bool
def getA{α:Type}:List (Int×α)->Int->Option α
 | [],_=>none
 |p::r,v=>if v=p.1 then some p.2 else getA r v
def setA{α:Type}:List (Int×α)->Int->α->List (Int×α)
 | [],v,f=>[(v,f)]
 |p::r,v,f=>if v=p.1 then(v,f)::r else p::setA r v f
theorem getA_setA{α:Type}:∀(F:List (Int×α)) (v w:Int) (f:α),getA (setA F v f) w=if w=v then some f else getA F w
 | [],v,w,f=>by simp only[setA,getA]
 |p::r,v,w,f=>by
  rw[setA];by_cases h:v=p.1
  ·rw[if_pos h,getA,getA];by_cases h1:w=v
   ·rw[if_pos h1,if_pos h1]
   ·rw[if_neg h1,if_neg h1,if_neg (by rw[<-h];exact h1)]
  ·rw[if_neg h,getA,getA,getA_setA r v w f];by_cases h1:w=p.1
   ·rw[if_pos h1,if_pos h1,if_neg (by intro e;rw[e]at h1;exact h h1)]
   ·rw[if_neg h1,if_neg h1]
def zod(S:KS)(v:Int)(f:Fact):KS:=
 match getA S.1 v with
 |none=>(setA S.1 v f,true)
 |some o=>if o=f then S else if o=none then S else(setA S.1 v none,true)
def stepK(S:KS)(p:Int×Int):KS:=match getA S.1 p.2 with
 |some f=>zod S p.1 f
 |none=>S
def zka(S:KS)(l fr:List Int):KS:=(l.zip fr).foldl stepK S
def numK(F:zA)(v:Int):Int×Bool:=match getA F v with
 |some (some n)=>(n,true)
 |_=>(0,false)
noncomputable def madeK(F:zA)(k op:Int)(a:List Int):Fact:=
 if(numK F (at0 a 0)).2=false then none
 else if k=3 then some (one op (numK F (at0 a 0)).1)
 else if(numK F (at0 a 1)).2=false then none
 else if(two op (numK F (at0 a 0)).1 (numK F (at0 a 1)).1).2 then some (two op (numK F (at0 a 0)).1 (numK F (at0 a 1)).1).1 else none
structure Hd where
 y:List Int
 x:List Int
 l:List Int
def zEd(c:Int×Bool):Bool:= !(c.2&&decide (c.1=0))
def zxd(c:Int×Bool):Bool:= !(c.2&&decide (c.1≠0))
mutual
def passN(F:zA):Node->Bool
 |⟨k,o,n,s,a,us,ps,ks⟩=>
  if k=10 then zEd (numK F (at0 a 0))&&((passKs F ks)[0]?).getD false||zxd (numK F (at0 a 0))&&((passKs F ks)[1]?).getD false
  else if k=11 then((lvKs F ks)[0]?).getD false
  else decide (k=12)|| !zb ⟨k,o,n,s,a,us,ps,ks⟩
def passL(F:zA):List Node->Bool
 | []=>true
 |x::r=>passN F x&&passL F r
def passKs(F:zA):List (List Node)->List Bool
 | []=>[]
 |l::r=>(passL F l&&zF l)::passKs F r
def lvN(F:zA):Node->Bool
 |⟨k,o,n,s,a,us,ps,ks⟩=>decide (k=14)||decide (k=10)&&(zEd (numK F (at0 a 0))&&((lvKs F ks)[0]?).getD false||zxd (numK F (at0 a 0))&&((lvKs F ks)[1]?).getD false)
def lvL(F:zA):List Node->Bool
 | []=>false
 |x::r=>lvN F x||passN F x&&lvL F r
def lvKs(F:zA):List (List Node)->List Bool
 | []=>[]
 |l::r=>lvL F l::lvKs F r
end
def yldL(F:zA)(l:List Node):Bool:=passL F l&&zF l
theorem passKs_eq(F:zA):∀l:List (List Node),passKs F l=l.map (yldL F)
 | []=>rfl
 |l::r=>by rw[passKs,passKs_eq F r];rfl
theorem lvKs_eq(F:zA):∀l:List (List Node),lvKs F l=l.map (lvL F)
 | []=>rfl
 |l::r=>by rw[lvKs,lvKs_eq F r];rfl
mutual
noncomputable def zsb:Node->Hd->KS->KS×Bool
 |⟨k,o,n,s,a,us,ps,ks⟩,h,S=>
  if k=1\/k=2 then(zod S (at0 us 0) (some n),true)
  else if k=3\/k=4 then(zod S (at0 us 0) (madeK S.1 k o a),true)
  else if k=10 then zza ks {h with y:=us} (numK S.1 (at0 a 0)) true S false
  else if k=11 then(zfe ks ⟨[],ps,us⟩ (zka S ps a),((lvKs (zfe ks ⟨[],ps,us⟩ (zka S ps a)).1 ks)[0]?).getD false)
  else if k=12 then(zka S h.y a,false)
  else if k=13 then(zka S h.x a,false)
  else if k=14 then(zka S h.l a,false)
  else(us.foldl (fun S v=>zod S v none) S, !zb ⟨k,o,n,s,a,us,ps,ks⟩)
noncomputable def zta:List Node->Hd->KS->KS
 | [],h,S=>S
 |x::r,h,S=>if(zsb x h S).2 then zta r h (zsb x h S).1 else(zsb x h S).1
noncomputable def zza:List (List Node)->Hd->Int×Bool->Bool->KS->Bool->KS×Bool
 | [],h,c,b,S,g=>(S,g)
 |l::r,h,c,b,S,g=>if(if b then zEd c else zxd c)then zza r h c false (zta l h S) (g||yldL (zta l h S).1 l)else zza r h c false S g
noncomputable def zfe:List (List Node)->Hd->KS->KS
 | [],h,S=>S
 |l::_,h,S=>zta l h S
end
def lev(F:zA)(v:Int):Nat:=match getA F v with
 |none=>2
 |some (some _)=>1
 |some none=>0
def levs(m:Nat)(F:zA):Nat:=((yaa m).map fun(i:Nat)=>lev F (i:Int)).sum
theorem sum_le_of(m:Nat)(f g:Nat->Nat)(h:∀i,i<m->f i<=g i):((yaa m).map f).sum<=((yaa m).map g).sum:=by
 induction m with
 |zero=>simp
 |succ m ih=>
  rw[yRa,yDa,yDa,yab,yab];have:=ih (fun i hi=>h i (by omega));have:=h m (by omega);simp;omega
theorem sum_lt_of(m:Nat)(f g:Nat->Nat)(h:∀i,i<m->f i<=g i)(k:Nat)(hk:k<m)(hf:f k<g k):((yaa m).map f).sum<((yaa m).map g).sum:=by
 induction m with
 |zero=>omega
 |succ m ih=>
  rw[yRa,yDa,yDa,yab,yab];have hm:=h m (by omega);by_cases hkm:k=m
  ·subst hkm;have:=sum_le_of k f g (fun i hi=>h i (by omega));simp;omega
  ·have:=ih (fun i hi=>h i (by omega)) (by omega);simp;omega
structure Up(m:Nat)(S S':KS):Prop where
 le:∀v,lev S'.1 v<=lev S.1 v
 flag:S.2=true->S'.2=true
 up:S'.2=true->S.2=true\/levs m S'.1<levs m S.1
 same:S'.2=false->S'=S
theorem Up.refl(m:Nat)(S:KS):Up m S S:=⟨fun v=>yg _,id,fun h=> .inl h,fun _=>rfl⟩
theorem levs_le{m:Nat}{F F':zA}(h:∀v,lev F' v<=lev F v):levs m F'<=levs m F:=sum_le_of m _ _ (fun i _=>h i)
theorem Up.trans{m:Nat}{S S' S'':KS}(h:Up m S S')(h':Up m S' S''):Up m S S'':=by
 refine⟨fun v=>yta (h'.le v) (h.le v),fun e=>h'.flag (h.flag e),fun e=>?_,fun e=>?_⟩
 ·rcases h'.up e with h1|h1
  ·rcases h.up h1 with h2|h2
   ·exact .inl h2
   ·exact .inr (Nat.lt_of_le_of_lt (levs_le h'.le) h2)
  ·exact .inr (Nat.lt_of_lt_of_le h1 (levs_le h.le))
 ·have e1:=h'.same e;rw[e1]at e ⊢;exact h.same e
theorem lev_set(F:zA)(v w:Int)(f:Fact):lev (setA F v f) w=if w=v then(match f with
 |some _=>1
 |none=>0)else lev F w:=by
 unfold lev;rw[getA_setA];by_cases h:w=v
 ·rw[if_pos h,if_pos h];cases f<;>rfl
 ·rw[if_neg h,if_neg h]
theorem meetK_up{m:Nat}(S:KS){v:Int}(hv:0<=v/\v<m)(f:Fact):Up m S (zod S v f):=by
 have step:∀g:Fact,(∀t:Nat,(match g with|some _=>1|none=>0)=t->t<lev S.1 v)->Up m S (setA S.1 v g,true):=by
  intro g hg;have hlt:=hg _ rfl;have hle:∀w,lev (setA S.1 v g) w<=lev S.1 w:=by
   intro w;rw[lev_set];by_cases h:w=v
   ·rw[if_pos h,h];exact Nat.le_of_lt hlt
   ·rw[if_neg h];exact yg _
  refine⟨hle,fun _=>rfl,fun _=> .inr ?_,fun h=>by cases h⟩;refine sum_lt_of m _ _ (fun i _=>hle i) v.toNat (by omega) ?_;have e:((v.toNat:Nat):Int)=v:=by omega
  rw[e,lev_set,if_pos rfl];exact hlt
 unfold zod;split
 ·rename_i hn;refine step f (fun t ht=>?_);have:lev S.1 v=2:=by unfold lev;rw[hn]
  rw[this,<-ht];cases f<;>simp
 ·rename_i o ho;split
  ·exact Up.refl m S
  ·split
   ·exact Up.refl m S
   ·rename_i h1 h2;refine step none (fun t ht=>?_);have:lev S.1 v=1:=by
     unfold lev;rw[ho];cases o with
     |none=>exact absurd rfl h2
     |some z=>rfl
    rw[this,<-ht];simp
theorem foldl_up{α:Type}{m:Nat}(g:KS->α->KS):∀(l:List α) (S:KS),(∀S x,x∈l->Up m S (g S x))->Up m S (l.foldl g S)
 | [],S,h=>Up.refl m S
 |x::r,S,h=>(h S x (by simp)).trans (foldl_up g r (g S x) (fun S y hy=>h S y (by simp[hy])))
theorem meetsK_up{m:Nat}(S:KS){l fr:List Int}(h:inR m l):Up m S (zka S l fr):=by
 refine foldl_up _ _ _ (fun S p hp=>?_);have hp1:p.1∈l:=(List.of_mem_zip hp).1;unfold stepK;split
 ·exact meetK_up S (h _ hp1) _
 ·exact Up.refl m S
def HdR(m:Nat)(h:Hd):Prop:=inR m h.y/\inR m h.x/\inR m h.l
mutual
theorem nodeK_up{u:Unt}{m:Nat}:∀(x:Node) (p:Pl) (h:Hd) (S:KS),okN u m p x->HdR m h->Up m S (zsb x h S).1
 |⟨k,o,n,s,a,us,ps,ks⟩,p,h,S,hx,hh=>by
  rw[okN]at hx;obtain⟨ho,hk⟩:=hx;have h12:=ho.k12;have h3:=ho.k3;have h4:=ho.k4;have hu:=ho.outs;have hp:=ho.prs;simp only at h12 h3 h4 hu hp;have at1:us.length=1->0<=at0 us 0/\at0 us 0<m:=by
   intro hl
   match us,hl with
   | [v],_=>exact hu v (by simp)
  rw[zsb];split
  ·rename_i c;exact meetK_up S (at1 (h12 c)) _
  split
  ·rename_i c;refine meetK_up S (at1 ?_) _;rcases c with c|c
   ·exact(h3 c).2
   ·exact(h4 c).2
  split
  ·exact choiceK_up ks _ _ _ _ S _ hk ⟨hu,hh.2.1,hh.2.2⟩
  split
  ·exact(meetsK_up S hp).trans (loopK_up ks _ _ _ hk ⟨znc m,hp,hu⟩)
  split
  ·exact meetsK_up S hh.1
  split
  ·exact meetsK_up S hh.2.1
  split
  ·exact meetsK_up S hh.2.2
  ·exact foldl_up _ _ _ (fun S v hv=>meetK_up S (hu v hv) none)
theorem zCd{u:Unt}{m:Nat}:∀(l:List Node) (p:Pl) (h:Hd) (S:KS),okL u m p l->HdR m h->Up m S (zta l h S)
 | [],p,h,S,hx,hh=>by rw[zta];exact Up.refl m S
 |x::r,p,h,S,hx,hh=>by
  rw[okL]at hx;rw[zta];have h1:=nodeK_up x p h S hx.1 hh;split
  ·exact h1.trans (zCd r p h _ hx.2.2 hh)
  ·exact h1
theorem choiceK_up{u:Unt}{m:Nat}:∀(ks:List (List Node)) (p:Pl) (h:Hd) (c:Int×Bool) (b:Bool) (S:KS) (g:Bool),okK u m p ks->HdR m h->Up m S (zza ks h c b S g).1
 | [],p,h,c,b,S,g,hx,hh=>by rw[zza];exact Up.refl m S
 |l::r,p,h,c,b,S,g,hx,hh=>by
  rw[okK]at hx;rw[zza];by_cases hc:(if b then zEd c else zxd c)=true
  ·rw[if_pos hc];exact(zCd l p h S hx.1.2 hh).trans (choiceK_up r p h c false _ _ hx.2 hh)
  ·rw[if_neg hc];exact choiceK_up r p h c false S g hx.2 hh
theorem loopK_up{u:Unt}{m:Nat}:∀(ks:List (List Node)) (p:Pl) (h:Hd) (S:KS),okK u m p ks->HdR m h->Up m S (zfe ks h S)
 | [],p,h,S,hx,hh=>by rw[zfe];exact Up.refl m S
 |l::r,p,h,S,hx,hh=>by
  rw[okK]at hx;rw[zfe];exact zCd l p h S hx.1.2 hh
end
def hd0:Hd:=⟨[],[],[]⟩
theorem hd0_r(m:Nat):HdR m hd0:=⟨znc m,znc m,znc m⟩
def zWb(k:Nat):zA:=(yaa k).map fun(i:Nat)=>((i:Int),none)
noncomputable def zHc(l:List Node):Nat->zA->zA
 |0,F=>F
 |w+1,F=>if(zta l hd0 (F,false)).2 then zHc l w (zta l hd0 (F,false)).1 else(zta l hd0 (F,false)).1
noncomputable def zPa(f:Flow):zA:=zHc f.body (2*f.types.length+1) (zWb f.params.toNat)
theorem levs_bound(m:Nat)(F:zA):levs m F<=2*m:=by
 have h:levs m F<=((yaa m).map fun _=>2).sum:=sum_le_of m _ _ (fun i _=>by unfold lev;split<;>omega);have e:∀m:Nat,((yaa m).map fun _=>2).sum=2*m:=by
  intro m
  induction m with
  |zero=>rfl
  |succ m ih=>rw[yRa,yDa,yab,ih];simp;omega
 rw[e]at h;exact h
theorem roundsK_fix{u:Unt}{m:Nat}{p:Pl}{l:List Node}(hl:okL u m p l):∀(w:Nat) (F:zA),levs m F<w->zta l hd0 (zHc l w F,false)=(zHc l w F,false)
 |0,F,h=>by omega
 |w+1,F,h=>by
  have hu:=zCd l p hd0 (F,false) hl (hd0_r m);rw[zHc];split
  ·rename_i hc;rcases hu.up hc with h1|h1
   ·cases h1
   ·have h1:levs m (zta l hd0 (F,false)).1<levs m F:=h1;exact roundsK_fix hl w _ (by omega)
  ·rename_i hc;have hc:(zta l hd0 (F,false)).2=false:=by simpa using hc
   have e:=hu.same hc;rw[e];exact e
def zS:Fact->PV
 |none=> .agg [.bool true,.int .i64 0]
 |some n=> .agg [.bool false,.int .i64 n]
def zyf(F:zA):List (PV×PV):=F.map fun p=>(.int .i64 p.1,zS p.2)
def kst(S:KS)(τ:zd):zd:= .mp (zyf S.1):: .arr 2 [.agg [.mp 0,.bool S.2]]::τ
theorem find_facts:∀(F:zA) (v:Int),zya false (.int .i64 v) (zyf F)=some ((getA F v).map zS)
 | [],v=>rfl
 |p::r,v=>by
  have ih:=find_facts r v;unfold zyf at ih ⊢;rw[yR,zya,getA];by_cases h:v=p.1
  ·simp[zDd,h]
  ·simp[zDd,h,ih]
theorem set_facts:∀(F:zA) (v:Int) (f:Fact),zMc false (.int .i64 v) (zS f) (zyf F)=some (zyf (setA F v f))
 | [],v,f=>rfl
 |p::r,v,f=>by
  have ih:=set_facts r v f;unfold zyf at ih ⊢;rw[yR,zMc,setA];by_cases h:v=p.1
  ·simp[zDd,h]
  ·simp[zDd,h,ih]
theorem meetk_spec(S:KS)(v:Int)(f:Fact)(τ:zd):zk E 125 [.ptr 1 0 0,.int .i64 v,zS f] (kst S τ)=some (.ret (.tup []),kst (zod S v f) τ):=by
 obtain⟨F,b⟩:=S;refine zc rfl rfl rfl (by cases f<;>simp[zS]) ?_;have hf:=find_facts F v;have hs:=fun g=>set_facts F v g
 unfold zod;cases hg:getA F v with
 |none=>
  rw[hg]at hf;have hs:=hs f;simp only;generalize setA F v f=F' at*;cases f with
  |none=>simp[zS]at hf hs;simp[*,F125,kst,zS,zN,zRa]
  |some n=>simp[zS]at hf hs;simp[*,F125,kst,zS,zN,zRa]
 |some o=>
  rw[hg]at hf;simp only;have hs0:=hs none;clear hs;generalize setA F v none=F' at*;cases o with
  |none=>
   cases f with
   |none=>simp[zS]at hf hs0;simp[*,F125,kst,zS,zN,zRa]
   |some n=>simp[zS]at hf hs0;simp[*,F125,kst,zS,zN,zRa]
  |some z=>
   cases f with
   |none=>simp[zS]at hf hs0;simp[*,F125,kst,zS,zN,zRa]
   |some n=>
    simp[zS]at hf hs0;by_cases h:z=n
    ·subst h;simp[*,F125,kst,zS,zN,zRa]
    ·simp[*,F125,kst,zS,zN,zRa]
theorem znd(S:KS)(v:Int)(τ:zd):zk E 102 [.ptr 1 0 0,.int .i64 v] (kst S τ)=some (.ret (.tup [.int .i64 (numK S.1 v).1,.bool (numK S.1 v).2]),kst S τ):=by
 obtain⟨F,b⟩:=S;refine zc rfl rfl rfl (by simp) ?_;have hf:=find_facts F v;unfold numK;cases hg:getA F v with
 |none=>rw[hg]at hf;simp[zS]at hf;simp[*,F102,kst,zS]
 |some o=>
  rw[hg]at hf;cases o with
  |none=>simp[zS]at hf;simp[*,F102,kst,zS]
  |some z=>simp[zS]at hf;simp[*,F102,kst,zS]
theorem zpf(S:KS)(l fr:List Int)(τ:zd)(hl:l.length=fr.length)(hz:l.length<1099511627776):zk E 129 [.ptr 1 0 0,ints l,ints fr] (kst S τ)=some (.ret (.tup []),kst (zka S l fr) τ):=by
 refine zc rfl rfl rfl (by simp) ?_;simp[F129,ints];refine zG (l.zip fr) K129_0 B129_0 (fun d=>[(12,.int .i64 d.length)]) (fun d=>kst (d.foldl stepK S) τ) (fun _=>True) (by simp;omega) (by simp) ?_ ?_
 ·rintro d ⟨v,w⟩ r s hl' hlt hget hget' hw hp h1 h2 h3 h4
  simp at h1 h3;clear h2;obtain⟨g1,g2⟩:=zip_get (d:=l) hget;have hlt1:d.length<l.length:=by simp at hlt;omega
  have hlt2:d.length<fr.length:=by omega
  have g1':l[d.length]=v:=by simpa[hlt1]using g1
  have g2':fr[d.length]=w:=by simpa[hlt2]using g2
  rw[ySa];generalize hS:d.foldl stepK S=S1 at*;obtain⟨F,b⟩:=S1;have hf:=find_facts F w;clear hget hget' hl';rw[yU,yYa];cases hg:getA F w with
  |none=>
   have e:stepK (F,b) (v,w)=(F,b):=by simp[stepK,hg]
   rw[e];rw[hg]at hf;simp[zS]at hf;simp[*,kst,zS]
  |some f=>
   have e:stepK (F,b) (v,w)=zod (F,b) v f:=by simp[stepK,hg]
   rw[e];rw[hg]at hf;have hm:=meetk_spec (F,b) v f τ;generalize zod (F,b) v f=S2 at*;clear e;obtain⟨F2,b2⟩:=S2;cases f with
   |none=>simp[zS,kst]at hf hm;simp[*,kst,zS]
   |some z=>simp[zS,kst]at hf hm;simp[*,kst,zS]
 ·intros s hp h1 h2 h3 h4;simp at h1 h3;have hlen:l.length=(l.zip fr).length:=by simp;omega
  (simp[*,zka])<;>(repeat' (first|((first|refine sP _ ?_ ?_|refine gP _ ?_ ?_|refine sN _ ?_ ?_|refine gN _ ?_ ?_)<;>intro hc<;>(first|replace hc:=eqn hc|replace hc:=eqp hc)<;>simp[*,zka])|((first|refine sM _ ?_ ?_|refine gM _ ?_ ?_|refine sB _ ?_ ?_|refine gB _ ?_ ?_)<;>intro hc<;>simp[*,zka])))
theorem madek_spec(S:KS)(x:Node)(τ:zd)(hk:x.kind=3/\x.args.length=1\/x.kind=4/\x.args.length=2):
  zk E 126 [.ptr 1 0 0,zK x] (kst S τ)=some (.ret (zS (madeK S.1 x.kind x.op x.args)),kst S τ):=by
 refine zc rfl rfl rfl (by simp[za]) ?_;rcases hk with⟨hk,hl⟩|⟨hk,hl⟩
 ·match ha:x.args,hl with
  | [a],_=>
   have n1:=znd S a τ;have e0:at0 [a] 0=a:=rfl;have h1:=one_spec x.op (numK S.1 a).1 [];unfold madeK;rw[e0];generalize numK S.1 a=q at*;obtain⟨q1,q2⟩:=q;cases q2
   ·simp[*,F126,za,ints,zS]
   ·simp[*,F126,za,ints,zS]
 ·match ha:x.args,hl with
  | [a,b],_=>
   have n1:=znd S a τ;have n2:=znd S b τ;have e0:at0 [a,b] 0=a:=rfl;have e1:at0 [a,b] 1=b:=rfl;have h1:=two_spec x.op (numK S.1 a).1 (numK S.1 b).1 [];unfold madeK;rw[e0,e1];generalize numK S.1 a=q at*;generalize numK S.1 b=z at*;obtain⟨q1,q2⟩:=q;obtain⟨z1,z2⟩:=z;simp only at h1;generalize two x.op q1 z1=t at*;obtain⟨t1,t2⟩:=t;cases q2
   ·simp[*,F126,za,ints,zS]
   ·cases z2
    ·simp[*,F126,za,ints,zS]
    ·cases t2
     ·simp[*,F126,za,ints,zS]
     ·simp[*,F126,za,ints,zS]
def PassSp(x:Node):Prop:=∀(S:KS) (τ:zd),zk E 162 [.ptr 1 0 0,zK x] (kst S τ)=some (.ret (.bool (passN S.1 x)),kst S τ)
def YldSp(l:List Node):Prop:=∀(S:KS) (τ:zd),zk E 148 [.ptr 1 0 0,zh l] (kst S τ)=some (.ret (.bool (yldL S.1 l)),kst S τ)
def LvSp(l:List Node):Prop:=∀(S:KS) (τ:zd),zk E 149 [.ptr 1 0 0,zh l] (kst S τ)=some (.ret (.bool (lvL S.1 l)),kst S τ)
theorem passN_eq(F:zA)(x:Node):passN F x=if x.kind=10 then zEd (numK F (at0 x.args 0))&&((x.kids.map (yldL F))[0]?).getD false||zxd (numK F (at0 x.args 0))&&((x.kids.map (yldL F))[1]?).getD false
  else if x.kind=11 then((x.kids.map (lvL F))[0]?).getD false else decide (x.kind=12)|| !zb x:=by
 cases x;rw[passN,passKs_eq,lvKs_eq]
theorem lvN_eq(F:zA)(x:Node):lvN F x=(decide (x.kind=14)||decide (x.kind=10)&&(zEd (numK F (at0 x.args 0))&&((x.kids.map (lvL F))[0]?).getD false||zxd (numK F (at0 x.args 0))&&((x.kids.map (lvL F))[1]?).getD false)):=by
 cases x;rw[lvN,lvKs_eq]
theorem pass_of{x:Node}(hw:wtN x<1099511627776)(h10:x.kind=10->x.args.length=1/\x.kids.length=2)(h11:x.kind=11->x.kids.length=1)(hy:x.kind=10->∀l∈x.kids,YldSp l)(hl:x.kind=11->∀l∈x.kids,LvSp l):PassSp x:=by
 intro S τ;refine zc rfl rfl rfl (by simp[za]) ?_;rw[passN_eq];have hc:=zXb x [] hw;by_cases k10:x.kind=10
 ·obtain⟨ha,hk⟩:=h10 k10;have hy:=hy k10
  match ha':x.args,ha with
  | [a],_=>
   match hk':x.kids,hk with
   | [l0,l1],_=>
    rw[hk']at hy;have y0:=hy l0 (by simp) S τ;have y1:=hy l1 (by simp) S τ;have n1:=znd S a τ;have e0:at0 [a] 0=a:=rfl;have r0:(([l0,l1].map (yldL S.1))[0]?).getD false=yldL S.1 l0:=rfl;have r1:(([l0,l1].map (yldL S.1))[1]?).getD false=yldL S.1 l1:=rfl;rw[e0,r0,r1];clear r0 r1;generalize numK S.1 a=q at*;obtain⟨c,ok⟩:=q;generalize yldL S.1 l0=b0 at*;generalize yldL S.1 l1=b1 at*;clear hy hl h10 h11 hc;simp[zh]at y0 y1;by_cases c0:c=0
    ·subst c0;cases ok<;>cases b0<;>cases b1<;>simp[*,F162,za,ints,kids,zh,zEd,zxd]
    ·cases ok<;>cases b0<;>cases b1<;>simp[*,F162,za,ints,kids,zh,zEd,zxd]
 ·by_cases k11:x.kind=11
  ·have hk:=h11 k11;have hl:=hl k11
   match hk':x.kids,hk with
   | [l0],_=>
    rw[hk']at hl;have y0:=hl l0 (by simp) S τ;clear hy hl h10 h11 hc;simp[zh]at y0;simp[*,F162,za,ints,kids,zh]
  ·simp[za]at hc;clear hy hl h10 h11;by_cases k12:x.kind=12
   ·simp[*,F162,za]
   ·simp[*,F162,za]
theorem passL_append(F:zA):∀(a b:List Node),passL F (a++b)=(passL F a&&passL F b)
 | [],b=>by simp[passL]
 |x::r,b=>by rw[yI,passL,passL_append F r b,passL,Bool.and_assoc]
theorem yld_of{l:List Node}(hw:wtL l<1099511627776)(hne:l≠ [])(hp:∀x∈l,PassSp x):YldSp l:=by
 intro S τ;refine zc rfl rfl rfl (by simp) ?_;have hll:=zlc l;simp[F148,zh];refine zG l K148_0 B148_0 (fun d=>[(9,.int .i64 d.length)]) (fun _=>kst S τ) (fun d=>passL S.1 d=true) (by omega) (by simp[passL]) ?_ ?_
 ·intros d x r s hl' hlt hget hget' hwr hpd h1 h2 h3 h4;simp at h1 h3;clear h2;have hs:=hp x hl'.mem S τ;have happ:=passL_append S.1 d [x];have hxx:passL S.1 [x]=passN S.1 x:=by simp[passL]
  rw[hpd,hxx]at happ;have hfalse:passN S.1 x=false->yldL S.1 l=false:=by
   intro h;unfold yldL;rw[hl'.eq,passL_append,passL,h];simp
  clear hp;simp[za]at hs;cases hb:passN S.1 x
  ·have hf:=hfalse hb;rw[hb]at hs;clear happ hfalse
   (simp[*,za])<;>(repeat' (first|((first|refine sP _ ?_ ?_|refine gP _ ?_ ?_|refine sN _ ?_ ?_|refine gN _ ?_ ?_)<;>intro hc<;>(first|replace hc:=eqn hc|replace hc:=eqp hc)<;>simp[*,za])|((first|refine sM _ ?_ ?_|refine gM _ ?_ ?_|refine sB _ ?_ ?_|refine gB _ ?_ ?_)<;>intro hc<;>simp[*,za])))
  ·rw[hb]at hs happ;clear hfalse
   (simp[*,za])<;>(repeat' (first|((first|refine sP _ ?_ ?_|refine gP _ ?_ ?_|refine sN _ ?_ ?_|refine gN _ ?_ ?_)<;>intro hc<;>(first|replace hc:=eqn hc|replace hc:=eqp hc)<;>simp[*,za])|((first|refine sM _ ?_ ?_|refine gM _ ?_ ?_|refine sB _ ?_ ?_|refine gB _ ?_ ?_)<;>intro hc<;>simp[*,za])))
 ·intros s hpd h1 h2 h3 h4;simp at h1 h3;clear h2;have hy:yldL S.1 l=zF l:=by unfold yldL;rw[hpd];rfl
  rw[hy];rcases yz l with rfl|⟨d,x,rfl⟩
  ·exact absurd rfl hne
  ·have hwr:zW .i64 (d.length:Int)=d.length:=zm (by omega) (by rw[yC,ym]at hll;rw[yC]at hw;omega);clear hp hne hy;simp at h1 h3;have hp:(0:Int)<d.length+1:=by omega
   (simp[*,zh,zF,za])<;>(repeat' (first|((first|refine sP _ ?_ ?_|refine gP _ ?_ ?_|refine sN _ ?_ ?_|refine gN _ ?_ ?_)<;>intro hc<;>(first|replace hc:=eqn hc|replace hc:=eqp hc)<;>simp[*,zh,zF,za])|((first|refine sM _ ?_ ?_|refine gM _ ?_ ?_|refine sB _ ?_ ?_|refine gB _ ?_ ?_)<;>intro hc<;>simp[*,zh,zF,za])))
set_option maxHeartbeats 4000000 in
theorem lv_of{l:List Node}(hw:wtL l<1099511627776)(hp:∀x∈l,PassSp x)(h10:∀x∈l,x.kind=10->x.args.length=1/\x.kids.length=2)(hk:∀x∈l,x.kind=10->∀q∈x.kids,LvSp q):LvSp l:=by
 intro S τ;refine zc rfl rfl rfl (by simp) ?_;have hll:=zlc l;simp[F149,zh];have hdrop:∀(d r:List Node),(∀x∈d,lvN S.1 x=false/\passN S.1 x=true)->lvL S.1 (d++r)=lvL S.1 r:=by
  intro d r
  induction d with
  |nil=>intro _;rfl
  |cons x d ih=>
   intro h;obtain⟨h1,h2⟩:=h x (by simp);rw[yI,lvL,h1,h2,ih (fun y hy=>h y (by simp[hy]))];rfl
 refine zG l K149_0 B149_0 (fun d=>[(11,.int .i64 d.length)]) (fun _=>kst S τ) (fun d=>∀x∈d,lvN S.1 x=false/\passN S.1 x=true) (by omega) (by simp) ?_ ?_
 ·intros d x r s hl' hlt hget hget' hwr hpd h1 h2 h3 h4;simp at h1 h3;clear h2;have hx:=hl'.mem;have hs:=hp x hx S τ;have e:lvL S.1 l=(lvN S.1 x||passN S.1 x&&lvL S.1 r):=by rw[hl'.eq,hdrop d _ hpd,lvL]
  have hnext:lvN S.1 x=false->passN S.1 x=true->∀y∈d++[x],lvN S.1 y=false/\passN S.1 y=true:=by
   intro q1 q2 y hy;rcases yh.1 hy with hy|hy
   ·exact hpd y hy
   ·simp at hy;rw[hy];exact⟨q1,q2⟩
  have h10:=h10 x hx;have hk:=hk x hx;have hlv:=lvN_eq S.1 x;clear hp hdrop hpd;simp[za,ints]at hs;by_cases k14:x.kind=14
  ·have e1:lvN S.1 x=true:=by rw[hlv];simp[k14]
   rw[e1]at e;simp at e;clear hlv hnext hk h10
   (simp[*,za,ints])<;>(repeat' (first|((first|refine sP _ ?_ ?_|refine gP _ ?_ ?_|refine sN _ ?_ ?_|refine gN _ ?_ ?_)<;>intro hc<;>(first|replace hc:=eqn hc|replace hc:=eqp hc)<;>simp[*,za,ints])|((first|refine sM _ ?_ ?_|refine gM _ ?_ ?_|refine sB _ ?_ ?_|refine gB _ ?_ ?_)<;>intro hc<;>simp[*,za,ints])))
  ·by_cases k10:x.kind=10
   ·obtain⟨ha,hkl⟩:=h10 k10;have hk:=hk k10
    match ha':x.args,ha with
    | [a],_=>
     match hk':x.kids,hkl with
     | [l0,l1],_=>
      rw[hk']at hk;have y0:=hk l0 (by simp) S τ;have y1:=hk l1 (by simp) S τ;have n1:=znd S a τ;rw[ha',hk']at hlv hs;have e0:at0 [a] 0=a:=rfl;rw[e0]at hlv;simp[k10]at hlv;simp[ints,kids,k10,zh]at hs;generalize numK S.1 a=q at*;obtain⟨c,ok⟩:=q;generalize lvL S.1 l0=b0 at*;generalize lvL S.1 l1=b1 at*;generalize lvN S.1 x=lv at*;generalize passN S.1 x=ps at*;subst hlv;clear hk h10 hkl;simp[zh]at y0 y1;by_cases c0:c=0
      ·subst c0;cases ok<;>cases b0<;>cases b1<;>cases ps<;>simp[zEd,zxd]at e<;>simp[*,za,ints,kids,zh]<;>(intro y hy;exact hnext (by simp[zEd,zxd]) rfl y (by simpa using hy))
      ·cases ok<;>cases b0<;>cases b1<;>cases ps<;>simp[zEd,zxd,c0]at e<;>simp[*,za,ints,kids,zh]<;>(intro y hy;exact hnext (by simp[zEd,zxd,c0]) rfl y (by simpa using hy))
   ·have e1:lvN S.1 x=false:=by rw[hlv];simp[k14,k10]
    rw[e1]at e hnext;simp at e;clear hlv hk h10;cases hb:passN S.1 x
    ·rw[hb]at e hs;simp at e;clear hnext;simp[*,za,ints]
    ·rw[hb]at e hs hnext;clear e;simp[*,za,ints];intro y hy;exact hnext rfl rfl y (by simpa using hy)
 ·intros s hpd h1 h2 h3 h4;simp at h1 h3;have e:lvL S.1 l=false:=by
   have:=hdrop l [] hpd;rw[yla]at this;rw[this,lvL]
  clear hp hdrop hpd hk h10;simp[*]
theorem okL_mem{u:Unt}{m:Nat}{p:Pl}:∀{l:List Node},okL u m p l->∀x∈l,okN u m p x
 | [],_,x,hx=>by cases hx
 |y::r,h,x,hx=>by
  rw[okL]at h;rcases yA.1 hx with rfl|hx
  ·exact h.1
  ·exact okL_mem h.2.2 x hx
theorem pass_all(u:Unt)(m:Nat):∀(N:Nat),N<1099511627776→
  (∀(x:Node) (p:Pl),wtN x<=N->okN u m p x->PassSp x)/\(∀(l:List Node) (p:Pl),wtL l<=N->okL u m p l->(l≠ []->YldSp l)/\LvSp l):=by
 intro N
 induction N using ysa with
 |ind N ih=>
  intro hN;have hnode:∀(x:Node) (p:Pl),wtN x<=N->okN u m p x->PassSp x:=by
   intro x p hx hok;rw[zhb]at hok;obtain⟨ho,hk⟩:=hok;have kid:∀l∈x.kids,YldSp l/\LvSp l:=by
    intro l hl;have hw:=zld hl;obtain⟨h1,h2⟩:=zjb hk l hl;have:=(ih (wtL l) (by omega) (by omega)).2 l _ (yg _) h2;exact⟨this.1 h1,this.2⟩
   exact pass_of (by omega) ho.k10 (fun h=>(ho.k11 h).2) (fun _ l hl=>(kid l hl).1) (fun _ l hl=>(kid l hl).2)
  refine⟨hnode,fun l p hl hok=>?_⟩;have hn:∀x∈l,PassSp x:=by
   intro x hx;have:=zHe hx;exact(ih (wtN x) (by omega) (by omega)).1 x p (yg _) (okL_mem hok x hx)
  refine⟨fun hne=>yld_of (by omega) hne hn,lv_of (by omega) hn (fun x hx h=>?_) (fun x hx h q hq=>?_)⟩
  ·have:=okL_mem hok x hx;rw[zhb]at this;exact this.1.k10 h
  ·have:=okL_mem hok x hx;rw[zhb]at this;obtain⟨h1,h2⟩:=zjb this.2 q hq;have w1:=zHe hx;have w2:=zld hq;exact((ih (wtL q) (by omega) (by omega)).2 q _ (yg _) h2).2
def zyc(h:Hd):PV:= .agg [ints h.y,ints h.x,ints h.l]
def HdOk(p:Pl)(h:Hd):Prop:=(∀n,p.y=some n->h.y.length=n)/\(∀n,p.x=some n->h.x.length=n)/\(∀n,p.l=some n->h.l.length=n)
def NodeSp(x:Node)(h:Hd):Prop:=∀(S:KS) (τ:zd),zk E 99 [.ptr 1 0 0,zK x,zyc h] (kst S τ)=some (.ret (.bool (zsb x h S).2),kst (zsb x h S).1 τ)
def ListSp(l:List Node)(h:Hd):Prop:=∀(S:KS) (τ:zd),zk E 75 [.ptr 1 0 0,zh l,zyc h] (kst S τ)=some (.ret (.tup []),kst (zta l h S) τ)
theorem zib(x:Node)(h:Hd)(S:KS):zsb x h S=
  if x.kind=1\/x.kind=2 then(zod S (at0 x.outs 0) (some x.n),true)
  else if x.kind=3\/x.kind=4 then(zod S (at0 x.outs 0) (madeK S.1 x.kind x.op x.args),true)
  else if x.kind=10 then zza x.kids {h with y:=x.outs} (numK S.1 (at0 x.args 0)) true S false
  else if x.kind=11 then(zfe x.kids ⟨[],x.params,x.outs⟩ (zka S x.params x.args),((lvKs (zfe x.kids ⟨[],x.params,x.outs⟩ (zka S x.params x.args)).1 x.kids)[0]?).getD false)
  else if x.kind=12 then(zka S h.y x.args,false)
  else if x.kind=13 then(zka S h.x x.args,false)
  else if x.kind=14 then(zka S h.l x.args,false)
  else(x.outs.foldl (fun S v=>zod S v none) S, !zb x):=by
 cases x;rw[zsb]
theorem listK_append:∀(d r:List Node) (h:Hd) (S T:KS),(d.foldl (fun q x=>(if q.2 then((zsb x h q.1).1,(zsb x h q.1).2)else q)) (S,true))=(T,true)->zta (d++r) h S=zta r h T
 | [],r,h,S,T,e=>by simp at e;rw[e];rfl
 |x::d,r,h,S,T,e=>by
  rw[yU]at e;rw[yI,zta];cases hb:(zsb x h S).2
  ·simp[hb]at e;exfalso;have:∀(d:List Node) (T':KS),(d.foldl (fun q x=>(if q.2 then((zsb x h q.1).1,(zsb x h q.1).2)else q)) (T',false)).2=false:=by
    intro d
    induction d with
    |nil=>intro T';rfl
    |cons y d ih=>intro T';simp[ih]
   have h2:=this d (zsb x h S).1;rw[e]at h2;cases h2
  ·rw[if_pos rfl];simp only[if_true,hb]at e;exact listK_append d r h _ T e
theorem listK_of{l:List Node}{h:Hd}(hw:wtL l<1099511627776)(hp:∀x∈l,NodeSp x h):ListSp l h:=by
 intro S τ;refine zc rfl rfl rfl (by simp[zyc]) ?_;have hll:=zlc l;simp[F75,zh,zyc];generalize hg:(fun(q:KS×Bool) (x:Node)=>(if q.2 then((zsb x h q.1).1,(zsb x h q.1).2)else q))=g;refine zG l K75_0 B75_0 (fun d=>[(10,.int .i64 d.length)]) (fun d=>kst (d.foldl g (S,true)).1 τ) (fun d=>(d.foldl g (S,true)).2=true) (by omega) (by simp) ?_ ?_
 ·intros d x r s hl' hlt hget hget' hwr hpd h1 h2 h3 h4;simp at h1 h2 h3;rw[ySa,yU,yYa];have e:=listK_append d (x::r) h S (d.foldl g (S,true)).1 (by rw[hg];exact Prod.ext rfl hpd);rw[<-hl'.eq,zta]at e;generalize hT:d.foldl g (S,true)=T at*;obtain⟨T,b⟩:=T;simp only at hpd;subst hpd;have hs:=hp x hl'.mem T τ;have eg:g (T,true) x=((zsb x h T).1,(zsb x h T).2):=by rw[<-hg];simp
  rw[eg];simp only at e h4;clear hp hT hg eg;generalize zsb x h T=q at*;obtain⟨q1,q2⟩:=q;simp[za,zyc,ints,kids]at hs;cases q2
  ·simp at e;simp[*,za,zyc,ints,kids]
  ·clear e;simp[*,za,zyc,ints,kids]
 ·intros s hpd h1 h2 h3 h4;simp at h1 h2 h3;have e:=listK_append l [] h S (l.foldl g (S,true)).1 (by rw[hg];exact Prod.ext rfl hpd);rw[yla,zta]at e;rw[e];clear hp hg e;simp[*]
noncomputable def ch0(l:List Node)(h:Hd)(c:Int×Bool)(S:KS):KS×Bool:=if zEd c then(zta l h S,yldL (zta l h S).1 l)else(S,false)
noncomputable def ch1(l:List Node)(h:Hd)(c:Int×Bool)(q:KS×Bool):KS×Bool:=if zxd c then(zta l h q.1,q.2||yldL (zta l h q.1).1 l)else q
theorem choiceK_two(l0 l1:List Node)(h:Hd)(c:Int×Bool)(S:KS):zza [l0,l1] h c true S false=ch1 l1 h c (ch0 l0 h c S):=by
 simp only[zza,ch0,ch1,if_true,yNa];cases zEd c<;>cases zxd c<;>simp
set_option maxHeartbeats 4000000 in
theorem choiceK_of{x:Node}{h:Hd}(ha:x.args.length=1)(hk:x.kids.length=2)(hw:wtN x<1099511627776)(hl:∀l∈x.kids,ListSp l {h with y:=x.outs})(hy:∀l∈x.kids,YldSp l)(S:KS)(τ:zd):
  zk E 127 [.ptr 1 0 0,zK x,zyc h] (kst S τ)=some (.ret (.bool (zza x.kids {h with y:=x.outs} (numK S.1 (at0 x.args 0)) true S false).2),kst (zza x.kids {h with y:=x.outs} (numK S.1 (at0 x.args 0)) true S false).1 τ):=by
 refine zc rfl rfl rfl (by simp[za,zyc]) ?_
 match ha':x.args,ha with
 | [a],_=>
  match hk':x.kids,hk with
  | [l0,l1],_=>
   rw[hk']at hl hy;have e0:at0 [a] 0=a:=rfl;have n1:=znd S a τ;have a0:=hl l0 (by simp) S τ;have y0:=hy l0 (by simp) (zta l0 {h with y:=x.outs} S) τ;have A1:=hl l1 (by simp);have Y1:=hy l1 (by simp);have w1:zW .i64 1=1:=zm (by omega) (by omega);have w2:zW .i64 2=2:=zm (by omega) (by omega);rw[e0,choiceK_two];generalize numK S.1 a=q at*;obtain⟨c,ok⟩:=q;have k0:ch0 l0 {h with y:=x.outs} (c,ok) S=if zEd (c,ok)then(zta l0 {h with y:=x.outs} S,yldL (zta l0 {h with y:=x.outs} S).1 l0)else(S,false):=rfl
   have k1:∀q,ch1 l1 {h with y:=x.outs} (c,ok) q=if zxd (c,ok)then(zta l1 {h with y:=x.outs} q.1,q.2||yldL (zta l1 {h with y:=x.outs} q.1).1 l1)else q:=fun q=>rfl
   simp[zh,zyc,ints]at a0 y0;clear hl hy e0;simp[F127,za,zyc,ints,kids,zh,n1,ha',hk'];refine zG [l0,l1] K127_0 B127_0 (fun d=>[(9,.bool (match d with
     | []=>false
     | [_]=>(ch0 l0 {h with y:=x.outs} (c,ok) S).2
     |_=>(ch1 l1 {h with y:=x.outs} (c,ok) (ch0 l0 {h with y:=x.outs} (c,ok) S)).2)),(27,.int .i64 d.length)])
    (fun d=>match d with
     | []=>kst S τ
     | [_]=>kst (ch0 l0 {h with y:=x.outs} (c,ok) S).1 τ
     |_=>kst (ch1 l1 {h with y:=x.outs} (c,ok) (ch0 l0 {h with y:=x.outs} (c,ok) S)).1 τ) (fun _=>True) (by simp) (by simp) ?_ ?_
   ·intros d y r s hl' hlt hget hget' hwr hpd h1 h2 h3 h4;simp at h1 h2 h3;have he:=hl'.eq;clear hget hget' hl' n1
    match d,he with
    | [],he=>
     simp at he;obtain⟨rfl,rfl⟩:=he;simp only[yqa];rw[k0];clear A1 Y1 k0 k1;simp at h3 h4;by_cases c0:c=0
     ·subst c0;cases ok<;>simp[zEd]<;>simp[*,zyc,ints]
     ·cases ok<;>simp[zEd,c0]<;>simp[*,zyc,ints]
    | [z],he=>
     simp at he;obtain⟨rfl,rfl,rfl⟩:=he;simp only[yI,yqa];rw[k1];simp only at h3 h4;clear k0 k1 a0 y0;generalize ch0 l0 {h with y:=x.outs} (c,ok) S=q at*;obtain⟨T,g0⟩:=q;have a1:=A1 T τ;have y1:=Y1 (zta l1 {h with y:=x.outs} T) τ;simp[zh,zyc,ints]at a1 y1;clear A1 Y1;simp at h3 h4;by_cases c0:c=0
     ·subst c0;cases ok<;>cases g0<;>simp[zxd]<;>simp[*,zyc,ints]
     ·cases ok<;>cases g0<;>simp[zxd,c0]<;>simp[*,zyc,ints]
    |z::z'::d,he=>simp at he
   ·intros s hpd h1 h2 h3 h4;simp at h1 h2 h3 h4;clear A1 Y1 k0 k1 a0 y0 n1;simp[*]
theorem zia{x:Node}(h10:x.kind≠10)(h11:x.kind≠11):zb x=(decide (12<=x.kind)&&decide (x.kind<=15)):=by
 unfold zb;rw[if_neg (by intro h;exact h10 h.1),if_neg (by intro h;exact h11 h.1)];rfl
theorem loopK_of{x:Node}(ha:x.args.length=x.params.length)(hk:x.kids.length=1)(hw:wtN x<1099511627776)(hl:∀l∈x.kids,ListSp l ⟨[],x.params,x.outs⟩)(hv:∀l∈x.kids,LvSp l)(S:KS)(τ:zd):
  zk E 128 [.ptr 1 0 0,zK x] (kst S τ)=some (.ret (.bool (((lvKs (zfe x.kids ⟨[],x.params,x.outs⟩ (zka S x.params x.args)).1 x.kids)[0]?).getD false)),kst (zfe x.kids ⟨[],x.params,x.outs⟩ (zka S x.params x.args)) τ):=by
 refine zc rfl rfl rfl (by simp[za]) ?_;have hxk:=zlb x
 match hk':x.kids,hk with
 | [l0],_=>
  rw[hk']at hl hv;have m1:=zpf S x.params x.args τ ha.symm (by omega);have a0:=hl l0 (by simp) (zka S x.params x.args) τ;have y0:=hv l0 (by simp) (zta l0 ⟨[],x.params,x.outs⟩ (zka S x.params x.args)) τ;have e:((lvKs (zfe [l0] ⟨[],x.params,x.outs⟩ (zka S x.params x.args)).1 [l0])[0]?).getD false=lvL (zta l0 ⟨[],x.params,x.outs⟩ (zka S x.params x.args)).1 l0:=rfl;have e2:zfe [l0] ⟨[],x.params,x.outs⟩ (zka S x.params x.args)=zta l0 ⟨[],x.params,x.outs⟩ (zka S x.params x.args):=by rw[zfe]
  rw[e,e2];generalize zta l0 ⟨[],x.params,x.outs⟩ (zka S x.params x.args)=T at*;generalize lvL T.1 l0=b at*;clear e e2 hl hv hxk;simp[ints,zh,zyc]at m1 a0 y0;simp[*,F128,za,zyc,ints,kids,zh]
set_option maxHeartbeats 4000000 in
theorem nodek_of{u:Unt}{m:Nat}{p:Pl}{x:Node}{h:Hd}(ho:okH u m p x)(hh:HdOk p h)(hw:wtN x<1099511627776)
  (hch:x.kind=10->∀(S:KS) (τ:zd),zk E 127 [.ptr 1 0 0,zK x,zyc h] (kst S τ)=some (.ret (.bool (zza x.kids {h with y:=x.outs} (numK S.1 (at0 x.args 0)) true S false).2),kst (zza x.kids {h with y:=x.outs} (numK S.1 (at0 x.args 0)) true S false).1 τ))
  (hlp:x.kind=11->∀(S:KS) (τ:zd),zk E 128 [.ptr 1 0 0,zK x] (kst S τ)=some (.ret (.bool (((lvKs (zfe x.kids ⟨[],x.params,x.outs⟩ (zka S x.params x.args)).1 x.kids)[0]?).getD false)),kst (zfe x.kids ⟨[],x.params,x.outs⟩ (zka S x.params x.args)) τ)):NodeSp x h:=by
 intro S τ;refine zc rfl rfl rfl (by simp[za,zyc]) ?_;have hc:=zXb x [] hw;have hxk:=zlb x;rw[zib];obtain⟨K,hK⟩:∃K,x.kind=K:=⟨_,rfl⟩
 by_cases k12:K=1\/K=2
 ·rw[if_pos (by rw[hK];exact k12)];have hl:=ho.k12 (by rw[hK];exact k12);rw[zia (by omega) (by omega)]at hc
  match hu:x.outs,hl with
  | [v],_=>
   have m1:=meetk_spec S v (some x.n) τ;have e0:at0 [v] 0=v:=rfl;rw[e0];generalize zod S v (some x.n)=T at*;clear hch hlp ho hh hxk e0;simp[zS]at m1;rcases k12 with k|k<;>subst k<;>simp[za,hK,hu,ints]at hc<;>simp[*,F99,za,zyc,ints]
 rw[if_neg (by rw[hK];exact k12)];by_cases k34:K=3\/K=4
 ·rw[if_pos (by rw[hK];exact k34)];rw[zia (by omega) (by omega)]at hc;have hmk:=fun hk=>madek_spec S x τ hk
  have hal:(x.kind=3/\x.args.length=1\/x.kind=4/\x.args.length=2)/\x.outs.length=1:=by
   rcases k34 with k|k<;>subst k
   ·have:=ho.k3 hK;exact⟨.inl ⟨hK,this.1⟩,this.2⟩
   ·have:=ho.k4 hK;exact⟨.inr ⟨hK,this.1⟩,this.2⟩
  have hmk:=hmk hal.1
  match hu:x.outs,hal.2 with
  | [v],_=>
   have m1:=meetk_spec S v (madeK S.1 x.kind x.op x.args) τ;have e0:at0 [v] 0=v:=rfl;rw[e0];rw[hK]at hmk m1 ⊢;generalize hG:madeK S.1 K x.op x.args=g at*;generalize zod S v g=T at*;clear hch hlp ho hh hxk e0 hG hal;simp[za,hK,hu,ints]at hmk;rcases k34 with k|k<;>subst k<;>simp[za,hK,hu,ints]at hc<;>cases g<;>simp[zS]at m1 hmk<;>simp[*,F99,za,zyc,ints]
 rw[if_neg (by rw[hK];exact k34)];by_cases k10:K=10
 ·rw[if_pos (by rw[hK];exact k10)];have hch:=hch (by rw[hK];exact k10) S τ;generalize zza x.kids {h with y:=x.outs} (numK S.1 (at0 x.args 0)) true S false=q at*;subst k10;clear hlp ho hh hxk hc;simp[za,zyc,hK,ints,kids]at hch;simp[*,F99,za,zyc,ints,kids]
 rw[if_neg (by rw[hK];exact k10)];by_cases k11:K=11
 ·rw[if_pos (by rw[hK];exact k11)];have hlp:=hlp (by rw[hK];exact k11) S τ;generalize((lvKs (zfe x.kids ⟨[],x.params,x.outs⟩ (zka S x.params x.args)).1 x.kids)[0]?).getD false=b at*;generalize zfe x.kids ⟨[],x.params,x.outs⟩ (zka S x.params x.args)=T at*;subst k11;clear hch ho hh hxk hc;simp[za,hK,ints,kids]at hlp;simp[*,F99,za,zyc,ints,kids]
 rw[if_neg (by rw[hK];exact k11)];rw[zia (by omega) (by omega)]at hc;by_cases c12:K=12
 ·rw[if_pos (by rw[hK];exact c12)];have m1:=zpf S h.y x.args τ (hh.1 _ (ho.k12' (by rw[hK];exact c12))) (by rw[hh.1 _ (ho.k12' (by rw[hK];exact c12))];omega);generalize zka S h.y x.args=T at*;subst c12;clear hch hlp ho hh hxk;simp[ints]at m1;simp[za,hK,ints]at hc;simp[*,F99,za,zyc,ints]
 rw[if_neg (by rw[hK];exact c12)];by_cases c13:K=13
 ·rw[if_pos (by rw[hK];exact c13)];have m1:=zpf S h.x x.args τ (hh.2.1 _ (ho.k13 (by rw[hK];exact c13))) (by rw[hh.2.1 _ (ho.k13 (by rw[hK];exact c13))];omega);generalize zka S h.x x.args=T at*;subst c13;clear hch hlp ho hh hxk;simp[ints]at m1;simp[za,hK,ints]at hc;simp[*,F99,za,zyc,ints]
 rw[if_neg (by rw[hK];exact c13)];by_cases c14:K=14
 ·rw[if_pos (by rw[hK];exact c14)];have m1:=zpf S h.l x.args τ (hh.2.2 _ (ho.k14 (by rw[hK];exact c14))) (by rw[hh.2.2 _ (ho.k14 (by rw[hK];exact c14))];omega);generalize zka S h.l x.args=T at*;subst c14;clear hch hlp ho hh hxk;simp[ints]at m1;simp[za,hK,ints]at hc;simp[*,F99,za,zyc,ints]
 rw[if_neg (by rw[hK];exact c14)];rw[zia (by omega) (by omega)];have hol:x.outs.length<1099511627776:=by omega
 have hcl:=eqn k10;have hcl1:(K=1)=False:=eqn (by omega);have hcl2:(K=2)=False:=eqn (by omega);have hcl3:(K=3)=False:=eqn (by omega);have hcl4:(K=4)=False:=eqn (by omega);have hcl11:=eqn k11;have hc12:=eqn c12;have hc13:=eqn c13;have hc14:=eqn c14;have hmt:=fun S v=>meetk_spec S v none τ
 rw[hK]at hc ⊢;generalize hB:(decide (12<=K)&&decide (K<=15))=B at*;clear hch hlp ho hh hxk hB k12 k34 k10 k11 c12 c13 c14;simp[za,hK,ints,kids]at hc;simp[*,F99,za,zyc,ints,kids];refine zG x.outs K99_0 B99_0 (fun d=>[(14,.int .i64 d.length)]) (fun d=>kst (d.foldl (fun S v=>zod S v none) S) τ) (fun _=>True) (by omega) (by simp) ?_ ?_
 ·intros d y r s hl' hlt hget hget' hwr hpd h1 h2 h3 h4;simp at h1 h2 h3;have m1:=hmt (d.foldl (fun S v=>zod S v none) S) y;rw[ySa,yU,yYa];generalize d.foldl (fun S v=>zod S v none) S=T at*;generalize zod T y none=T' at*;clear hmt hl';simp[zS]at m1;simp[*]
 ·intros s hpd h1 h2 h3 h4;simp at h1 h2 h3;clear hmt;simp[*]
theorem study_all(u:Unt)(m:Nat):∀(N:Nat),N<1099511627776→
  (∀(x:Node) (p:Pl) (h:Hd),wtN x<=N->okN u m p x->HdOk p h->NodeSp x h)/\(∀(l:List Node) (p:Pl) (h:Hd),wtL l<=N->okL u m p l->HdOk p h->ListSp l h):=by
 intro N
 induction N using ysa with
 |ind N ih=>
  intro hN;refine⟨fun x p h hx hok hh=>?_,fun l p h hl hok hh=>?_⟩
  ·rw[zhb]at hok;obtain⟨ho,hk⟩:=hok;have pa:=fun q (hq:q∈x.kids)=>(pass_all u m (wtL q) (by have:=zld hq;omega)).2 q _ (yg _) (zjb hk q hq).2
   have kid:∀(h':Hd),HdOk (plIn p x.kind x.outs x.params) h'->∀q∈x.kids,ListSp q h':=by
    intro h' hh' q hq;have hw:=zld hq;exact(ih (wtL q) (by omega) (by omega)).2 q _ h' (yg _) (zjb hk q hq).2 hh'
   refine nodek_of ho hh (by omega) (fun h10=>?_) (fun h11=>?_)
   ·have h1:=ho.k10 h10;refine choiceK_of h1.1 h1.2 (by omega) (kid _ ?_) (fun q hq=>(pa q hq).1 (zjb hk q hq).1);rw[h10];refine⟨fun n hn=>?_,hh.2.1,hh.2.2⟩;simp only[plIn]at hn;rw[if_neg (by omega)]at hn;simpa using hn
   ·have h1:=ho.k11 h11;refine loopK_of h1.1 h1.2 (by omega) (kid _ ?_) (fun q hq=>(pa q hq).2);rw[h11];simp only[plIn,if_true];refine⟨?_,?_,?_⟩
    ·intro n hn;cases hn
    ·intro n hn;simpa using hn
    ·intro n hn;simpa using hn
  ·refine listK_of (by omega) (fun x hx=>?_);have:=zHe hx;exact(ih (wtN x) (by omega) (by omega)).1 x p h (yg _) (okL_mem hok x hx) hh
theorem setA_new{α:Type}:∀(F:List (Int×α)) (v:Int) (f:α),getA F v=none->setA F v f=F++[(v,f)]
 | [],v,f,_=>rfl
 |p::r,v,f,h=>by
  rw[getA]at h;split at h
  ·cases h
  ·rename_i hc;rw[setA,if_neg hc,setA_new r v f h];rfl
theorem getA_first:∀(k:Nat) (v:Int),getA (zWb k) v=if 0<=v/\v<k then some none else none
 |0,v=>by
  have:¬(0<=v/\v<((0:Nat):Int)):=by omega
  rw[if_neg this];rfl
 |k+1,v=>by
  have e:zWb (k+1)=zWb k++[((k:Int),none)]:=by simp[zWb,yRa]
  have app:∀(F:zA) (p:Int×Fact),getA (F++[p]) v=match getA F v with
   |some f=>some f
   |none=>if v=p.1 then some p.2 else none:=by
   intro F p
   induction F with
   |nil=>simp[getA]
   |cons q r ih=>
    rw[yI,getA,getA];split
    ·rfl
    ·exact ih
  rw[e,app,getA_first k v];by_cases h:0<=v/\v<(k:Int)
  ·rw[if_pos h];simp only;rw[if_pos (by omega)]
  ·rw[if_neg h];simp only;by_cases h2:v=(k:Int)
   ·rw[if_pos h2,if_pos (by omega)]
   ·rw[if_neg h2,if_neg (by omega)]
theorem first12_succ(k:Nat):zWb (k+1)=setA (zWb k) (k:Int) none:=by
 rw[setA_new _ _ _ (by rw[getA_first,if_neg (by omega)])];simp[zWb,yRa]
theorem studied_spec{u:Unt}{p:Pl}(f:Flow)(hp:0<=f.params/\f.params<=f.types.length)(ht:f.types.length<=20000)(hw:wtL f.body<1099511627776)(hok:okL u f.types.length p f.body)(hh:HdOk p hd0):
  zk E 50 [zf f] []=some (.ret (.ptr 1 0 0),kst (zPa f,false) []):=by
 refine zc rfl rfl rfl (by simp[zf]) ?_;obtain⟨k,hk⟩:∃k:Nat,f.params=k:=⟨f.params.toNat,by omega⟩
 have hl:=(study_all u f.types.length (wtL f.body) hw).2 f.body p hd0 (yg _) hok hh;simp[F50,zf,hk];refine zG (yaa k) K50_0 B50_0 (fun d=>[(10,.int .i64 d.length)]) (fun d=>kst (zWb d.length,false) []) (fun _=>True) (by simp;omega) (by simp[kst,zyf,zWb]) ?_ ?_
 ·intros d x r s hl' hlt hget hget' hwr hpd h1 h2 h3 h4;simp at h1 h2 h3 hlt;have hs:=set_facts (zWb d.length) (d.length:Int) none;rw[<-first12_succ]at hs;simp[zS]at hs;clear hl' hget hget' hl;simp[*,kst]
 ·intros s hpd h1 h2 h3 h4;simp at h1 h2 h3 h4;simp[*,kst,zN,zRa];refine zje K50_1 B50_1 (fun c:KS=>if c.2 then levs f.types.length c.1+1 else 0) (fun _=>[]) (fun _=>[]) (fun c=>kst c [])
   (fun c=>if c.2 then∃w,levs f.types.length c.1<w/\zHc f.body w c.1=zPa f else c.1=zPa f) (zWb k,true) ?_ ?_
  ·refine⟨by simp,by simp,by simp[kst],?_⟩;simp only[if_true];refine⟨2*f.types.length+1,?_,?_⟩
   ·have:=levs_bound f.types.length (zWb k);omega
   ·unfold zPa;rw[hk];rfl
  ·rintro⟨F,b⟩ s1 hP g1 g2 g3 g4 g5
   simp at g1 g2 g3 g4 g5;cases b
   ·simp at hP;clear hl;simp[*,kst]
   ·simp only[if_true]at hP;obtain⟨w,hw1,hw2⟩:=hP;cases w with
    |zero=>omega
    |succ w=>
     rw[zHc]at hw2;have hup:=zCd f.body p hd0 (F,false) hok (hd0_r _);have hl:=hl (F,false) [];generalize zta f.body hd0 (F,false)=q at*;obtain⟨G,b⟩:=q;have hfin:(if b=true then levs f.types.length G+1 else 0)<levs f.types.length F+1/\(if b=true then∃w,levs f.types.length G<w/\zHc f.body w G=zPa f else G=zPa f):=by
      cases b
      ·simp at hw2 ⊢;exact hw2
      ·simp only[if_true]at hw2 ⊢;rcases hup.up rfl with h|h
       ·cases h
       ·have h:levs f.types.length G<levs f.types.length F:=h;exact⟨by omega,w,by omega,hw2⟩
     clear hw2 hup;simp[kst,zyc,hd0,ints]at hl;simp[*,kst,zN,zRa,zyc,ints];refine⟨G,?_⟩;cases b
     ·exact .inl ⟨⟨rfl,rfl⟩,by simpa using hfin.2⟩
     ·have h1:=hfin.1;have h2:=hfin.2;simp only[if_true]at h1 h2;exact .inr ⟨by omega,⟨rfl,rfl⟩,h2⟩
mutual
def zzb:Node->Node
 |⟨k,o,n,s,a,us,ps,ks⟩=>if zb ⟨k,o,n,s,a,us,ps,zhc ks⟩then⟨k,o,n,s,a,[],ps,zhc ks⟩else⟨k,o,n,s,a,us,ps,zhc ks⟩
def zx:List Node->List Node
 | []=>[]
 |x::r=>if zb (zzb x)then[zzb x]else zzb x::zx r
def zhc:List (List Node)->List (List Node)
 | []=>[]
 |l::r=>zx l::zhc r
end
theorem tidyKs_eq:∀l:List (List Node),zhc l=l.map zx
 | []=>rfl
 |x::r=>by rw[zhc,tidyKs_eq r];rfl
theorem closed_outs(x:Node)(us:List Int):zb {x with outs:=us}=zb x:=by cases x;rfl
theorem closed_args(x:Node)(us:List Int):zb {x with args:=us}=zb x:=by cases x;rfl
theorem tidyN_eq(x:Node):zzb x={x with outs:=(if zb {x with kids:=x.kids.map zx}then[]else x.outs),kids:=x.kids.map zx}:=by
 cases x;rw[zzb,tidyKs_eq];simp only;split<;>rfl
theorem tidyN_closed(x:Node):zb (zzb x)=zb {x with kids:=x.kids.map zx}:=by
 rw[tidyN_eq];rfl
theorem tidyN_kind(x:Node):(zzb x).kind=x.kind:=by rw[tidyN_eq]
theorem tidyN_args(x:Node):(zzb x).args=x.args:=by rw[tidyN_eq]
theorem zbe{x:Node}(h:x.kind=12):zb x=true:=by
 rw[zia (by omega) (by omega),h];rfl
theorem tidyL_mem:∀{l:List Node} {z:Node},z∈zx l->∃x∈l,z=zzb x
 | [],z,h=>by rw[zx]at h;cases h
 |x::r,z,h=>by
  rw[zx]at h;split at h
  ·simp at h;exact⟨x,by simp,h⟩
  ·rcases yA.1 h with h|h
   ·exact⟨x,by simp,h⟩
   ·obtain⟨y,hy,e⟩:=tidyL_mem h;exact⟨y,by simp[hy],e⟩
theorem tidyL_ne:∀{l:List Node},l≠ []->zx l≠ []
 | [],h=>absurd rfl h
 |x::r,_=>by rw[zx];split<;>simp
theorem zJd:∀(l:List Node),∀z∈(zx l).dropLast,zb z=false
 | [],z,h=>by rw[zx]at h;cases h
 |x::r,z,h=>by
  rw[zx]at h;split at h
  ·cases h
  ·rename_i hc;cases hr:zx r with
   |nil=>rw[hr]at h;cases h
   |cons y s=>
    rw[hr,List.dropLast_cons_cons]at h;rcases yA.1 h with rfl|h
    ·simpa using hc
    ·exact zJd r z (by rw[hr];exact h)
abbrev Tos:=List (Int×Int)
def valW(T:Tos)(l:List Int):List Int:=l.map fun v=>(getA T v).getD v
def setsW(T:Tos)(l n:List Int):Tos:=(l.zip n).foldl (fun T p=>setA T p.1 p.2) T
def zEc(op:Int):Bool:=decide (op=22)||decide (12<=op)&&decide (op<=17)
def sumW(F:zA)(x:Node):Node:=if(numK F (at0 x.outs 0)).2 then⟨if zEc x.op then 2 else 1,0,(numK F (at0 x.outs 0)).1,[],[],x.outs,[],[]⟩else x
def zAb(us:List Int)(q:List Node×Tos):List Node×Tos:=match q.1.getLast? with
 |some e=>if e.kind=12 then(q.1.dropLast,setsW q.2 us e.args)else q
 |none=>q
def zn(l:List Node):Bool:=match l.getLast? with
 |some e=>zb e
 |none=>false
mutual
def wrN(F:zA):Node->Tos->List Node×Tos
 |⟨k,o,n,s,a,us,ps,ks⟩,T=>
  if k=3\/k=4 then([sumW F ⟨k,o,n,s,valW T a,us,ps,ks⟩],T)
  else if k=10 then
   if(numK F (at0 a 0)).2 then zAb us (zwa F ks (decide ((numK F (at0 a 0)).1≠0)) T)
   else([⟨k,o,n,s,valW T a,us,ps,(wrKs F ks T).1⟩],(wrKs F ks T).2)
  else if k=11 then([⟨k,o,n,s,valW T a,us,ps,(wrKs F ks T).1⟩],(wrKs F ks T).2)
  else([⟨k,o,n,s,valW T a,us,ps,ks⟩],T)
def wrGo(F:zA):List Node->Tos->List Node×Tos
 | [],T=>([],T)
 |x::r,T=>if zn (wrN F x T).1 then wrN F x T else((wrN F x T).1++(wrGo F r (wrN F x T).2).1,(wrGo F r (wrN F x T).2).2)
def wrKs(F:zA):List (List Node)->Tos->List (List Node)×Tos
 | [],T=>([],T)
 |l::r,T=>(zx (wrGo F l T).1::(wrKs F r (wrGo F l T).2).1,(wrKs F r (wrGo F l T).2).2)
def zwa(F:zA):List (List Node)->Bool->Tos->List Node×Tos
 | [],b,T=>([],T)
 |l::r,b,T=>if b then(zx (wrGo F l T).1,(wrGo F l T).2)else zwa F r true T
end
def wrL(F:zA)(l:List Node)(T:Tos):List Node×Tos:=(zx (wrGo F l T).1,(wrGo F l T).2)
theorem wrN_eq(F:zA)(x:Node)(T:Tos):wrN F x T=
  if x.kind=3\/x.kind=4 then([sumW F {x with args:=valW T x.args}],T)
  else if x.kind=10 then
   if(numK F (at0 x.args 0)).2 then zAb x.outs (zwa F x.kids (decide ((numK F (at0 x.args 0)).1≠0)) T)
   else([{x with args:=valW T x.args,kids:=(wrKs F x.kids T).1}],(wrKs F x.kids T).2)
  else if x.kind=11 then([{x with args:=valW T x.args,kids:=(wrKs F x.kids T).1}],(wrKs F x.kids T).2)
  else([{x with args:=valW T x.args}],T):=by
 cases x;rw[wrN]
noncomputable def zZe(f:Flow):Flow:={f with body:=(wrL (zPa f) f.body []).1}
noncomputable def zT(u:Unt):Unt:=⟨u.arrays,u.flows.map zZe⟩
structure WN(p:Pl)(x:Node)(ns:List Node):Prop where
 yl:∀z∈ns,z.kind=12->x.kind=12/\p.y=some z.args.length
 ne:zb x=true->ns≠ []
structure WL(p:Pl)(l ns:List Node):Prop where
 yl:∀z∈ns,z.kind=12->zF l=true/\p.y=some z.args.length
 ne:ns≠ []
theorem WL.tidy{p:Pl}{l ns:List Node}(h:WL p l ns):WL p l (zx ns):=by
 refine⟨fun z hz hk=>?_,tidyL_ne h.ne⟩;obtain⟨x,hx,rfl⟩:=tidyL_mem hz;rw[tidyN_kind]at hk;rw[tidyN_args];exact h.yl x hx hk
theorem takenW_wn{p':Pl}{l ns:List Node}{us:List Int}{T:Tos}(h:WL p' l (zx ns)):
  (∀z∈(zAb us (zx ns,T)).1,z.kind≠12)/\(zF l=false->(zAb us (zx ns,T)).1≠ []):=by
 have hi:=zJd ns;unfold zAb;rcases yz (zx ns)with he|⟨d,e,he⟩
 ·exact absurd he h.ne
 ·rw[he]at hi h ⊢;simp only[yC,yEa,yia]at hi h ⊢;have hd:∀z∈d,z.kind≠12:=by
   intro z hz hk;have:=hi z hz;rw[zbe hk]at this;cases this
  by_cases hk:e.kind=12
  ·rw[if_pos hk];refine⟨hd,fun hy=>?_⟩;have:=(h.yl e (by simp) hk).1;rw[hy]at this;cases this
  ·rw[if_neg hk];refine⟨fun z hz=>?_,fun _=>by simp⟩;rcases yh.1 hz with hz|hz
   ·exact hd z hz
   ·simp at hz;rw[hz];exact hk
theorem valW_len(T:Tos)(l:List Int):(valW T l).length=l.length:=by simp[valW]
theorem wl_cons{p:Pl}{x:Node}{r ns ms:List Node}(h:WN p x ns)(hr:r=[]->ms=[])(hl:r≠ []->WL p r ms)(hx:zb x=r.isEmpty):WL p (x::r) (ns++ms):=by
 refine⟨fun z hz hk=>?_,?_⟩
 ·rcases yh.1 hz with hz|hz
  ·obtain⟨h1,h2⟩:=h.yl z hz hk;have hc:=zbe h1;rw[hx]at hc;have:r=[]:=by simpa using hc
   subst this;exact⟨by simp[zF,h1],h2⟩
  ·cases r with
   |nil=>rw[hr rfl]at hz;cases hz
   |cons y s=>
    obtain⟨h1,h2⟩:=(hl (by simp)).yl z hz hk;refine⟨?_,h2⟩;have:zF (x::y::s)=zF (y::s):=by simp[zF]
    rw[this];exact h1
 ·cases r with
  |nil=>
   have:=h.ne (by rw[hx];rfl);simp[this]
  |cons y s=>
   have:=(hl (by simp)).ne;simp[this]
theorem wl_cut{p:Pl}{x:Node}{r ns:List Node}(h:WN p x ns)(hn:ns≠ [])(hx:zb x=r.isEmpty):WL p (x::r) ns:=by
 refine⟨fun z hz hk=>?_,hn⟩;obtain⟨h1,h2⟩:=h.yl z hz hk;have hc:=zbe h1;rw[hx]at hc;have:r=[]:=by simpa using hc
 subst this;exact⟨by simp[zF,h1],h2⟩
mutual
theorem wrN_wn{u:Unt}{m:Nat}(F:zA):∀(x:Node) (p:Pl) (T:Tos),okN u m p x->WN p x (wrN F x T).1
 |⟨k,o,n,s,a,us,ps,ks⟩,p,T,hok=>by
  rw[okN]at hok;obtain⟨ho,hk⟩:=hok;rw[wrN];split
  ·rename_i c;refine⟨fun z hz hk=>?_,fun _=>by simp⟩;simp at hz;subst hz;unfold sumW at hk;simp only at hk;split at hk
   ·simp only at hk;split at hk<;>simp at hk
   ·simp only at hk;omega
  ·rename_i c;split
   ·rename_i c10;split
    ·have hl:=wrPick_wl F ks (plIn p k us ps) (decide ((numK F (at0 a 0)).1≠0)) T hk (by
      have:=(ho.k10 c10).2;simp only at this;intro h;rw[h]at this;simp at this) (by
      have:=(ho.k10 c10).2;simp only at this;intro _ l h;rw[h]at this;simp at this)
     obtain⟨l,hm,ns,T',hq,hwl⟩:=hl;rw[hq];obtain⟨h1,h2⟩:=takenW_wn (us:=us) (T:=T') hwl;refine⟨fun z hz hk=>absurd hk (h1 z hz),fun hc=>h2 ?_⟩;have hkl:=(ho.k10 c10).2;simp only at hkl;unfold zb at hc;rw[if_pos ⟨c10,hkl⟩,yj]at hc;have:=hc l hm;simpa using this
    ·refine⟨fun z hz hk=>?_,fun _=>by simp⟩;simp at hz;subst hz;simp only at hk;omega
   ·rename_i c10;split
    ·refine⟨fun z hz hk=>?_,fun _=>by simp⟩;simp at hz;subst hz;simp only at hk;omega
    ·refine⟨fun z hz hk=>?_,fun _=>by simp⟩;simp at hz;subst hz;simp only at hk ⊢;refine⟨hk,?_⟩;rw[valW_len];exact ho.k12' hk
theorem zrd{u:Unt}{m:Nat}(F:zA):∀(l:List Node) (p:Pl) (T:Tos),okL u m p l->l≠ []->WL p l (wrGo F l T).1
 | [],p,T,hok,hne=>absurd rfl hne
 |x::r,p,T,hok,hne=>by
  rw[okL]at hok;have hn:=wrN_wn F x p T hok.1;rw[wrGo];split
  ·rename_i hc;refine wl_cut hn ?_ hok.2.1;intro h;rw[h]at hc;simp[zn]at hc
  ·refine wl_cons hn (fun h=>?_) (fun h=>zrd F r p _ hok.2.2 h) hok.2.1;rw[h,wrGo]
theorem wrPick_wl{u:Unt}{m:Nat}(F:zA):∀(ks:List (List Node)) (p:Pl) (b:Bool) (T:Tos),okK u m p ks->ks≠ []->(b=false->∀l,ks≠ [l])→
  ∃l∈ks,∃ns T',zwa F ks b T=(zx ns,T')/\WL p l (zx ns)
 | [],p,b,T,hok,hne,_=>absurd rfl hne
 |l::r,p,b,T,hok,hne,hb=>by
  rw[okK]at hok;rw[zwa];cases b
  ·simp only[yv,if_false];cases r with
   |nil=>exact absurd rfl (hb rfl l)
   |cons y s=>
    obtain⟨l',h1,h2⟩:=wrPick_wl F (y::s) p true T hok.2 (by simp) (fun h=>by cases h);exact⟨l',by simp[h1],h2⟩
  ·simp only[if_true];exact⟨l,by simp,_,_,rfl,(zrd F l p T hok.1.2 hok.1.1).tidy⟩
end
mutual
theorem tidyN_wt:∀x:Node,wtN (zzb x)<=wtN x
 |⟨k,o,n,s,a,us,ps,ks⟩=>by
  have h:=tidyKs_wt ks;rw[zzb];split<;>simp only[wtN,yea]<;>omega
theorem tidyL_wt:∀l:List Node,wtL (zx l)<=wtL l
 | []=>by rw[zx];exact yg _
 |x::r=>by
  have h1:=tidyN_wt x;have h2:=tidyL_wt r;rw[zx];split<;>simp only[wtL]<;>omega
theorem tidyKs_wt:∀l:List (List Node),wtK (zhc l)<=wtK l
 | []=>by rw[zhc];exact yg _
 |x::r=>by
  have h1:=tidyL_wt x;have h2:=tidyKs_wt r;rw[zhc];simp only[wtK];omega
end
theorem tidy_spec:∀(N:Nat) (l:List Node) (σ:zd),wtL l<=N->N<1000000000->zk E 78 [zh l] σ=some (.ret (zh (zx l)),σ):=by
 intro N
 induction N using ysa with
 |ind N ih=>
  intro l σ hl hN;refine zc rfl rfl rfl (by simp) ?_;have hll:=zlc l;have hgo:∀(d r:List Node),(∀x∈d,zb (zzb x)=false)->zx (d++r)=d.map zzb++zx r:=by
   intro d r
   induction d with
   |nil=>intro _;rfl
   |cons x d ih=>
    intro h;rw[yI,zx,if_neg (by rw[h x (by simp)];simp),ih (fun y hy=>h y (by simp[hy]))];rfl
  simp[F78,zh];refine zG l K78_1 B78_1 (fun d=>[(2,acc 8 (d.map fun x=>zK (zzb x))),(11,.int .i64 d.length)]) (fun _=>σ) (fun d=>∀x∈d,zb (zzb x)=false) (by omega) (by simp) ?_ ?_
  ·intros d x r s hl' hlt hget hget' hw hp h1 h2 h3 h4;simp at h1 h3;clear h2;have hx:=hl'.mem;have hwx:=zHe hx;have hxk:=zlb x;have hlk:=len_wtK x.kids;have hk:∀q∈x.kids,zk E 78 [zh q] []=some (.ret (zh (zx q)),[]):=fun q hq=>ih (wtL q) (by have:=zld hq;omega) q [] (yg _) (by have:=zld hq;omega)
   have q4:(d.length+1)*136<=zo:=by simp only[zo];omega
   have hkl:x.kids.length<1000000000:=by omega
   have hwt:wtN {x with kids:=x.kids.map zx}<1099511627776:=by
    have:=tidyKs_wt x.kids;rw[tidyKs_eq]at this;rw[zlb];simp only;omega
   have hcl:=zXb {x with kids:=x.kids.map zx} [] hwt;have he:∀r,zx (d++x::r)=d.map zzb++zx (x::r):=fun r=>hgo d (x::r) hp
   have hcut:zb (zzb x)=true->zx l=d.map zzb++[zzb x]:=by
    intro hc;rw[hl'.eq,he,zx,if_pos hc]
   have hnext:zb (zzb x)=false->∀y∈d++[x],zb (zzb y)=false:=by
    intro hc y hy;rcases yh.1 hy with hy|hy
    ·exact hp y hy
    ·simp at hy;rw[hy];exact hc
   have htn:=tidyN_eq x;rw[<-tidyN_closed]at hcl htn;generalize hC:zb (zzb x)=C at*;clear hgo he hl hl' hwx hxk hwt ih hp;simp[za,ints,kids]at hcl;simp[*,za,ints,kids];refine zG x.kids K78_0 B78_0 (fun e=>[(5,acc 1 (e.map (zh ∘ zx))),(18,.int .i64 e.length)]) (fun _=>σ) (fun _=>True) (by omega) (by simp) ?_ ?_
   ·intros e y r' s' hl2 hlt2 hget2 hget2' hw2 hp' k1 k2 k3 k4;simp at k1 k2 k3;have hv:=hk y hl2.mem;have q5:(e.length+1)*24<=zo:=by simp only[zo];omega
    clear hk hcut hnext htn hcl;simp[zh]at hv
    (simp[*,zh,kids,ints])<;>(repeat' (first|((first|refine sP _ ?_ ?_|refine gP _ ?_ ?_|refine sN _ ?_ ?_|refine gN _ ?_ ?_)<;>intro hc<;>(first|replace hc:=eqn hc|replace hc:=eqp hc)<;>simp[*,zh,kids,ints])|((first|refine sM _ ?_ ?_|refine gM _ ?_ ?_|refine sB _ ?_ ?_|refine gB _ ?_ ?_)<;>intro hc<;>simp[*,zh,kids,ints])))
   ·intros s' hp' k1 k2 k3 k4;simp at k1 k2 k3;clear hk;have hm:∀l:List (List Node),l.map (fun y=>zh (zx y))=l.map (zh ∘ zx):=fun l=>rfl
    rcases hkk:x.kids with _|⟨k0,kr⟩
    ·simp only[hkk]at k1 k2 k3 htn hcl;simp at k1 k2 k3 hcl;cases C
     ·simp at hcut htn;simp[*,za,ints,kids]
      all_goals(first|done|(intro y hy;exact hnext rfl y (by simpa using hy)))
     ·simp at hcut htn;clear hnext;simp[*,za,ints,kids]
    ·simp only[hkk]at k1 k2 k3 htn hcl;simp at k1 k2 k3 hcl;cases C
     ·simp at hcut htn;simp[*,za,ints,kids]
      all_goals(first|done|(intro y hy;exact hnext rfl y (by simpa using hy)))
     ·simp at hcut htn;clear hnext;simp[*,za,ints,kids]
  ·intros s hp h1 h2 h3 h4;simp at h1 h3;have e:=hgo l [] hp;rw[yla,zx,yla]at e;rw[e];clear hgo
   (simp[*,zh])<;>(repeat' (first|((first|refine sP _ ?_ ?_|refine gP _ ?_ ?_|refine sN _ ?_ ?_|refine gN _ ?_ ?_)<;>intro hc<;>(first|replace hc:=eqn hc|replace hc:=eqp hc)<;>simp[*,zh])|((first|refine sM _ ?_ ?_|refine gM _ ?_ ?_|refine sB _ ?_ ?_|refine gB _ ?_ ?_)<;>intro hc<;>simp[*,zh])))
def encTos(T:Tos):List (PV×PV):=T.map fun p=>(.int .i64 p.1,.int .i64 p.2)
def wst(F:zA)(T:Tos):zd:=kst (F,false) [.mp (encTos T)]
def wrV:PV:= .iptr [.ptr 1 0 0,.mp 2] 0
theorem find_tos:∀(T:Tos) (v:Int),zya false (.int .i64 v) (encTos T)=some ((getA T v).map (PV.int .i64))
 | [],v=>rfl
 |p::r,v=>by
  have ih:=find_tos r v;unfold encTos at ih ⊢;rw[yR,zya,getA];by_cases h:v=p.1
  ·simp[zDd,h]
  ·simp[zDd,h,ih]
theorem set_tos:∀(T:Tos) (v w:Int),zMc false (.int .i64 v) (.int .i64 w) (encTos T)=some (encTos (setA T v w))
 | [],v,f=>rfl
 |p::r,v,f=>by
  have ih:=set_tos r v f;unfold encTos at ih ⊢;rw[yR,zMc,setA];by_cases h:v=p.1
  ·simp[zDd,h]
  ·simp[zDd,h,ih]
theorem values_spec(F:zA)(T:Tos)(l:List Int)(hz:l.length<1000000000):zk E 100 [wrV,ints l] (wst F T)=some (.ret (ints (valW T l)),wst F T):=by
 refine zc rfl rfl rfl (by simp[wrV]) ?_;simp[F100,ints,wrV];refine zG l K100_0 B100_0 (fun d=>[(11,.int .i64 d.length),(4,acc 1 ((valW T d).map (PV.int .i64)))]) (fun _=>wst F T) (fun _=>True) (by omega) (by simp[valW]) ?_ ?_
 ·intros d x r s hl' hlt hget hget' hw hp h1 h2 h3 h4;simp at h1 h3;clear h2;have hf:=find_tos T x;have q4:(d.length+1)*8<=zo:=by simp only[zo];omega
  have e:valW T (d++[x])=valW T d++[(getA T x).getD x]:=by simp[valW]
  have e2:(valW T d).length=d.length:=by simp[valW]
  rw[e];clear hl' hget e;generalize valW T d=D at*;cases hg:getA T x with
  |none=>rw[hg]at hf;simp at hf;simp[*,wst,kst]
  |some v=>rw[hg]at hf;simp at hf;simp[*,wst,kst]
 ·intros s hp h1 h2 h3 h4;simp at h1 h3
  (simp[*])<;>(repeat' (first|((first|refine sP _ ?_ ?_|refine gP _ ?_ ?_|refine sN _ ?_ ?_|refine gN _ ?_ ?_)<;>intro hc<;>(first|replace hc:=eqn hc|replace hc:=eqp hc)<;>simp[*])|((first|refine sM _ ?_ ?_|refine gM _ ?_ ?_|refine sB _ ?_ ?_|refine gB _ ?_ ?_)<;>intro hc<;>simp[*])))
theorem sumw_spec(F:zA)(T:Tos)(x:Node)(ho:x.outs.length=1):zk E 101 [wrV,zK x] (wst F T)=some (.ret (zK (sumW F x)),wst F T):=by
 refine zc rfl rfl rfl (by simp[wrV,za]) ?_
 match hu:x.outs,ho with
 | [v],_=>
  have n1:=znd (F,false) v [.mp (encTos T)];have e0:at0 [v] 0=v:=rfl;unfold sumW;rw[hu,e0];simp only at n1;generalize numK F v=q at*;obtain⟨c,ok⟩:=q;have hw:kst (F,false) [.mp (encTos T)]=wst F T:=rfl;rw[hw]at n1;cases ok
  ·simp[*,F101,za,ints,kids,wrV]
  ·obtain⟨op,hop⟩:∃op,x.op=op:=⟨_,rfl⟩
   rw[hop];have hc:op=22\/op=12\/op=13\/op=14\/op=15\/op=16\/op=17\/((op=22)=False/\(op=12)=False/\(op=13)=False/\(op=14)=False/\(op=15)=False/\(op=16)=False/\(op=17)=False/\zEc op=false):=by
    by_cases h:op=22\/op=12\/op=13\/op=14\/op=15\/op=16\/op=17
    ·omega
    ·refine .inr (.inr (.inr (.inr (.inr (.inr (.inr ⟨eqn (by omega),eqn (by omega),eqn (by omega),eqn (by omega),eqn (by omega),eqn (by omega),eqn (by omega),?_⟩))))));unfold zEc;simp only[yB,yK,decide_eq_false_iff_not];omega
   rcases hc with h|h|h|h|h|h|h|⟨h1,h2,h3,h4,h5,h6,h7,h8⟩
   all_goals first
    |(subst h;have ht:zEc x.op=true:=by rw[hop];rfl
      rw[hop]at ht;simp[*,F101,za,ints,kids,wrV];done)
    |simp[*,F101,za,ints,kids,wrV]
def ListW(F:zA)(l:List Node):Prop:=∀T,zk E 51 [wrV,zh l] (wst F T)=some (.ret (zh (wrL F l T).1),wst F (wrL F l T).2)
def NodeW(F:zA)(x:Node):Prop:=∀T,zk E 76 [wrV,zK x] (wst F T)=some (.ret (zh (wrN F x T).1),wst F (wrN F x T).2)
theorem pick_two(F:zA)(l0 l1:List Node)(b:Bool)(T:Tos):zwa F [l0,l1] b T=if b then wrL F l0 T else wrL F l1 T:=by
 cases b<;>simp[zwa,wrL]
theorem taken_spec{F:zA}{p:Pl}{x:Node}{l0 l1:List Node}(hk:x.kids=[l0,l1])(hx:wtN x<1000000000)(h0:ListW F l0)(h1:ListW F l1)(c:Int)(T:Tos)
  (hl:∃l ns,(if decide (c≠0)then wrL F l0 T else wrL F l1 T)=(zx ns,(if decide (c≠0)then wrL F l0 T else wrL F l1 T).2)/\WL p l (zx ns)) (hp:∀n,p.y=some n->n=x.outs.length) (hz:wtL (if decide (c≠0)then wrL F l0 T else wrL F l1 T).1<1000000000):
  zk E 103 [wrV,zK x,.int .i64 c] (wst F T)=some (.ret (zh (zAb x.outs (zwa F x.kids (decide (c≠0)) T)).1),wst F (zAb x.outs (zwa F x.kids (decide (c≠0)) T)).2):=by
 refine zc rfl rfl rfl (by simp[wrV,za]) ?_;rw[hk,pick_two];have hxk:=zlb x;have h0:=h0 T;have h1:=h1 T;have hcall:zk E 51 [wrV,zh (if decide (c≠0)then l0 else l1)] (wst F T)=some (.ret (zh (if decide (c≠0)then wrL F l0 T else wrL F l1 T).1),wst F (if decide (c≠0)then wrL F l0 T else wrL F l1 T).2):=by
  split<;>assumption
 obtain⟨l,ns,hq,hwl⟩:=hl;generalize(if decide (c≠0)then wrL F l0 T else wrL F l1 T)=q at*;obtain⟨Q,T'⟩:=q;simp only[Prod.mk.injEq,and_true]at hq;rw[<-hq]at hwl;clear hq h0 h1;unfold zAb;rcases yz Q with he|⟨d,e,he⟩
 ·exact absurd he hwl.ne
 ·have hdl:(d.length:Int)+1<=1000000000:=by
   have:=zlc Q;rw[he]at this hz;simp at this;simp at hz;omega
  rw[he]at hcall hwl ⊢;simp only[yC,yEa,yia]at hcall hwl ⊢;have hwr:zW .i64 (d.length:Int)=d.length:=zm (by omega) (by omega);have hpos:(0:Int)<d.length+1:=by omega
  by_cases hke:e.kind=12
  ·rw[if_pos hke];have hlen:=hp _ (hwl.yl e (by simp) hke).2;have hol:x.outs.length<1000000000:=by omega
   have hzl:(x.outs.zip e.args).length=x.outs.length:=by simp;omega
   clear hwl hp hxk hx hz;unfold setsW;by_cases c0:c=0
   ·simp[c0,zh,wrV]at hcall;simp[*,F103,za,ints,kids,wrV,zh];refine zG (x.outs.zip e.args) K103_0 B103_0 (fun g=>[(38,.int .i64 g.length)]) (fun g=>wst F (g.foldl (fun T p=>setA T p.1 p.2) T')) (fun _=>True) (by omega) (by simp) ?_ ?_
    ·rintro g ⟨v,w⟩ r s hl' hlt hget hget' hw hp h1 h2 h3 h4
     simp at h1 h2 h3;obtain⟨g1,g2⟩:=zip_get (d:=x.outs) hget;have hlt1:g.length<x.outs.length:=by omega
     have hlt2:g.length<e.args.length:=by omega
     have g1':x.outs[g.length]=v:=by simpa[hlt1]using g1
     have g2':e.args[g.length]=w:=by simpa[hlt2]using g2
     rw[ySa,yU,yYa];generalize g.foldl (fun T p=>setA T p.1 p.2) T'=U at*;have hs:=set_tos U v w;clear hget hget' hl' hcall;simp[*,wst,kst]
    ·intros s hp h1 h2 h3 h4;simp at h1 h2 h3;have hmin:min x.outs.length e.args.length=x.outs.length:=by omega
     rw[hmin]at h3;clear hcall;simp[*]
   ·simp[c0,zh,wrV]at hcall;simp[*,F103,za,ints,kids,wrV,zh];refine zG (x.outs.zip e.args) K103_0 B103_0 (fun g=>[(38,.int .i64 g.length)]) (fun g=>wst F (g.foldl (fun T p=>setA T p.1 p.2) T')) (fun _=>True) (by omega) (by simp) ?_ ?_
    ·rintro g ⟨v,w⟩ r s hl' hlt hget hget' hw hp h1 h2 h3 h4
     simp at h1 h2 h3;obtain⟨g1,g2⟩:=zip_get (d:=x.outs) hget;have hlt1:g.length<x.outs.length:=by omega
     have hlt2:g.length<e.args.length:=by omega
     have g1':x.outs[g.length]=v:=by simpa[hlt1]using g1
     have g2':e.args[g.length]=w:=by simpa[hlt2]using g2
     rw[ySa,yU,yYa];generalize g.foldl (fun T p=>setA T p.1 p.2) T'=U at*;have hs:=set_tos U v w;clear hget hget' hl' hcall;simp[*,wst,kst]
    ·intros s hp h1 h2 h3 h4;simp at h1 h2 h3;have hmin:min x.outs.length e.args.length=x.outs.length:=by omega
     rw[hmin]at h3;clear hcall;simp[*]
  ·rw[if_neg hke];clear hwl hp hxk hx hz;by_cases c0:c=0
   ·simp[c0,zh,wrV]at hcall;simp[*,F103,za,ints,kids,wrV,zh]
   ·simp[c0,zh,wrV]at hcall;simp[*,F103,za,ints,kids,wrV,zh]
theorem checkM_iff(u:Unt):zJa u=(0,0)<->zcd u=true/\∀f∈u.flows,zvb u f=true:=by
 rw[check_eq];unfold zXc;rw[rhead_eq];constructor
 ·intro h;split at h
  ·rename_i hh;refine⟨hh,?_⟩;split at h
   ·cases h
   ·rename_i hn;rw[yfa]at hn;intro f hf;simpa using hn f hf
  ·cases h
 ·rintro⟨hh,hf⟩
  rw[if_pos hh];have hn:u.flows.findIdx? (fun f=> !zvb u f)=none:=by
   rw[yfa];intro f h;simp[hf f h]
  rw[hn]
theorem checkM_fst{u:Unt}(h:(zJa u).1=0):zJa u=(0,0):=by
 unfold zJa at h ⊢;split at h
 ·rename_i hh;rw[if_pos hh];split at h
  ·simp at h
  ·rename_i hn;rfl
 ·simp at h
mutual
def trnN(π:Int->Int):Node->Node
 |⟨k,o,n,s,a,u,p,ks⟩=>⟨k,o,n,s,a.map π,u.map π,p.map π,trnK π ks⟩
def trnL(π:Int->Int):List Node->List Node
 | []=>[]
 |x::r=>trnN π x::trnL π r
def trnK(π:Int->Int):List (List Node)->List (List Node)
 | []=>[]
 |l::r=>trnL π l::trnK π r
end
theorem trnL_eq(π:Int->Int):∀l:List Node,trnL π l=l.map (trnN π)
 | []=>rfl
 |x::r=>by rw[trnL,trnL_eq π r];rfl
theorem trnK_eq(π:Int->Int):∀l:List (List Node),trnK π l=l.map (trnL π)
 | []=>rfl
 |x::r=>by rw[trnK,trnK_eq π r];rfl
theorem trnN_eq(π:Int->Int)(x:Node):trnN π x=⟨x.kind,x.op,x.n,x.name,x.args.map π,x.outs.map π,x.params.map π,x.kids.map (trnL π)⟩:=by
 cases x;rw[trnN,trnK_eq]
theorem trn_yields(π:Int->Int)(l:List Node):zF (trnL π l)=zF l:=by
 unfold zF;rw[trnL_eq,List.getLast?_map];cases l.getLast? with
 |none=>rfl
 |some x=>simp[trnN_eq]
mutual
theorem trn_leavesN(π:Int->Int):∀x:Node,(trnN π x).leaves=x.leaves
 |⟨k,o,n,s,a,u,p,ks⟩=>by rw[trnN,Node.leaves,Node.leaves,trn_leavesK π ks]
theorem trn_leavesL(π:Int->Int):∀l:List Node,zu (trnL π l)=zu l
 | []=>rfl
 |x::r=>by rw[trnL,zu,zu,trn_leavesN π x,trn_leavesL π r]
theorem trn_leavesK(π:Int->Int):∀l:List (List Node),zMa (trnK π l)=zMa l
 | []=>rfl
 |x::r=>by rw[trnK,zMa,zMa,trn_leavesL π x,trn_leavesK π r]
end
theorem trn_closed(π:Int->Int)(x:Node):zb (trnN π x)=zb x:=by
 rw[trnN_eq];simp only[zb,yV,List.all_map,yL,trn_yields,trn_leavesL,Node.ends]
theorem trn_bare(π:Int->Int)(x:Node):zca (trnN π x)=zca x:=by
 rw[trnN_eq];simp[zca]
structure Trn(π:Int->Int)(u u':Unt)(f f':Flow):Prop where
 len:f'.types.length=f.types.length
 rng:∀v:Int,0<=v->v<f.types.length->0<=π v/\π v<f.types.length
 inj:∀v w:Int,0<=v->v<f.types.length->0<=w->w<f.types.length->π v=π w->v=w
 ty:∀v:Int,0<=v->v<f.types.length->at0 f'.types (π v)=at0 f.types v
 rt:f'.type=f.type
 arr:u'.arrays=u.arrays
 pl:∀s,zZ u'.flows s=zZ u.flows s
 fl:∀(k:Nat) g,u.flows[k]? =some g->∃g',u'.flows[k]? =some g'/\pars g'=pars g/\g'.type=g.type
structure ZR(π:Int->Int)(n:Nat)(Z Z':Set1):Prop where
 l1:Z.length=n
 l2:Z'.length=n
 at':∀v:Int,0<=v->v<n->atB Z' (π v)=atB Z v
section
variable {π:Int->Int} {u u':Unt} {f f':Flow}
theorem Trn.val(h:Trn π u u' f f'){v t:Int}(hv:valM f.types v t=true):valM f'.types (π v) t=true:=by
 obtain⟨r0,r1⟩:=zBa hv;obtain⟨p0,p1⟩:=h.rng v r0 r1;simp only[valM,ya,yw,decide_eq_true_eq]at hv ⊢;rw[h.len,h.ty v r0 r1];exact⟨p0,p1,hv.2.2⟩
theorem Trn.use(h:Trn π u u' f f'){seen:List Int}{v t:Int}(hv:useR f.types seen v t=true):useR f'.types (seen.map π) (π v) t=true:=by
 simp only[useR,ya,yw,decide_eq_true_eq,yAa]at hv ⊢;obtain⟨r0,r1,r2,r3⟩:=hv;obtain⟨p0,p1⟩:=h.rng v r0 r1;rw[h.len,h.ty v r0 r1];exact⟨p0,p1,List.mem_map_of_mem r2,r3⟩
theorem Trn.types(h:Trn π u u' f f'){seen l want:List Int}(hv:zC f.types seen l want=true):zC f'.types (seen.map π) (l.map π) want=true:=by
 simp only[zC,ya,decide_eq_true_eq,yj,yV]at hv ⊢;refine⟨hv.1,fun p hp=>?_⟩;obtain⟨i,hi⟩:=yP hp;obtain⟨h1,h2⟩:=zip_get (d:=l) (q:=i) (v:=p.1) (t:=p.2) hi;rw[yk,yc]at h1;obtain⟨v,h3,h4⟩:=h1;have:=hv.2 (v,p.2) (yr (i:=i) (by rw[yM];exact⟨h3,h2⟩));rw[<-h4];exact h.use this
theorem Trn.typesM(h:Trn π u u' f f'){l:List Int}(hl:∀v∈l,0<=v/\v<f.types.length):PE.U.typesM f'.types (l.map π)=PE.U.typesM f.types l:=by
 unfold PE.U.typesM;rw[if_pos,if_pos]
 ·rw[List.map_map];exact List.map_congr_left fun v hv=>h.ty v (hl v hv).1 (hl v hv).2
 ·rw[yj];intro v hv;obtain⟨r0,r1⟩:=hl v hv;simp[valM,r0,r1]
 ·rw[yj];intro v hv;rw[yka]at hv;obtain⟨w,hw,rfl⟩:=hv;obtain⟨r0,r1⟩:=hl w hw;obtain⟨p0,p1⟩:=h.rng w r0 r1;simp[valM,p0,p1,h.len]
theorem atB_setI{Z:Set1}{v w:Int}(h0:0<=v)(h1:v<Z.length)(h2:0<=w):atB (Z.set v.toNat true) w=if v=w then true else atB Z w:=by
 unfold atB;rw[List.getElem?_set];by_cases h:v=w
 ·subst h;rw[if_pos rfl,if_pos (by omega),if_pos rfl];rfl
 ·rw[if_neg (by omega),if_neg h]
theorem Trn.setG(h:Trn π u u' f f'){Z Z':Set1}(hz:ZR π f.types.length Z Z'){v t:Int}(hv:(zha f.types Z v t).1=true):
  (zha f'.types Z' (π v) t).1=true/\ZR π f.types.length (zha f.types Z v t).2 (zha f'.types Z' (π v) t).2/\0<=v/\v<f.types.length:=by
 by_cases hc:(valM f.types v t&& !atB Z v)=true
 ·have hc0:=hc;simp only[ya]at hc;obtain⟨r0,r1⟩:=zBa hc.1;obtain⟨p0,p1⟩:=h.rng v r0 r1;have hc':(valM f'.types (π v) t&& !atB Z' (π v))=true:=by
   rw[h.val hc.1,hz.at' v r0 r1,hc.2];rfl
  have e1:zha f.types Z v t=(true,Z.set v.toNat true):=if_pos hc0;have e2:zha f'.types Z' (π v) t=(true,Z'.set (π v).toNat true):=if_pos hc';rw[e1,e2];refine⟨rfl,⟨by simp[hz.l1],by simp[hz.l2],fun w w0 w1=>?_⟩,r0,r1⟩;obtain⟨q0,q1⟩:=h.rng w w0 w1;rw[atB_setI p0 (by rw[hz.l2];exact p1) q0,atB_setI r0 (by rw[hz.l1];exact r1) w0];by_cases e:v=w
  ·rw[if_pos e,if_pos (by rw[e])]
  ·rw[if_neg e,if_neg (fun e'=>e (h.inj v w r0 r1 w0 w1 e')),hz.at' w w0 w1]
 ·rw[zha,if_neg hc]at hv;cases hv
theorem Trn.eqGo(h:Trn π u u' f f'):∀(l:List (Int×Int)) (Z Z':Set1),ZR π f.types.length Z Z'->(PE.U.eqGo (zha f.types) Z l).1=true→
  (PE.U.eqGo (zha f'.types) Z' (l.map fun p=>(π p.1,p.2))).1=true/\ZR π f.types.length (PE.U.eqGo (zha f.types) Z l).2 (PE.U.eqGo (zha f'.types) Z' (l.map fun p=>(π p.1,p.2))).2/\∀p∈l,0<=p.1/\p.1<f.types.length
 | [],Z,Z',hz,_=>⟨rfl,hz,fun p hp=>by cases hp⟩
 |p::r,Z,Z',hz,hg=>by
  simp only[PE.U.eqGo,yR]at hg ⊢;by_cases hc:(zha f.types Z p.1 p.2).1=true
  ·rw[if_pos hc]at hg ⊢;obtain⟨h1,h2,h3,h4⟩:=h.setG hz hc;obtain⟨h5,h6,h7⟩:=h.eqGo r _ _ h2 hg;rw[if_pos h1];refine⟨h5,h6,fun q hq=>?_⟩;rcases yA.1 hq with rfl|hq
   ·exact⟨h3,h4⟩
   ·exact h7 q hq
  ·rw[if_neg hc]at hg;cases hg
theorem Trn.sets(h:Trn π u u' f f'){Z Z':Set1}(hz:ZR π f.types.length Z Z'){l want:List Int}(hv:(zD f.types Z l want).1=true):
  (zD f'.types Z' (l.map π) want).1=true/\ZR π f.types.length (zD f.types Z l want).2 (zD f'.types Z' (l.map π) want).2/\∀v∈l,0<=v/\v<f.types.length:=by
 unfold zD eqM at hv ⊢;rw[yV];split at hv
 ·rename_i hl;rw[if_pos hl,if_pos hl];obtain⟨h1,h2,h3⟩:=h.eqGo _ _ _ hz hv;have e:(l.map π).zip want=(l.zip want).map fun p=>(π p.1,p.2):=by
   rw[List.zip_map_left];rfl
  rw[e];refine⟨h1,h2,fun v hv=>?_⟩;obtain⟨i,hi⟩:=yP hv;have hlt:i<want.length:=by rw[<-hl];exact(yb.1 hi).1
  exact h3 (v,want[i]) (yr (i:=i) (by rw[yM];exact⟨hi,yd hlt⟩))
 ·cases hv
theorem Trn.endR(h:Trn π u u' f f'){x:Node}{q q':Bool×Set1}(hz:ZR π f.types.length q.2 q'.2)(h1:q.1=true->q'.1=true)(hv:(endR f.types x q).1=true):
  (PE.U.endR f'.types (trnN π x) q').1=true/\ZR π f.types.length (PE.U.endR f.types x q).2 (PE.U.endR f'.types (trnN π x) q').2:=by
 unfold PE.U.endR at hv ⊢;split at hv
 ·rename_i hc;rw[if_pos hc];have ho:(trnN π x).outs=x.outs.map π:=by rw[trnN_eq]
  simp only[ya]at hc;have hc':(q'.1&&(decide ((trnN π x).outs=[])|| !zb (trnN π x)))=true:=by
   rw[trn_closed,ho,h1 hc.1];simpa using hc.2
  rw[if_pos hc',ho,yV];obtain⟨a,b,_⟩:=h.sets hz hv;exact⟨a,b⟩
 ·cases hv
theorem zva{ty:List Int}{x:Node}{q:Bool×Set1}(hv:(PE.U.endR ty x q).1=true):q.1=true/\(zD ty q.2 x.outs (zna x.outs.length)).1=true:=by
 unfold PE.U.endR at hv;split at hv
 ·rename_i hc;simp only[ya]at hc;exact⟨hc.1,hv⟩
 ·cases hv
theorem eqGo_rng{ty:List Int}:∀(l:List (Int×Int)) (Z:Set1),(PE.U.eqGo (zha ty) Z l).1=true->∀p∈l,0<=p.1/\p.1<ty.length
 | [],Z,_=>fun p hp=>by cases hp
 |p::r,Z,hg=>by
  simp only[PE.U.eqGo]at hg;by_cases hc:(zha ty Z p.1 p.2).1=true
  ·rw[if_pos hc]at hg;intro q hq;rcases yA.1 hq with rfl|hq
   ·by_cases hx:(valM ty q.1 q.2&& !atB Z q.1)=true
    ·simp only[ya]at hx;exact zBa hx.1
    ·rw[zha,if_neg hx]at hc;cases hc
   ·exact eqGo_rng r _ hg q hq
  ·rw[if_neg hc]at hg;cases hg
theorem setsR_rng{ty:List Int}{Z:Set1}{l want:List Int}(hv:(zD ty Z l want).1=true):∀v∈l,0<=v/\v<ty.length:=by
 unfold zD eqM at hv;split at hv
 ·rename_i hl;intro v hv';obtain⟨i,hi⟩:=yP hv';have hlt:i<want.length:=by rw[<-hl];exact(yb.1 hi).1
  exact eqGo_rng _ _ hv (v,want[i]) (yr (i:=i) (by rw[yM];exact⟨hi,yd hlt⟩))
 ·cases hv
theorem Trn.at2(h:Trn π u u' f f'){seen l:List Int}{t t':Int}(hl:zC f.types seen l [t,t']=true)(he:at0 f.types (at0 l 0)=at0 f.types (at0 l 1)):at0 f'.types (at0 (l.map π) 0)=at0 f'.types (at0 (l.map π) 1):=by
 obtain⟨a,b,rfl,a0,a1,b0,b1⟩:=typesR_two hl;have h1:=h.ty a a0 a1;have h2:=h.ty b b0 b1;simp only[at0]at he;simp only[at0,yR,List.map_nil];simp only[at0]at h1 h2;simp at he ⊢;rw[h1,h2];exact he
theorem Trn.simple(h:Trn π u u' f f'){seen:List Int}{w:Place}{Z Z':Set1}(hz:ZR π f.types.length Z Z'){x:Node}(hv:(zp u f seen w Z x).1=true):
  (zp u' f' (seen.map π) w Z' (trnN π x)).1=true/\ZR π f.types.length (zp u f seen w Z x).2 (zp u' f' (seen.map π) w Z' (trnN π x)).2:=by
 unfold zp at hv ⊢;dsimp only at hv ⊢;have e:trnN π x=⟨x.kind,x.op,x.n,x.name,x.args.map π,x.outs.map π,x.params.map π,x.kids.map (trnL π)⟩:=trnN_eq π x;rw[e];dsimp only;have hn:∀{want:List Int},zC f.types seen x.args want=true->zC f'.types (seen.map π) (x.args.map π) want=true:=fun hw=>h.types hw
 by_cases k1:x.kind=1
 ·rw[if_pos k1]at hv;rw[if_pos k1,if_pos k1];split at hv
  ·rename_i hc;rw[if_pos hc,if_pos (hn hc)];obtain⟨a,b,_⟩:=h.sets hz hv;exact⟨a,b⟩
  ·cases hv
 rw[if_neg k1]at hv;rw[if_neg k1,if_neg k1];by_cases k2:x.kind=2
 ·rw[if_pos k2]at hv;rw[if_pos k2,if_pos k2];split at hv
  ·rename_i hc;rw[if_pos hc,if_pos ⟨hc.1,hn hc.2⟩];obtain⟨a,b,_⟩:=h.sets hz hv;exact⟨a,b⟩
  ·cases hv
 rw[if_neg k2]at hv;rw[if_neg k2,if_neg k2];by_cases k3:x.kind=3
 ·rw[if_pos k3]at hv;rw[if_pos k3,if_pos k3];split at hv
  ·rename_i hc;rw[if_pos hc,if_pos (by simp only[ya]at hc ⊢;exact⟨hc.1,hn hc.2⟩)];obtain⟨a,b,_⟩:=h.sets hz hv;exact⟨a,b⟩
  ·cases hv
 rw[if_neg k3]at hv;rw[if_neg k3,if_neg k3];by_cases k4:x.kind=4
 ·rw[if_pos k4]at hv;rw[if_pos k4,if_pos k4];split at hv
  ·rename_i hc;rw[if_pos hc,if_pos (by
    obtain⟨h1,h2⟩:=hc;simp only[ya]at h1 ⊢;exact⟨⟨h1.1,hn h1.2⟩,h.at2 h1.2 h2⟩)]
   obtain⟨a,b,_⟩:=h.sets hz hv;exact⟨a,b⟩
  ·cases hv
 rw[if_neg k4]at hv;rw[if_neg k4,if_neg k4];by_cases k5:x.kind=5
 ·rw[if_pos k5]at hv;rw[if_pos k5,if_pos k5,h.arr];split at hv
  ·rename_i hc;rw[if_pos hc,if_pos (by simp only[ya]at hc ⊢;exact⟨hc.1,hn hc.2⟩)];obtain⟨a,b,_⟩:=h.sets hz hv;exact⟨a,b⟩
  ·cases hv
 rw[if_neg k5]at hv;rw[if_neg k5,if_neg k5];by_cases k6:x.kind=6
 ·rw[if_pos k6]at hv;rw[if_pos k6,if_pos k6,h.arr];simp only[ya,decide_eq_true_eq,yMa]at hv ⊢;exact⟨⟨hv.1,hn hv.2.1,hv.2.2⟩,hz⟩
 rw[if_neg k6]at hv;rw[if_neg k6,if_neg k6];by_cases k7:x.kind=7
 ·rw[if_pos k7]at hv;rw[if_pos k7,if_pos k7,h.pl];split at hv
  ·rename_i g hg;obtain⟨g',hg',hp,ht⟩:=h.fl _ g hg;rw[hg'];dsimp only;split at hv
   ·rename_i hc;rw[if_pos hc,hp,ht,if_pos ⟨hc.1,hn hc.2⟩];obtain⟨a,b,_⟩:=h.sets hz hv;exact⟨a,b⟩
   ·cases hv
  ·cases hv
 rw[if_neg k7]at hv;rw[if_neg k7,if_neg k7];by_cases k8:x.kind=8
 ·rw[if_pos k8]at hv;rw[if_pos k8,if_pos k8];split at hv
  ·rename_i hc;rw[if_pos hc,if_pos (by rw[hc];rfl)];obtain⟨a,b,_⟩:=h.sets hz hv;exact⟨a,b⟩
  ·cases hv
 rw[if_neg k8]at hv;rw[if_neg k8,if_neg k8];by_cases k9:x.kind=9
 ·rw[if_pos k9]at hv;rw[if_pos k9,if_pos k9];simp only[ya,decide_eq_true_eq,yMa]at hv ⊢;exact⟨⟨hn hv.1,hv.2⟩,hz⟩
 rw[if_neg k9]at hv;rw[if_neg k9,if_neg k9];by_cases k12:x.kind=12
 ·rw[if_pos k12]at hv;rw[if_pos k12,if_pos k12];simp only[ya,decide_eq_true_eq,yMa]at hv ⊢;exact⟨⟨hv.1,hn hv.2.1,hv.2.2⟩,hz⟩
 rw[if_neg k12]at hv;rw[if_neg k12,if_neg k12];by_cases k13:x.kind=13
 ·rw[if_pos k13]at hv;rw[if_pos k13,if_pos k13];simp only[ya,decide_eq_true_eq,yMa]at hv ⊢;exact⟨⟨hv.1,hn hv.2.1,hv.2.2⟩,hz⟩
 rw[if_neg k13]at hv;rw[if_neg k13,if_neg k13];by_cases k14:x.kind=14
 ·rw[if_pos k14]at hv;rw[if_pos k14,if_pos k14];simp only[ya,decide_eq_true_eq,yMa]at hv ⊢;exact⟨⟨hv.1,hn hv.2.1,hv.2.2⟩,hz⟩
 rw[if_neg k14]at hv;rw[if_neg k14,if_neg k14];by_cases k15:x.kind=15
 ·rw[if_pos k15]at hv;rw[if_pos k15,if_pos k15];simp only[ya,decide_eq_true_eq,yMa,h.rt]at hv ⊢;exact⟨⟨hn hv.1,hv.2⟩,hz⟩
 rw[if_neg k15]at hv;cases hv
theorem trn_lastE{l l':List Node}{q q':Bool×Set1}(hl:l'.isEmpty=l.isEmpty)(hv:(zNa l q).1=true)(h1:q.1=true->q'.1=true/\ZR π f.types.length q.2 q'.2):
  (zNa l' q').1=true/\ZR π f.types.length (zNa l q).2 (zNa l' q').2:=by
 unfold zNa at hv ⊢;split at hv
 ·rename_i hc;obtain⟨a,b⟩:=h1 hc;rw[if_pos hc,if_pos a,hl];exact⟨hv,b⟩
 ·cases hv
mutual
theorem Trn.node(h:Trn π u u' f f'):∀(x:Node) (seen:List Int) (w:Place) (deep:Int) (Z Z':Set1),ZR π f.types.length Z Z'->(zy u f x seen w deep Z).1=true→
  (zy u' f' (trnN π x) (seen.map π) w deep Z').1=true/\ZR π f.types.length (zy u f x seen w deep Z).2 (zy u' f' (trnN π x) (seen.map π) w deep Z').2
 |⟨k,o,n,s,a,us,ps,ks⟩,seen,w,deep,Z,Z',hz,hv=>by
  have hb:=trn_bare π ⟨k,o,n,s,a,us,ps,ks⟩;have ho:=fun(q q':Bool×Set1)=>h.endR (x:=⟨k,o,n,s,a,us,ps,ks⟩) (q:=q) (q':=q')
  have hs:=h.simple (seen:=seen) (w:=w) hz (x:=⟨k,o,n,s,a,us,ps,ks⟩);rw[trnN]at hb ho hs ⊢;rw[zy]at hv ⊢;rw[zy,hb];split at hv
  ·cases hv
  rename_i c0;rw[if_neg c0,if_neg c0];split at hv
  ·rename_i c1;rw[if_pos c1,if_pos c1];split at hv
   ·rename_i c2;rw[if_pos c2,if_pos (h.types c2)];obtain⟨e1,e2⟩:=zva hv;have hout:∀v∈us,0<=v/\v<f.types.length:=setsR_rng e2;rw[h.typesM hout];obtain⟨k1,k2⟩:=h.kids ks seen {w with inIf:=true,yield:=PE.U.typesM f.types us} (deep+1) Z Z' hz e1;exact ho _ _ k2 (fun _=>k1) hv
   ·cases hv
  ·rename_i c1;rw[if_neg c1,if_neg c1];split at hv
   ·rename_i c2;rw[if_pos c2,if_pos c2];split at hv
    ·rename_i c3;rw[if_pos c3];split at hv
     ·rename_i c4;rw[if_pos c4];obtain⟨p1,p2,p3⟩:=h.sets hz c4;obtain⟨e1,e2⟩:=zva hv;have hout:∀v∈us,0<=v/\v<f.types.length:=setsR_rng e2;rw[yV,h.typesM p3,h.typesM hout,if_pos (h.types c3),if_pos p1];obtain⟨k1,k2⟩:=h.kids ks (seen++ps) ⟨false,true,[],PE.U.typesM f.types ps,PE.U.typesM f.types us⟩ (deep+1) _ _ p2 e1;rw[yDa]at k1 k2;exact ho _ _ k2 (fun _=>k1) hv
     ·cases hv
    ·cases hv
   ·rename_i c2;rw[if_neg c2,if_neg c2];exact hs hv
theorem Trn.kids(h:Trn π u u' f f'):∀(ks:List (List Node)) (seen:List Int) (w:Place) (deep:Int) (Z Z':Set1),ZR π f.types.length Z Z'->(zH u f ks seen w deep Z).1=true→
  (zH u' f' (trnK π ks) (seen.map π) w deep Z').1=true/\ZR π f.types.length (zH u f ks seen w deep Z).2 (zH u' f' (trnK π ks) (seen.map π) w deep Z').2
 | [],seen,w,deep,Z,Z',hz,hv=>by
  rw[trnK,zH,zH];exact⟨rfl,hz⟩
 |l::r,seen,w,deep,Z,Z',hz,hv=>by
  rw[trnK];rw[zH]at hv ⊢;rw[zH];split at hv
  ·rename_i c;rw[if_pos c];obtain⟨k1,k2⟩:=trn_lastE (π:=π) (f:=f) (l':=trnL π l) (q':=goR u' f' (trnL π l) (seen.map π) w deep Z') (by cases l<;>rfl) c (fun hq=>h.go l seen w deep Z Z' hz hq);rw[if_pos k1];exact h.kids r seen w deep _ _ k2 hv
  ·cases hv
theorem Trn.go(h:Trn π u u' f f'):∀(l:List Node) (seen:List Int) (w:Place) (deep:Int) (Z Z':Set1),ZR π f.types.length Z Z'->(goR u f l seen w deep Z).1=true→
  (goR u' f' (trnL π l) (seen.map π) w deep Z').1=true/\ZR π f.types.length (goR u f l seen w deep Z).2 (goR u' f' (trnL π l) (seen.map π) w deep Z').2
 | [],seen,w,deep,Z,Z',hz,hv=>by
  rw[trnL,goR,goR];exact⟨rfl,hz⟩
 |x::r,seen,w,deep,Z,Z',hz,hv=>by
  rw[trnL];rw[goR]at hv ⊢;rw[goR];split at hv
  ·cases hv
  rename_i c0;rw[if_neg c0,if_neg c0];split at hv
  ·rename_i c1;rw[if_pos c1];obtain⟨n1,n2⟩:=h.node x seen w deep Z Z' hz c1;rw[if_pos n1];split at hv
   ·rename_i c2;rw[if_pos c2,if_pos (by rw[trn_closed,c2];cases r<;>rfl)];obtain⟨g1,g2⟩:=h.go r (seen++x.outs) w deep _ _ n2 hv;have ho:(trnN π x).outs=x.outs.map π:=by rw[trnN_eq]
    rw[yDa]at g1 g2;rw[ho];exact⟨g1,g2⟩
   ·cases hv
  ·cases hv
end
end
theorem wtL_dropLast:∀l:List Node,wtL l.dropLast<=wtL l
 | []=>yg _
 | [x]=>by simp[wtL]
 |x::y::r=>by
  have:=wtL_dropLast (y::r);rw[List.dropLast_cons_cons,wtL,wtL];omega
theorem sumW_wt(F:zA)(x:Node):wtN (sumW F x)<=wtN x:=by
 unfold sumW;split
 ·rw[zlb,zlb];simp[wtK];omega
 ·exact yg _
theorem takenW_wt(us:List Int)(q:List Node×Tos):wtL (zAb us q).1<=wtL q.1:=by
 unfold zAb;split
 ·split
  ·exact wtL_dropLast _
  ·exact yg _
 ·exact yg _
mutual
theorem wrN_wt(F:zA):∀(x:Node) (T:Tos),wtL (wrN F x T).1<=1+wtN x
 |⟨k,o,n,s,a,us,ps,ks⟩,T=>by
  have hv:=valW_len T a;rw[wrN];split
  ·have:=sumW_wt F ⟨k,o,n,s,valW T a,us,ps,ks⟩;simp only[wtL,wtN,hv]at this ⊢;omega
  ·split
   ·split
    ·have h1:=takenW_wt us (zwa F ks (decide ((numK F (at0 a 0)).1≠0)) T);have h2:=wrPick_wt F ks (decide ((numK F (at0 a 0)).1≠0)) T;simp only[wtN];omega
    ·have h2:=wrKs_wt F ks T;simp only[wtL,wtN,hv];omega
   ·split
    ·have h2:=wrKs_wt F ks T;simp only[wtL,wtN,hv];omega
    ·simp only[wtL,wtN,hv];omega
theorem wrGo_wt(F:zA):∀(l:List Node) (T:Tos),wtL (wrGo F l T).1<=wtL l
 | [],T=>by rw[wrGo];exact yg _
 |x::r,T=>by
  have h1:=wrN_wt F x T;have h2:=wrGo_wt F r (wrN F x T).2;rw[wrGo];split
  ·rw[wtL];omega
  ·simp only[zzc,wtL];omega
theorem wrKs_wt(F:zA):∀(l:List (List Node)) (T:Tos),wtK (wrKs F l T).1<=wtK l
 | [],T=>by rw[wrKs];exact yg _
 |x::r,T=>by
  have h1:=wrGo_wt F x T;have h3:=tidyL_wt (wrGo F x T).1;have h2:=wrKs_wt F r (wrGo F x T).2;rw[wrKs];simp only[wtK];omega
theorem wrPick_wt(F:zA):∀(l:List (List Node)) (b:Bool) (T:Tos),wtL (zwa F l b T).1<=wtK l
 | [],b,T=>by rw[zwa];simp[wtL]
 |x::r,b,T=>by
  have h1:=wrGo_wt F x T;have h3:=tidyL_wt (wrGo F x T).1;have h2:=wrPick_wt F r true T;rw[zwa];split<;>simp only[wtK]<;>omega
end
theorem wrL_wt(F:zA)(l:List Node)(T:Tos):wtL (wrL F l T).1<=wtL l:=by
 have h1:=wrGo_wt F l T;have h3:=tidyL_wt (wrGo F l T).1;unfold wrL;simp only;omega
def goF(F:zA)(q:List Node×Tos)(x:Node):List Node×Tos:=(q.1++(wrN F x q.2).1,(wrN F x q.2).2)
theorem goF_wt(F:zA)(l:List Node):∀(q:List Node×Tos),wtL (l.foldl (goF F) q).1<=wtL q.1+wtL l:=by
 induction l with
 |nil=>intro q;simp[wtL]
 |cons x r ih=>
  intro q;have h1:=ih (goF F q x);have h2:=wrN_wt F x q.2;rw[yU];simp only[goF,zzc]at h1 ⊢;rw[wtL];omega
theorem lastClosed_app(a b:List Node)(h:zn a=false):zn (a++b)=zn b:=by
 rcases yz b with rfl|⟨d,e,rfl⟩
 ·rw[yla,h];rfl
 ·rw[yC,<-yY];simp[zn]
theorem listw_of{F:zA}{l:List Node}(hw:wtL l<100000000)(hp:∀x∈l,NodeW F x):ListW F l:=by
 intro T;refine zc rfl rfl rfl (by simp[wrV]) ?_;have hll:=zlc l;unfold wrL;simp[F51,zh,wrV];refine zG l K51_0 B51_0 (fun d=>[(4,acc 8 ((d.foldl (goF F) ([],T)).1.map zK)),(9,.int .i64 d.length)]) (fun d=>wst F (d.foldl (goF F) ([],T)).2)
  (fun d=>zn (d.foldl (goF F) ([],T)).1=false/\∀r,wrGo F (d++r) T=((d.foldl (goF F) ([],T)).1++(wrGo F r (d.foldl (goF F) ([],T)).2).1,(wrGo F r (d.foldl (goF F) ([],T)).2).2)) (by omega) (by simp[zn]) ?_ ?_
 ·intros d x r s hl' hlt hget hget' hwr hpd h1 h2 h3 h4;simp at h1 h3;clear h2;have hgw:=goF_wt F d ([],T);have hwd:wtL d+(1+wtN x)<=wtL l:=by rw[hl'.eq,zzc,wtL];omega
  have hxw:=wrN_wt F x (d.foldl (goF F) ([],T)).2;obtain⟨hc0,hgo⟩:=hpd;have hs:=hp x hl'.mem (d.foldl (goF F) ([],T)).2;have hnext:∀r,zn (wrN F x (d.foldl (goF F) ([],T)).2).1=false->wrGo F ((d++[x])++r) T=((goF F (d.foldl (goF F) ([],T)) x).1++(wrGo F r (goF F (d.foldl (goF F) ([],T)) x).2).1,(wrGo F r (goF F (d.foldl (goF F) ([],T)) x).2).2):=by
   intro r hc;rw[yY,List.singleton_append,hgo,wrGo,hc];simp[goF]
  have hcut:zn (wrN F x (d.foldl (goF F) ([],T)).2).1=true->wrGo F l T=((d.foldl (goF F) ([],T)).1++(wrN F x (d.foldl (goF F) ([],T)).2).1,(wrN F x (d.foldl (goF F) ([],T)).2).2):=by
   intro hc;rw[hl'.eq,hgo,wrGo,hc];simp
  rw[ySa,yU,yYa];generalize hq:d.foldl (goF F) ([],T)=q at*;obtain⟨D,U⟩:=q;simp only at hc0 hs hnext hcut hxw hgw ⊢;have hap:=lastClosed_app D (wrN F x U).1 hc0;have hgf:goF F (D,U) x=(D++(wrN F x U).1,(wrN F x U).2):=rfl;rw[hgf]at hnext ⊢;generalize hn:wrN F x U=n at*;obtain⟨ns,U'⟩:=n;simp only at hap hnext hcut hxw hs ⊢;have hln:=zlc (D++ns);have hDn:wtL (D++ns)<100000000:=by simp only[zzc]at hgw ⊢;simp only[wtL]at hgw;omega
  have q4:(D.length+ns.length)*136<=zo:=by rw[ym]at hln;simp only[zo];omega
  clear hp hgw hwd hxw hgo hq hgf hn hl' hget;simp[za,zh,wrV,ints,kids]at hs;have hmap:D.map zK++ns.map zK=(D++ns).map zK:=by simp
  have hmlen:D.length+ns.length=(D++ns).length:=by simp
  generalize hM:D++ns=M at*;rcases yz M with rfl|⟨dd,z,rfl⟩
  ·have hD:D=[]/\ns=[]:=by
    cases D<;>cases ns<;>simp at hM<;>exact⟨rfl,rfl⟩
   obtain⟨rfl,rfl⟩:=hD;have hnext:=fun r=>hnext r rfl
   clear hcut hM hmap hmlen hap hDn hln;simp at hs h3 h4;simp[*,za,zh,wrV,zn,ints,kids]
   first|done|(intro r;have:=hnext r;simpa using this)
  ·rw[yC]at*;have hlc:zn (dd++[z])=zb z:=by simp[zn]
   have hzw:wtN z<1099511627776:=by have:=zHe (x:=z) (l:=dd++[z]) (by simp);omega
   have hcl:=zXb z [] hzw;have hwrap:zW .i64 (dd.length:Int)=dd.length:=zm (by omega) (by simp at hln;omega);have hpos:(0:Int)<(dd.length:Int)+1:=by omega
   have hlenM:D.length+ns.length=dd.length+1:=by rw[hmlen];simp
   rw[hlenM]at q4;have hacc:acc 8 ((dd++[z]).map zK)= .slice .own 8 ((dd++[z]).map zK):=acc_ne (by simp);rw[hlc]at hap;have ht:=tidy_spec (wtL (dd++[z])) (dd++[z]) [] (yg _) (by omega);simp[za]at hcl;clear hM hmlen hln hDn hzw;simp only[yDa,yR,List.map_nil]at hacc hmap;rw[za z]at hacc hmap;simp only[ints,kids]at hacc hmap;simp[ints,kids]at hcl;cases hC:zb z
   ·rw[hC]at hcl hap hlc;have hnext:=fun r=>hnext r hap.symm
    clear hcut ht hap hC;simp[*,za,ints,kids,wrV]
    all_goals(intro r;have:=hnext r;simpa using this)
   ·rw[hC]at hcl hap hlc;have hcut:=hcut hap.symm;clear hnext hlc hap hC;rw[hcut];clear hcut;simp[zh,za,ints,kids]at ht;simp[*,za,ints,kids,wrV]
 ·intros s hpd h1 h2 h3 h4;simp at h1 h3;obtain⟨hc0,hgo⟩:=hpd;have e:=hgo [];rw[yla,wrGo,yla]at e;have hgw:=goF_wt F l ([],T);have ht:=tidy_spec (wtL (l.foldl (goF F) ([],T)).1) (l.foldl (goF F) ([],T)).1 [] (yg _) (by simp only[wtL]at hgw;omega);rw[e];clear hgo e hp hgw;generalize l.foldl (goF F) ([],T)=q at*;simp[zh]at ht;simp[*,zh]
theorem nodew_of{u:Unt}{m:Nat}{F:zA}{p:Pl}{x:Node}(hok:okN u m p x)(hx:wtN x<100000000)(hl:∀l∈x.kids,ListW F l):NodeW F x:=by
 intro T;rw[zhb]at hok;obtain⟨ho,hkk⟩:=hok;refine zc rfl rfl rfl (by simp[wrV,za]) ?_;have hxk:=zlb x;have hv:=values_spec F T x.args (by omega);obtain⟨K,hK⟩:∃K,x.kind=K:=⟨_,rfl⟩
 have l1:(0:Int)<=(x.args.length:Int):=by omega
 rw[wrN_eq];by_cases k34:K=3\/K=4
 ·rw[if_pos (by rw[hK];exact k34)];have hou:x.outs.length=1:=by
   rcases k34 with k|k<;>subst k
   ·exact(ho.k3 hK).2
   ·exact(ho.k4 hK).2
  have hs:=sumw_spec F T {x with args:=valW T x.args} hou;generalize sumW F {x with args:=valW T x.args}=y at*;generalize valW T x.args=va at*;clear hl ho hkk hxk hou;simp[za,ints,kids,wrV,hK]at hs;simp[ints,wrV]at hv;rcases k34 with k|k<;>subst k<;>simp[*,F76,za,ints,kids,wrV,zh]
 rw[if_neg (by rw[hK];exact k34)];have hc3:(K=3)=False:=eqn (by omega);have hc4:(K=4)=False:=eqn (by omega);by_cases k10:K=10
 ·rw[if_pos (by rw[hK];exact k10)];obtain⟨ha1,hk2⟩:=ho.k10 (by rw[hK];exact k10)
  match ha':x.args,ha1 with
  | [a],_=>
   match hk':x.kids,hk2 with
   | [q0,q1],_=>
    have e0:at0 [a] 0=a:=rfl;have n1:=znd (F,false) a [.mp (encTos T)];have hw:kst (F,false) [.mp (encTos T)]=wst F T:=rfl;simp only at n1;rw[hw]at n1;rw[ha']at hv;rw[hk']at hl hkk;have w0:=hl q0 (by simp);have w1:=hl q1 (by simp);have wk:wtL q0<100000000/\wtL q1<100000000:=by
     have a1:=zld (x:=x) (l:=q0) (by rw[hk'];simp);have a2:=zld (x:=x) (l:=q1) (by rw[hk'];simp);omega
    rw[e0];by_cases hq:(numK F a).2=true
    ·rw[if_pos hq];have ok0:=zjb hkk q0 (by simp);have ok1:=zjb hkk q1 (by simp);have hval:(valW T [a]).length=1:=by simp[valW]
     have hpl:∀n,(plIn p x.kind x.outs x.params).y=some n->n=x.outs.length:=by
      intro n hn;rw[hK,k10]at hn;simp only[plIn]at hn;rw[if_neg (by omega)]at hn;simpa using hn.symm
     have ht:=taken_spec (F:=F) (p:=plIn p x.kind x.outs x.params) (x:={x with args:=valW T [a],kids:=[q0,q1]}) (l0:=q0) (l1:=q1) rfl (by
      rw[zlb];simp only[hval];rw[ha',hk']at hxk;simp only[yZ,yea]at hxk;omega) w0 w1 (numK F a).1 T (by
      by_cases hc:decide ((numK F a).1≠0)=true
      ·rw[if_pos hc];exact⟨q0,_,rfl,(zrd F q0 _ T ok0.2 ok0.1).tidy⟩
      ·rw[if_neg hc];exact⟨q1,_,rfl,(zrd F q1 _ T ok1.2 ok1.1).tidy⟩) hpl (by
      have b0:=wrL_wt F q0 T;have b1:=wrL_wt F q1 T;split<;>omega)
     simp only at ht;generalize zAb x.outs (zwa F [q0,q1] (decide ((numK F a).1≠0)) T)=Q at*;generalize numK F a=c at*;obtain⟨c1,c2⟩:=c;simp only at hq;subst hq;subst k10;clear hl ho hkk hxk w0 w1 wk e0 hpl ok0 ok1 hval;generalize valW T [a]=va at*;simp[za,ints,kids,wrV,hK,zh]at ht;simp[ints,wrV]at hv;simp[*,F76,za,ints,kids,wrV,zh]
    ·rw[if_neg hq];have hq:(numK F a).2=false:=by simpa using hq
     have w0:=w0 T;have w1:=w1 (wrL F q0 T).2;have e1:wrKs F [q0,q1] T=([(wrL F q0 T).1,(wrL F q1 (wrL F q0 T).2).1],(wrL F q1 (wrL F q0 T).2).2):=by simp[wrKs,wrL]
     rw[e1];generalize wrL F q0 T=Q0 at*;generalize wrL F q1 Q0.2=Q1 at*;generalize numK F a=c at*;obtain⟨c1,c2⟩:=c;simp only at hq;subst hq;subst k10;clear hl ho hkk hxk wk e0 e1;generalize valW T [a]=va at*;simp[zh,wrV]at w0 w1;simp[ints,wrV]at hv;simp[*,F76,za,ints,kids,wrV,zh]
 rw[if_neg (by rw[hK];exact k10)];have hc10:=eqn k10;by_cases k11:K=11
 ·rw[if_pos (by rw[hK];exact k11)];obtain⟨ha1,hk2⟩:=ho.k11 (by rw[hK];exact k11)
  match hk':x.kids,hk2 with
  | [q0],_=>
   rw[hk']at hl;have w0:=hl q0 (by simp) T;have e1:wrKs F [q0] T=([(wrL F q0 T).1],(wrL F q0 T).2):=by simp[wrKs,wrL]
   rw[e1];generalize wrL F q0 T=Q0 at*;subst k11;clear hl ho hkk hxk e1;generalize valW T x.args=va at*;simp[zh,wrV]at w0;simp[ints,wrV]at hv;simp[*,F76,za,ints,kids,wrV,zh]
 rw[if_neg (by rw[hK];exact k11)];have hc11:=eqn k11;clear hl ho hkk hxk k34 k10 k11;generalize valW T x.args=va at*;simp[ints,wrV]at hv;simp[*,F76,za,ints,kids,wrV,zh]
theorem write_all(u:Unt)(m:Nat)(F:zA):∀(N:Nat),N<100000000->(∀(x:Node) (p:Pl),wtN x<=N->okN u m p x->NodeW F x)/\(∀(l:List Node) (p:Pl),wtL l<=N->okL u m p l->ListW F l):=by
 intro N
 induction N using ysa with
 |ind N ih=>
  intro hN;refine⟨fun x p hx hok=>?_,fun l p hl hok=>?_⟩
  ·refine nodew_of hok (by omega) (fun q hq=>?_);have hw:=zld hq;rw[zhb]at hok;exact(ih (wtL q) (by omega) (by omega)).2 q _ (yg _) (zjb hok.2 q hq).2
  ·refine listw_of (by omega) (fun x hx=>?_);have:=zHe hx;exact(ih (wtN x) (by omega) (by omega)).1 x p (yg _) (okL_mem hok x hx)
theorem hdok0:HdOk ⟨none,none,none⟩ hd0:=by
 refine⟨?_,?_,?_⟩<;>(intro n h;cases h)
theorem flowk_spec{u:Unt}(f:Flow)(hp:0<=f.params/\f.params<=f.types.length)(ht:f.types.length<=20000)(hw:wtL f.body<100000000)(hok:okL u f.types.length ⟨none,none,none⟩ f.body):
  zk E 33 [zf f] []=some (.ret (zf (zZe f)),[]):=by
 have hs:=studied_spec f hp ht (by omega) hok hdok0;have hl:=(write_all u f.types.length (zPa f) (wtL f.body) hw).2 f.body _ (yg _) hok [];unfold zZe;generalize zPa f=F at*;generalize wrL F f.body []=Q at*;refine zc rfl rfl rfl (by simp[zf]) ?_;simp[zf,kst,zh,ints]at hs;simp[wst,kst,wrV,encTos,zh]at hl;simp[*,F33,zf,zh,wrV,kst,ints,zvf]
theorem known_spec(u:Unt)(hz:USz u)(hw:∀f∈u.flows,wtL f.body<100000000):zk E 17 [encUnt u] []=
  some (.ret (.tup [encUnt (if(zJa u).1=0 then zT u else⟨[],[]⟩),.int .i64 (if(zJa u).1=0 then 0 else 1)]),[]):=by
 have hck:=check_spec u hz;refine zc rfl rfl rfl (by simp[encUnt]) ?_;by_cases h0:(zJa u).1=0
 ·rw[if_pos h0,if_pos h0];have hU:=zcf hz h0;have ht:∀f∈u.flows,f.types.length<=20000:=by
   intro f hf;have h2:=((checkM_iff u).1 (checkM_fst h0)).2 f hf;unfold zvb at h2;simp only[ya,yG,yB,decide_eq_false_iff_not]at h2;omega
  have hfl:=hz.flows;have hk:∀f∈u.flows,zk E 33 [zf f] []=some (.ret (zf (zZe f)),[]):=fun f hf=>flowk_spec f (hU.pars f hf) (ht f hf) (hw f hf) (hU.body f hf).2
  rw[h0]at hck;clear ht hU hz hw;simp[encUnt,flows]at hck;simp[*,F17,encUnt,zT,flows];refine wp_eachB u.flows K17_0 B17_0 (fun d=>[(23,.int .i64 d.length)]) (fun d=>[(6,.cells [arrs u.arrays,acc 5 (d.map fun f=>zf (zZe f))])]) (fun _=>[]) (fun _=>True) (by omega) (by simp) ?_ ?_
  ·intros d x r s hl' hlt hget hget' hwr hpd h1 h2 h3 h3' h4;simp at h1 h2 h3 h3';have hs:=hk x hl'.mem;have q4:(d.length+1)*80<=zo:=by simp only[zo];omega
   obtain⟨fnm,fty,fps,fts,fbd⟩:=x;generalize hy:zZe ⟨fnm,fty,fps,fts,fbd⟩=y at*;obtain⟨ynm,yty,yps,yts,ybd⟩:=y;clear hk hl' hck;simp[zf]at hs;have hio:∀(l:List PV) (x:PV),isOwn (acc 5 (l++[x]))=some (5,l++[x]):=by intro l x;cases l<;>rfl
   simp[*,zf];exact(acc_ne (by simp)).symm
  ·intros s hpd h1 h2 h3 h3' h4;simp at h1 h2 h3 h3';clear hk hck;simp[*]
 ·rw[if_neg h0,if_neg h0];have hne:=eqn h0;simp[encUnt]at hck;clear hz hw h0;have ea:arrs []= .slice .plain 2 []:=rfl;have ef:flows []= .slice .plain 5 []:=rfl;simp[*,F17,encUnt]
mutual
theorem tidyN_idem:∀x:Node,zzb (zzb x)=zzb x
 |⟨k,o,n,s,a,us,ps,ks⟩=>by
  have h:=tidyKs_idem ks;have e:∀us',zb ⟨k,o,n,s,a,us',ps,zhc ks⟩=zb ⟨k,o,n,s,a,us,ps,zhc ks⟩:=fun us'=>rfl
  by_cases hc:zb ⟨k,o,n,s,a,us,ps,zhc ks⟩=true
  ·rw[zzb,if_pos hc,zzb,h,if_pos (by rw[e];exact hc)]
  ·rw[zzb,if_neg hc,zzb,h,if_neg hc]
theorem zLe:∀l:List Node,zx (zx l)=zx l
 | []=>rfl
 |x::r=>by
  have h1:=tidyN_idem x;have h2:=zLe r;by_cases hc:zb (zzb x)=true
  ·rw[zx,if_pos hc,zx,h1,if_pos hc]
  ·rw[zx,if_neg hc,zx,h1,if_neg hc,h2]
theorem tidyKs_idem:∀l:List (List Node),zhc (zhc l)=zhc l
 | []=>rfl
 |x::r=>by
  have h1:=zLe x;have h2:=tidyKs_idem r;rw[zhc,zhc,h1,h2]
end
def Td(y:Node):Prop:=y.kids.map zx=y.kids
theorem tidyN_td{y:Node}(h:Td y):zzb y=if zb y then{y with outs:=[]}else y:=by
 obtain⟨k,o,n,s,a,us,ps,ks⟩:=y;have h:ks.map zx=ks:=h;rw[zzb,tidyKs_eq,h]
theorem tidyL_td:∀(a b:List Node),(∀y∈a,Td y/\zb y=false)->zx (a++b)=a++zx b
 | [],b,_=>rfl
 |x::a,b,h=>by
  obtain⟨h1,h2⟩:=h x (by simp);have e:zzb x=x:=by rw[tidyN_td h1,h2];rfl
  rw[yI,zx,e,h2,tidyL_td a b (fun y hy=>h y (by simp[hy]))];rfl
theorem wrKs_td(F:zA):∀(ks:List (List Node)) (T:Tos),(wrKs F ks T).1.map zx=(wrKs F ks T).1
 | [],T=>rfl
 |l::r,T=>by
  rw[wrKs];simp only[yR,zLe,wrKs_td F r]
def zlf(u:Unt)(f:Flow):List Node->List Int->Place->Int->Set1->Option (List Int×Set1)
 | [],seen,w,deep,Z=>some (seen,Z)
 |x::r,seen,w,deep,Z=>if zb x=false/\(zy u f x seen w deep Z).1=true then zlf u f r (seen++x.outs) w deep (zy u f x seen w deep Z).2 else none
section
variable {u:Unt} {f:Flow}
theorem goR_run{w:Place}{deep:Int}(hd:deep<=100):∀(a b:List Node) (seen:List Int) (Z:Set1) (s1:List Int) (Z1:Set1),b≠ []->zlf u f a seen w deep Z=some (s1,Z1)->goR u f (a++b) seen w deep Z=goR u f b s1 w deep Z1
 | [],b,seen,Z,s1,Z1,hb,h=>by
  rw[zlf]at h;cases h;rfl
 |x::a,b,seen,Z,s1,Z1,hb,h=>by
  rw[zlf]at h;split at h
  ·rename_i hc;rw[yI,goR,if_neg (by omega),if_pos hc.2,if_pos ?_]
   ·exact goR_run hd a b _ _ s1 Z1 hb h
   ·rw[hc.1];cases a with
    |nil=>cases b with
     |nil=>exact absurd rfl hb
     |cons _ _=>rfl
    |cons _ _=>rfl
  ·cases h
theorem goR_split{w:Place}{deep:Int}:∀(d:List Node) (e:Node) (seen:List Int) (Z:Set1),(goR u f (d++[e]) seen w deep Z).1=true→
  ∃s1 Z1,zlf u f d seen w deep Z=some (s1,Z1)/\(zy u f e s1 w deep Z1).1=true/\zb e=true/\(goR u f (d++[e]) seen w deep Z).2=(zy u f e s1 w deep Z1).2/\deep<=100
 | [],e,seen,Z,h=>by
  rw[yqa,goR]at h ⊢;split at h
  ·cases h
  rename_i h0;rw[if_neg h0];split at h
  ·rename_i h1;rw[if_pos h1];split at h
   ·rename_i h2;rw[if_pos h2];exact⟨seen,Z,rfl,h1,h2,by rw[goR],by omega⟩
   ·cases h
  ·cases h
 |x::d,e,seen,Z,h=>by
  rw[yI,goR]at h ⊢;split at h
  ·cases h
  rename_i h0;rw[if_neg h0];split at h
  ·rename_i h1;rw[if_pos h1];split at h
   ·rename_i h2;rw[if_pos h2];obtain⟨s1,Z1,q1,q2,q3,q4,q5⟩:=goR_split d e _ _ h;refine⟨s1,Z1,?_,q2,q3,q4,q5⟩;have hx:zb x=false:=by rw[h2];cases d<;>rfl
    rw[zlf,if_pos ⟨hx,h1⟩];exact q1
   ·cases h
  ·cases h
theorem simpleR_y{seen:List Int}{w w':Place}{Z:Set1}{x:Node}(h:x.kind≠12)(h1:w'.inLoop=w.inLoop)(h2:w'.next=w.next)(h3:w'.left=w.left):zp u f seen w' Z x=zp u f seen w Z x:=by
 unfold zp;dsimp only;rw[h1,h2,h3];simp only[if_neg h]
theorem nodeR_y{seen:List Int}{w w':Place}{deep:Int}{Z:Set1}{x:Node}(h:x.kind≠12)(h1:w'.inLoop=w.inLoop)(h2:w'.next=w.next)(h3:w'.left=w.left):zy u f x seen w' deep Z=zy u f x seen w deep Z:=by
 rw[zsa,zsa,simpleR_y h h1 h2 h3];have e:∀(t:List Int),({w' with inIf:=true,yield:=t}:Place)={w with inIf:=true,yield:=t}:=by
  intro t;obtain⟨a,b,c,d,g⟩:=w;obtain⟨a',b',c',d',g'⟩:=w';simp only at h1 h2 h3;subst h1 h2 h3;rfl
 rw[e]
theorem goR_y{w w':Place}{deep:Int}(h1:w'.inLoop=w.inLoop)(h2:w'.next=w.next)(h3:w'.left=w.left):∀(l:List Node) (seen:List Int) (Z:Set1),(∀x∈l,x.kind≠12)->goR u f l seen w' deep Z=goR u f l seen w deep Z
 | [],seen,Z,h=>by rw[goR,goR]
 |x::r,seen,Z,h=>by
  rw[goR,goR,nodeR_y (h x (by simp)) h1 h2 h3,goR_y h1 h2 h3 r _ _ (fun y hy=>h y (by simp[hy]))]
theorem runR_y{w w':Place}{deep:Int}(h1:w'.inLoop=w.inLoop)(h2:w'.next=w.next)(h3:w'.left=w.left):∀(l:List Node) (seen:List Int) (Z:Set1),(∀x∈l,x.kind≠12)->zlf u f l seen w' deep Z=zlf u f l seen w deep Z
 | [],seen,Z,h=>by rw[zlf,zlf]
 |x::r,seen,Z,h=>by
  rw[zlf,zlf,nodeR_y (h x (by simp)) h1 h2 h3,runR_y h1 h2 h3 r _ _ (fun y hy=>h y (by simp[hy]))]
theorem simpleR_l{seen:List Int}{w:Place}{Z:Set1}{x:Node}(h:x.kind≠14)(t:List Int):zp u f seen {w with left:=t} Z x=zp u f seen w Z x:=by
 unfold zp;dsimp only;simp only[if_neg h]
mutual
theorem nodeR_l:∀(x:Node) (seen:List Int) (w:Place) (t:List Int) (deep:Int) (Z:Set1),x.leaves=false->zy u f x seen {w with left:=t} deep Z=zy u f x seen w deep Z
 |⟨k,o,n,s,a,us,ps,ks⟩,seen,w,t,deep,Z,h=>by
  rw[Node.leaves,yB]at h;obtain⟨h14,hk⟩:=h;have h14:k≠14:=by simpa using h14
  rw[zy,zy,simpleR_l (x:=⟨k,o,n,s,a,us,ps,ks⟩) h14];by_cases h10:k=10
  ·have hk:zMa ks=false:=by simpa[h10]using hk
   have e:=kidsR_l ks seen {w with inIf:=true,yield:=typesM f.types us} t (deep+1) Z hk;simp only at e ⊢;rw[e]
  ·simp only[if_neg h10]
theorem kidsR_l:∀(ks:List (List Node)) (seen:List Int) (w:Place) (t:List Int) (deep:Int) (Z:Set1),zMa ks=false->zH u f ks seen {w with left:=t} deep Z=zH u f ks seen w deep Z
 | [],seen,w,t,deep,Z,h=>by rw[zH,zH]
 |l::r,seen,w,t,deep,Z,h=>by
  rw[zMa,yB]at h;rw[zH,zH,goR_l l seen w t deep Z h.1,kidsR_l r seen w t deep _ h.2]
theorem goR_l:∀(l:List Node) (seen:List Int) (w:Place) (t:List Int) (deep:Int) (Z:Set1),zu l=false->goR u f l seen {w with left:=t} deep Z=goR u f l seen w deep Z
 | [],seen,w,t,deep,Z,h=>by rw[goR,goR]
 |x::r,seen,w,t,deep,Z,h=>by
  rw[zu,yB]at h;rw[goR,goR,nodeR_l x seen w t deep Z h.1,goR_l r _ w t deep _ h.2]
end
end
end PE.U
