/-
  Texts joined by program: AGU15, AGU16, AGU17, AGU18, AGU19, AGH1, AGH2, AGH3, AGU0F, AGH4f, AGH5f, AGH6f, AGI2s, AGI3a, AGI6, AGI7, AGI8, PfEnd, PfRead.
-/
import Derived.Test.YtianoihfjikdgaaG03
import Derived.WalkKit
import Derived.ProofKit
import Derived.OpenShut
import Derived.ShutString
import Derived.ChangeOld
import Derived.Below
set_option linter.unusedVariables false
set_option linter.unusedSectionVars false
set_option linter.unusedSimpArgs false
open Bool renaming and_eq_true→ya,false_eq_true→yI,false_or→yua
open Eq renaming trans→yd
open Function renaming comp_def→yv
open List renaming all_eq_true→yo,append_assoc→yV,cons_append→yha,findIdx?_eq_none_iff→yfa,getElem?_append_left→yi,getElem?_append_right→ym,getElem?_eq_getElem→ye,getElem?_eq_some_iff→yc,getElem?_map→yh,getElem?_take→yw,length_append→yj,length_cons→yU,length_map→yQ,length_nil→yP,map_cons→yN,map_set→ysa,mem_append→yz,mem_cons→yJ,mem_cons_of_mem→yea,mem_map→ywa,mem_range→yja,mem_zipIdx_iff_getElem?→yaa,not_mem_nil→yxa,range→yR,replicate→yC
open Nat renaming le_refl→yk,strongRecOn→yca
open Option renaming bind_eq_some_iff→yE,getD_some→yO,map_eq_some_iff→yb
open UInt8 renaming ofNat→yra
namespace PE.U
open Go PE
def takesR(op:Int):Int:=if op=18\/op=19\/op=22 then 2 else if op=16\/op=17 then 0 else 1
def makesR(op:Int):Int:=if op=18\/op=19\/op=22\/(12<=op/\op<=17)then 2 else 1
theorem roperand_spec(op:Int):zm E 101 [.int .i64 op] []=some (.ret (.tup [.int .i64 (takesR op),.int .i64 (makesR op)]),[]):=by
 refine zc rfl rfl rfl (by simp) ?_
 (simp[*,F101,takesR,makesR])<;>(repeat' ((first|refine sP _ ?_ ?_|refine gP _ ?_ ?_|refine sN _ ?_ ?_|refine gN _ ?_ ?_|refine sM _ ?_ ?_|refine gM _ ?_ ?_|refine sB _ ?_ ?_|refine gB _ ?_ ?_)<;>intro hc<;>simp[*,F101,takesR,makesR]))
 all_goals(try grind)
def isOne(op:Int):Bool:=decide (20<=op)&&decide (op<=28)
def isTwo(op:Int):Bool:=decide (1<=op)&&decide (op<=17)
theorem isOne_spec(op:Int):zm E 102 [.int .i64 op] []=some (.ret (.bool (isOne op)),[]):=by
 refine zc rfl rfl rfl (by simp) ?_
 (simp[*,F102,isOne])<;>(repeat' ((first|refine sP _ ?_ ?_|refine gP _ ?_ ?_|refine sN _ ?_ ?_|refine gN _ ?_ ?_|refine sM _ ?_ ?_|refine gM _ ?_ ?_|refine sB _ ?_ ?_|refine gB _ ?_ ?_)<;>intro hc<;>simp[*,F102,isOne]))
theorem isTwo_spec(op:Int):zm E 103 [.int .i64 op] []=some (.ret (.bool (isTwo op)),[]):=by
 refine zc rfl rfl rfl (by simp) ?_
 (simp[*,F103,isTwo])<;>(repeat' ((first|refine sP _ ?_ ?_|refine gP _ ?_ ?_|refine sN _ ?_ ?_|refine gN _ ?_ ?_|refine sM _ ?_ ?_|refine gM _ ?_ ?_|refine sB _ ?_ ?_|refine gB _ ?_ ?_)<;>intro hc<;>simp[*,F103,isTwo]))
theorem takesR_one{op:Int}(h:isOne op=true):takesR op=takes op/\makesR op=zfd op:=by
 simp[isOne]at h;constructor<;>simp[takesR,takes,makesR,zfd]<;>grind
theorem takesR_two{op:Int}(h:isTwo op=true):takesR op=takes op/\makesR op=zfd op:=by
 simp[isTwo]at h;constructor<;>simp[takesR,takes,makesR,zfd]<;>grind
theorem rbare_spec(x:Node):zm E 86 [zG x] []=some (.ret (.bool (zIb x)),[]):=by
 refine zc rfl rfl rfl (by simp[za]) ?_;have hp:decide ((x.params.length:Int)=0)=decide (x.params=[]):=by simp
 by_cases h10:x.kind=10
 ·(simp[*,F86,za,ints,kids,zIb,zhd])<;>(repeat' ((first|refine sP _ ?_ ?_|refine gP _ ?_ ?_|refine sN _ ?_ ?_|refine gN _ ?_ ?_|refine sM _ ?_ ?_|refine gM _ ?_ ?_|refine sB _ ?_ ?_|refine gB _ ?_ ?_)<;>intro hc<;>simp[*,F86,za,ints,kids,zIb,zhd]))
  all_goals(try grind)
 ·by_cases h11:x.kind=11
  ·(simp[*,F86,za,ints,kids,zIb,zhd])<;>(repeat' ((first|refine sP _ ?_ ?_|refine gP _ ?_ ?_|refine sN _ ?_ ?_|refine gN _ ?_ ?_|refine sM _ ?_ ?_|refine gM _ ?_ ?_|refine sB _ ?_ ?_|refine gB _ ?_ ?_)<;>intro hc<;>simp[*,F86,za,ints,kids,zIb,zhd]))
   all_goals(try grind)
  ·(simp[*,F86,za,ints,kids,zIb,zhd])<;>(repeat' ((first|refine sP _ ?_ ?_|refine gP _ ?_ ?_|refine sN _ ?_ ?_|refine gN _ ?_ ?_|refine sM _ ?_ ?_|refine gM _ ?_ ?_|refine sB _ ?_ ?_|refine gB _ ?_ ?_)<;>intro hc<;>simp[*,F86,za,ints,kids,zIb,zhd]))
   all_goals(try grind)
def zla(u:Unt)(f:Flow)(seen:List Int)(w:Place)(Z:Set1)(n:Node):Bool×Set1:=
 let ty:=f.types
 if n.kind=1 then if zJ ty seen n.args []then zBa ty Z n.outs [1]else(false,Z)
 else if n.kind=2 then if(n.n=0\/n.n=1)/\zJ ty seen n.args []=true then zBa ty Z n.outs [2]else(false,Z)
 else if n.kind=3 then if isOne n.op&&zJ ty seen n.args [takes n.op]then zBa ty Z n.outs [zfd n.op]else(false,Z)
 else if n.kind=4 then if(isTwo n.op&&zJ ty seen n.args [takes n.op,takes n.op])=true/\at0 ty (at0 n.args 0)=at0 ty (at0 n.args 1)then zBa ty Z n.outs [zfd n.op]else(false,Z)
 else if n.kind=5 then if zZb u.arrays n.name&&zJ ty seen n.args [1]then zBa ty Z n.outs [1]else(false,Z)
 else if n.kind=6 then(zZb u.arrays n.name&&(zJ ty seen n.args [1,1]&&decide (n.outs=[])),Z)
 else if n.kind=7 then
  match u.flows[(zba u.flows n.name).toNat]? with
  |some g=>if 0<=zba u.flows n.name/\zJ ty seen n.args (pars g)=true then zBa ty Z n.outs [g.type]else(false,Z)
  |none=>(false,Z)
 else if n.kind=8 then if n.args=[]then zBa ty Z n.outs [1]else(false,Z)
 else if n.kind=9 then(zJ ty seen n.args [1]&&decide (n.outs=[]),Z)
 else if n.kind=12 then(w.inIf&&(zJ ty seen n.args w.yield&&decide (n.outs=[])),Z)
 else if n.kind=13 then(w.inLoop&&(zJ ty seen n.args w.next&&decide (n.outs=[])),Z)
 else if n.kind=14 then(w.inLoop&&(zJ ty seen n.args w.left&&decide (n.outs=[])),Z)
 else if n.kind=15 then(zJ ty seen n.args [f.type]&&decide (n.outs=[]),Z)
 else(false,Z)
theorem typesR_two{ty seen l:List Int}{t t':Int}(h:zJ ty seen l [t,t']=true):∃a b,l=[a,b]/\0<=a/\a<ty.length/\0<=b/\b<ty.length:=by
 unfold zJ at h
 match l with
 | []=>simp at h
 | [_]=>simp at h
 |a::b::_::_=>simp at h
 | [a,b]=>
  simp[useR]at h;exact⟨a,b,rfl,h.1.1,h.1.2.1,h.2.1,h.2.2.1⟩
theorem arrAt_has(l:List Arr)(s:List UInt8):decide (0<=arrAt l s)=zZb l s:=idx_ge _ _
set_option maxHeartbeats 1000000 in
theorem rsimple_spec(u:Unt)(f:Flow)(seen:List Int)(w:Place)(Z:Set1)(x:Node)(hu:UOk u)(hZ:Z.length=f.types.length)(hx:wtN x<1099511627776)(hs:seen.length<1099511627776):
  zm E 90 [chkV u f f.types.length,zG x,ints seen,zd w] [seO Z]=some (.ret (.bool (zla u f seen w Z x).1),[seO (zla u f seen w Z x).2]):=by
 refine zc rfl rfl rfl (by simp[za,chkV,zd]) ?_;have hw:=zeb x;have hT:=fun want=>rtypes_spec u f f.types.length x.args seen want [seO Z] (by omega) hs
 have hS:=fun want=>rsets_spec u f Z x.outs want hZ (by omega)
 have h6:=rarray_spec u x.name [] hu.arrs;have h7:=zdd u x.name [] hu.flows;have ho:=arrAt_has u.arrays x.name;have hl0:decide ((x.outs.length:Int)=0)=decide (x.outs=[]):=by simp
 have hl1:decide ((x.args.length:Int)=0)=decide (x.args=[]):=by simp
 by_cases k7:x.kind=7
 ·by_cases hp:0<=zba u.flows x.name
  ·obtain⟨g,q1,q2,q3,q4⟩:=place_get hp;obtain⟨p1,p2⟩:=hu.pars g q2;have q5:u.flows[(zba u.flows x.name).toNat]=g:=by simpa[q4]using q1
   have e:zla u f seen w Z x=if zJ f.types seen x.args (pars g)=true then zBa f.types Z x.outs [g.type]else(false,Z):=by simp[zla,k7,q1,hp]
   have h8:=hT (pars g);have h9:=hS [g.type];have p3:g.params.toNat<=g.types.length:=by omega
   simp[chkV,ints,encUnt,za,k7,flows,pars,List.map_take]at h8 h9 h7;clear h6 hu hT hS hw hl0 hl1 ho
   (simp[*,F90,za,chkV,ints,flows,zf,pars,List.map_take,zd])<;>(repeat' ((first|refine sP _ ?_ ?_|refine gP _ ?_ ?_|refine sN _ ?_ ?_|refine gN _ ?_ ?_|refine sM _ ?_ ?_|refine gM _ ?_ ?_|refine sB _ ?_ ?_|refine gB _ ?_ ?_)<;>intro hc<;>simp[*,F90,za,chkV,ints,flows,zf,pars,List.map_take,zd]))
  ·have e:zla u f seen w Z x=(false,Z):=by
    simp only[zla,k7];simp;split<;>simp[hp]
   simp[chkV,ints,encUnt,za,k7]at h7;clear h6 hu hT hS hw hl0 hl1 ho
   (simp[*,F90,za,chkV,ints,zd])<;>(repeat' ((first|refine sP _ ?_ ?_|refine gP _ ?_ ?_|refine sN _ ?_ ?_|refine gN _ ?_ ?_|refine sM _ ?_ ?_|refine gM _ ?_ ?_|refine sB _ ?_ ?_|refine gB _ ?_ ?_)<;>intro hc<;>simp[*,F90,za,chkV,ints,zd]))
 by_cases k3:x.kind=3
 ·have e:zla u f seen w Z x=if isOne x.op&&zJ f.types seen x.args [takes x.op]then zBa f.types Z x.outs [zfd x.op]else(false,Z):=by simp[zla,k3]
  have a1:=roperand_spec x.op;have a2:=isOne_spec x.op;cases ho1:isOne x.op
  ·rw[ho1]at e a2;clear h6 h7 hu hT hS hw hl0 hl1 ho
   (simp[*,F90,za,chkV,ints,zd])<;>(repeat' ((first|refine sP _ ?_ ?_|refine gP _ ?_ ?_|refine sN _ ?_ ?_|refine gN _ ?_ ?_|refine sM _ ?_ ?_|refine gM _ ?_ ?_|refine sB _ ?_ ?_|refine gB _ ?_ ?_)<;>intro hc<;>simp[*,F90,za,chkV,ints,zd]))
  ·obtain⟨t1,t2⟩:=takesR_one ho1;rw[t1,t2]at a1;rw[ho1]at e a2;have h8:=hT [takes x.op];have h9:=hS [zfd x.op];simp[chkV,ints,za]at h8 h9;clear h6 h7 hu hT hS hw hl0 hl1 ho
   (simp[*,F90,za,chkV,ints,zd])<;>(repeat' ((first|refine sP _ ?_ ?_|refine gP _ ?_ ?_|refine sN _ ?_ ?_|refine gN _ ?_ ?_|refine sM _ ?_ ?_|refine gM _ ?_ ?_|refine sB _ ?_ ?_|refine gB _ ?_ ?_)<;>intro hc<;>simp[*,F90,za,chkV,ints,zd]))
 by_cases k4:x.kind=4
 ·have e:zla u f seen w Z x=if(isTwo x.op&&zJ f.types seen x.args [takes x.op,takes x.op])=true/\at0 f.types (at0 x.args 0)=at0 f.types (at0 x.args 1)then zBa f.types Z x.outs [zfd x.op]else(false,Z):=by simp[zla,k4]
  have a1:=roperand_spec x.op;have a2:=isTwo_spec x.op;cases ho1:isTwo x.op
  ·rw[ho1]at e a2;clear h6 h7 hu hT hS hw hl0 hl1 ho
   (simp[*,F90,za,chkV,ints,zd])<;>(repeat' ((first|refine sP _ ?_ ?_|refine gP _ ?_ ?_|refine sN _ ?_ ?_|refine gN _ ?_ ?_|refine sM _ ?_ ?_|refine gM _ ?_ ?_|refine sB _ ?_ ?_|refine gB _ ?_ ?_)<;>intro hc<;>simp[*,F90,za,chkV,ints,zd]))
  ·obtain⟨t1,t2⟩:=takesR_two ho1;rw[t1,t2]at a1;rw[ho1]at e a2;have h8:=hT [takes x.op,takes x.op];have h9:=hS [zfd x.op];cases hty:zJ f.types seen x.args [takes x.op,takes x.op]
   ·rw[hty]at e h8;simp[chkV,ints,za]at h8 h9;clear h6 h7 hu hT hS hw hl0 hl1 ho
    (simp[*,F90,za,chkV,ints,zd])<;>(repeat' ((first|refine sP _ ?_ ?_|refine gP _ ?_ ?_|refine sN _ ?_ ?_|refine gN _ ?_ ?_|refine sM _ ?_ ?_|refine gM _ ?_ ?_|refine sB _ ?_ ?_|refine gB _ ?_ ?_)<;>intro hc<;>simp[*,F90,za,chkV,ints,zd]))
   ·obtain⟨a,b,e1,r0,r1,r2,r3⟩:=typesR_two hty;have q1:=zJb r0 r1;have q2:a.toNat<f.types.length:=by omega
    have q3:=zrb r0 r1 q2;have q1':=zJb r2 r3;have q2':b.toNat<f.types.length:=by omega
    have q3':=zrb r2 r3 q2';have z0:at0 [a,b] 0=a:=rfl;have z1:at0 [a,b] 1=b:=rfl;rw[hty]at e h8;rw[e1]at e h8 hty;simp[chkV,ints,za]at h8 h9;clear h6 h7 hu hT hS hw hl0 hl1 ho
    (simp[*,F90,za,chkV,ints,zd])<;>(repeat' ((first|refine sP _ ?_ ?_|refine gP _ ?_ ?_|refine sN _ ?_ ?_|refine gN _ ?_ ?_|refine sM _ ?_ ?_|refine gM _ ?_ ?_|refine sB _ ?_ ?_|refine gB _ ?_ ?_)<;>intro hc<;>simp[*,F90,za,chkV,ints,zd]))
    all_goals(try grind)
 have e:zla u f seen w Z x=if x.kind=1 then if zJ f.types seen x.args []then zBa f.types Z x.outs [1]else(false,Z)
  else if x.kind=2 then if(x.n=0\/x.n=1)/\zJ f.types seen x.args []=true then zBa f.types Z x.outs [2]else(false,Z)
  else if x.kind=5 then if zZb u.arrays x.name&&zJ f.types seen x.args [1]then zBa f.types Z x.outs [1]else(false,Z)
  else if x.kind=6 then(zZb u.arrays x.name&&(zJ f.types seen x.args [1,1]&&decide (x.outs=[])),Z)
  else if x.kind=8 then if x.args=[]then zBa f.types Z x.outs [1]else(false,Z)
  else if x.kind=9 then(zJ f.types seen x.args [1]&&decide (x.outs=[]),Z)
  else if x.kind=12 then(w.inIf&&(zJ f.types seen x.args w.yield&&decide (x.outs=[])),Z)
  else if x.kind=13 then(w.inLoop&&(zJ f.types seen x.args w.next&&decide (x.outs=[])),Z)
  else if x.kind=14 then(w.inLoop&&(zJ f.types seen x.args w.left&&decide (x.outs=[])),Z)
  else if x.kind=15 then(zJ f.types seen x.args [f.type]&&decide (x.outs=[]),Z)
  else(false,Z):=by simp[zla,k7,k3,k4]
 have t0:=hT [];have t1:=hT [1];have t2:=hT [1,1];have t3:=hT w.yield;have t4:=hT w.next;have t5:=hT w.left;have t6:=hT [f.type];have s1:=hS [1];have s2:=hS [2];simp[chkV,ints,za,encUnt]at t0 t1 t2 t3 t4 t5 t6 s1 s2 h6;clear h7 hu hT hS hw;rw[e]
 (simp[*,F90,za,chkV,ints,zd,encUnt])<;>(repeat' (first|((first|refine sP _ ?_ ?_|refine gP _ ?_ ?_|refine sN _ ?_ ?_|refine gN _ ?_ ?_)<;>intro hc<;>(first|replace hc:=eqn hc|replace hc:=eqp hc)<;>simp[*,F90,za,chkV,ints,zd,encUnt])|((first|refine sM _ ?_ ?_|refine gM _ ?_ ?_|refine sB _ ?_ ?_|refine gB _ ?_ ?_)<;>intro hc<;>simp[*,F90,za,chkV,ints,zd,encUnt])))
 all_goals(try grind)
def lastE(l:List Node)(q:Bool×Set1):Bool×Set1:=if q.1 then(!l.isEmpty,q.2)else(false,q.2)
def endR(ty:List Int)(x:Node)(q:Bool×Set1):Bool×Set1:=if q.1&&(decide (x.outs=[])|| !zU x)then zBa ty q.2 x.outs (zVa x.outs.length)else(false,q.2)
mutual
def nodeR(u:Unt)(f:Flow):Node->List Int->Place->Int->Set1->Bool×Set1
 |⟨k,o,n,s,a,us,ps,ks⟩,seen,w,deep,Z=>
  if !zIb ⟨k,o,n,s,a,us,ps,ks⟩then(false,Z)
  else if k=10 then
   if zJ f.types seen a [2]then endR f.types ⟨k,o,n,s,a,us,ps,ks⟩ (kidsR u f ks seen {w with inIf:=true,yield:=zK f.types us} (deep+1) Z)else(false,Z)
  else if k=11 then
   if zJ f.types seen a (zK f.types ps)then
    if(zBa f.types Z ps (zVa ps.length)).1 then endR f.types ⟨k,o,n,s,a,us,ps,ks⟩ (kidsR u f ks (seen++ps) ⟨false,true,[],zK f.types ps,zK f.types us⟩ (deep+1) (zBa f.types Z ps (zVa ps.length)).2)
    else(false,(zBa f.types Z ps (zVa ps.length)).2)
   else(false,Z)
  else zla u f seen w Z ⟨k,o,n,s,a,us,ps,ks⟩
def kidsR(u:Unt)(f:Flow):List (List Node)->List Int->Place->Int->Set1->Bool×Set1
 | [],seen,w,deep,Z=>(true,Z)
 |l::r,seen,w,deep,Z=>if(lastE l (goR u f l seen w deep Z)).1 then kidsR u f r seen w deep (lastE l (goR u f l seen w deep Z)).2 else(false,(lastE l (goR u f l seen w deep Z)).2)
def goR(u:Unt)(f:Flow):List Node->List Int->Place->Int->Set1->Bool×Set1
 | [],seen,w,deep,Z=>(true,Z)
 |x::r,seen,w,deep,Z=>if 100<deep then(false,Z)else
   if(nodeR u f x seen w deep Z).1 then(if zU x=r.isEmpty then goR u f r (seen++x.outs) w deep (nodeR u f x seen w deep Z).2 else(false,(nodeR u f x seen w deep Z).2))else(false,(nodeR u f x seen w deep Z).2)
end
def zWa(u:Unt)(f:Flow)(l:List Node)(seen:List Int)(w:Place)(deep:Int)(Z:Set1):Bool×Set1:=lastE l (goR u f l seen w deep Z)
theorem nodeR_eq(u:Unt)(f:Flow)(x:Node)(seen:List Int)(w:Place)(deep:Int)(Z:Set1):nodeR u f x seen w deep Z=
  if !zIb x then(false,Z)
  else if x.kind=10 then
   if zJ f.types seen x.args [2]then endR f.types x (kidsR u f x.kids seen {w with inIf:=true,yield:=zK f.types x.outs} (deep+1) Z)else(false,Z)
  else if x.kind=11 then
   if zJ f.types seen x.args (zK f.types x.params)then
    if(zBa f.types Z x.params (zVa x.params.length)).1 then endR f.types x (kidsR u f x.kids (seen++x.params) ⟨false,true,[],zK f.types x.params,zK f.types x.outs⟩ (deep+1) (zBa f.types Z x.params (zVa x.params.length)).2)
    else(false,(zBa f.types Z x.params (zVa x.params.length)).2)
   else(false,Z)
  else zla u f seen w Z x:=by
 cases x;rw[nodeR]
theorem kidsR_nil(u:Unt)(f:Flow)(seen:List Int)(w:Place)(deep:Int)(Z:Set1):kidsR u f [] seen w deep Z=(true,Z):=by rw[kidsR]
theorem kidsR_cons(u:Unt)(f:Flow)(l:List Node)(r:List (List Node))(seen:List Int)(w:Place)(deep:Int)(Z:Set1):kidsR u f (l::r) seen w deep Z=if(zWa u f l seen w deep Z).1 then kidsR u f r seen w deep (zWa u f l seen w deep Z).2 else(false,(zWa u f l seen w deep Z).2):=by rw[kidsR];rfl
theorem len_ite{c:Prop}[Decidable c]{a b:Bool×Set1}{n:Nat}(ha:a.2.length=n)(hb:b.2.length=n):(if c then a else b).2.length=n:=by
 split<;>assumption
theorem simpleR_len(u:Unt)(f:Flow)(seen:List Int)(w:Place)(Z:Set1)(x:Node):(zla u f seen w Z x).2.length=Z.length:=by
 unfold zla;dsimp only
 repeat' (first|exact setsR_len _ _ _ _|exact rfl|refine len_ite ?_ ?_|split)
theorem endR_len(ty:List Int)(x:Node)(q:Bool×Set1):(endR ty x q).2.length=q.2.length:=by
 unfold endR;split<;>simp[setsR_len]
theorem lastE_len(l:List Node)(q:Bool×Set1):(lastE l q).2.length=q.2.length:=by
 unfold lastE;split<;>simp
mutual
theorem nodeR_len(u:Unt)(f:Flow):∀(x:Node) (seen:List Int) (p:Place) (deep:Int) (Z:Set1),(nodeR u f x seen p deep Z).2.length=Z.length
 |⟨k,o,n,s,a,us,ps,ks⟩,seen,p,deep,Z=>by
  rw[nodeR];split
  ·rfl
  split
  ·split
   ·rw[endR_len,kidsR_len u f ks]
   ·rfl
  split
  ·split
   ·split
    ·rw[endR_len,kidsR_len u f ks];simp[setsR_len]
    ·simp[setsR_len]
   ·rfl
  ·exact simpleR_len _ _ _ _ _ _
theorem kidsR_len(u:Unt)(f:Flow):∀(ks:List (List Node)) (seen:List Int) (p:Place) (deep:Int) (Z:Set1),(kidsR u f ks seen p deep Z).2.length=Z.length
 | [],seen,p,deep,Z=>rfl
 |l::r,seen,p,deep,Z=>by
  rw[kidsR];split
  ·rw[kidsR_len u f r,lastE_len,goR_len u f l]
  ·simp only;rw[lastE_len,goR_len u f l]
theorem goR_len(u:Unt)(f:Flow):∀(l:List Node) (seen:List Int) (p:Place) (deep:Int) (Z:Set1),(goR u f l seen p deep Z).2.length=Z.length
 | [],seen,p,deep,Z=>rfl
 |x::r,seen,p,deep,Z=>by
  rw[goR];split
  ·rfl
  split
  ·split
   ·rw[goR_len u f r,nodeR_len u f x]
   ·exact nodeR_len u f x seen p deep Z
  ·exact nodeR_len u f x seen p deep Z
end
theorem listR_len(u:Unt)(f:Flow)(l:List Node)(seen:List Int)(p:Place)(deep:Int)(Z:Set1):(zWa u f l seen p deep Z).2.length=Z.length:=by
 unfold zWa;rw[lastE_len,goR_len]
def RListOk(u:Unt)(f:Flow)(deep:Int)(seen:List Int)(l:List Node):Prop:=∀p Z,Z.length=f.types.length→
 zm E 47 [chkV u f f.types.length,zj l,ints seen,zd p,.int .i64 deep] [seO Z]=some (.ret (.bool (zWa u f l seen p deep Z).1),[seO (zWa u f l seen p deep Z).2])
set_option maxHeartbeats 1000000 in
theorem rnode_spec(u:Unt)(f:Flow)(seen:List Int)(Z:Set1)(x:Node)(p:Place)(deep:Int)(hu:UOk u)(hZ:Z.length=f.types.length)(hx:wtN x<1099511627776)(hd:0<=deep/\deep<=100)
  (hs:seen.length+wtN x<1099511627776) (hl:∀l∈x.kids,∀seen',seen'.length<=seen.length+x.params.length->RListOk u f (deep+1) seen' l):
  zm E 71 [chkV u f f.types.length,zG x,ints seen,zd p,.int .i64 deep] [seO Z]=some (.ret (.bool (nodeR u f x seen p deep Z).1),[seO (nodeR u f x seen p deep Z).2]):=by
 refine zc rfl rfl rfl (by simp[za,chkV,zd]) ?_;have hw:zT .i64 (deep+1)=deep+1:=zn (by omega) (by omega);have hwx:=zeb x;have h0:=rbare_spec x;have h3:=rsimple_spec u f seen p Z x hu hZ hx (by omega);have he:=nodeR_eq u f x seen p deep Z;rw[he];clear he;have hb:zIb x=true->(x.kids.length:Int)=zhd x.kind:=by
  intro h;simp only[zIb,ya,decide_eq_true_eq]at h;exact h.2
 cases hbx:zIb x
 ·simp[chkV,za,zd,hbx]at h0 h3;clear hl hb hwx
  (simp[*,F71,za,chkV,zd])<;>(repeat' (first|((first|refine sP _ ?_ ?_|refine gP _ ?_ ?_|refine sN _ ?_ ?_|refine gN _ ?_ ?_)<;>intro hc<;>(first|replace hc:=eqn hc|replace hc:=eqp hc)<;>simp[*,F71,za,chkV,zd])|((first|refine sM _ ?_ ?_|refine gM _ ?_ ?_|refine sB _ ?_ ?_|refine gB _ ?_ ?_)<;>intro hc<;>simp[*,F71,za,chkV,zd])))
 have hb:=hb hbx;have ho:decide ((x.outs.length:Int)=0)=decide (x.outs=[]):=by simp
 have lo1:(0:Int)<=(x.outs.length:Int):=by omega
 have lo2:(x.outs.length:Int)<=9223372036854775807:=by omega
 have lo3:8*(x.outs.length:Int)<=281474976710656:=by omega
 have lp1:(0:Int)<=(x.params.length:Int):=by omega
 have lp2:(x.params.length:Int)<=9223372036854775807:=by omega
 have lp3:8*(x.params.length:Int)<=281474976710656:=by omega
 have h5:=zxa x [] hx;have hof:=of_spec u f f.types.length x.outs [seO Z] (by omega);by_cases h10:x.kind=10
 ·have hk:x.kids.length=2:=by simp[zhd,h10]at hb;omega
  obtain⟨a,b,hab⟩:∃a b,x.kids=[a,b]:=by
   match hh:x.kids with
   | []=>rw[hh]at hk;cases hk
   | [_]=>rw[hh]at hk;cases hk
   | [a,b]=>exact⟨a,b,rfl⟩
   |_::_::_::_=>rw[hh]at hk;simp at hk
  generalize hp':({p with inIf:=true,yield:=zK f.types x.outs}:Place)=p';have e1:p'.inIf=true:=by rw[<-hp']
  have e2:p'.inLoop=p.inLoop:=by rw[<-hp']
  have e3:p'.yield=zK f.types x.outs:=by rw[<-hp']
  have e4:p'.next=p.next:=by rw[<-hp']
  have e5:p'.left=p.left:=by rw[<-hp']
  have hT:=rtypes_spec u f f.types.length x.args seen [2] [seO Z] (by omega) (by omega);have h1:=hl a (by rw[hab];simp) seen (by omega) p' Z hZ;have hZ2:(zWa u f a seen p' (deep+1) Z).2.length=f.types.length:=by rw[listR_len];exact hZ
  have h2:=hl b (by rw[hab];simp) seen (by omega) p' _ hZ2;have hZ3:(zWa u f b seen p' (deep+1) (zWa u f a seen p' (deep+1) Z).2).2.length=f.types.length:=by rw[listR_len];exact hZ2
  have hS:=rsets_spec u f _ x.outs (zVa x.outs.length) hZ3 (by omega);have ek:kidsR u f [a,b] seen p' (deep+1) Z=if(zWa u f a seen p' (deep+1) Z).1 then if(zWa u f b seen p' (deep+1) (zWa u f a seen p' (deep+1) Z).2).1 then(true,(zWa u f b seen p' (deep+1) (zWa u f a seen p' (deep+1) Z).2).2)else(false,(zWa u f b seen p' (deep+1) (zWa u f a seen p' (deep+1) Z).2).2)else(false,(zWa u f a seen p' (deep+1) Z).2):=by
   rw[kidsR_cons,kidsR_cons,kidsR_nil]
  simp[chkV,ints,za,zd,kids,hab,e1,e2,e3,e4,e5,hbx,zVa]at h0 h1 h2 hT hS h5 hof;generalize zWa u f a seen p' (deep+1) Z=ra at*;generalize zWa u f b seen p' (deep+1) ra.2=rb at*;simp[h10]at h0 h5;clear hl hb hwx h3;simp only[hab]
  (simp[*,F71,za,chkV,ints,zd,kids,endR,zVa])<;>(repeat' (first|((first|refine sP _ ?_ ?_|refine gP _ ?_ ?_|refine sN _ ?_ ?_|refine gN _ ?_ ?_)<;>intro hc<;>(first|replace hc:=eqn hc|replace hc:=eqp hc)<;>simp[*,F71,za,chkV,ints,zd,kids,endR,zVa])|((first|refine sM _ ?_ ?_|refine gM _ ?_ ?_|refine sB _ ?_ ?_|refine gB _ ?_ ?_)<;>intro hc<;>simp[*,F71,za,chkV,ints,zd,kids,endR,zVa])))
  all_goals(try grind)
 by_cases h11:x.kind=11
 ·have hk:x.kids.length=1:=by simp[zhd,h11]at hb;omega
  obtain⟨a,hab⟩:∃a,x.kids=[a]:=by
   match hh:x.kids with
   | []=>rw[hh]at hk;cases hk
   | [a]=>exact⟨a,rfl⟩
   |_::_::_=>rw[hh]at hk;simp at hk
  generalize hp':(⟨false,true,[],zK f.types x.params,zK f.types x.outs⟩:Place)=p';have e1:p'.inIf=false:=by rw[<-hp']
  have e2:p'.inLoop=true:=by rw[<-hp']
  have e3:p'.yield=[]:=by rw[<-hp']
  have e4:p'.next=zK f.types x.params:=by rw[<-hp']
  have e5:p'.left=zK f.types x.outs:=by rw[<-hp']
  have hop:=of_spec u f f.types.length x.params [seO Z] (by omega);have hT:=rtypes_spec u f f.types.length x.args seen (zK f.types x.params) [seO Z] (by omega) (by omega);have hP:=rsets_spec u f Z x.params (zVa x.params.length) hZ (by omega);have hZ1:(zBa f.types Z x.params (zVa x.params.length)).2.length=f.types.length:=by rw[setsR_len];exact hZ
  have h1:=hl a (by rw[hab];simp) (seen++x.params) (by simp) p' _ hZ1;have hZ2:(zWa u f a (seen++x.params) p' (deep+1) (zBa f.types Z x.params (zVa x.params.length)).2).2.length=f.types.length:=by rw[listR_len];exact hZ1
  have hS:=rsets_spec u f _ x.outs (zVa x.outs.length) hZ2 (by omega);have ek:kidsR u f [a] (seen++x.params) p' (deep+1) (zBa f.types Z x.params (zVa x.params.length)).2=if(zWa u f a (seen++x.params) p' (deep+1) (zBa f.types Z x.params (zVa x.params.length)).2).1 then(true,(zWa u f a (seen++x.params) p' (deep+1) (zBa f.types Z x.params (zVa x.params.length)).2).2)else(false,(zWa u f a (seen++x.params) p' (deep+1) (zBa f.types Z x.params (zVa x.params.length)).2).2):=by
   rw[kidsR_cons,kidsR_nil]
  have r1:(seen.length)*8<=zk:=by simp only[zk];omega
  have r2:(seen.length+x.params.length)*8<=zk:=by simp only[zk];omega
  simp[chkV,ints,za,zd,kids,hab,e1,e2,e3,e4,e5,hbx,zVa]at h0 h1 hT hS h5 hof hop hP;simp[zVa]at hZ1 hZ2 ek;obtain⟨ra,hra⟩:∃ra,zWa u f a (seen++x.params) p' (deep+1) (zBa f.types Z x.params (yC x.params.length 0)).2=ra:=⟨_,rfl⟩
  simp only[hra]at h1 hS ek hZ2;simp[h11]at h0 h5;clear hl hb hwx h3;simp only[hab]
  (simp[*,F71,za,chkV,ints,zd,kids,endR,zVa])<;>(repeat' (first|((first|refine sP _ ?_ ?_|refine gP _ ?_ ?_|refine sN _ ?_ ?_|refine gN _ ?_ ?_)<;>intro hc<;>(first|replace hc:=eqn hc|replace hc:=eqp hc)<;>simp[*,F71,za,chkV,ints,zd,kids,endR,zVa])|((first|refine sM _ ?_ ?_|refine gM _ ?_ ?_|refine sB _ ?_ ?_|refine gB _ ?_ ?_)<;>intro hc<;>simp[*,F71,za,chkV,ints,zd,kids,endR,zVa])))
  all_goals(try grind)
 simp[chkV,za,zd,hbx]at h0 h3;clear hl hb hwx h5 hof
 (simp[*,F71,za,chkV,zd])<;>(repeat' (first|((first|refine sP _ ?_ ?_|refine gP _ ?_ ?_|refine sN _ ?_ ?_|refine gN _ ?_ ?_)<;>intro hc<;>(first|replace hc:=eqn hc|replace hc:=eqp hc)<;>simp[*,F71,za,chkV,zd])|((first|refine sM _ ?_ ?_|refine gM _ ?_ ?_|refine sB _ ?_ ?_|refine gB _ ?_ ?_)<;>intro hc<;>simp[*,F71,za,chkV,zd])))
def sdR(u:Unt)(f:Flow)(p:Place)(deep:Int)(seen:List Int)(Z:Set1)(d:List Node):Set1×List Int:=d.foldl (fun q x=>((nodeR u f x q.2 p deep q.1).2,q.2++x.outs)) (Z,seen)
theorem sdR_snoc(u:Unt)(f:Flow)(p:Place)(deep:Int)(seen:List Int)(Z:Set1)(d:List Node)(x:Node):sdR u f p deep seen Z (d++[x])=((nodeR u f x (sdR u f p deep seen Z d).2 p deep (sdR u f p deep seen Z d).1).2,(sdR u f p deep seen Z d).2++x.outs):=by simp[sdR]
theorem sdR_len(u:Unt)(f:Flow)(p:Place)(deep:Int)(d:List Node):∀seen Z,(sdR u f p deep seen Z d).1.length=Z.length:=by
 induction d with
 |nil=>intro seen Z;rfl
 |cons x r ih=>intro seen Z;simp only[sdR,List.foldl_cons];rw[<-sdR,ih,nodeR_len]
def zFb(l:List Node):List Int:=l.flatMap fun x=>x.outs
theorem wt_kid2{x:Node}{l:List Node}(h:l∈x.kids):wtL l+1<=wtK x.kids:=by
 generalize x.kids=ks at h
 induction ks with
 |nil=>cases h
 |cons y r ih=>
  simp only[wtK];rcases yJ.1 h with rfl|h
  ·omega
  ·have:=ih h;omega
@[simp] theorem louts_nil:zFb []=[]:=rfl
theorem louts_append(a b:List Node):zFb (a++b)=zFb a++zFb b:=by simp[zFb]
@[simp] theorem louts_snoc(a:List Node)(x:Node):zFb (a++[x])=zFb a++x.outs:=by simp[zFb]
theorem louts_cons(a:List Node)(x:Node):zFb (x::a)=x.outs++zFb a:=by simp[zFb]
theorem sdR_seen(u:Unt)(f:Flow)(p:Place)(deep:Int)(d:List Node):∀seen Z,(sdR u f p deep seen Z d).2=seen++zFb d:=by
 induction d with
 |nil=>intro seen Z;simp[sdR]
 |cons x r ih=>intro seen Z;simp only[sdR,List.foldl_cons];rw[<-sdR,ih,louts_cons];simp
theorem outs_wt(l:List Node):(zFb l).length<=wtL l:=by
 induction l with
 |nil=>simp
 |cons x r ih=>rw[louts_cons,yj,wtL];have:=zeb x;omega
theorem rlist_spec(u:Unt)(f:Flow)(hu:UOk u):∀(N:Nat) (l:List Node) (deep:Int) (seen:List Int),wtL l<=N->seen.length+N<1099511627776->0<=deep->deep<=101->RListOk u f deep seen l:=by
 intro N
 induction N using yca with
 |ind N ih=>
  intro l deep seen hl hN hd0 hd1 p Z hZ;refine zc rfl rfl rfl (by simp[chkV,zd]) ?_;have hll:=zgd l;have r1:(seen.length)*8<=zk:=by simp only[zk];omega
  simp[F47,zd,zj,ints,r1];refine zH l K47_0 B47_0 (fun d=>[(12,.int .i64 d.length),(11,acc 1 ((seen++zFb d).map (PV.int .i64)))]) (fun d=>[seO (sdR u f p deep seen Z d).1]) (fun d=>∃r,l=d++r/\goR u f l seen p deep Z=goR u f r (seen++zFb d) p deep (sdR u f p deep seen Z d).1) (by omega) (by simp[sdR]) ?_ ?_
  ·rintro d x r s hl' hlt hget hget' hw ⟨r',hr1,hr2⟩ h1 h2 h3 h4
   have:=split_of hl' hr1;subst this;simp at h1 h2 h3;have hwx:=wt_mem hl'.mem;have hxe:=zeb x;have hZ1:(sdR u f p deep seen Z d).1.length=f.types.length:=by rw[sdR_len];exact hZ
   have hseen:=sdR_seen u f p deep d seen Z;rw[goR]at hr2;have hsn:=sdR_snoc u f p deep seen Z d x;rw[hseen]at hsn;have hlast:=split_last hl';have hw2:zT .i64 ((l.length:Int)-1)=(l.length:Int)-1:=zn (by omega) (by omega);have hc:=zxa x [] (by omega);have hlm:zWa u f l seen p deep Z=lastE l (goR u f l seen p deep Z):=rfl;have hfl:(zFb l)=zFb d++(x.outs++zFb r):=by rw[hl'.eq,louts_append,louts_cons]
   have how:=outs_wt l;have hdw:wtL l=wtL d+(1+wtN x+wtL r):=by rw[hl'.eq,zJc];rfl
   have hod:=outs_wt d;have hlen:(zFb d).length+x.outs.length<=wtL l:=by omega
   clear hfl;by_cases hdeep:100<deep
   ·have e:zWa u f l seen p deep Z=(false,(sdR u f p deep seen Z d).1):=by rw[hlm,hr2,if_pos hdeep];rfl
    clear ih hr1 hlm
    (simp[*,za,zj])<;>(repeat' (first|((first|refine sP _ ?_ ?_|refine gP _ ?_ ?_|refine sN _ ?_ ?_|refine gN _ ?_ ?_)<;>intro hc<;>(first|replace hc:=eqn hc|replace hc:=eqp hc)<;>simp[*,za,zj])|((first|refine sM _ ?_ ?_|refine gM _ ?_ ?_|refine sB _ ?_ ?_|refine gB _ ?_ ?_)<;>intro hc<;>simp[*,za,zj])))
   have hn:=rnode_spec u f (seen++zFb d) (sdR u f p deep seen Z d).1 x p deep hu hZ1 (by omega) (by omega) (by simp only[yj];omega) (fun k hk seen' hs'=>by
    have:=wt_kid2 hk;refine ih (wtL k) (by omega) k (deep+1) seen' (yk _) ?_ (by omega) (by omega);simp only[yj]at hs';omega)
   rw[if_neg hdeep]at hr2;generalize hq:nodeR u f x (seen++zFb d) p deep (sdR u f p deep seen Z d).1=q at*;have r2:(seen.length+(zFb d).length+x.outs.length)*8<=zk:=by simp only[zk];omega
   simp[za,zd,ints]at hn hc;cases hq1:q.1
   ·rw[hq1]at hr2 hn;have e:zWa u f l seen p deep Z=(false,q.2):=by rw[hlm,hr2];rfl
    clear ih hr1 hlm
    (simp[*,za,zj,ints])<;>(repeat' (first|((first|refine sP _ ?_ ?_|refine gP _ ?_ ?_|refine sN _ ?_ ?_|refine gN _ ?_ ?_)<;>intro hc<;>(first|replace hc:=eqn hc|replace hc:=eqp hc)<;>simp[*,za,zj,ints])|((first|refine sM _ ?_ ?_|refine gM _ ?_ ?_|refine sB _ ?_ ?_|refine gB _ ?_ ?_)<;>intro hc<;>simp[*,za,zj,ints])))
   rw[hq1]at hr2 hn;simp at hr2;by_cases hcl:zU x=r.isEmpty
   ·rw[if_pos hcl]at hr2;clear ih hc hr1 hlm;have hc:=zxa x [] (by omega);simp[za,ints]at hc;rw[hcl]at hc;have e:∃r',l=d++x::r'/\goR u f l seen p deep Z=goR u f r' (seen++(zFb d++x.outs)) p deep q.2:=⟨r,by rw[hl'.eq],by rw[hr2]⟩
    (simp[*,za,zj,ints])<;>(repeat' (first|((first|refine sP _ ?_ ?_|refine gP _ ?_ ?_|refine sN _ ?_ ?_|refine gN _ ?_ ?_)<;>intro hc<;>(first|replace hc:=eqn hc|replace hc:=eqp hc)<;>simp[*,za,zj,ints])|((first|refine sM _ ?_ ?_|refine gM _ ?_ ?_|refine sB _ ?_ ?_|refine gB _ ?_ ?_)<;>intro hc<;>simp[*,za,zj,ints])))
    all_goals(try grind)
   ·rw[if_neg hcl]at hr2;have e:zWa u f l seen p deep Z=(false,q.2):=by rw[hlm,hr2];rfl
    clear ih hr1 hlm
    (simp[*,za,zj,ints])<;>(repeat' (first|((first|refine sP _ ?_ ?_|refine gP _ ?_ ?_|refine sN _ ?_ ?_|refine gN _ ?_ ?_)<;>intro hc<;>(first|replace hc:=eqn hc|replace hc:=eqp hc)<;>simp[*,za,zj,ints])|((first|refine sM _ ?_ ?_|refine gM _ ?_ ?_|refine sB _ ?_ ?_|refine gB _ ?_ ?_)<;>intro hc<;>simp[*,za,zj,ints])))
    all_goals exact absurd (of_eq_true (by assumption)) hcl
  ·rintro s ⟨r',hr1,hr2⟩ h1 h2 h3 h4
   have:r'=[]:=by
    have:=congrArg List.length hr1;simp at this;exact this
   subst this;simp at h1 h2 h3;rw[goR]at hr2;have hlm:zWa u f l seen p deep Z=(!l.isEmpty,(sdR u f p deep seen Z l).1):=by
    show lastE l (goR u f l seen p deep Z)=_
    rw[hr2];rfl
   have hz:decide (0<l.length)= !l.isEmpty:=by cases l<;>simp
   clear ih hr1
   (simp[*,zd,zj])<;>(repeat' (first|((first|refine sP _ ?_ ?_|refine gP _ ?_ ?_|refine sN _ ?_ ?_|refine gN _ ?_ ?_)<;>intro hc<;>(first|replace hc:=eqn hc|replace hc:=eqp hc)<;>simp[*,zd,zj])|((first|refine sM _ ?_ ?_|refine gM _ ?_ ?_|refine sB _ ?_ ?_|refine gB _ ?_ ?_)<;>intro hc<;>simp[*,zd,zj])))
def initR(f:Flow)(k:Nat):Set1:=yC k true++yC (f.types.length-k) false
def zvc(k:Nat):List Int:=(yR k).map fun(i:Nat)=>(i:Int)
def zjc(u:Unt)(f:Flow):Bool:=
 !(decide (f.params<0)||decide (8<f.params)||decide ((f.types.length:Int)<f.params)||decide (20000<f.types.length)||f.types.any (fun t=> !tyOk t))&&
  (zWa u f f.body (zvc f.params.toNat) zBb 1 (initR f f.params.toNat)).1
theorem initR_len(f:Flow)(k:Nat)(h:k<=f.types.length):(initR f k).length=f.types.length:=by simp[initR];omega
theorem initR_set(f:Flow)(k:Nat)(h:k<f.types.length):(initR f k).set k true=initR f (k+1):=by
 unfold initR;have:f.types.length-k=(f.types.length-(k+1))+1:=by omega
 rw[this,List.replicate_succ,List.set_append_right _ _ (by simp)];simp[List.replicate_succ']
theorem firsts_succ(k:Nat):zvc (k+1)=zvc k++[(k:Int)]:=by simp[zvc,List.range_succ]
theorem firsts_len(k:Nat):(zvc k).length=k:=by simp[zvc]
theorem rflow_spec(u:Unt)(f:Flow)(hu:UOk u)(ht:f.types.length<1099511627776)(hb:wtL f.body<1099511000000):
  zm E 26 [encUnt u,zf f] []=some (.ret (.bool (zjc u f)),[]):=by
 refine zc rfl rfl rfl (by simp[encUnt,zf]) ?_;have ho:decide ((20000:Int)<f.types.length)=decide (20000<f.types.length):=by simp;omega
 have l1:(0:Int)<=(f.types.length:Int):=by omega
 have l2:(f.types.length:Int)<=9223372036854775807:=by omega
 have l3:8*(f.types.length:Int)<=281474976710656:=by omega
 have l4:(f.types.length:Int)<=281474976710656:=by omega
 by_cases c1:f.params<0
 ·have e:zjc u f=false:=by simp[zjc,c1]
  (simp[*,F26,encUnt,zf,ints])<;>(repeat' (first|((first|refine sP _ ?_ ?_|refine gP _ ?_ ?_|refine sN _ ?_ ?_|refine gN _ ?_ ?_)<;>intro hc<;>(first|replace hc:=eqn hc|replace hc:=eqp hc)<;>simp[*,F26,encUnt,zf,ints])|((first|refine sM _ ?_ ?_|refine gM _ ?_ ?_|refine sB _ ?_ ?_|refine gB _ ?_ ?_)<;>intro hc<;>simp[*,F26,encUnt,zf,ints])))
 by_cases c2:8<f.params
 ·have e:zjc u f=false:=by simp[zjc,c2]
  (simp[*,F26,encUnt,zf,ints])<;>(repeat' (first|((first|refine sP _ ?_ ?_|refine gP _ ?_ ?_|refine sN _ ?_ ?_|refine gN _ ?_ ?_)<;>intro hc<;>(first|replace hc:=eqn hc|replace hc:=eqp hc)<;>simp[*,F26,encUnt,zf,ints])|((first|refine sM _ ?_ ?_|refine gM _ ?_ ?_|refine sB _ ?_ ?_|refine gB _ ?_ ?_)<;>intro hc<;>simp[*,F26,encUnt,zf,ints])))
 by_cases c3:(f.types.length:Int)<f.params
 ·have e:zjc u f=false:=by simp[zjc,c3]
  (simp[*,F26,encUnt,zf,ints])<;>(repeat' (first|((first|refine sP _ ?_ ?_|refine gP _ ?_ ?_|refine sN _ ?_ ?_|refine gN _ ?_ ?_)<;>intro hc<;>(first|replace hc:=eqn hc|replace hc:=eqp hc)<;>simp[*,F26,encUnt,zf,ints])|((first|refine sM _ ?_ ?_|refine gM _ ?_ ?_|refine sB _ ?_ ?_|refine gB _ ?_ ?_)<;>intro hc<;>simp[*,F26,encUnt,zf,ints])))
 by_cases c4:20000<f.types.length
 ·have e:zjc u f=false:=by simp[zjc,c4]
  have c4':(20000:Int)<f.types.length:=by omega
  (simp[*,F26,encUnt,zf,ints])<;>(repeat' (first|((first|refine sP _ ?_ ?_|refine gP _ ?_ ?_|refine sN _ ?_ ?_|refine gN _ ?_ ?_)<;>intro hc<;>(first|replace hc:=eqn hc|replace hc:=eqp hc)<;>simp[*,F26,encUnt,zf,ints])|((first|refine sM _ ?_ ?_|refine gM _ ?_ ?_|refine sB _ ?_ ?_|refine gB _ ?_ ?_)<;>intro hc<;>simp[*,F26,encUnt,zf,ints])))
 have c4':¬(20000:Int)<f.types.length:=by omega
 have e:zjc u f=(!(f.types.any (fun t=> !tyOk t))&&(zWa u f f.body (zvc f.params.toNat) zBb 1 (initR f f.params.toNat)).1):=by simp[zjc,c1,c2,c3,c4]
 have h2:=rlist_spec u f hu (wtL f.body) f.body 1 (zvc f.params.toNat) (yk _) (by rw[firsts_len];omega) (by omega) (by omega) zBb (initR f f.params.toNat) (initR_len f _ (by omega));simp[F26,encUnt,zf,ints,c1,c2,c3,c4'];refine zH f.types K26_0 B26_0 (fun d=>[(5,.int .i64 d.length)]) (fun _=>[]) (fun d=>d.all tyOk=true) (by omega) (by simp) ?_ ?_
 ·intros d x r s hl' hlt hget hget' hw hp q1 q2 q3 q4;simp at q1 q2 q3;have hf:tyOk x=false->zjc u f=false:=fun h=>by
   rw[e];have:f.types.any (fun t=> !tyOk t)=true:=by rw[hl'.eq];simp[h]
   rw[this];rfl
  have ht:tyOk x=(decide (x=1)||decide (x=2)):=rfl;have hpp:∀y∈d,tyOk y=true:=by simpa using hp
  clear h2 e;cases hx:tyOk x
  ·have hf:=hf hx;rw[hx]at ht;replace ht:=ht.symm
   (simp[*,ints])<;>(repeat' (first|((first|refine sP _ ?_ ?_|refine gP _ ?_ ?_|refine sN _ ?_ ?_|refine gN _ ?_ ?_)<;>intro hc<;>(first|replace hc:=eqn hc|replace hc:=eqp hc)<;>simp[*,ints])|((first|refine sM _ ?_ ?_|refine gM _ ?_ ?_|refine sB _ ?_ ?_|refine gB _ ?_ ?_)<;>intro hc<;>simp[*,ints])))
   all_goals(try grind)
  ·rw[hx]at ht;replace ht:=ht.symm;clear hf
   (simp[*,ints])<;>(repeat' (first|((first|refine sP _ ?_ ?_|refine gP _ ?_ ?_|refine sN _ ?_ ?_|refine gN _ ?_ ?_)<;>intro hc<;>(first|replace hc:=eqn hc|replace hc:=eqp hc)<;>simp[*,ints])|((first|refine sM _ ?_ ?_|refine gM _ ?_ ?_|refine sB _ ?_ ?_|refine gB _ ?_ ?_)<;>intro hc<;>simp[*,ints])))
   all_goals(try grind)
 intros s hpt q1 q2 q3 q4;simp at q1 q2 q3;have hany:f.types.any (fun t=> !tyOk t)=false:=by
  have:∀t∈f.types,tyOk t=true:=by simpa using hpt
  simpa using this
 rw[hany]at e;clear hpt hany;simp[*,ints,zf];refine zH (yR f.params.toNat) K26_1 B26_1 (fun d=>[(8,.int .i64 d.length),(7,acc 1 ((zvc d.length).map (PV.int .i64)))]) (fun d=>[seO (initR f d.length)]) (fun _=>True) (by simp;omega) (by simp[initR,seO,zvc]) ?_ ?_
 ·intros d x r s hl' hlt hget hget' hw _ q1' q2' q3' q4';simp at hlt;have e1:(d.length:Int)<f.params:=by omega
  have e2:d.length<f.types.length:=by omega
  have e3:=initR_set f d.length e2;have e4:=initR_len f d.length (by omega);have e5:(initR f (d.length+1)).map PV.bool=((initR f d.length).map PV.bool).set d.length (.bool true):=by rw[<-e3,ysa]
  have e6:=firsts_succ d.length;have e7:=firsts_len d.length;have r2:(d.length+1)*8<=zk:=by simp only[zk];omega
  simp at q1' q2' q3' q4';clear h2 hget hget' e3 q1 q2 q3 q4 e
  (simp[*,zf,ints,zz,zka,seO])<;>(repeat' (first|((first|refine sP _ ?_ ?_|refine gP _ ?_ ?_|refine sN _ ?_ ?_|refine gN _ ?_ ?_)<;>intro hc<;>(first|replace hc:=eqn hc|replace hc:=eqp hc)<;>simp[*,zf,ints,zz,zka,seO])|((first|refine sM _ ?_ ?_|refine gM _ ?_ ?_|refine sB _ ?_ ?_|refine gB _ ?_ ?_)<;>intro hc<;>simp[*,zf,ints,zz,zka,seO])))
 ·intros s _ q1' q2' q3' q4';have e0:(f.params.toNat:Int)=f.params:=by omega
  simp at q1' q2' q3' q4';clear q1 q2 q3 q4;simp[chkV,ints,zd,zBb,seO]at h2
  (simp[*,zf,ints,seO,zBb])<;>(repeat' (first|((first|refine sP _ ?_ ?_|refine gP _ ?_ ?_|refine sN _ ?_ ?_|refine gN _ ?_ ?_)<;>intro hc<;>(first|replace hc:=eqn hc|replace hc:=eqp hc)<;>simp[*,zf,ints,seO,zBb])|((first|refine sM _ ?_ ?_|refine gM _ ?_ ?_|refine sB _ ?_ ?_|refine gB _ ?_ ?_)<;>intro hc<;>simp[*,zf,ints,seO,zBb])))
  all_goals(try grind)
def arrGood(u:Unt)(p:Arr×Nat):Bool:=arrOk p.1&&(decide (arrAt u.arrays p.1.name=p.2)&&decide (zba u.flows p.1.name<0))
def znd(u:Unt)(p:Flow×Nat):Bool:=zbc p.1&&decide (zba u.flows p.1.name=p.2)
def rheadM(u:Unt):Bool:=u.arrays.zipIdx.all (arrGood u)&&(u.flows.zipIdx.all (znd u)&&mainOk u)
theorem split_idx{α:Type}{l d r:List α}{x:α}(h:Split l d x r):l.zipIdx=d.zipIdx++(x,d.length)::r.zipIdx (d.length+1):=by
 rw[h.eq,List.zipIdx_append,List.zipIdx_cons];simp
theorem rglobals_spec(u:Unt)(hu1:u.arrays.length<1099511627776)(hu2:u.flows.length<1099511627776):zm E 25 [encUnt u] []=some (.ret (.bool (rheadM u)),[]):=by
 refine zc rfl rfl rfl (by simp[encUnt]) ?_;simp[F25,encUnt,arrs];refine zH u.arrays K25_0 B25_0 (fun d=>[(3,.int .i64 d.length)]) (fun _=>[]) (fun d=>d.zipIdx.all (arrGood u)=true) (by omega) (by simp) ?_ ?_
 ·intros d x r s hl' hlt hget hget' hw hp h1 h2 h3 h4;simp at h1 h2 h3;have hn:=rname_spec x.name [];have ha:=rarray_spec u x.name [] hu1;have hpl:=zdd u x.name [] hu2;have hall:arrGood u (x,d.length)=false->rheadM u=false:=fun h=>by simp only[rheadM,split_idx hl',List.all_append,List.all_cons,h];simp
  have hg:arrGood u (x,d.length)=((nameM x.name&&decide (1<=x.size)&&decide (x.size<=1000))&&(decide (arrAt u.arrays x.name=d.length)&&decide (zba u.flows x.name<0))):=rfl;have hz:(d++[x]).zipIdx=d.zipIdx++[(x,d.length)]:=by rw[List.zipIdx_append];simp
  simp[encUnt,flows,arrs]at ha hpl;cases hgx:arrGood u (x,d.length)
  ·have hall:=hall hgx;rw[hgx]at hg;replace hg:=hg.symm;clear hgx hz hp
   (simp[*,zN,arrs,flows])<;>(repeat' (first|((first|refine sP _ ?_ ?_|refine gP _ ?_ ?_|refine sN _ ?_ ?_|refine gN _ ?_ ?_)<;>intro hc<;>(first|replace hc:=eqn hc|replace hc:=eqp hc)<;>simp[*,zN,arrs,flows])|((first|refine sM _ ?_ ?_|refine gM _ ?_ ?_|refine sB _ ?_ ?_|refine gB _ ?_ ?_)<;>intro hc<;>simp[*,zN,arrs,flows])))
   all_goals(try grind)
  ·clear hall;rw[hgx]at hg;replace hg:=hg.symm;simp only[ya,decide_eq_true_eq]at hg;obtain⟨⟨⟨g1,g2⟩,g3⟩,g4,g5⟩:=hg;have g2':¬x.size<1:=by omega
   have g3':¬1000<x.size:=by omega
   have g5':¬0<=zba u.flows x.name:=by omega
   have hp':(d++[x]).zipIdx.all (arrGood u)=true:=by rw[hz,List.all_append,hp];simp[hgx]
   clear hp hz g2 g3
   (simp[*,zN,arrs,flows])<;>(repeat' (first|((first|refine sP _ ?_ ?_|refine gP _ ?_ ?_|refine sN _ ?_ ?_|refine gN _ ?_ ?_)<;>intro hc<;>(first|replace hc:=eqn hc|replace hc:=eqp hc)<;>simp[*,zN,arrs,flows])|((first|refine sM _ ?_ ?_|refine gM _ ?_ ?_|refine sB _ ?_ ?_|refine gB _ ?_ ?_)<;>intro hc<;>simp[*,zN,arrs,flows])))
   all_goals(try grind)
 intros s0 hpa h1 h2 h3 h4;simp only[List.forall_mem_cons]at h1 h2;simp at h1 h2 h3;simp[*,arrs,flows];refine zH u.flows K25_1 B25_1 (fun d=>[(5,.int .i64 d.length)]) (fun _=>[]) (fun d=>d.zipIdx.all (znd u)=true) (by omega) (by simp) ?_ ?_
 ·intros d x r s hl' hlt hget hget' hw hp h1' h2' h3' h4';simp at h1' h2' h3';clear h1 h2 h3 h4;have hn:=rname_spec x.name [];have hpl:=zdd u x.name [] hu2;have hall:znd u (x,d.length)=false->rheadM u=false:=fun h=>by simp only[rheadM,split_idx hl',List.all_append,List.all_cons,h];simp
  have hg:znd u (x,d.length)=((nameM x.name&&(decide (x.type=1)||decide (x.type=2))&&decide (0<=x.params)&&decide (x.params<=x.types.length))&&decide (zba u.flows x.name=d.length)):=rfl;have hz:(d++[x]).zipIdx=d.zipIdx++[(x,d.length)]:=by rw[List.zipIdx_append];simp
  simp[encUnt,flows,arrs]at hpl;cases hgx:znd u (x,d.length)
  ·have hall:=hall hgx;rw[hgx]at hg;replace hg:=hg.symm;clear hgx hz hp hpa
   (simp[*,zf,arrs,flows,ints])<;>(repeat' (first|((first|refine sP _ ?_ ?_|refine gP _ ?_ ?_|refine sN _ ?_ ?_|refine gN _ ?_ ?_)<;>intro hc<;>(first|replace hc:=eqn hc|replace hc:=eqp hc)<;>simp[*,zf,arrs,flows,ints])|((first|refine sM _ ?_ ?_|refine gM _ ?_ ?_|refine sB _ ?_ ?_|refine gB _ ?_ ?_)<;>intro hc<;>simp[*,zf,arrs,flows,ints])))
   all_goals(try grind)
  ·clear hall;rw[hgx]at hg;replace hg:=hg.symm;simp only[ya,decide_eq_true_eq]at hg;obtain⟨⟨⟨⟨g1,g2⟩,g3⟩,g3b⟩,g4⟩:=hg;have g3':¬x.params<0:=by omega
   have g3b':¬(x.types.length:Int)<x.params:=by omega
   have hp':(d++[x]).zipIdx.all (znd u)=true:=by rw[hz,List.all_append,hp];simp[hgx]
   clear hp hz g3 g3b hpa
   (simp[*,zf,arrs,flows,ints])<;>(repeat' (first|((first|refine sP _ ?_ ?_|refine gP _ ?_ ?_|refine sN _ ?_ ?_|refine gN _ ?_ ?_)<;>intro hc<;>(first|replace hc:=eqn hc|replace hc:=eqp hc)<;>simp[*,zf,arrs,flows,ints])|((first|refine sM _ ?_ ?_|refine gM _ ?_ ?_|refine sB _ ?_ ?_|refine gB _ ?_ ?_)<;>intro hc<;>simp[*,zf,arrs,flows,ints])))
   all_goals(try grind)
 ·intros s hp h1' h2' h3' h4';simp at h1' h2' h3';clear h1 h2 h3 h4;have hpl:=zdd u zL [] hu2;simp[encUnt,zL,arrs,flows]at hpl;have hh:rheadM u=mainOk u:=by simp only[rheadM,hpa,hp];simp
  by_cases hp0:0<=zba u.flows zL
  ·obtain⟨g,q1,q2,q3,q4⟩:=place_get hp0;have q5:u.flows[(zba u.flows zL).toNat]=g:=by simpa[q4]using q1
   have hm:mainOk u=(decide (g.type=1)&&decide (g.params=0)):=by simp[mainOk,q1,hp0]
   simp only[zL]at hp0 q1 q4 q5;clear hpa hp
   (simp[*,flows,zf,arrs])<;>(repeat' (first|((first|refine sP _ ?_ ?_|refine gP _ ?_ ?_|refine sN _ ?_ ?_|refine gN _ ?_ ?_)<;>intro hc<;>(first|replace hc:=eqn hc|replace hc:=eqp hc)<;>simp[*,flows,zf,arrs])|((first|refine sM _ ?_ ?_|refine gM _ ?_ ?_|refine sB _ ?_ ?_|refine gB _ ?_ ?_)<;>intro hc<;>simp[*,flows,zf,arrs])))
  ·have hm:mainOk u=false:=by
    unfold mainOk;split<;>simp;omega
   simp only[zL]at hp0;clear hpa hp
   (simp[*,flows,zf,arrs])<;>(repeat' (first|((first|refine sP _ ?_ ?_|refine gP _ ?_ ?_|refine sN _ ?_ ?_|refine gN _ ?_ ?_)<;>intro hc<;>(first|replace hc:=eqn hc|replace hc:=eqp hc)<;>simp[*,flows,zf,arrs])|((first|refine sM _ ?_ ?_|refine gM _ ?_ ?_|refine sB _ ?_ ?_|refine gB _ ?_ ?_)<;>intro hc<;>simp[*,flows,zf,arrs])))
theorem idx_first{α:Type}{p:α->Bool}{l:List α}{k:Nat}(h:idx p l=k):∀j (hj:j<l.length),j<k->p l[j]=false:=by
 unfold idx at h;cases hf:l.findIdx? p with
 |none=>rw[hf]at h;simp at h
 |some i=>
  rw[hf]at h;have h:i=k:=by simp at h;omega
  subst h;rw[List.findIdx?_eq_some_iff_getElem]at hf;obtain⟨hi,h1,h2⟩:=hf;intro j hj hji;have:=h2 j hji;simpa using this
theorem idx_nodup{α:Type}(g:α->List UInt8)(l:List α):(∀p∈l.zipIdx,idx (fun y=>decide (g y=g p.1)) l=p.2)<->(l.map g).Nodup:=by
 rw[List.nodup_iff_pairwise_ne,List.pairwise_map,List.pairwise_iff_getElem];constructor
 ·intro h i j hi hj hij e;have h1:=h (l[j],j) (by rw[yaa];simp[hj]);have h2:=idx_first h1 i hi hij;simp at h2;exact h2 e
 ·rintro h ⟨x,i⟩ hp
  rw[yaa]at hp;simp only at hp;obtain⟨hi,rfl⟩:=yc.1 hp;have hs:Split l (l.take i) l[i] (l.drop (i+1)):=by
   show l=_
   simp
  have:=zGc (p:=fun y=>decide (g y=g l[i])) hs (by
   intro y hy;obtain⟨j,hj,rfl⟩:=List.getElem_of_mem hy;simp at hj;rw[List.getElem_take];have:=h j i (by omega) hi (by omega);simpa using this) (by simp)
  simp only;rw[this];simp;omega
theorem place_neg(l:List Flow)(s:List UInt8):zba l s<0<->s ∉ l.map Flow.name:=by
 have h:=idx_ge (fun f=>decide (f.name=s)) l;unfold zba;constructor
 ·intro h0 hm;obtain⟨f,hf,rfl⟩:=ywa.1 hm;have:l.any (fun g=>decide (g.name=f.name))=true:=by rw[List.any_eq_true];exact⟨f,hf,by simp⟩
  rw[this]at h;simp at h;omega
 ·intro hm;have:l.any (fun g=>decide (g.name=s))=false:=by
   rw[List.any_eq_false];intro f hf;simp;rintro rfl;exact hm (ywa.2 ⟨f,hf,rfl⟩)
  rw[this]at h;simp at h;omega
theorem zip_all{α:Type}{l:List α}{p:α->Bool}:(∀x∈l,p x=true)<->∀q∈l.zipIdx,p q.1=true:=by
 constructor
 ·rintro h ⟨x,i⟩ hq
  rw[yaa]at hq;exact h x (List.mem_of_getElem? hq)
 ·intro h x hx;obtain⟨i,hi,rfl⟩:=List.getElem_of_mem hx;exact h (l[i],i) (by rw[yaa];simp[hi])
theorem rhead_eq(u:Unt):rheadM u=zkd u:=by
 unfold rheadM zkd;rw[Bool.eq_iff_iff];simp only[ya,yo,decide_eq_true_eq,arrGood,znd,unames,List.nodup_append];have h1:=idx_nodup Arr.name u.arrays;have h2:=idx_nodup Flow.name u.flows;have h3:(∀p∈u.arrays.zipIdx,zba u.flows p.1.name<0)<->∀a∈u.arrays.map Arr.name,∀b∈u.flows.map Flow.name,a≠b:=by
  constructor
  ·intro h a ha b hb e;obtain⟨x,hx,rfl⟩:=ywa.1 ha;have:=(zip_all (p:=fun x=>decide (zba u.flows x.name<0))).2 (fun q hq=>by simpa using h q hq) x hx;simp[place_neg]at this;subst e;obtain⟨y,hy,e⟩:=ywa.1 hb;exact this y hy e
  ·rintro h ⟨x,i⟩ hq
   rw[yaa]at hq;rw[place_neg];intro hm;exact h x.name (ywa.2 ⟨x,List.mem_of_getElem? hq,rfl⟩) x.name hm rfl
 have h4:=zip_all (l:=u.arrays) (p:=arrOk);have h5:=zip_all (l:=u.flows) (p:=zbc);have h6:∀p∈u.arrays.zipIdx,(arrAt u.arrays p.1.name=p.2<->idx (fun y=>decide (y.name=p.1.name)) u.arrays=p.2):=fun p _=>Iff.rfl
 have h7:∀p∈u.flows.zipIdx,(zba u.flows p.1.name=p.2<->idx (fun y=>decide (y.name=p.1.name)) u.flows=p.2):=fun p _=>Iff.rfl
 constructor
 ·rintro⟨a,b,c⟩
  exact⟨⟨⟨h4.2 fun q hq=>(a q hq).1,h5.2 fun q hq=>(b q hq).1⟩,h1.1 fun q hq=>(a q hq).2.1,h2.1 fun q hq=>(b q hq).2,h3.1 fun q hq=>(a q hq).2.2⟩,c⟩
 ·rintro⟨⟨⟨a,b⟩,c,d,e⟩,m⟩
  exact⟨fun q hq=>⟨h4.1 a q hq,h1.2 c q hq,h3.2 e q hq⟩,fun q hq=>⟨h5.1 b q hq,h2.2 d q hq⟩,m⟩
def zEc(u:Unt):Int×Int:=if rheadM u then(match u.flows.findIdx? (fun f=> !zjc u f)with
 |some i=>(80,(i:Int))
 |none=>(0,0))else(1,0)
theorem rcheck_spec(u:Unt)(hu:USz u)(hb:∀f∈u.flows,wtL f.body<1099511000000):zm E 10 [encUnt u] []=some (.ret (.tup [.int .i64 (zEc u).1,.int .i64 (zEc u).2]),[]):=by
 refine zc rfl rfl rfl (by simp[encUnt]) ?_;have h1:=rglobals_spec u hu.arrs hu.flows;cases hh:rheadM u
 ·simp[encUnt,hh,flows]at h1;have hc:zEc u=(1,0):=by simp[zEc,hh]
  (simp[*,F10,encUnt,flows])<;>(repeat' (first|((first|refine sP _ ?_ ?_|refine gP _ ?_ ?_|refine sN _ ?_ ?_|refine gN _ ?_ ?_)<;>intro hc<;>(first|replace hc:=eqn hc|replace hc:=eqp hc)<;>simp[*,F10,encUnt,flows])|((first|refine sM _ ?_ ?_|refine gM _ ?_ ?_|refine sB _ ?_ ?_|refine gB _ ?_ ?_)<;>intro hc<;>simp[*,F10,encUnt,flows])))
 ·have ho:=hu.ok (by rw[<-rhead_eq];exact hh);simp[encUnt,hh,flows]at h1;have hf:∀f∈u.flows,zm E 26 [encUnt u,zf f] []=some (.ret (.bool (zjc u f)),[]):=fun f hf=>rflow_spec u f ho (hu.types f hf) (hb f hf)
  have hfl:=hu.flows;simp[F10,encUnt,flows,h1];refine zH u.flows K10_0 B10_0 (fun d=>[(4,.int .i64 d.length)]) (fun d=>[]) (fun d=>∀f∈d,zjc u f=true) (by omega) (by simp) ?_ ?_
  ·intros d x r s hl' hlt hget hget' hw hp q1 q2 q3 q4;simp at q1 q2 q3;have hfx:=hf x hl'.mem;simp[encUnt,flows,zf]at hfx;clear hf hu ho h1 hb;cases hx:zjc u x
   ·have hi:=zGc (p:=fun f=> !zjc u f) hl' (by simpa using hp) (by simp[hx]);have hcx:zEc u=(80,(d.length:Int)):=by
     unfold idx at hi;simp only[zEc,hh,if_true];cases hfi:u.flows.findIdx? (fun f=> !zjc u f)with
     |none=>rw[hfi]at hi;simp at hi
     |some i=>rw[hfi]at hi;simp at hi;simp[hi]
    (simp[*,zf,flows])<;>(repeat' (first|((first|refine sP _ ?_ ?_|refine gP _ ?_ ?_|refine sN _ ?_ ?_|refine gN _ ?_ ?_)<;>intro hc<;>(first|replace hc:=eqn hc|replace hc:=eqp hc)<;>simp[*,zf,flows])|((first|refine sM _ ?_ ?_|refine gM _ ?_ ?_|refine sB _ ?_ ?_|refine gB _ ?_ ?_)<;>intro hc<;>simp[*,zf,flows])))
   ·(simp[*,zf,flows])<;>(repeat' (first|((first|refine sP _ ?_ ?_|refine gP _ ?_ ?_|refine sN _ ?_ ?_|refine gN _ ?_ ?_)<;>intro hc<;>(first|replace hc:=eqn hc|replace hc:=eqp hc)<;>simp[*,zf,flows])|((first|refine sM _ ?_ ?_|refine gM _ ?_ ?_|refine sB _ ?_ ?_|refine gB _ ?_ ?_)<;>intro hc<;>simp[*,zf,flows])))
    all_goals(try grind)
  ·intros s hp q1 q2 q3 q4;simp at q1 q2 q3;have hcx:zEc u=(0,0):=by
    have:u.flows.findIdx? (fun f=> !zjc u f)=none:=by rw[yfa];simpa using hp
    simp[zEc,hh,this]
   clear hf hu ho hh h1 hp hb
   (simp[*,flows])<;>(repeat' (first|((first|refine sP _ ?_ ?_|refine gP _ ?_ ?_|refine sN _ ?_ ?_|refine gN _ ?_ ?_)<;>intro hc<;>(first|replace hc:=eqn hc|replace hc:=eqp hc)<;>simp[*,flows])|((first|refine sM _ ?_ ?_|refine gM _ ?_ ?_|refine sB _ ?_ ?_|refine gB _ ?_ ?_)<;>intro hc<;>simp[*,flows])))
structure Rel(ty:List Int)(S:St1)(seen:List Int)(Z:Set1):Prop where
 s:S.length=ty.length
 z:Z.length=ty.length
 set:∀v,0<=v->v<(ty.length:Int)->(atB Z v=true<->at0 S v≠0)
 seen:∀v,0<=v->v<(ty.length:Int)->(v∈seen<->at0 S v=1)
theorem at0_set{S:St1}{v w c:Int}(hv:0<=v)(hv':v<S.length)(hw:0<=w)(hw':w<S.length):at0 (S.set v.toNat c) w=if w=v then c else at0 S w:=by
 unfold at0;rw[List.getElem?_set];by_cases h:w=v
 ·subst h;have:w.toNat<S.length:=by omega
  simp[this]
 ·have:v.toNat≠w.toNat:=by omega
  simp[h,this]
theorem atB_set{S:Set1}{v w:Int}{c:Bool}(hv:0<=v)(hv':v<S.length)(hw:0<=w)(hw':w<S.length):atB (S.set v.toNat c) w=if w=v then c else atB S w:=by
 unfold atB;rw[List.getElem?_set];by_cases h:w=v
 ·subst h;have:w.toNat<S.length:=by omega
  simp[this]
 ·have:v.toNat≠w.toNat:=by omega
  simp[h,this]
theorem eqGo_use{ty:List Int}{S:St1}:∀l,(eqGo (useG ty) S l).1=l.all fun p=>(useG ty S p.1 p.2).1
 | []=>rfl
 |p::r=>by
  simp only[eqGo,List.all_cons];split
  ·rename_i h;rw[h,Bool.true_and];exact eqGo_use r
  ·rename_i h;simp only[Bool.not_eq_true]at h;rw[h];rfl
theorem use_rel{ty:List Int}{S:St1}{seen:List Int}{Z:Set1}(h:Rel ty S seen Z)(l ts:List Int):zza ty S l ts=zJ ty seen l ts:=by
 have key:∀v t,(useG ty S v t).1=useR ty seen v t:=by
  intro v t;simp only[useG,useR,valM];by_cases h0:0<=v
  ·by_cases h1:v<(ty.length:Int)
   ·have:=h.seen v h0 h1;have e:seen.contains v=decide (at0 S v=1):=by rw[Bool.eq_iff_iff];simpa using this
    rw[e];simp[h0,h1];grind
   ·simp[h1]
  ·simp[h0]
 unfold zza eqM zJ;by_cases hl:l.length=ts.length
 ·rw[if_pos hl,eqGo_use];simp only[hl,decide_true,Bool.true_and];congr 1;funext p;exact key _ _
 ·rw[if_neg hl];simp[hl]
theorem setGo_rel{ty:List Int}:∀(zs:List (Int×Int)) (S:St1) (seen:List Int) (Z:Set1),Rel ty S seen Z→
  (eqGo (setG ty) S zs).1=(eqGo (zAb ty) Z zs).1/\((eqGo (setG ty) S zs).1=true->Rel ty (eqGo (setG ty) S zs).2 (seen++zs.map Prod.fst) (eqGo (zAb ty) Z zs).2/\∀v∈zs.map Prod.fst,0<=v/\v<ty.length/\at0 S v=0)
 | [],S,seen,Z,h=>⟨rfl,fun _=>⟨by simpa[eqGo]using h,fun v hv=>by simp at hv⟩⟩
 |(v,t)::r,S,seen,Z,h=>by
  have hc:(valM ty v t&&decide (at0 S v=0))=(valM ty v t&& !atB Z v):=by
   cases hv:valM ty v t
   ·rfl
   ·obtain⟨h0,h1⟩:=zfb hv;have:=h.set v h0 h1;cases hz:atB Z v<;>simp[hz]at this ⊢ <;>omega
  simp only[eqGo,setG,zAb,hc];by_cases hb:(valM ty v t&& !atB Z v)=true
  ·simp only[hb,if_true];have hb':=hb;rw[<-hc]at hb';simp only[ya,decide_eq_true_eq]at hb';obtain⟨h0,h1⟩:=zfb hb'.1;have hr:Rel ty (S.set v.toNat 1) (seen++[v]) (Z.set v.toNat true):=by
    refine⟨by simp[h.s],by simp[h.z],fun w hw hw'=>?_,fun w hw hw'=>?_⟩
    ·rw[at0_set h0 (by rw[h.s];exact h1) hw (by rw[h.s];exact hw'),atB_set h0 (by rw[h.z];exact h1) hw (by rw[h.z];exact hw')];by_cases e:w=v
     ·simp[e]
     ·simp only[e,if_false];exact h.set w hw hw'
    ·rw[at0_set h0 (by rw[h.s];exact h1) hw (by rw[h.s];exact hw')];by_cases e:w=v
     ·simp[e]
     ·simp only[yz,List.mem_singleton,e,or_false,if_false];exact h.seen w hw hw'
   obtain⟨q1,q2⟩:=setGo_rel r _ _ _ hr;refine⟨q1,fun hok=>?_⟩;obtain⟨q3,q4⟩:=q2 hok;refine⟨by simpa using q3,fun w hw=>?_⟩;simp only[yN,yJ]at hw;rcases hw with rfl|hw
   ·exact⟨h0,h1,hb'.2⟩
   ·obtain⟨p1,p2,p3⟩:=q4 w hw;rw[at0_set h0 (by rw[h.s];exact h1) p1 (by rw[h.s];exact p2)]at p3;split at p3
    ·omega
    ·exact⟨p1,p2,p3⟩
  ·simp only[Bool.not_eq_true]at hb;simp[hb]
theorem zip_fst{l ts:List Int}(h:l.length=ts.length):(l.zip ts).map Prod.fst=l:=by
 rw[List.map_fst_zip];omega
def zoa(ty:List Int)(seen outs:List Int)(q:Bool×St1)(r:Bool×Set1):Prop:=
 q.1=r.1/\(q.1=true->Rel ty q.2 (seen++outs) r.2/\∀v∈outs,0<=v/\v<(ty.length:Int)/\v ∉ seen)
theorem zCc{ty:List Int}{S:St1}{seen:List Int}{Z:Set1}(h:Rel ty S seen Z)(l ts:List Int):zoa ty seen l (setM ty S l ts) (zBa ty Z l ts):=by
 unfold setM zBa eqM;by_cases hl:l.length=ts.length
 ·rw[if_pos hl,if_pos hl];obtain⟨q1,q2⟩:=setGo_rel (l.zip ts) S seen Z h;refine⟨q1,fun hok=>?_⟩;obtain⟨q3,q4⟩:=q2 hok;rw[zip_fst hl]at q3 q4;refine⟨q3,fun v hv=>?_⟩;obtain⟨p1,p2,p3⟩:=q4 v hv;exact⟨p1,p2,fun hm=>by have:=(h.seen v p1 p2).1 hm;omega⟩
 ·rw[if_neg hl,if_neg hl];exact⟨rfl,fun h=>by cases h⟩
theorem zoa.fail{ty:List Int}{seen outs:List Int}{S:St1}{Z:Set1}:zoa ty seen outs (false,S) (false,Z):=⟨rfl,fun h=>by cases h⟩
theorem zoa.nil{ty:List Int}{seen:List Int}{S:St1}{Z:Set1}{outs:List Int}{b:Bool}(h:Rel ty S seen Z)(ho:b=true->outs=[]):zoa ty seen outs (b,S) (b,Z):=
 ⟨rfl,fun hb=>by simp only at hb;rw[ho hb];exact⟨by simpa using h,fun v hv=>by simp at hv⟩⟩
theorem setM_nil(ty:List Int)(S:St1)(l:List Int):setM ty S l []=(decide (l=[]),S):=by
 unfold setM eqM;cases l with
 |nil=>rfl
 |cons x r=>simp
theorem usesM_nil(ty:List Int)(S:St1)(l:List Int):zza ty S l []=decide (l=[]):=by
 unfold zza eqM;cases l with
 |nil=>rfl
 |cons x r=>simp
theorem zoa.ite{ty:List Int}{seen outs:List Int}{q:Bool×St1}{r:Bool×Set1}{S:St1}{Z:Set1}{b c:Prop}[Decidable b][Decidable c](hbc:b<->c)(h:zoa ty seen outs q r):zoa ty seen outs (if b then q else(false,S)) (if c then r else(false,Z)):=by
 by_cases hb:b
 ·rw[if_pos hb,if_pos (hbc.1 hb)];exact h
 ·rw[if_neg hb,if_neg (fun hc=>hb (hbc.2 hc))];exact zoa.fail
theorem simple_rel{u:Unt}{f:Flow}{S:St1}{seen:List Int}{Z:Set1}(h:Rel f.types S seen Z)(x:Node)(w:Place)(hk:endK x.kind=false):zoa f.types seen x.outs (zJa u f S x) (zla u f seen w Z x):=by
 have hu:=use_rel h;have k12:¬x.kind=12:=by rintro e;simp[endK,e]at hk
 have k13:¬x.kind=13:=by rintro e;simp[endK,e]at hk
 have k14:¬x.kind=14:=by rintro e;simp[endK,e]at hk
 have k15:¬x.kind=15:=by rintro e;simp[endK,e]at hk
 unfold zJa zla;simp only[hu,k12,k13,k14,k15,if_false];by_cases k1:x.kind=1
 ·simp only[k1,if_true];exact zoa.ite Iff.rfl (zCc h _ _)
 by_cases k2:x.kind=2
 ·simp only[k2,if_true];simp;exact zoa.ite Iff.rfl (zCc h _ _)
 by_cases k3:x.kind=3
 ·simp[k3,sumM,hu];refine zoa.ite ?_ (zCc h _ _);simp[isOne];grind
 by_cases k4:x.kind=4
 ·simp[k4,sumM,hu];refine zoa.ite ?_ (zCc h _ _);simp[isTwo];grind
 by_cases k5:x.kind=5
 ·simp[k5];exact zoa.ite Iff.rfl (zCc h _ _)
 by_cases k6:x.kind=6
 ·simp[k6,setM_nil];by_cases hc:zZb u.arrays x.name=true/\zJ f.types seen x.args [1,1]=true
  ·rw[if_pos hc];simp[hc.1,hc.2];exact zoa.nil h (by simp)
  ·rw[if_neg hc];have:(zZb u.arrays x.name&&(zJ f.types seen x.args [1,1]&&decide (x.outs=[])))=false:=by
    cases h1:zZb u.arrays x.name<;>cases h2:zJ f.types seen x.args [1,1]<;>simp_all
   rw[this];exact zoa.fail
 by_cases k7:x.kind=7
 ·simp[k7];cases hfl:u.flows[(zba u.flows x.name).toNat]? with
  |none=>exact zoa.fail
  |some g=>exact zoa.ite Iff.rfl (zCc h _ _)
 by_cases k8:x.kind=8
 ·simp[k8];have:(zJ f.types seen x.args []=true)<->x.args=[]:=by rw[<-hu,usesM_nil];simp
  exact zoa.ite this (zCc h _ _)
 by_cases k9:x.kind=9
 ·simp[k9,setM_nil];cases hc:zJ f.types seen x.args [1]
  ·simp;exact zoa.fail
  ·simp;exact zoa.nil h (by simp)
 simp[k1,k2,k3,k4,k5,k6,k7,k8,k9];exact zoa.fail
theorem end_rel{u:Unt}{f:Flow}{S:St1}{seen:List Int}{Z:Set1}(h:Rel f.types S seen Z)(x:Node)(w:Place)(hk:endK x.kind=true):zoa f.types seen x.outs (endM f S x w,S) (zla u f seen w Z x):=by
 have hu:=use_rel h;have e:zla u f seen w Z x=(endM f S x w,Z):=by
  simp only[endK,ya,decide_eq_true_eq]at hk;have:x.kind=12\/x.kind=13\/x.kind=14\/x.kind=15:=by omega
  unfold zla endM;rcases this with k|k|k|k<;>simp[k,hu]<;>grind
 rw[e];refine zoa.nil h (fun hb=>?_);simp only[endM,ya,decide_eq_true_eq]at hb;exact hb.1
theorem at0_hide(S:St1)(l:List Int):∀{n:Nat},S.length=n->(∀v∈l,0<=v/\v<(n:Int))->∀w,0<=w->w<(n:Int)->at0 (zHb S l) w=if w∈l then 2 else at0 S w:=by
 induction l generalizing S with
 |nil=>intro n hS hl w h0 h1;simp[zHb]
 |cons v r ih=>
  intro n hS hl w h0 h1;obtain⟨v0,v1⟩:=hl v (by simp);have e:zHb S (v::r)=zHb (S.set v.toNat 2) r:=rfl;rw[e,ih (S.set v.toNat 2) (by simpa using hS) (fun x hx=>hl x (yea _ hx)) w h0 h1];rw[at0_set v0 (by omega) h0 (by omega)];by_cases hw:w=v
  ·subst hw;by_cases hr:w∈r<;>simp[hr]
  ·by_cases hr:w∈r<;>simp[hr,hw]
theorem Rel.hide{ty:List Int}{S:St1}{seen:List Int}{Z:Set1}{l:List Int}(h:Rel ty S (seen++l) Z)(hl:∀v∈l,0<=v/\v<(ty.length:Int)/\v ∉ seen):Rel ty (zHb S l) seen Z:=by
 have hh:=at0_hide S l h.s (fun v hv=>⟨(hl v hv).1,(hl v hv).2.1⟩);refine⟨by rw[zTc];exact h.s,h.z,fun v h0 h1=>?_,fun v h0 h1=>?_⟩
 ·rw[hh v h0 h1,h.set v h0 h1];by_cases hv:v∈l
  ·have:=(h.seen v h0 h1).1 (List.mem_append_right _ hv);simp[hv,this]
  ·simp[hv]
 ·rw[hh v h0 h1];have hs:=h.seen v h0 h1;rw[yz]at hs;by_cases hv:v∈l
  ·simp[hv,(hl v hv).2.2]
  ·simp only[hv,or_false,if_false]at hs ⊢;exact hs
def Same1(ty:List Int)(seen:List Int)(q:Bool×St1)(r:Bool×Set1):Prop:=q.1=r.1/\(q.1=true->Rel ty q.2 seen r.2)
theorem list_rel{ty:List Int}{seen:List Int}{l:List Node}{q:Bool×St1}{r:Bool×Set1}(h:zoa ty seen (zFb l) q r):Same1 ty seen (listE l q) (lastE l r):=by
 obtain⟨h1,h2⟩:=h;unfold listE lastE;rw[<-h1];cases hq:q.1
 ·exact⟨rfl,fun h=>by cases h⟩
 ·simp only[if_true];refine⟨rfl,fun _=>?_⟩;obtain⟨h3,h4⟩:=h2 hq;exact h3.hide h4
theorem choice_rel{ty:List Int}{seen:List Int}{x:Node}{q:Bool×St1}{r:Bool×Set1}(h:Same1 ty seen q r):zoa ty seen x.outs (zhc ty x q) (endR ty x r):=by
 obtain⟨h1,h2⟩:=h;unfold zhc endR;rw[<-h1];cases hq:q.1
 ·simp;exact zoa.fail
 ·by_cases hb:(decide (x.outs=[])|| !zU x)=true
  ·simp only[hb,Bool.and_self,if_true];exact zCc (h2 hq) _ _
  ·simp only[hb,Bool.true_and];exact zoa.fail
theorem loop_rel{ty:List Int}{seen:List Int}{x:Node}{q:Bool×St1}{r:Bool×Set1}(h:Same1 ty (seen++x.params) q r)(hp:∀v∈x.params,0<=v/\v<(ty.length:Int)/\v ∉ seen):zoa ty seen x.outs (loopE ty x q) (endR ty x r):=by
 obtain⟨h1,h2⟩:=h;unfold loopE endR;rw[<-h1];cases hq:q.1
 ·simp;exact zoa.fail
 ·by_cases hb:(decide (x.outs=[])|| !zU x)=true
  ·simp only[hb,Bool.and_self,if_true];exact zCc ((h2 hq).hide hp) _ _
  ·simp only[hb,Bool.true_and,if_true];exact zoa.fail
mutual
theorem node_rel(u:Unt)(f:Flow):∀(x:Node) (w:Place) (deep:Int) (S:St1) (seen:List Int) (Z:Set1),Rel f.types S seen Z->zoa f.types seen x.outs (nodeM u f x w deep S) (nodeR u f x seen w deep Z)
 |⟨k,o,n,s,a,us,ps,ks⟩,w,deep,S,seen,Z,h=>by
  have hu:=use_rel h;rw[nodeM,nodeR];cases hb:zIb ⟨k,o,n,s,a,us,ps,ks⟩
  ·simp;exact zoa.fail
  simp only[Bool.not_true,yI,if_false];by_cases k10:k=10
  ·simp only[k10,if_true];refine zoa.ite (by rw[hu]) ?_;exact choice_rel (kids_rel u f ks _ _ S seen Z h)
  simp only[k10,if_false];by_cases k11:k=11
  ·simp only[k11,if_true];rw[hu];cases hc:zJ f.types seen a (zK f.types ps)
   ·simp;exact zoa.fail
   simp only[if_true];obtain⟨p1,p2⟩:=zCc h ps (zVa ps.length);have e:allM f.types S ps=setM f.types S ps (zVa ps.length):=rfl;rw[e,<-p1];cases hok:(setM f.types S ps (zVa ps.length)).1
   ·simp;exact zoa.fail
   simp only[if_true];obtain⟨p3,p4⟩:=p2 hok;exact loop_rel (kids_rel u f ks _ _ _ _ _ p3) p4
  simp only[k11,if_false];cases hk:endK k
  ·simp only[yI,if_false];exact simple_rel h _ w hk
  ·simp only[if_true];exact end_rel h _ w hk
theorem kids_rel(u:Unt)(f:Flow):∀(ks:List (List Node)) (w:Place) (deep:Int) (S:St1) (seen:List Int) (Z:Set1),Rel f.types S seen Z->Same1 f.types seen (zid u f ks w deep S) (kidsR u f ks seen w deep Z)
 | [],w,deep,S,seen,Z,h=>by rw[zid,kidsR];exact⟨rfl,fun _=>h⟩
 |l::r,w,deep,S,seen,Z,h=>by
  rw[zid,kidsR];obtain⟨h1,h2⟩:=list_rel (go_rel u f l w deep S seen Z h);rw[<-h1];cases hq:(listE l (goM u f l w deep S)).1
  ·simp only[yI,if_false];exact⟨rfl,fun h=>by cases h⟩
  ·simp only[if_true];exact kids_rel u f r w deep _ seen _ (h2 hq)
theorem go_rel(u:Unt)(f:Flow):∀(l:List Node) (w:Place) (deep:Int) (S:St1) (seen:List Int) (Z:Set1),Rel f.types S seen Z->zoa f.types seen (zFb l) (goM u f l w deep S) (goR u f l seen w deep Z)
 | [],w,deep,S,seen,Z,h=>by rw[goM,goR];exact zoa.nil h (fun _=>rfl)
 |x::r,w,deep,S,seen,Z,h=>by
  rw[goM,goR];by_cases hd:100<deep
  ·rw[if_pos hd,if_pos hd];exact zoa.fail
  rw[if_neg hd,if_neg hd];obtain⟨h1,h2⟩:=node_rel u f x w deep S seen Z h;rw[<-h1];cases hq:(nodeM u f x w deep S).1
  ·simp only[yI,if_false];exact zoa.fail
  simp only[if_true];obtain⟨h3,h4⟩:=h2 hq;by_cases hc:zU x=r.isEmpty
  ·rw[if_pos hc,if_pos hc];obtain⟨q1,q2⟩:=go_rel u f r w deep _ _ _ h3;refine⟨q1,fun hok=>?_⟩;obtain⟨q3,q4⟩:=q2 hok;rw[louts_cons];refine⟨by simpa[yV]using q3,fun v hv=>?_⟩;rcases yz.1 hv with hv|hv
   ·exact h4 v hv
   ·obtain⟨p1,p2,p3⟩:=q4 v hv;exact⟨p1,p2,fun hm=>p3 (List.mem_append_left _ hm)⟩
  ·rw[if_neg hc,if_neg hc];exact zoa.fail
end
theorem init_rel(f:Flow)(hp:0<=f.params/\f.params<=f.types.length):Rel f.types (initM f f.params.toNat) (zvc f.params.toNat) (initR f f.params.toNat):=by
 have hk:f.params.toNat<=f.types.length:=by omega
 refine⟨initM_len f _ hk,initR_len f _ hk,fun v h0 h1=>?_,fun v h0 h1=>?_⟩
 ·have hv:v.toNat<f.types.length:=by omega
  unfold at0 atB initM initR;rw[List.getElem?_append,List.getElem?_append];by_cases h:v.toNat<f.params.toNat
  ·simp[h]
  ·have:v.toNat-f.params.toNat<f.types.length-f.params.toNat:=by omega
   simp[h,this]
 ·have hv:v.toNat<f.types.length:=by omega
  have hm:v∈zvc f.params.toNat<->v.toNat<f.params.toNat:=by
   simp only[zvc,ywa,yja];constructor
   ·rintro⟨i,hi,rfl⟩;simpa using hi
   ·intro h;exact⟨v.toNat,h,by omega⟩
  rw[hm];unfold at0 initM;rw[List.getElem?_append];by_cases h:v.toNat<f.params.toNat
  ·simp[h]
  ·have:v.toNat-f.params.toNat<f.types.length-f.params.toNat:=by omega
   simp[h,this]
theorem flow_eq(u:Unt)(f:Flow)(hp:0<=f.params/\f.params<=f.types.length):flowM u f=zjc u f:=by
 have h:=list_rel (go_rel u f f.body zBb 1 _ _ _ (init_rel f hp));have h1:¬f.params<0:=by omega
 have h2:¬(f.types.length:Int)<f.params:=by omega
 have h3:(zXa u f f.body zBb 1 (initM f f.params.toNat)).1=(zWa u f f.body (zvc f.params.toNat) zBb 1 (initR f f.params.toNat)).1:=h.1;simp only[flowM,zjc,h1,h2,h3,decide_false,yua,Bool.or_false]
theorem findIdx_congr{α:Type}{p q:α->Bool}:∀{l:List α},(∀x∈l,p x=q x)->l.findIdx? p=l.findIdx? q
 | [],_=>rfl
 |x::r,h=>by
  rw[List.findIdx?_cons,List.findIdx?_cons,h x (by simp),findIdx_congr (fun y hy=>h y (yea _ hy))]
theorem check_eq(u:Unt):zXc u=zEc u:=by
 unfold zXc zEc;rw[rhead_eq];cases hh:zkd u
 ·rfl
 ·have:u.flows.findIdx? (fun f=> !flowM u f)=u.flows.findIdx? (fun f=> !zjc u f):=by
   refine findIdx_congr (fun f hf=>?_);simp only[zkd,ya,yo]at hh;have:=hh.1.1.2 f hf;simp only[zbc,ya,decide_eq_true_eq]at this;rw[flow_eq u f ⟨this.1.2,this.2⟩]
  rw[this]<;>rfl
structure HPl where
 iff:Bool
 loop:Bool
 yield:List Int
 next:List Int
 left:List Int
structure Md(α:Type) where
 n:α
 i:Nat
 ts:List Int
 left:Nat
section
variable (L:List UInt8)
def pk(i n:Nat):Nat:=if L.length<i+1\/150<i+1 then 0 else(L[i]?.getD 0).toNat%n
def some1(ts:List Int)(t:Int):List Int->Bool->Int->Int->Int
 | [],_,_,v=>v
 |x::r,f,k,v=>if atA ts x.toNat=t/\(f=true\/0<k)then some1 ts t r false (k-1) x else some1 ts t r false k v
def some2(ts:List Int)(t:Int):List Int->Int->Int
 | [],v=>v
 |x::r,v=>if atA ts v.toNat=t then v else some2 ts t r (if atA ts x.toNat=t then x else v)
def someV(ts seen:List Int)(t k:Int):Int:=some2 ts t seen (some1 ts t seen true k 0)
def zhb(ts seen:List Int):List Int->Nat->List Int
 | [],_=>[]
 |t::r,i=>someV ts seen t (pk L i 8)::zhb ts seen r (i+1)
def newV(n:Nat):Nat->List Int
 |0=>[]
 |k+1=>newV n k++[((n+k:Nat):Int)]
def tyV(i:Nat):Nat->List Int
 |0=>[]
 |k+1=>tyV i k++[1+(pk L (i+k) 2:Int)]
def zEa(i:Nat):List Int:=tyV L (i+1) (pk L i 3)
def zUa(i:Nat):Nat:=i+1+pk L i 3
abbrev nd(kind op n:Int)(name:List UInt8)(args outs:List Int):Node:=⟨kind,op,n,name,args,outs,[],[]⟩
def zaa(seen ts:List Int)(i:Nat):Node×Nat×List Int:=
 match pk L i 12 with
 |0=>(nd 1 0 (atA [0,1,2,3,-1,100] (pk L (i+1) 6)) [] [] [ts.length],i+2,[1])
 |1=>(nd 2 0 (pk L (i+1) 2) [] [] [ts.length],i+2,[2])
 |2=>(nd 3 (atA [20,21,23,27] (pk L (i+1) 4)) 0 [] (zhb L ts seen [1] (i+2)) [ts.length],i+3,[1])
 |3=>(nd 3 22 0 [] (zhb L ts seen [2] (i+1)) [ts.length],i+2,[2])
 |4|5|6=>(nd 4 (1+pk L (i+1) 11) 0 [] (zhb L ts seen [1,1] (i+2)) [ts.length],i+4,[1])
 |7|8=>(nd 4 (12+pk L (i+1) 6) 0 [] (zhb L ts seen [1,1] (i+2)) [ts.length],i+4,[2])
 |9=>(nd 5 0 0 [97] (zhb L ts seen [1] (i+1)) [ts.length],i+2,[1])
 |10=>(nd 6 0 0 [97] (zhb L ts seen [1,1] (i+1)) [],i+3,[])
 |_=>match pk L (i+1) 4 with
  |0=>(nd 7 0 0 [102] (zhb L ts seen [1,2] (i+2)) [ts.length],i+4,[1])
  |1=>(nd 8 0 0 [] [] [ts.length],i+2,[1])
  |_=>(nd 9 0 0 [] (zhb L ts seen [1] (i+2)) [],i+3,[])
def endL(p:HPl)(k:Nat):Int×List Int:=if p.iff=true/\k<4 then(12,p.yield)else if p.loop=true/\k%2=0 then(13,p.next)else if p.loop=true then(14,p.left)else(15,[1])
def endG(seen ts:List Int)(p:HPl)(i:Nat):Node:=nd (endL p (pk L i 6)).1 0 0 [] (zhb L ts seen (endL p (pk L i 6)).2 (i+1)) []
def endN(p:HPl)(i:Nat):Nat:=i+1+(endL p (pk L i 6)).2.length
abbrev LG:=List Int->HPl->Nat->List Int->Nat->Md (List Node)
def outed(n:Node)(i:Nat)(ts:List Int)(left:Nat)(t:List Int):Md Node:=
 if zU n=true then⟨n,i,ts,left⟩else⟨{n with outs:=newV ts.length t.length},i,ts++t,left⟩
def ifG(f:LG)(all:List Int)(p:HPl)(i:Nat)(ts:List Int)(left:Nat):Md Node:=
 let t:=zEa L i
 let x:HPl:=⟨true,p.loop,t,p.next,p.left⟩
 let a:=f all x (zUa L i+1) ts left
 let b:=f all x a.i a.ts a.left
 outed ⟨10,0,0,[],zhb L ts all [2] (zUa L i),[],[],[a.n,b.n]⟩ b.i b.ts b.left t
def loopG(f:LG)(all:List Int)(i:Nat)(ts:List Int)(left:Nat):Md Node:=
 let t:=zEa L i
 let o:=zEa L (zUa L i)
 let j:=zUa L (zUa L i)
 let ps:=newV ts.length t.length
 let a:=f (all++ps) ⟨false,true,[],t,o⟩ (j+t.length) (ts++t) left
 outed ⟨11,0,0,[],zhb L ts all t j,[],ps,[a.n]⟩ a.i a.ts a.left o
def nodeG(rc:Option LG)(all:List Int)(p:HPl)(i:Nat)(ts:List Int)(left:Nat):Md Node:=
 let s:=zaa L all ts i
 match rc with
 |none=>⟨s.1,s.2.1+1,ts++s.2.2,left⟩
 |some f=>
  if pk L s.2.1 6=0 then ifG L f all p (s.2.1+1) (ts++s.2.2) left
  else if pk L s.2.1 6=1 then loopG L f all (s.2.1+1) (ts++s.2.2) left
  else⟨s.1,s.2.1+1,ts++s.2.2,left⟩
def finG(p:HPl)(out:List Node)(all:List Int)(i:Nat)(ts:List Int)(left:Nat):Md (List Node):=⟨out++[endG L all ts p i],endN L p i,ts,left⟩
def runG(rc:Option LG)(p:HPl):Nat->List Node->List Int->Nat->List Int->Nat->Md (List Node)
 |0,out,all,i,ts,left=>finG L p out all i ts left
 |c+1,out,all,i,ts,left=>
  if left=0 then finG L p out all i ts left
  else
   let r:=nodeG L rc all p i ts (left-1)
   if zU r.n=true then⟨out++[r.n],r.i,r.ts,r.left⟩else runG rc p c (out++[r.n]) (all++r.n.outs) r.i r.ts r.left
def zFc:Nat->LG
 |0=>fun seen p i ts left=>runG L none p (pk L i 6) [] seen (i+1) ts left
 |d+1=>fun seen p i ts left=>runG L (some (zFc d)) p (pk L i 6) [] seen (i+1) ts left
def flowG(name:List UInt8)(params:List Int)(i:Nat):Md Flow:=
 let a:=zFc L 3 (newV 0 params.length++[(params.length:Int),(params.length+1:Nat)]) ⟨false,false,[],[],[]⟩ i (params++[1,2]) 30
 ⟨⟨name,1,params.length,a.ts,nd 1 0 3 [] [] [(params.length:Int)]::nd 2 0 1 [] [] [((params.length+1:Nat):Int)]::a.n⟩,a.i,a.ts,a.left⟩
def madeM:Unt:=⟨[⟨[97],4⟩],[(flowG L zL [] 0).n,(flowG L [102] [1,2] (flowG L zL [] 0).i).n]⟩
end
theorem pk_lt(L:List UInt8)(i n:Nat)(h:0<n):pk L i n<n:=by
 unfold pk;split
 ·exact h
 ·exact Nat.mod_lt _ h
theorem zua(L:List UInt8)(ts seen:List Int):∀(l:List Int) (i:Nat),(zhb L ts seen l i).length=l.length
 | [],_=>rfl
 |t::r,i=>by simp[zhb,zua L ts seen r (i+1)]
theorem zcb(n:Nat):∀k,(newV n k).length=k
 |0=>rfl
 |k+1=>by simp[newV,zcb n k]
theorem newV_mem(n:Nat):∀k,∀x∈newV n k,(n:Int)<=x/\x<(n+k:Nat)
 |0,x,h=>by simp[newV]at h
 |k+1,x,h=>by
  simp only[newV,yz,List.mem_singleton]at h;rcases h with h|h
  ·have:=newV_mem n k x h;omega
  ·omega
theorem tyV_len(L:List UInt8)(i:Nat):∀k,(tyV L i k).length=k
 |0=>rfl
 |k+1=>by simp[tyV,tyV_len L i k]
theorem typesV_len(L:List UInt8)(i:Nat):(zEa L i).length=pk L i 3:=tyV_len L _ _
theorem zKc(L:List UInt8)(i:Nat):(zEa L i).length<=2:=by have:=pk_lt L i 3 (by omega);rw[typesV_len];omega
theorem zLc(L:List UInt8)(i:Nat):zUa L i<=i+3:=by have:=pk_lt L i 3 (by omega);unfold zUa;omega
structure PlOk(p:HPl):Prop where
 y:p.yield.length<=2
 n:p.next.length<=2
 l:p.left.length<=2
theorem endL_le{p:HPl}(h:PlOk p)(k:Nat):(endL p k).2.length<=2:=by
 unfold endL;split
 ·exact h.y
 ·split
  ·exact h.n
  ·split
   ·exact h.l
   ·simp
theorem endN_le(L:List UInt8){p:HPl}(h:PlOk p)(i:Nat):endN L p i<=i+3:=by have:=endL_le h (pk L i 6);unfold endN;omega
theorem endG_wt(L:List UInt8)(seen ts:List Int){p:HPl}(h:PlOk p)(i:Nat):wtN (endG L seen ts p i)<=3:=by
 have:=endL_le h (pk L i 6);simp[endG,wtN,wtK,zua];omega
structure SimOk(s:Node×Nat×List Int)(i n:Nat):Prop where
 i:s.2.1<=i+4
 t:s.2.2.length<=1
 o:∀x∈s.1.outs,0<=x/\x<(n+s.2.2.length:Nat)
 ol:s.1.outs.length<=2
 w:wtN s.1<=6
theorem simple_ok(L:List UInt8)(seen ts:List Int)(i:Nat):SimOk (zaa L seen ts i) i ts.length:=by
 unfold zaa;split<;>try(refine⟨by simp;try omega,by simp,?_,by simp,by simp[wtN,wtK,zua]⟩;intro x hx;simp at hx;simp;omega)
 all_goals try(refine⟨by simp,by simp,by simp,by simp,by simp[wtN,wtK,zua]⟩)
 split<;>try(refine⟨by simp;try omega,by simp,?_,by simp,by simp[wtN,wtK,zua]⟩;intro x hx;simp at hx;simp;omega)
 all_goals refine⟨by simp,by simp,by simp,by simp,by simp[wtN,wtK,zua]⟩
structure MdL(k:Nat)(m:Md (List Node))(i:Nat)(ts:List Int)(left w:Nat):Prop where
 i:m.i+100*m.left<=i+100*left+k
 t:∃x,m.ts=ts++x
 tl:m.ts.length+10*m.left<=ts.length+10*left
 w:wtL m.n+100*m.left<=w+100*left+10
structure MdN(m:Md Node)(i:Nat)(ts:List Int)(left:Nat):Prop where
 i:m.i+100*m.left<=i+100*left+60
 t:∃x,m.ts=ts++x
 tl:m.ts.length+10*m.left<=ts.length+10*left+8
 w:wtN m.n+100*m.left<=100*left+60
 o:∀x∈m.n.outs,0<=x/\x<m.ts.length
 ol:m.n.outs.length<=2
def LGok(f:LG):Prop:=∀seen p i ts left,PlOk p->MdL 10 (f seen p i ts left) i ts left 0
theorem outed_ok{n:Node}{i:Nat}{ts:List Int}{left:Nat}{t:List Int}(ht:t.length<=2)(ho:n.outs=[]){i0:Nat}{ts0:List Int}{left0:Nat}(hi:i+100*left<=i0+100*left0+60)(hx:∃x,ts=ts0++x)
  (hl:ts.length+10*left<=ts0.length+10*left0+6) (hw:wtN n+100*left<=100*left0+58):MdN (outed n i ts left t) i0 ts0 left0:=by
 unfold outed;split
 ·exact⟨hi,hx,by simp only;omega,by simp only;omega,by simp[ho],by simp[ho]⟩
 ·obtain⟨x,hx⟩:=hx;refine⟨hi,⟨x++t,by simp[hx]⟩,by simp only[yj];omega,?_,?_,by simp only[zcb];exact ht⟩
  ·simp only;rw[zeb]at hw ⊢;simp only[zcb,ho,yP]at hw ⊢;omega
  ·intro y hy;have:=newV_mem _ _ _ hy;simp only[yj];omega
theorem nodeG_ok(L:List UInt8)(rc:Option LG)(hrc:∀f,rc=some f->LGok f)(all:List Int)(p:HPl)(hp:PlOk p)(i:Nat)(ts:List Int)(left:Nat):MdN (nodeG L rc all p i ts left) i ts left:=by
 have hs:=simple_ok L all ts i;have key:MdN ⟨(zaa L all ts i).1,(zaa L all ts i).2.1+1,ts++(zaa L all ts i).2.2,left⟩ i ts left:=by
  have h1:=hs.i;have h2:=hs.t;have h3:=hs.w;refine⟨by simp only;omega,⟨_,rfl⟩,by simp only[yj];omega,by simp only;omega,?_,hs.ol⟩;intro x hx;have:=hs.o x hx;simp only[yj];omega
 unfold nodeG;cases rc with
 |none=>exact key
 |some f=>
  have hf:=hrc f rfl;generalize zaa L all ts i=s at*;have h1:=hs.i;have h2:=hs.t;simp only;split
  ·unfold ifG;have t1:=zLc L (s.2.1+1);have t2:=zKc L (s.2.1+1);have a:=hf all ⟨true,p.loop,zEa L (s.2.1+1),p.next,p.left⟩ (zUa L (s.2.1+1)+1) (ts++s.2.2) left ⟨t2,hp.n,hp.l⟩;simp only;generalize f all ⟨true,p.loop,zEa L (s.2.1+1),p.next,p.left⟩ (zUa L (s.2.1+1)+1) (ts++s.2.2) left=A at*;have b:=hf all ⟨true,p.loop,zEa L (s.2.1+1),p.next,p.left⟩ A.i A.ts A.left ⟨t2,hp.n,hp.l⟩;generalize f all ⟨true,p.loop,zEa L (s.2.1+1),p.next,p.left⟩ A.i A.ts A.left=B at*;obtain⟨a1,⟨x,a2⟩,a3,a4⟩:=a;obtain⟨b1,⟨y,b2⟩,b3,b4⟩:=b;refine outed_ok t2 rfl (by omega) ⟨s.2.2++x++y,by rw[b2,a2];simp⟩ (by simp only[yj]at a3;omega) ?_;simp[wtN,wtK,zua];omega
  ·split
   ·unfold loopG;have t1:=zLc L (s.2.1+1);have t2:=zKc L (s.2.1+1);have t3:=zLc L (zUa L (s.2.1+1));have t4:=zKc L (zUa L (s.2.1+1));simp only;have a:=hf (all++newV (ts++s.2.2).length (zEa L (s.2.1+1)).length) ⟨false,true,[],zEa L (s.2.1+1),zEa L (zUa L (s.2.1+1))⟩ (zUa L (zUa L (s.2.1+1))+(zEa L (s.2.1+1)).length) (ts++s.2.2++zEa L (s.2.1+1)) left ⟨by simp,t2,t4⟩;generalize f (all++newV (ts++s.2.2).length (zEa L (s.2.1+1)).length) ⟨false,true,[],zEa L (s.2.1+1),zEa L (zUa L (s.2.1+1))⟩ (zUa L (zUa L (s.2.1+1))+(zEa L (s.2.1+1)).length) (ts++s.2.2++zEa L (s.2.1+1)) left=A at*;obtain⟨a1,⟨x,a2⟩,a3,a4⟩:=a;refine outed_ok t4 rfl (by omega) ⟨s.2.2++zEa L (s.2.1+1)++x,by rw[a2];simp⟩ (by simp only[yj]at a3;omega) ?_;simp[wtN,wtK,zua,zcb];omega
   ·exact key
theorem finG_ok(L:List UInt8){p:HPl}(hp:PlOk p)(out:List Node)(all:List Int)(i:Nat)(ts:List Int)(left:Nat):MdL 5 (finG L p out all i ts left) i ts left (wtL out):=by
 have h1:=endN_le L hp i;have h2:=endG_wt L all ts hp i;refine⟨by simp only[finG];omega,⟨[],by simp[finG]⟩,by simp only[finG];omega,?_⟩;simp only[finG,zJc,wtL];omega
theorem runG_ok(L:List UInt8)(rc:Option LG)(hrc:∀f,rc=some f->LGok f)(p:HPl)(hp:PlOk p):∀c out all i ts left,MdL 5 (runG L rc p c out all i ts left) i ts left (wtL out):=by
 intro c
 induction c with
 |zero=>intro out all i ts left;exact finG_ok L hp out all i ts left
 |succ c ih=>
  intro out all i ts left;unfold runG;split
  ·exact finG_ok L hp out all i ts left
  ·rename_i h0;have hn:=nodeG_ok L rc hrc all p hp i ts (left-1);simp only;generalize nodeG L rc all p i ts (left-1)=r at*;obtain⟨n1,⟨x,n2⟩,n3,n4,n5,n6⟩:=hn;split
   ·refine⟨by simp only;omega,⟨x,n2⟩,by simp only;omega,?_⟩;simp only[zJc,wtL];omega
   ·have hr:=ih (out++[r.n]) (all++r.n.outs) r.i r.ts r.left;obtain⟨m1,⟨y,m2⟩,m3,m4⟩:=hr;refine⟨by omega,⟨x++y,by rw[m2,n2];simp⟩,by omega,?_⟩;simp only[zJc,wtL]at m4;omega
theorem listG_ok(L:List UInt8):∀d,LGok (zFc L d):=by
 intro d
 induction d with
 |zero=>
  intro seen p i ts left hp;have:=runG_ok L none (by simp) p hp (pk L i 6) [] seen (i+1) ts left;exact⟨by have:=this.i;simp only[zFc];omega,this.t,this.tl,this.w⟩
 |succ d ih=>
  intro seen p i ts left hp;have:=runG_ok L (some (zFc L d)) (by intro f hf;cases hf;exact ih) p hp (pk L i 6) [] seen (i+1) ts left;exact⟨by have:=this.i;simp only[zFc];omega,this.t,this.tl,this.w⟩
def u8s(l:List UInt8):PV:= .slice .plain 1 (l.map fun b=> .int .u8 b.toNat)
theorem remNat(a b:Nat):remK (a:Int) (b:Int)=((a%b:Nat):Int):=by rw[remK_eq];exact Int.ofNat_tmod a b
@[simp] theorem rebuild_agg2(a b:List PV):zz (.agg a) b= .agg b:=rfl
def gst(τ:zb)(L:List UInt8)(i:Nat)(ts:List Int)(left:Nat):zb:= .arr 4 [.agg [u8s L,.int .i64 i,acc 1 (ts.map (PV.int .i64)),.int .i64 left]]::τ
structure SoS where
 d:List Int
 r:List Int
 k:Int
 v:Int
theorem atA_get{l:List Int}{v:Int}(h0:0<=v)(h1:v<l.length):l[v.toNat]? =some (atA l v.toNat):=zJb h0 h1
section
variable (τ:zb) (L:List UInt8) (hL:L.length<=9223372036854775807)
include hL
theorem zra(i n:Nat)(ts:List Int)(left:Nat)(hn:0<n/\n<=1000)(hi:i<=1000000000000):
  zm E 54 [.ptr 0 0 0,.int .i64 n] (gst τ L i ts left)=some (.ret (.int .i64 (pk L i n)),gst τ L (i+1) ts left):=by
 refine zc rfl rfl rfl (by simp) ?_;have hw:zT .i64 ((i:Int)+1)=(i:Int)+1:=zn (by omega) (by omega);by_cases h1:L.length<i+1
 ·have k1:((L.length:Int)<(i:Int)+1)=True:=eqp (by omega);have h2:pk L i n=0:=by simp[pk,h1]
  clear h1;simp[*,F54,gst,u8s]
 ·have k1:((L.length:Int)<(i:Int)+1)=False:=eqn (by omega);by_cases h3:150<i+1
  ·have k3:((150:Int)<(i:Int)+1)=True:=eqp (by omega);have h2:pk L i n=0:=by simp only[pk,h3,or_true,if_true]
   clear h1 h3;simp[*,F54,gst,u8s]
  ·have k3:((150:Int)<(i:Int)+1)=False:=eqn (by omega);obtain⟨b,hb⟩:∃b,L[i]? =some b:=⟨_,ye (by omega)⟩
   have h2:pk L i n=b.toNat%n:=by simp only[pk,h1,h3,or_self,if_false,hb,yO]
   have hr:remK (b.toNat:Int) (n:Int)=((b.toNat%n:Nat):Int):=remNat _ _;have hw2:zT .i64 (i:Int)=(i:Int):=zn (by omega) (by omega);have hn0:(n=0)=False:=eqn (by omega);clear h1 h3 hL;simp[*,F54,gst,u8s]
omit hL in
theorem fresh_spec(i:Nat)(ts:List Int)(left:Nat)(t:Int)(ht:ts.length<=1000000):
  zm E 36 [.ptr 0 0 0,.int .i64 t] (gst τ L i ts left)=some (.ret (.int .i64 ts.length),gst τ L i (ts++[t]) left):=by
 refine zc rfl rfl rfl (by simp) ?_;have q4:(ts.length+1)*8<=zk:=by simp only[zk];omega
 have hw:zT .i64 (ts.length:Int)=ts.length:=zn (by omega) (by omega);have hw0:zT .i64 0=0:=zn (by omega) (by omega);cases ts with
 |nil=>simp[zk]at q4;simp[*,F36,gst,zk]
 |cons x r=>
  simp at q4 hw;simp[*,F36,gst]
theorem gsome_spec(i:Nat)(ts:List Int)(left:Nat)(seen:List Int)(t:Int)(hs:seen.length<=1000000)(hi:i<=1000000000000)(ht:ts.length<=1000000)(hr:∀x∈seen,0<=x/\x<ts.length):
  zm E 76 [.ptr 0 0 0,ints seen,.int .i64 t] (gst τ L i ts left)=some (.ret (.int .i64 (someV ts seen t (pk L i 8))),gst τ L (i+1) ts left):=by
 refine zc rfl rfl rfl (by simp) ?_;have hp:=zra τ L hL i 8 ts left (by omega) hi;have hk:=pk_lt L i 8 (by omega);have hsv:someV ts seen t (pk L i 8)=some2 ts t seen (some1 ts t seen true (pk L i 8) 0):=rfl;generalize pk L i 8=k at*;simp at hp;simp[hp,F76,ints];clear hp hL;refine wp_while K76_0 B76_0 (fun c:SoS=>c.r.length) (fun c=>[(7,.int .i64 c.k),(8,.int .i64 c.v),(9,.int .i64 c.d.length)]) (fun _=>[]) (fun _=>gst τ L (i+1) ts left)
  (fun c=>seen=c.d++c.r/\some1 ts t c.r c.d.isEmpty c.k c.v=some1 ts t seen true k 0/\ -(c.d.length:Int)<=c.k/\c.k<=8/\(c.v∈seen\/c.v=0)) ⟨[],seen,k,0⟩ ⟨by simp,by simp,by simp,by simp;omega⟩ ?_
 rintro⟨d,r,k1,v⟩ s1 ⟨hd,hm,hk1,hk2,hv⟩ h1 h2 h3 h4 h5
 simp only at hd hm hk1 hk2 hv h3 h5;simp at h1 h3;clear h2 h4;cases r with
 |nil=>
  simp at hd;subst hd;simp only[some1]at hm;rw[<-hm]at hsv;clear hm;have hw1:zT .i64 (seen.length:Int)=(seen.length:Int):=zn (by omega) (by omega);simp[h1,h3,h5];clear hk1 hk2 hk h1 h3 h5;refine wp_while K76_1 B76_1 (fun c:SoS=>c.r.length) (fun c=>[(8,.int .i64 c.v),(10,.int .i64 c.d.length)]) (fun _=>[]) (fun _=>gst τ L (i+1) ts left)
   (fun c=>seen=c.d++c.r/\some2 ts t c.r c.v=some2 ts t seen v/\(c.v∈seen\/c.v=0)) ⟨[],seen,k,v⟩ ⟨by simp,by simp,by simp,rfl,rfl,hv⟩ ?_
  rintro⟨d,r,k2,v1⟩ s2 ⟨hd,hm,hv1⟩ h1 h2 h3 h4 h5
  simp only at hd hm hv1 h3 h5;simp at h1 h3;clear h2 h4 hv;cases r with
  |nil=>
   simp at hd;subst hd;rw[<-hm]at hsv;simp only[some2]at hsv;simp[h1,h3,h5,hsv,gst]
  |cons x r=>
   have g0:seen[d.length]? =some x:=by rw[hd];simp
   have g1:d.length<seen.length:=by rw[hd];simp
   have hx:=hr x (by rw[hd];simp);have g0':seen[d.length]'g1=x:=(yc.1 g0).2;have g2:=atA_get hx.1 hx.2;have g3:x.toNat<ts.length:=by omega
   have g2':ts[x.toNat]'g3=atA ts x.toNat:=(yc.1 g2).2;have hv2:0<=v1/\v1<ts.length:=by
    rcases hv1 with h|h
    ·exact hr _ h
    ·omega
   have f0:=hv2.1;have f2:=atA_get hv2.1 hv2.2;have f3:v1.toNat<ts.length:=by omega
   have f2':ts[v1.toNat]'f3=atA ts v1.toNat:=(yc.1 f2).2;have hw:zT .i64 ((d.length:Int)+1)=(d.length:Int)+1:=zn (by omega) (by omega);have hx0:=hx.1;have hxm:x∈seen:=by rw[hd];simp
   rw[some2]at hm;by_cases e0:atA ts v1.toNat=t
   ·rw[if_pos e0]at hm;rw[<-hm]at hsv;simp[h1,h3,h5,g0,g0',g1,g2,g2',g3,f0,f2,f2',f3,hx0,e0,hsv,gst]
   ·rw[if_neg e0]at hm;by_cases e1:atA ts x.toNat=t
    ·rw[if_pos e1]at hm;simp[h1,h3,h5,g0,g0',g1,g2,g2',g3,f0,f2,f2',f3,hw,hx0,e0,e1,gst];refine⟨⟨d++[x],r,0,x⟩,by simp,?_⟩;simp[h1,h3,h5,hw,gst]
     and_intros<;>first|exact hd|exact hm|exact .inl hxm
    ·rw[if_neg e1]at hm;simp[h1,h3,h5,g0,g0',g1,g2,g2',g3,f0,f2,f2',f3,hw,hx0,e0,e1,gst];refine⟨⟨d++[x],r,0,v1⟩,by simp,?_⟩;simp[h1,h3,h5,hw,gst]
     and_intros<;>first|exact hd|exact hm|exact hv1
 |cons x r=>
  have g0:seen[d.length]? =some x:=by rw[hd];simp
  have g1:d.length<seen.length:=by rw[hd];simp
  have hx:=hr x (by rw[hd];simp);have g0':seen[d.length]'g1=x:=(yc.1 g0).2;have g2:=atA_get hx.1 hx.2;have g3:x.toNat<ts.length:=by omega
  have g2':ts[x.toNat]'g3=atA ts x.toNat:=(yc.1 g2).2;have hw:zT .i64 ((d.length:Int)+1)=(d.length:Int)+1:=zn (by omega) (by omega);have hw2:zT .i64 (k1-1)=k1-1:=zn (by omega) (by omega);rw[some1]at hm;clear hsv;have hx0:=hx.1;have hxm:x∈seen:=by rw[hd];simp
  have h9:(d.length:Int)+1=((d++[x]).length:Int):=by simp
  have hne:(d++[x]).isEmpty=false:=by simp
  by_cases e1:atA ts x.toNat=t
  ·by_cases e0:d=[]
   ·subst e0;rw[if_pos ⟨e1,.inl rfl⟩]at hm;simp at h3 g0 g0' g1 hk1 hw hne;simp[h1,h3,h5,g0,g0',g1,g2,g2',g3,hw2,hx0,e1,gst];refine⟨⟨[x],r,k1-1,x⟩,by simp,?_⟩;simp[h1,h3,h5,hne,hw,hw2,gst]
    and_intros<;>first|exact hd|exact hm|exact hv|exact .inl hxm|(simp;omega)|omega
   ·by_cases e2:0<k1
    ·rw[if_pos ⟨e1,.inr e2⟩]at hm;simp[h1,h3,h5,g0,g0',g1,g2,g2',g3,hw,hw2,hx0,e1,e2,e0,gst];refine⟨⟨d++[x],r,k1-1,x⟩,by simp,?_⟩;simp[h1,h3,h5,hne,hw,hw2,gst]
     and_intros<;>first|exact hd|exact hm|exact hv|exact .inl hxm|(simp;omega)|omega
    ·rw[if_neg (by simp[e0,e2])]at hm;simp[h1,h3,h5,g0,g0',g1,g2,g2',g3,hw,hw2,hx0,e1,e2,e0,gst];refine⟨⟨d++[x],r,k1,v⟩,by simp,?_⟩;simp[h1,h3,h5,hne,hw,hw2,gst]
     and_intros<;>first|exact hd|exact hm|exact hv|exact .inl hxm|(simp;omega)|omega
  ·rw[if_neg (fun h=>e1 h.1)]at hm;simp[h1,h3,h5,g0,g0',g1,g2,g2',g3,hw,hw2,hx0,e1,gst];refine⟨⟨d++[x],r,k1,v⟩,by simp,?_⟩;simp[h1,h3,h5,hne,hw,hw2,gst]
   and_intros<;>first|exact hd|exact hm|exact hv|exact .inl hxm|(simp;omega)|omega
end
theorem eachV_append(L:List UInt8)(ts seen:List Int)(t:Int):∀(d:List Int) (i:Nat),zhb L ts seen (d++[t]) i=zhb L ts seen d i++[someV ts seen t (pk L (i+d.length) 8)]
 | [],i=>by simp[zhb]
 |x::r,i=>by
  have:=eachV_append L ts seen t r (i+1);simp only[yha,zhb,this,yU];rw[show i+1+r.length=i+(r.length+1) by omega]
def zI(l:List Int):List PV:=l.map (PV.int .i64)
section
variable (τ:zb) (L:List UInt8) (hL:L.length<=9223372036854775807)
include hL
theorem zha(i:Nat)(ts:List Int)(left:Nat)(seen types:List Int)(hs:seen.length<=1000000)(hi:i+types.length<=1000000000000)(ht:ts.length<=1000000)(hr:∀x∈seen,0<=x/\x<ts.length)(hy:types.length<=1000000):
  zm E 57 [.ptr 0 0 0,ints seen,ints types] (gst τ L i ts left)=some (.ret (ints (zhb L ts seen types i)),gst τ L (i+types.length) ts left):=by
 refine zc rfl rfl rfl (by simp) ?_;simp[F57,ints];refine zH types K57_0 B57_0 (fun d=>[(7,acc 1 (zI (zhb L ts seen d i))),(8,.int .i64 d.length)]) (fun d=>gst τ L (i+d.length) ts left) (fun _=>True) (by omega) (by simp[zhb,zI]) ?_ ?_
 ·intros d x r s hl' hlt hget hget' hw hp h1 h2 h3 h4;simp at h1 h3;clear h2;have hsm:=gsome_spec τ L hL (i+d.length) ts left seen x hs (by omega) ht hr;have he:=eachV_append L ts seen x d i;have hi2:i+d.length+1=i+(d.length+1):=by omega
  rw[hi2]at hsm;simp[ints]at hsm;have q4:((zhb L ts seen d i).length+1)*8<=zk:=by rw[zua];simp only[zk];omega
  have q5:(zI (zhb L ts seen d i)).length=d.length:=by simp[zI,zua]
  have q6:(d.length+1)*8<=zk:=by rwa[zua]at q4
  have q7:zI (zhb L ts seen (d++[x]) i)=zI (zhb L ts seen d i)++[.int .i64 (someV ts seen x (pk L (i+d.length) 8))]:=by rw[he];simp[zI]
  clear hl' hs hi hr hL he;simp[*]
 ·intro s hp h1 h2 h3 h4;simp at h1 h3;clear h2 hL hr;simp[*,zI]
omit hL in
theorem zQb(i:Nat)(ts:List Int)(left:Nat)(types:List Int)(ht:ts.length+types.length<=1000000):
  zm E 35 [.ptr 0 0 0,ints types] (gst τ L i ts left)=some (.ret (acc 1 (zI (newV ts.length types.length))),gst τ L i (ts++types) left):=by
 refine pcall_wpO 4 rfl rfl rfl (by simp) ?_;simp[F35,ints];refine zH types K35_0 B35_0 (fun d=>[(5,acc 1 (zI (newV ts.length d.length))),(6,.int .i64 d.length)]) (fun d=>gst τ L i (ts++d) left) (fun _=>True) (by omega) (by simp[newV,zI]) ?_ ?_
 ·intros d x r s hl' hlt hget hget' hw hp h1 h2 h3 h4;simp at h1 h3;clear h2;have hf:=fresh_spec τ L i (ts++d) left x (by simp;omega);simp at hf;have q5:(zI (newV ts.length d.length)).length=d.length:=by simp[zI,zcb]
  have q6:(d.length+1)*8<=zk:=by simp only[zk];omega
  have q7:zI (newV ts.length (d.length+1))=zI (newV ts.length d.length)++[.int .i64 ((ts.length:Int)+d.length)]:=by simp[zI,newV]
  clear hl';simp[*]
 ·intro s hp h1 h2 h3 h4;simp at h1 h3;clear h2;simp[*,zI]
structure TyS where
 j:Nat
 m:Nat
theorem gtypes_spec(i:Nat)(ts:List Int)(left:Nat)(hi:i<=100000000000):
  zm E 56 [.ptr 0 0 0] (gst τ L i ts left)=some (.ret (ints (zEa L i)),gst τ L (zUa L i) ts left):=by
 refine zc rfl rfl rfl (by simp) ?_;have hp:=zra τ L hL i 3 ts left (by omega) (by omega);have hk:=pk_lt L i 3 (by omega);have h0:zEa L i=tyV L (i+1) (pk L i 3):=rfl;have h0':zUa L i=i+1+pk L i 3:=rfl;generalize pk L i 3=k at*;simp at hp;simp[hp,F56];refine wp_while K56_0 B56_0 (fun c:TyS=>c.m) (fun c=>[(3,acc 1 (zI (tyV L (i+1) c.j))),(4,.int .i64 c.m)]) (fun _=>[]) (fun c=>gst τ L (i+1+c.j) ts left)
  (fun c=>c.j+c.m=k) ⟨0,k⟩ ⟨by simp[tyV,zI],by simp,by simp,by simp⟩ ?_
 rintro⟨j,m⟩ s1 hj h1 h2 h3 h4 h5
 simp only at hj h3 h5;simp at h1 h3;clear h2 h4 hp;cases m with
 |zero=>
  simp at hj h3;subst hj;rw[h0,h0'];simp[h1,h3,h5,ints,zI]
 |succ m=>
  have hq:=zra τ L hL (i+1+j) 2 ts left (by omega) (by omega);have hq2:=pk_lt L (i+1+j) 2 (by omega);have q5:(zI (tyV L (i+1) j)).length=j:=by simp[zI,tyV_len]
  have q6:(j+1)*8<=zk:=by simp only[zk];omega
  have q7:zI (tyV L (i+1) (j+1))=zI (tyV L (i+1) j)++[.int .i64 (1+(pk L (i+1+j) 2:Int))]:=by simp[zI,tyV]
  have hw:zT .i64 (1+(pk L (i+1+j) 2:Int))=1+(pk L (i+1+j) 2:Int):=zn (by omega) (by omega);have hw2:zT .i64 (m:Int)=m:=zn (by omega) (by omega);have e1:((0:Int)<(m:Int)+1)=True:=eqp (by omega);simp at hq h3;simp[h1,h3,h5,hq,q5,q6,hw,hw2,e1];refine⟨⟨j+1,m⟩,by simp,?_⟩;simp[h1,h3,h5,q7,hw,hw2]
  and_intros<;>first|omega|rfl|(congr 1)|skip
end
mutual
def zpa:Node->PV
 |⟨k,o,n,s,a,u,p,ks⟩=> .agg [.int .i64 k,.int .i64 o,.int .i64 n,.str s,ints a,ints u,ints p,.slice .firm 1 (encKF ks)]
def encLF:List Node->List PV
 | []=>[]
 |x::r=>zpa x::encLF r
def encKF:List (List Node)->List PV
 | []=>[]
 |l::r=> .slice .plain 8 (encLF l)::encKF r
end
theorem encLF_eq(l:List Node):encLF l=l.map zpa:=by
 induction l with
 |nil=>rfl
 |cons x r ih=>rw[encLF,ih];rfl
def zC(l:List Node):PV:= .slice .plain 8 (l.map zpa)
def zW(l:List (List Node)):PV:= .slice .firm 1 (l.map zC)
theorem encKF_eq(l:List (List Node)):encKF l=l.map zC:=by
 induction l with
 |nil=>rfl
 |cons x r ih=>rw[encKF,ih,encLF_eq];rfl
theorem zh(x:Node):zpa x= .agg [.int .i64 x.kind,.int .i64 x.op,.int .i64 x.n,.str x.name,ints x.args,ints x.outs,ints x.params,zW x.kids]:=by
 cases x;simp[zpa,encKF_eq,zW]
mutual
theorem flatNF(k:Nat):∀x:Node,zp k (zpa x)=true
 |⟨_,_,_,_,a,u,p,ks⟩=>by simp[zpa,ints,flatKF k ks]
theorem flatLF(k:Nat):∀l:List Node,zD k (encLF l)=true
 | []=>rfl
 |x::r=>by simp[encLF,flatNF k x,flatLF k r]
theorem flatKF(k:Nat):∀l:List (List Node),zD k (encKF l)=true
 | []=>rfl
 |x::r=>by simp[encKF,flatLF k x,flatKF k r]
end
def zQa(f:Flow):PV:= .agg [.str f.name,.int .i64 f.type,.int .i64 f.params,ints f.types,zC f.body]
section
variable (k:Nat)
@[simp] theorem flat_nodesF(l:List Node):zp k (zC l)=true:=by
 unfold zC;simp only[zp];rw[<-encLF_eq];exact flatLF k l
@[simp high] theorem bl_nodesF(l:List (List Node)):zD k (l.map zC)=true:=zSb _ _ _ (flat_nodesF k)
end
section
@[simp high] theorem isVar_nodesF(l:List Node):zq (zC l)=true:=yd rfl rfl
@[simp high] theorem canon1_nodesF(l:List Node):canon1 (zC l)=zC l:=yd rfl rfl
@[simp high] theorem stripA_nodesF(l:List Node):stripA (zC l)=zC l:=yd rfl rfl
@[simp high] theorem canon1_kidsF(l:List (List Node)):canon1 (zW l)=zW l:=yd rfl rfl
end
mutual
theorem plain_nodeF:∀x:Node,plainV (zpa x)=zG x
 |⟨k,o,n,s,a,u,p,ks⟩=>by
  have h:=plain_kidsF ks;have hi:∀l:List Int,plainV (ints l)=ints l:=fun l=>by
   simp only[ints,zKa,List.map_map];congr 1
  simp only[zpa,zG,plainV_agg,yN,List.map_nil,plainV_int,plainV_str,plainV_firm,hi];rw[h]
theorem plain_listF:∀l:List Node,(encLF l).map plainV=encL l
 | []=>rfl
 |x::r=>by rw[encLF,encL,yN,plain_nodeF x,plain_listF r]
theorem plain_kidsF:∀l:List (List Node),(encKF l).map plainV=encK l
 | []=>rfl
 |x::r=>by rw[encKF,encK,yN,plain_kidsF r,zKa,plain_listF x]
end
@[simp high] theorem plain_intC:(plainV ∘ PV.int .i64)=PV.int .i64:=by funext x;rfl
@[simp high] theorem plain_nodeC:(plainV ∘ zpa)=zG:=by funext x;exact plain_nodeF x
@[simp high] theorem plain_intM(l:List Int):(l.map (PV.int .i64)).map plainV=l.map (PV.int .i64):=by rw[List.map_map,plain_intC]
@[simp high] theorem plain_nodeM(l:List Node):(l.map zpa).map plainV=l.map zG:=by rw[List.map_map,plain_nodeC]
@[simp high] theorem plain_ints(l:List Int):plainV (ints l)=ints l:=by simp only[ints,zKa,plain_intM]
@[simp high] theorem plain_nodesF(l:List Node):plainV (zC l)=zj l:=by simp only[zC,zj,zKa,plain_nodeM]
@[simp high] theorem plain_nodesC:(plainV ∘ zC)=zj:=by funext x;exact plain_nodesF x
@[simp high] theorem plain_nodesM(l:List (List Node)):(l.map zC).map plainV=l.map zj:=by rw[List.map_map,plain_nodesC]
@[simp high] theorem plain_nodeP(x:Node):plainV (zG x)=zG x:=by
 have key:∀(f:Node->Node->Prop),True:=fun _=>trivial
 exact plain_nodeQ x
where
 plain_nodeQ:∀x:Node,plainV (zG x)=zG x
  |⟨k,o,n,s,a,u,p,ks⟩=>by
   have h:=plain_kidsQ ks;simp only[zG,plainV_agg,yN,List.map_nil,plainV_int,plainV_str,zKa,plain_ints];rw[h]
 plain_listQ:∀l:List Node,(encL l).map plainV=encL l
  | []=>rfl
  |x::r=>by rw[encL,yN,plain_nodeQ x,plain_listQ r]
 plain_kidsQ:∀l:List (List Node),(encK l).map plainV=encK l
  | []=>rfl
  |x::r=>by rw[encK,yN,plain_kidsQ r,zKa,plain_listQ x]
@[simp high] theorem plain_nodesP(l:List Node):plainV (zj l)=zj l:=by
 simp only[zj,zKa,List.map_map];congr 1;exact List.map_congr_left fun x _=>plain_nodeP x
@[simp] theorem freezeK_int(k n:Nat)(st:zb)(i:IntKind)(z:Int):zB k n st (.int i z)= .int i z:=by cases k<;>rfl
@[simp] theorem freezeK_str(k n:Nat)(st:zb)(z:List UInt8):zB k n st (.str z)= .str z:=by cases k<;>rfl
@[simp] theorem freezeK_slice(k n:Nat)(st:zb)(κ:SK)(z:Nat)(l:List PV):zB k n st (.slice κ z l)= .slice κ z l:=by cases k<;>rfl
@[simp high] theorem freezeK_nodes(k n:Nat)(st:zb)(l:List Node):zB k n st (zj l)=zj l:=freezeK_slice _ _ _ _ _ _
@[simp high] theorem freezeK_nodesF(k n:Nat)(st:zb)(l:List Node):zB k n st (zC l)=zC l:=freezeK_slice _ _ _ _ _ _
@[simp] theorem freezeK_agg12(st:zb)(l:List PV):zB 12 0 st (.agg l)= .agg (l.map (zB 11 0 st)):=rfl
def zkc(p:HPl):PV:= .agg [.bool p.iff,.bool p.loop,ints p.yield,ints p.next,ints p.left]
theorem newV1(n:Nat):newV n 1=[(n:Int)]:=by simp[newV]
section
variable (τ:zb) (L:List UInt8) (hL:L.length<=9223372036854775807)
include hL
set_option maxHeartbeats 4000000 in
theorem gsimple_spec(i:Nat)(ts:List Int)(left:Nat)(seen:List Int)(hs:seen.length<=1000000)(hi:i<=100000000000)(ht:ts.length<=999990)(hr:∀x∈seen,0<=x/\x<ts.length):
  zm E 55 [.ptr 0 0 0,ints seen] (gst τ L i ts left)=some (.ret (zpa (zaa L seen ts i).1),gst τ L (zaa L seen ts i).2.1 (ts++(zaa L seen ts i).2.2) left):=by
 refine zc rfl rfl rfl (by simp) ?_;have p0:=zra τ L hL i 12 ts left (by omega) (by omega);have p1:=zra τ L hL (i+1) 6 ts left (by omega) (by omega);have p2:=zra τ L hL (i+1) 2 ts left (by omega) (by omega);have p3:=zra τ L hL (i+1) 4 ts left (by omega) (by omega);have p4:=zra τ L hL (i+1) 11 ts left (by omega) (by omega);have a1:=zha τ L hL (i+1) ts left seen [1] hs (by simp;omega) (by omega) hr (by simp);have a2:=zha τ L hL (i+2) ts left seen [1] hs (by simp;omega) (by omega) hr (by simp);have a3:=zha τ L hL (i+1) ts left seen [2] hs (by simp;omega) (by omega) hr (by simp);have a4:=zha τ L hL (i+1) ts left seen [1,1] hs (by simp;omega) (by omega) hr (by simp);have a5:=zha τ L hL (i+2) ts left seen [1,1] hs (by simp;omega) (by omega) hr (by simp);have a6:=zha τ L hL (i+2) ts left seen [1,2] hs (by simp;omega) (by omega) hr (by simp);have o1:=fun i=>zQb τ L i ts left [1] (by simp;omega)
 have o2:=fun i=>zQb τ L i ts left [2] (by simp;omega)
 have h12:=pk_lt L i 12 (by omega);have h6:=pk_lt L (i+1) 6 (by omega);have h4:=pk_lt L (i+1) 4 (by omega);have h11:=pk_lt L (i+1) 11 (by omega);have w1:zT .i64 (1+(pk L (i+1) 11:Int))=1+(pk L (i+1) 11:Int):=zn (by omega) (by omega);have w2:zT .i64 (12+(pk L (i+1) 6:Int))=12+(pk L (i+1) 6:Int):=zn (by omega) (by omega);simp[ints,zI,newV1]at p0 p1 p2 p3 p4 a1 a2 a3 a4 a5 a6 o1 o2;have hc:pk L i 12=0\/pk L i 12=1\/pk L i 12=2\/pk L i 12=3\/pk L i 12=4\/pk L i 12=5\/pk L i 12=6\/pk L i 12=7\/pk L i 12=8\/pk L i 12=9\/pk L i 12=10\/pk L i 12=11:=by omega
 have hc6:pk L (i+1) 6=0\/pk L (i+1) 6=1\/pk L (i+1) 6=2\/pk L (i+1) 6=3\/pk L (i+1) 6=4\/pk L (i+1) 6=5:=by omega
 have hc4:pk L (i+1) 4=0\/pk L (i+1) 4=1\/pk L (i+1) 4=2\/pk L (i+1) 4=3:=by omega
 clear hL hs hi ht hr h12 h6 h4 h11;rcases hc with h|h|h|h|h|h|h|h|h|h|h|h
 ·rcases hc6 with k|k|k|k|k|k<;>simp[h,k]at p0 p1<;>simp[*,zaa,F55,zh,za,ints,zW,kids,atA]
 ·simp[h]at p0;simp[*,zaa,F55,zh,za,ints,zW,kids,atA]
 ·rcases hc4 with k|k|k|k<;>simp[h,k]at p0 p3<;>simp[*,zaa,F55,zh,za,ints,zW,kids,atA]
 ·simp[h]at p0;simp[*,zaa,F55,zh,za,ints,zW,kids,atA]
 ·simp[h]at p0;simp[*,zaa,F55,zh,za,ints,zW,kids,atA]
 ·simp[h]at p0;simp[*,zaa,F55,zh,za,ints,zW,kids,atA]
 ·simp[h]at p0;simp[*,zaa,F55,zh,za,ints,zW,kids,atA]
 ·simp[h]at p0;simp[*,zaa,F55,zh,za,ints,zW,kids,atA]
 ·simp[h]at p0;simp[*,zaa,F55,zh,za,ints,zW,kids,atA]
 ·simp[h]at p0;simp[*,zaa,F55,zh,za,ints,zW,kids,atA]
 ·simp[h]at p0;simp[*,zaa,F55,zh,za,ints,zW,kids,atA]
 ·rcases hc4 with k|k|k|k<;>simp[h,k]at p0 p3<;>simp[*,zaa,F55,zh,za,ints,zW,kids,atA]
theorem gend_spec(i:Nat)(ts:List Int)(left:Nat)(seen:List Int)(p:HPl)(hp:PlOk p)(hs:seen.length<=1000000)(hi:i<=100000000000)(ht:ts.length<=999990)(hr:∀x∈seen,0<=x/\x<ts.length):
  zm E 59 [.ptr 0 0 0,ints seen,zkc p] (gst τ L i ts left)=some (.ret (zpa (endG L seen ts p i)),gst τ L (endN L p i) ts left):=by
 refine zc rfl rfl rfl (by simp[zkc]) ?_;have p0:=zra τ L hL i 6 ts left (by omega) (by omega);have a1:=zha τ L hL (i+1) ts left seen p.yield hs (by have:=hp.y;omega) (by omega) hr (by have:=hp.y;omega);have a2:=zha τ L hL (i+1) ts left seen p.next hs (by have:=hp.n;omega) (by omega) hr (by have:=hp.n;omega);have a3:=zha τ L hL (i+1) ts left seen p.left hs (by have:=hp.l;omega) (by omega) hr (by have:=hp.l;omega);have a4:=zha τ L hL (i+1) ts left seen [1] hs (by simp;omega) (by omega) hr (by simp);have hr2:remK (pk L i 6:Int) 2=((pk L i 6%2:Nat):Int):=by have:=remNat (pk L i 6) 2;simpa using this
 simp[ints]at p0 a1 a2 a3 a4;have e1:endG L seen ts p i=nd (endL p (pk L i 6)).1 0 0 [] (zhb L ts seen (endL p (pk L i 6)).2 (i+1)) []:=rfl;have e2:endN L p i=i+1+(endL p (pk L i 6)).2.length:=rfl;rw[e1,e2];generalize pk L i 6=k at*;have hk4:((k:Int)<4)=(k<4):=by apply propext;omega
 have hk2:((k:Int)%2=0)=(k%2=0):=by apply propext;omega
 clear hL hs hi ht hr e1 e2 hp;obtain⟨iff,loop,yield,next,lft⟩:=p;simp only at a1 a2 a3;by_cases c1:k<4<;>by_cases c2:k%2=0<;>cases iff<;>cases loop<;>simp[*,endL,F59,zh,za,ints,zW,kids,zkc]
end
structure LsS where
 m:Nat
 out:List Node
 all:List Int
 i:Nat
 ts:List Int
 left:Nat
def rcOf(L:List UInt8):Nat->Option LG
 |0=>none
 |d+1=>some (zFc L d)
theorem listG_eq(L:List UInt8)(d:Nat)(seen:List Int)(p:HPl)(i:Nat)(ts:List Int)(left:Nat):zFc L d seen p i ts left=runG L (rcOf L d) p (pk L i 6) [] seen (i+1) ts left:=by
 cases d<;>rfl
theorem rcOf_ok(L:List UInt8)(d:Nat):∀f,rcOf L d=some f->LGok f:=by
 intro f h;cases d with
 |zero=>simp[rcOf]at h
 |succ d=>simp[rcOf]at h;subst h;exact listG_ok L d
structure LsPre(d i:Nat)(ts:List Int)(left:Nat)(seen:List Int)(p:HPl):Prop where
 p:PlOk p
 s:seen.length+100*d<=1000
 i:i+100*left<=10000000
 t:ts.length+10*left<=100000
 r:∀x∈seen,0<=x/\x<ts.length
def LsOk(τ:zb)(L:List UInt8)(d:Nat):Prop:=∀i ts left seen p,LsPre d i ts left seen p→
 zm E 37 [.ptr 0 0 0,ints seen,zkc p,.int .i64 d] (gst τ L i ts left)=some (.ret (zC (zFc L d seen p i ts left).n),gst τ L (zFc L d seen p i ts left).i (zFc L d seen p i ts left).ts (zFc L d seen p i ts left).left)
structure LsInv(L:List UInt8)(d:Nat)(p:HPl)(M:Md (List Node))(k:Nat)(c:LsS):Prop where
 run:runG L (rcOf L d) p c.m c.out c.all c.i c.ts c.left=M
 m:c.m<=5
 o:c.out.length+c.m<=5
 a:c.all.length+100*d+2*c.m<=1010
 i:c.i+100*c.left<=10000001
 t:c.ts.length+10*c.left<=100000
 r:∀x∈c.all,0<=x/\x<c.ts.length
theorem LsInv.step{L:List UInt8}{d:Nat}{p:HPl}{M:Md (List Node)}{k m:Nat}{out:List Node}{all:List Int}{i:Nat}{ts:List Int}{left:Nat}(hp:PlOk p)(h:LsInv L d p M k ⟨m+1,out,all,i,ts,left+1⟩){r:Md Node}(hr:nodeG L (rcOf L d) all p i ts left=r):
  if zU r.n=true then M=⟨out++[r.n],r.i,r.ts,r.left⟩else LsInv L d p M k ⟨m,out++[r.n],all++r.n.outs,r.i,r.ts,r.left⟩:=by
 obtain⟨h1,h2,h3,h4,h5,h6,h7⟩:=h;simp only at h1 h2 h3 h4 h5 h6 h7;have hn:=nodeG_ok L (rcOf L d) (rcOf_ok L d) all p hp i ts left;rw[hr]at hn;rw[runG]at h1;simp only[Nat.add_one_ne_zero,if_false,Nat.add_sub_cancel,hr]at h1;split
 ·rename_i hc;rw[if_pos hc]at h1;exact h1.symm
 ·rename_i hc;rw[if_neg hc]at h1;obtain⟨n1,⟨x,n2⟩,n3,n4,n5,n6⟩:=hn;refine⟨h1,by simp only;omega,by simp only[yj,List.length_singleton];omega,by simp only[yj];omega,by simp only;omega,by simp only;omega,?_⟩;intro y hy;simp only[yz]at hy;rcases hy with hy|hy
  ·have:=h7 y hy;simp only[n2,yj];omega
  ·exact n5 y hy
section
variable (τ:zb) (L:List UInt8) (hL:L.length<=9223372036854775807)
include hL
set_option maxRecDepth 20000 in
set_option maxHeartbeats 8000000 in
theorem glist_of(d:Nat)(hd:d<=3)(hrec:∀e,d=e+1->LsOk τ L e):LsOk τ L d:=by
 intro i ts left seen p hpre;obtain⟨hp,hs,hi,ht,hr⟩:=hpre;refine zc rfl rfl rfl (by simp[zkc]) ?_;have p0:=zra τ L hL i 6 ts left (by omega) (by omega);have hk:=pk_lt L i 6 (by omega);have hM:=listG_eq L d seen p i ts left;generalize zFc L d seen p i ts left=M at*;generalize pk L i 6=k at*;have hsz:seen.length*8<=zk:=by simp only[zk];omega
 simp at p0;simp[p0,hsz,F37,ints,zkc];refine wp_while K37_0 B37_0 (fun c:LsS=>c.m) (fun c=>[(9,acc 8 (c.out.map zpa)),(10,acc 1 (zI c.all)),(11,.int .i64 c.m)]) (fun _=>[]) (fun c=>gst τ L c.i c.ts c.left)
  (LsInv L d p M k) ⟨k,[],seen,i+1,ts,left⟩ ⟨by simp[zI],by simp,by simp,⟨hM.symm,by simp only;omega,by simp only[yP];omega,by simp only;omega,by simp only;omega,by simp only;omega,hr⟩⟩ ?_
 rintro⟨m,out,all,i',ts',left'⟩ s1 hinv h1 h2 h3 h4 h5
 simp only at h3 h5;simp at h1 h2 h3;clear h4 p0 hM hs hi ht hr hsz;have hoo:(out.map zpa).length=out.length:=by simp
 have hol:=hinv.o;simp only at hol;have hob:(out.length+1)*136<=zk:=by simp only[zk];omega
 have hend:=gend_spec τ L hL i' ts' left' all p hp (by have:=hinv.a;simp only at this;omega) (by have:=hinv.i;simp only at this;omega) (by have:=hinv.t;simp only at this;omega) hinv.r;simp[ints,zkc,zh,za,gst]at hend;have hfin:m=0\/left'=0->M=finG L p out all i' ts' left':=by
  intro h;have hrun:=hinv.run;simp only at hrun;rcases h with h|h
  ·subst h;exact hrun.symm
  ·subst h;cases m with
   |zero=>exact hrun.symm
   |succ m=>simp[runG]at hrun;exact hrun.symm
 cases m with
 |zero=>
  have hf:=hfin (.inl rfl);rw[hf];simp at h3;clear hinv hfin hf;simp[*,finG,gst,zC,zj,zh,za,ints,zI]
 |succ m=>
  have e1:((0:Int)<(m:Int)+1)=True:=eqp (by omega);cases left' with
  |zero=>
   have hf:=hfin (.inr rfl);rw[hf];simp at h3;clear hinv hfin hf;simp at hend;simp[*,finG,gst,zC,zj,zh,za,ints,zI]
  |succ lf=>
   have hst:=fun r hr=>hinv.step hp (r:=r) hr
   have hS:=simple_ok L all ts' i';have hsim:=gsimple_spec τ L hL i' ts' lf all (by have:=hinv.a;simp only at this;omega) (by have:=hinv.i;simp only at this;omega) (by have:=hinv.t;simp only at this;omega) hinv.r;have hpk:=zra τ L hL (zaa L all ts' i').2.1 6 (ts'++(zaa L all ts' i').2.2) lf (by omega) (by have:=hinv.i;have:=hS.i;simp only at*;omega);have hnd:∀rc,nodeG L rc all p i' ts' lf=nodeG L rc all p i' ts' lf:=fun _=>rfl
   have ha:=hinv.a;have hii:=hinv.i;have htt:=hinv.t;have hrr:=hinv.r;simp only at ha hii htt hrr;have hw1:zT .i64 (m:Int)=m:=zn (by omega) (by omega);have hw2:zT .i64 (lf:Int)=lf:=zn (by omega) (by omega);have e2:((0:Int)<(lf:Int)+1)=True:=eqp (by omega)
   conv at hnd=>intro rc;rhs;unfold nodeG
   clear hend hfin hinv;generalize zaa L all ts' i'=S at*;obtain⟨n,j,x⟩:=S;simp only at hsim hpk hnd;have hj:=hS.i;have hx:=hS.t;have hw:=hS.w;have hol:=hS.ol;simp only at hj hx hw hol;clear hS;have hrT:∀y∈all,0<=y/\y<(ts'++x).length:=fun y hy=>by have:=hrr y hy;simp only[yj];omega
   have hTl:(ts'++x).length<=ts'.length+1:=by simp only[yj];omega
   generalize hT:ts'++x=T at*;clear hT;have hk6:=pk_lt L j 6 (by omega);generalize pk L j 6=k6 at*;simp[ints,zh,za,zW,kids,gst]at hsim hpk;have hcl:=zxa n [] (by omega);simp[zh,za,ints,zW,kids]at hcl;have hab:(all.length+n.outs.length)*8<=zk:=by simp only[zk];omega
   have hal:(zI all).length=all.length:=by simp[zI]
   have key:∀r:Md Node,r=⟨n,j+1,T,lf⟩->nodeG L (rcOf L d) all p i' ts' lf=r->(if zU n=true then M=⟨out++[n],j+1,T,lf⟩else LsInv L d p M k ⟨m,out++[n],all++n.outs,j+1,T,lf⟩):=by
    intro r hr hn;have:=hst r hn;rw[hr]at this;exact this
   have hq:(((k6:Int)=0)=True/\((k6:Int)=1)=False/\(k6=0)=True/\(k6=1)=False)\/(((k6:Int)=0)=False/\((k6:Int)=1)=True/\(k6=0)=False/\(k6=1)=True)\/(((k6:Int)=0)=False/\((k6:Int)=1)=False/\(k6=0)=False/\(k6=1)=False):=by
    by_cases h:k6=0
    ·subst h;simp
    ·by_cases h':k6=1
     ·subst h';simp
     ·refine .inr (.inr ⟨eqn (by omega),eqn (by omega),eqn h,eqn h'⟩)
   cases d with
   |zero=>
    have hk:=key _ rfl (hnd none);clear hst hnd key hrT hTl;rcases hq with⟨q1,q2,q3,q4⟩|⟨q1,q2,q3,q4⟩|⟨q1,q2,q3,q4⟩
    all_goals
     cases hc:zU n
     ·simp[hc]at hk hcl;simp[*,gst,zC,zj,zh,za,ints,zI,zkc,zW,kids];refine⟨⟨m,out++[n],all++n.outs,j+1,T,lf⟩,by simp,?_⟩;simp[*,gst,zC,zj,zh,za,ints,zI,zkc,zW,kids]
     ·simp[hc]at hk hcl;rw[hk];clear hk;simp[*,gst,zC,zj,zh,za,ints,zI,zkc,zW,kids]
   |succ d=>
    have e3:((0:Int)<(d:Int)+1)=True:=eqp (by omega);have hw3:zT .i64 (d:Int)=d:=zn (by omega) (by omega);have hrec:=hrec d rfl;rcases hq with⟨q1,q2,q3,q4⟩|⟨q1,q2,q3,q4⟩|⟨q1,q2,q3,q4⟩
    ·have hnd:=hnd (some (zFc L d));simp only[q3,if_true,ifG]at hnd;clear key hcl hw hol hab;have hty:=gtypes_spec τ L hL (j+1) T lf (by omega);have t1:=zLc L (j+1);have t2:=zKc L (j+1);generalize zEa L (j+1)=t at*;generalize zUa L (j+1)=jn at*;have hea:=zha τ L hL jn T lf all [2] (by omega) (by simp;omega) (by omega) hrT (by simp);have hX:PlOk ⟨true,p.loop,t,p.next,p.left⟩:=⟨t2,hp.n,hp.l⟩
     have hel:(zhb L T all [2] jn).length=1:=zua _ _ _ _ _;generalize zhb L T all [2] jn=ar at*;have hA:=hrec (jn+1) T lf all ⟨true,p.loop,t,p.next,p.left⟩ ⟨hX,by omega,by omega,by omega,hrT⟩;have hAo:=listG_ok L d all ⟨true,p.loop,t,p.next,p.left⟩ (jn+1) T lf hX;generalize zFc L d all ⟨true,p.loop,t,p.next,p.left⟩ (jn+1) T lf=A at*;obtain⟨a1,⟨y,a2⟩,a3,a4⟩:=hAo;have hB:=hrec A.i A.ts A.left all ⟨true,p.loop,t,p.next,p.left⟩ ⟨hX,by omega,by omega,by omega,fun y hy=>by have:=hrT y hy;rw[a2];simp only[yj];omega⟩;have hBo:=listG_ok L d all ⟨true,p.loop,t,p.next,p.left⟩ A.i A.ts A.left hX;generalize zFc L d all ⟨true,p.loop,t,p.next,p.left⟩ A.i A.ts A.left=B at*;obtain⟨b1,⟨z,b2⟩,b3,b4⟩:=hBo;have hou:=zQb τ L B.i B.ts B.left t (by omega);have hk:=hst _ hnd;have hcl:=zxa ⟨10,0,0,[],ar,[],[],[A.n,B.n]⟩ [] (by simp[wtN,wtK];omega);have hcl2:=zxa ⟨10,0,0,[],ar,newV B.ts.length t.length,[],[A.n,B.n]⟩ [] (by simp[wtN,wtK,zcb];omega);have hcc:zU ⟨10,0,0,[],ar,newV B.ts.length t.length,[],[A.n,B.n]⟩=zU ⟨10,0,0,[],ar,[],[],[A.n,B.n]⟩:=rfl;have hab:(all.length+(newV B.ts.length t.length).length)*8<=zk:=by rw[zcb];simp only[zk];omega
     simp[ints,zI,zkc,zh,za,zW,kids,zC,zj,gst]at hty hea hA hB hcl hcl2 hou;clear a1 a2 a3 a4 b1 b2 b3 b4 hst hnd hrT hTl hrec hX t1 t2 hrr ha hii htt hel hx hj;cases hc:zU ⟨10,0,0,[],ar,[],[],[A.n,B.n]⟩
     ·rw[hc]at hcc;simp[outed,hc,hcc]at hk hcl hcl2;generalize newV B.ts.length t.length=nw at*;simp[*,gst,zC,zj,zh,za,ints,zI,zkc,zW,kids];refine⟨⟨m,out++[⟨10,0,0,[],ar,nw,[],[A.n,B.n]⟩],all++nw,B.i,B.ts++t,B.left⟩,by simp,?_⟩;simp[*,gst,zC,zj,zh,za,ints,zI,zkc,zW,kids]
     ·simp[outed,hc]at hk hcl;rw[hk];clear hk;simp[*,gst,zC,zj,zh,za,ints,zI,zkc,zW,kids]
    ·have hnd:=hnd (some (zFc L d));simp only[q3,q4,if_true,if_false,loopG]at hnd;clear key hcl hw hol hab;have hty:=gtypes_spec τ L hL (j+1) T lf (by omega);have t1:=zLc L (j+1);have t2:=zKc L (j+1);generalize zEa L (j+1)=t at*;generalize zUa L (j+1)=jn at*;have hty2:=gtypes_spec τ L hL jn T lf (by omega);have t3:=zLc L jn;have t4:=zKc L jn;generalize zEa L jn=o at*;generalize zUa L jn=jm at*;have hea:=zha τ L hL jm T lf all t (by omega) (by omega) (by omega) hrT (by omega);have hX:PlOk ⟨false,true,[],t,o⟩:=⟨by simp,t2,t4⟩
     have hel:(zhb L T all t jm).length=t.length:=zua _ _ _ _ _;generalize zhb L T all t jm=ar at*;have hop:=zQb τ L (jm+t.length) T lf t (by omega);have hpl:(newV T.length t.length).length=t.length:=zcb _ _;have hpm:=newV_mem T.length t.length;generalize newV T.length t.length=ps at*;have hrTT:∀y∈all++ps,0<=y/\y<(T++t).length:=by
      intro y hy;simp only[yz]at hy;simp only[yj];rcases hy with hy|hy
      ·have:=hrT y hy;omega
      ·have:=hpm y hy;omega
     have hTT:(T++t).length<=T.length+2:=by simp only[yj];omega
     have hapl:(all++ps).length<=all.length+2:=by simp only[yj];omega
     have hap:(all.length+ps.length)*8<=zk:=by simp only[zk];omega
     have hap0:all.length*8<=zk:=by simp only[zk];omega
     have hA:=hrec (jm+t.length) (T++t) lf (all++ps) ⟨false,true,[],t,o⟩ ⟨hX,by omega,by omega,by omega,hrTT⟩;have hAo:=listG_ok L d (all++ps) ⟨false,true,[],t,o⟩ (jm+t.length) (T++t) lf hX;generalize zFc L d (all++ps) ⟨false,true,[],t,o⟩ (jm+t.length) (T++t) lf=A at*;obtain⟨a1,⟨y,a2⟩,a3,a4⟩:=hAo;have hou:=zQb τ L A.i A.ts A.left o (by omega);have hk:=hst _ hnd;have hcl:=zxa ⟨11,0,0,[],ar,[],ps,[A.n]⟩ [] (by simp[wtN,wtK];omega);have hcl2:=zxa ⟨11,0,0,[],ar,newV A.ts.length o.length,ps,[A.n]⟩ [] (by simp[wtN,wtK,zcb];omega);have hcc:zU ⟨11,0,0,[],ar,newV A.ts.length o.length,ps,[A.n]⟩=zU ⟨11,0,0,[],ar,[],ps,[A.n]⟩:=rfl;have hab:(all.length+(newV A.ts.length o.length).length)*8<=zk:=by rw[zcb];simp only[zk];omega
     simp[ints,zI,zkc,zh,za,zW,kids,zC,zj,gst]at hty hty2 hea hop hA hcl hcl2 hou;clear a1 a2 a3 a4 hst hnd hrT hTl hrec hX t1 t2 t3 t4 hrr ha hii htt hel hx hj hrTT hTT hapl hpm hpl;cases hc:zU ⟨11,0,0,[],ar,[],ps,[A.n]⟩
     ·rw[hc]at hcc;simp[outed,hc,hcc]at hk hcl hcl2;generalize newV A.ts.length o.length=nw at*;simp[*,gst,zC,zj,zh,za,ints,zI,zkc,zW,kids];refine⟨⟨m,out++[⟨11,0,0,[],ar,nw,ps,[A.n]⟩],all++nw,A.i,A.ts++o,A.left⟩,by simp,?_⟩;simp[*,gst,zC,zj,zh,za,ints,zI,zkc,zW,kids]
     ·simp[outed,hc]at hk hcl;rw[hk];clear hk;simp[*,gst,zC,zj,zh,za,ints,zI,zkc,zW,kids]
    ·have hk:=key ⟨n,j+1,T,lf⟩ rfl (by have:=hnd (some (zFc L d));simp only[q3,q4,if_false]at this;exact this);clear hst hnd key hrec hrT hTl;cases hc:zU n
     ·simp[hc]at hk hcl;simp[*,gst,zC,zj,zh,za,ints,zI,zkc,zW,kids];refine⟨⟨m,out++[n],all++n.outs,j+1,T,lf⟩,by simp,?_⟩;simp[*,gst,zC,zj,zh,za,ints,zI,zkc,zW,kids]
     ·simp[hc]at hk hcl;rw[hk];clear hk;simp[*,gst,zC,zj,zh,za,ints,zI,zkc,zW,kids]
theorem glist_spec:∀d,d<=3->LsOk τ L d:=by
 intro d
 induction d with
 |zero=>intro h;exact glist_of τ L hL 0 h (by intro e he;cases he)
 |succ d ih=>intro h;exact glist_of τ L hL (d+1) h (by intro e he;cases he;exact ih (by omega))
end
theorem runG_ne(L:List UInt8)(rc:Option LG)(p:HPl):∀c out all i ts left,(runG L rc p c out all i ts left).n≠ []:=by
 intro c
 induction c with
 |zero=>intro out all i ts left;simp[runG,finG]
 |succ c ih=>
  intro out all i ts left;rw[runG];split
  ·simp[finG]
  ·simp only;split
   ·simp
   ·exact ih _ _ _ _ _
theorem listG_ne(L:List UInt8)(d:Nat)(seen:List Int)(p:HPl)(i:Nat)(ts:List Int)(left:Nat):(zFc L d seen p i ts left).n≠ []:=by
 rw[listG_eq];exact runG_ne L _ _ _ _ _ _ _ _
def noPl:HPl:=⟨false,false,[],[],[]⟩
theorem noPl_ok:PlOk noPl:=⟨by simp[noPl],by simp[noPl],by simp[noPl]⟩
def flowL(L:List UInt8)(params:List Int)(i:Nat):Md (List Node):=zFc L 3 (newV 0 params.length++[(params.length:Int),((params.length+1:Nat):Int)]) noPl i (params++[1,2]) 30
theorem flowG_eq(L:List UInt8)(name:List UInt8)(params:List Int)(i:Nat):flowG L name params i=
  ⟨⟨name,1,params.length,(flowL L params i).ts,nd 1 0 3 [] [] [(params.length:Int)]::nd 2 0 1 [] [] [((params.length+1:Nat):Int)]::(flowL L params i).n⟩,(flowL L params i).i,(flowL L params i).ts,(flowL L params i).left⟩:=rfl
theorem flowL_ok(L:List UInt8)(params:List Int)(i:Nat):MdL 10 (flowL L params i) i (params++[1,2]) 30 0:=listG_ok L 3 _ _ _ _ _ noPl_ok
section
variable (τ:zb) (L:List UInt8) (hL:L.length<=9223372036854775807)
include hL
theorem gflow_spec(i:Nat)(ts:List Int)(left:Nat)(name:List UInt8)(params:List Int)(hp:params.length<=10)(hi:i<=1000000):
  zm E 22 [.ptr 0 0 0,.str name,ints params] (gst τ L i ts left)=some (.ret (zQa (flowG L name params i).n),gst τ L (flowG L name params i).i (flowG L name params i).ts (flowG L name params i).left):=by
 refine zc rfl rfl rfl (by simp) ?_;have o1:=zQb τ L i [] 30 params (by simp;omega);have f1:=fresh_spec τ L i params 30 1 (by omega);have f2:=fresh_spec τ L i (params++[1]) 30 2 (by simp;omega);have hr:∀y∈newV 0 params.length++[(params.length:Int),((params.length+1:Nat):Int)],0<=y/\y<(params++[1,2]).length:=by
  intro y hy;simp only[yz,yJ,yxa,or_false]at hy;simp only[yj,yU,yP];rcases hy with hy|hy|hy
  ·have:=newV_mem 0 _ y hy;omega
  ·omega
  ·omega
 have hls:=glist_spec τ L hL 3 (by omega) i (params++[1,2]) 30 (newV 0 params.length++[(params.length:Int),((params.length+1:Nat):Int)]) noPl ⟨noPl_ok,by simp[zcb];omega,by omega,by simp;omega,hr⟩;have hne:=listG_ne L 3 (newV 0 params.length++[(params.length:Int),((params.length+1:Nat):Int)]) noPl i (params++[1,2]) 30;have hok:=flowL_ok L params i;rw[flowG_eq];change zm E _ _ _=some (.ret (zC (flowL L params i).n),gst τ L (flowL L params i).i (flowL L params i).ts (flowL L params i).left)at hls;change (flowL L params i).n≠ []at hne;generalize flowL L params i=A at*;obtain⟨a1,a2,a3,a4⟩:=hok;have hal:=zgd A.n;have q1:(params.length+2)*8<=zk:=by simp only[zk];omega
 have q2:(2+A.n.length)*136<=zk:=by simp only[zk];omega
 have q3:(newV 0 params.length).length=params.length:=zcb _ _;clear a1 a2 a3 a4 hr hal;simp[ints,zI,gst,zC,zj,zkc,noPl]at o1 f1 f2 hls;generalize newV 0 params.length=nv at*;simp[*,F22,ints,gst,zC,zj,zQa,zf,zh,za,zW,kids]
end
theorem madeM_sz(L:List UInt8):USz (madeM L):=by
 have h1:=flowL_ok L [] 0;have h2:=flowL_ok L [1,2] (flowL L [] 0).i;obtain⟨a1,a2,a3,a4⟩:=h1;obtain⟨b1,b2,b3,b4⟩:=h2;simp only[yj,yU,yP]at a3 b3;refine⟨?_,?_,?_,?_⟩
 ·simp[madeM]
 ·simp[madeM]
 ·intro f hf;simp only[madeM,yJ,yxa,or_false]at hf;rcases hf with rfl|rfl<;>simp[flowG_eq]<;>omega
 ·intro f hf;simp only[madeM,yJ,yxa,or_false]at hf;rcases hf with rfl|rfl<;>simp[flowG_eq,wtL,wtN,wtK]<;>omega
mutual
def szN:Node->Nat
 |⟨_,_,_,_,_,_,_,ks⟩=>1+szK ks
def szL:List Node->Nat
 | []=>0
 |x::r=>szN x+szL r
def szK:List (List Node)->Nat
 | []=>0
 |l::r=>szL l+szK r
end
theorem szN_eq(x:Node):szN x=1+szK x.kids:=by cases x;rfl
theorem szL_append(a b:List Node):szL (a++b)=szL a+szL b:=by
 induction a with
 |nil=>simp[szL]
 |cons x r ih=>simp[szL,ih];omega
theorem szK_append(a b:List (List Node)):szK (a++b)=szK a+szK b:=by
 induction a with
 |nil=>simp[szK]
 |cons x r ih=>simp[szK,ih];omega
mutual
theorem szN_le:∀x:Node,szN x<=wtN x
 |⟨_,_,_,s,a,u,p,ks⟩=>by have:=szK_le ks;simp only[szN,wtN];omega
theorem szL_le:∀l:List Node,szL l<=wtL l
 | []=>by simp[szL,wtL]
 |x::r=>by have h1:=szN_le x;have h2:=szL_le r;simp only[szL,wtL];omega
theorem szK_le:∀l:List (List Node),szK l<=wtK l
 | []=>by simp[szK,wtK]
 |x::r=>by have h1:=szL_le x;have h2:=szK_le r;simp only[szK,wtK];omega
end
theorem size8_spec:∀(N:Nat) (l:List Node) (σ:zb),wtL l<=N->N<1099511627776->zm E 14 [zj l] σ=some (.ret (.int .i64 (szL l)),σ):=by
 intro N
 induction N using yca with
 |ind N ih=>
  intro l σ hl hN;refine zc rfl rfl rfl (by simp) ?_;have hll:=zgd l;have hgl:=szL_le l;simp[F14,zj];refine zH l K14_1 B14_1 (fun d=>[(2,.int .i64 (szL d:Int)),(9,.int .i64 d.length)]) (fun _=>σ) (fun d=>True) (by omega) (by simp[szL]) ?_ ?_
  ·intros d x r s hl' hlt hget hget' hw hp h1 h2 h3 h4;simp at h1 h3;clear h2;have hx:=hl'.mem;have hs:szL l=szL d+szN x+szL r:=by rw[hl'.eq,szL_append];simp only[szL];omega
   have hwx:=wt_mem hx;have hne:=szN_eq x;have hxk:=zeb x;have hlk:=len_wtK x.kids;have w1:zT .i64 ((szL d:Int)+1)=(szL d:Int)+1:=zn (by omega) (by omega);have hk:∀q∈x.kids,zm E 14 [zj q] []=some (.ret (.int .i64 (szL q:Int)),[]):=fun q hq=>ih (wtL q) (by have:=wt_kid hq;omega) q [] (yk _) (by have:=wt_kid hq;omega)
   have he:(szL (d++[x]):Int)=(szL d:Int)+1+(szK x.kids:Int):=by rw[szL_append];simp only[szL];omega
   have hb:(szL d:Int)+1+(szK x.kids:Int)<9000000000000:=by omega
   have hkl:x.kids.length<1099511627776:=by omega
   clear hs hwx hne hxk hgl;simp[*,za,ints,kids];refine zH x.kids K14_0 B14_0 (fun e=>[(2,.int .i64 ((szL d:Int)+1+(szK e:Int))),(18,.int .i64 e.length)]) (fun _=>σ) (fun d=>True) (by omega) (by simp[szK]) ?_ ?_
   ·intros e y r' s' hl2 hlt2 hget2 hget2' hw2 hp' k1 k2 k3 k4;simp at k1 k3;clear k2;have hsk:szK x.kids=szK e+szL y+szK r':=by rw[hl2.eq,szK_append];simp only[szK];omega
    have hv:=hk y hl2.mem;have v1:zT .i64 ((szL d:Int)+1+(szK e:Int)+(szL y:Int))=(szL d:Int)+1+(szK e:Int)+(szL y:Int):=zn (by omega) (by omega);have hf:(szK (e++[y]):Int)=(szK e:Int)+(szL y:Int):=by rw[szK_append];simp only[szK];omega
    clear hsk hb hl2 hk he;simp[zj]at hv
    (simp[*,zj,kids,za])<;>(repeat' (first|((first|refine sP _ ?_ ?_|refine gP _ ?_ ?_|refine sN _ ?_ ?_|refine gN _ ?_ ?_)<;>intro hc<;>(first|replace hc:=eqn hc|replace hc:=eqp hc)<;>simp[*,zj,kids,za])|((first|refine sM _ ?_ ?_|refine gM _ ?_ ?_|refine sB _ ?_ ?_|refine gB _ ?_ ?_)<;>intro hc<;>simp[*,zj,kids,za])))
    all_goals omega
   ·intros s' hp' k1 k2 k3 k4;simp at k1 k3;clear k2
    (simp[*,zj,kids,za])<;>(repeat' (first|((first|refine sP _ ?_ ?_|refine gP _ ?_ ?_|refine sN _ ?_ ?_|refine gN _ ?_ ?_)<;>intro hc<;>(first|replace hc:=eqn hc|replace hc:=eqp hc)<;>simp[*,zj,kids,za])|((first|refine sM _ ?_ ?_|refine gM _ ?_ ?_|refine sB _ ?_ ?_|refine gB _ ?_ ?_)<;>intro hc<;>simp[*,zj,kids,za])))
    all_goals omega
  ·intros s hp h1 h2 h3 h4;simp at h1 h3
   (simp[*,zj])<;>(repeat' (first|((first|refine sP _ ?_ ?_|refine gP _ ?_ ?_|refine sN _ ?_ ?_|refine gN _ ?_ ?_)<;>intro hc<;>(first|replace hc:=eqn hc|replace hc:=eqp hc)<;>simp[*,zj])|((first|refine sM _ ?_ ?_|refine gM _ ?_ ?_|refine sB _ ?_ ?_|refine gB _ ?_ ?_)<;>intro hc<;>simp[*,zj])))
def one8(k:Int):Unt:=⟨[],[⟨[109,97,105,110],1,0,[1],[⟨1,0,7,[],[],[0],[],[]⟩,⟨15,0,0,[],[k],[],[],[]⟩]⟩]⟩
def st8(k:Int):zb:=[.arr 1 [.int .i64 k],.arr 8 [zG ⟨1,0,7,[],[],[0],[],[]⟩,.agg [.int .i64 15,.int .i64 0,.int .i64 0,.str [],.mslice 0 0 1 1,ints [],ints [],kids []]],
 .arr 5 [.agg [.str [109,97,105,110],.int .i64 1,.int .i64 0,ints [1],.mslice 1 0 2 8]]]
theorem one8_spec:zm E 28 [] []=some (.ret (.agg [.slice .plain 2 [],.mslice 2 0 1 5]),st8 0):=by
 refine zc rfl rfl rfl (by simp) ?_;simp[F28,st8,za,ints,kids]
theorem view8(k:Int):zB 12 0 (st8 k) (.agg [.slice .plain 2 [],.mslice 2 0 1 5])=encUnt (one8 k):=rfl
theorem view8b(k:Int):zB 12 0 (st8 k) (.mslice 1 0 2 8)=zj [⟨1,0,7,[],[],[0],[],[]⟩,⟨15,0,0,[],[k],[],[],[]⟩]:=rfl
theorem one8_sz(k:Int):USz (one8 k):=by
 refine⟨?_,?_,?_,?_⟩
 ·simp[one8]
 ·simp[one8]
 ·intro f hf;simp[one8]at hf;subst hf;simp
 ·intro f hf;simp[one8]at hf;subst hf;simp[wtL,wtN,wtK]
theorem awake8_spec:zm E 12 [] []=some (.ret (.bool true),[]):=by
 refine zc rfl rfl rfl (by simp) ?_;have c0:=check_spec (one8 0) (one8_sz 0);have c1:=check_spec (one8 1) (one8_sz 1);have c2:=check_spec ⟨[],[]⟩ ⟨by simp,by simp,by simp,by simp⟩;have e0:zXc (one8 0)=(0,0):=by decide+kernel
 have e1:zXc (one8 1)=(80,0):=by decide+kernel
 have e2:zXc ⟨[],[]⟩=(1,0):=by decide+kernel
 rw[e0]at c0;rw[e1]at c1;rw[e2]at c2;have hs:=size8_spec (wtL [⟨1,0,7,[],[],[0],[],[]⟩,⟨15,0,0,[],[1],[],[],[]⟩]) [⟨1,0,7,[],[],[0],[],[]⟩,⟨15,0,0,[],[1],[],[],[]⟩] [] (yk _) (by decide);have hc:=zfc ⟨13,0,0,[],[],[],[],[]⟩ [] (by decide);have e3:zU ⟨13,0,0,[],[],[],[],[]⟩=true:=by decide+kernel
 have e4:szL [⟨1,0,7,[],[],[0],[],[]⟩,⟨15,0,0,[],[1],[],[],[]⟩]=2:=by decide+kernel
 rw[e3]at hc;rw[e4]at hs;have ho:=one8_spec;have v0:=view8 0;have v1:=view8 1;have v2:=view8b 1;simp[one8,encUnt,flows,arrs,zf,zj,za,ints,kids,st8]at c0 c1 c2 ho hs hc v0 v1 v2;simp[*,F12,zz,zka]
section
variable (L:List UInt8) (hL:L.length<=9223372036854775807)
include hL
theorem madeF_spec:∃o,zm E 8 [u8s L] []=some (.ret (.agg [arrs (madeM L).arrays,.mslice 2 0 2 5]),[o,.dead 5,.arr 5 ((madeM L).flows.map zQa)]):=by
 have f1:=gflow_spec [] L hL 0 [] 0 zL [] (by simp) (by omega);have hi1:(flowG L zL [] 0).i<=10000:=by have:=(flowL_ok L [] 0).i;rw[flowG_eq];simp only;omega
 have f2:=gflow_spec [.arr 5 [zQa (flowG L zL [] 0).n]] L hL (flowG L zL [] 0).i (flowG L zL [] 0).ts (flowG L zL [] 0).left [102] [1,2] (by simp) (by omega);have hm:madeM L=⟨[⟨[97],4⟩],[(flowG L zL [] 0).n,(flowG L [102] [1,2] (flowG L zL [] 0).i).n]⟩:=rfl;rw[hm];generalize flowG L zL [] 0=A at*;generalize flowG L [102] [1,2] A.i=B at*;clear hm;have e1:zL=[109,97,105,110]:=rfl;simp[ints,gst,zQa,e1,u8s]at f1 f2;refine⟨Obj.arr 4 [PV.agg [PV.slice SK.plain 1 (List.map (fun b=>PV.int IntKind.u8 ↑b.toNat) L),PV.int IntKind.i64 ↑B.i,acc 1 (List.map (PV.int IntKind.i64) B.ts),PV.int IntKind.i64 ↑B.left]],?_⟩;refine zc rfl rfl rfl (by simp[u8s]) ?_;simp[*,F8,encUnt,arrs,flows,zN,zQa,u8s,zk,ints]
end
def chg(l:List Int)(n:Int):List Int:=n::l.drop 1
theorem change_spec(l:List Int)(n:Int)(hl:l.length<1000000):zm E 48 [ints l,.int .i64 n] []=some (.ret (ints (chg l n)),[]):=by
 refine zc rfl rfl rfl (by simp) ?_;cases l with
 |nil=>simp[F48,ints,zk,zac,freeze1,chg]
 |cons x r=>
  have q4:(r.length+1)*8<=zk:=by simp only[zk];simp at hl;omega
  have hc:((r.length:Int)+1=0)=False:=eqn (by omega);have hst:(stripA ∘ PV.int .i64)=PV.int .i64:=by funext x;rfl
  have ht:(r.map (PV.int .i64)).take r.length=r.map (PV.int .i64):=List.take_of_length_le (by simp);simp[F48,ints,q4,hc,hst,ht,chg,zz,zka,zac,freeze1]
def zea(x:Node)(m q:Nat):Node:=
 match m with
 |0=>{x with kind:=(q%17:Nat)}
 |1=>{x with op:=(q%30:Nat)}
 |2=>{x with args:=chg x.args (q%12:Nat)}
 |3=>{x with outs:=chg x.outs (q%12:Nat)}
 |4=>{x with args:=[]}
 |5=>{x with n:=2}
 |6=>{x with name:=([[97],[102],[109,97,105,110],[120],[]][q%5]?).getD []}
 |7=>{x with kids:=x.kids++[[⟨12,0,0,[],[],[],[],[]⟩]]}
 |8=>{x with params:=chg x.params (q%12:Nat)}
 |9=>{x with outs:=[]}
 |_=>x
def encK1(κ:SK)(x:Node):PV:= .agg [.int .i64 x.kind,.int .i64 x.op,.int .i64 x.n,.str x.name,ints x.args,ints x.outs,ints x.params,.slice κ 1 (x.kids.map zC)]
theorem spoilt_spec(x:Node)(how:Nat)(hh:how<65536)(hx:wtN x<1000000):zm E 27 [zpa x,.int .i64 how] []=some (.ret (encK1 (if how%11=7 then .plain else .firm) (zea x (how%11) (how/11))),[]):=by
 refine zc rfl rfl rfl (by simp[zh]) ?_;have hm:how%11<11:=Nat.mod_lt _ (by omega);have r0:remK (how:Int) 11=((how%11:Nat):Int):=remNat how 11;have hxk:=zeb x;have hlk:=len_wtK x.kids;obtain⟨q,hq⟩:∃q:Nat,how/11=q:=⟨_,rfl⟩
 have w1:zT .i64 ((how:Int)/11)=(q:Int):=by rw[zn (by omega) (by omega)];omega
 have k17:remK (q:Int) 17=((q%17:Nat):Int):=remNat q 17;have k30:remK (q:Int) 30=((q%30:Nat):Int):=remNat q 30;have k12:remK (q:Int) 12=((q%12:Nat):Int):=remNat q 12;have k5:remK (q:Int) 5=((q%5:Nat):Int):=remNat q 5;have c1:=change_spec x.args (q%12:Nat) (by omega);have c2:=change_spec x.outs (q%12:Nat) (by omega);have c3:=change_spec x.params (q%12:Nat) (by omega);have room:(x.kids.length+1)*24<=zk:=by simp only[zk];omega
 rw[hq];generalize how%11=m at*;clear hq hh hx hxk hlk;simp[ints]at c1 c2 c3 k17 k30 k12;rcases(by omega:m=0\/m=1\/m=2\/m=3\/m=4\/m=5\/m=6\/m=7\/m=8\/m=9\/m=10)with h|h|h|h|h|h|h|h|h|h|h<;>subst h
 ·simp at r0;simp[*,F27,zh,zW,ints,zea,encK1]
 ·simp at r0;simp[*,F27,zh,zW,ints,zea,encK1]
 ·simp at r0;simp[*,F27,zh,zW,ints,zea,encK1]
 ·simp at r0;simp[*,F27,zh,zW,ints,zea,encK1]
 ·simp at r0;simp[*,F27,zh,zW,ints,zea,encK1]
 ·simp at r0;simp[*,F27,zh,zW,ints,zea,encK1]
 ·rcases(by omega:q%5=0\/q%5=1\/q%5=2\/q%5=3\/q%5=4)with h|h|h|h|h<;>rw[h]at k5<;>simp at r0 k5<;>simp[*,F27,zh,zW,ints,zea,encK1]
 ·simp at r0;simp[*,F27,zh,zW,ints,zea,encK1,zC]
 ·simp at r0;simp[*,F27,zh,zW,ints,zea,encK1]
 ·simp at r0;simp[*,F27,zh,zW,ints,zea,encK1]
 ·simp at r0;simp[*,F27,zh,zW,ints,zea,encK1]
mutual
def ndG(m q:Nat):Node->Int->Node×Int
 |⟨k,o,n,s,a,u,p,ks⟩,i=>if i=0 then(zea ⟨k,o,n,s,a,u,p,ks⟩ m q,i-1-(szK (zea ⟨k,o,n,s,a,u,p,ks⟩ m q).kids:Int))
   else(⟨k,o,n,s,a,u,p,(ndkG m q ks (i-1)).1⟩,(ndkG m q ks (i-1)).2)
def ndsG(m q:Nat):List Node->Int->List Node×Int
 | [],i=>([],i)
 |x::r,i=>(if i=0/\m=10 then(ndsG m q r (ndG m q x i).2).1 else(ndG m q x i).1::(ndsG m q r (ndG m q x i).2).1,(ndsG m q r (ndG m q x i).2).2)
def ndkG(m q:Nat):List (List Node)->Int->List (List Node)×Int
 | [],i=>([],i)
 |l::r,i=>((ndsG m q l i).1::(ndkG m q r (ndsG m q l i).2).1,(ndkG m q r (ndsG m q l i).2).2)
end
mutual
theorem ndG_neg(m q:Nat):∀(x:Node) (i:Int),i<0->ndG m q x i=(x,i-szN x)
 |⟨k,o,n,s,a,u,p,ks⟩,i,h=>by
  rw[ndG,if_neg (by omega),ndkG_neg m q ks (i-1) (by omega),szN];simp only[Prod.mk.injEq,true_and];omega
theorem ndsG_neg(m q:Nat):∀(l:List Node) (i:Int),i<0->ndsG m q l i=(l,i-szL l)
 | [],i,h=>by rw[ndsG,szL];simp
 |x::r,i,h=>by
  rw[ndsG,ndG_neg m q x i h,if_neg (by omega)];simp only;rw[ndsG_neg m q r _ (by omega),szL];simp only[Prod.mk.injEq,true_and];omega
theorem ndkG_neg(m q:Nat):∀(l:List (List Node)) (i:Int),i<0->ndkG m q l i=(l,i-szK l)
 | [],i,h=>by rw[ndkG,szK];simp
 |x::r,i,h=>by
  rw[ndkG,ndsG_neg m q x i h];simp only;rw[ndkG_neg m q r _ (by omega),szK];simp only[Prod.mk.injEq,true_and];omega
end
theorem spoilt_kids(x:Node)(m q:Nat):(zea x m q).kids=x.kids\/(zea x m q).kids=x.kids++[[⟨12,0,0,[],[],[],[],[]⟩]]:=by
 unfold zea;split<;>first|exact .inl rfl|exact .inr rfl
theorem spoilt_szK(x:Node)(m q:Nat):szK x.kids<=szK (zea x m q).kids/\szK (zea x m q).kids<=szK x.kids+1:=by
 rcases spoilt_kids x m q with h|h<;>rw[h]
 ·omega
 ·rw[szK_append];simp[szK,szL,szN]
theorem ndG_eq(m q:Nat)(x:Node)(i:Int):ndG m q x i=({(if i=0 then zea x m q else x)with kids:=(ndkG m q (if i=0 then zea x m q else x).kids (i-1)).1},(ndkG m q (if i=0 then zea x m q else x).kids (i-1)).2):=by
 by_cases h:i=0
 ·subst h;simp only[if_true];rw[ndkG_neg m q _ _ (by omega)];cases x;rw[ndG,if_pos rfl];generalize zea _ m q=y;cases y;rfl
 ·rw[if_neg h];cases x;rw[ndG,if_neg h]
mutual
theorem ndG_rng(m q:Nat):∀(x:Node) (i:Int),i-2*wtN x<=(ndG m q x i).2/\(ndG m q x i).2<=i-1
 |⟨k,o,n,s,a,u,p,ks⟩,i=>by
  have hsk:=szK_le ks;rw[ndG];split
  ·have h2:=spoilt_szK ⟨k,o,n,s,a,u,p,ks⟩ m q;simp only at h2 ⊢;simp only[wtN];omega
  ·have h2:=ndkG_rng m q ks (i-1);simp only[wtN];omega
theorem ndsG_rng(m q:Nat):∀(l:List Node) (i:Int),i-2*wtL l<=(ndsG m q l i).2/\(ndsG m q l i).2<=i
 | [],i=>by rw[ndsG,wtL];simp
 |x::r,i=>by
  have h1:=ndG_rng m q x i;have h2:=ndsG_rng m q r (ndG m q x i).2;rw[ndsG,wtL];simp only;omega
theorem ndkG_rng(m q:Nat):∀(l:List (List Node)) (i:Int),i-2*wtK l<=(ndkG m q l i).2/\(ndkG m q l i).2<=i
 | [],i=>by rw[ndkG,wtK];simp
 |x::r,i=>by
  have h1:=ndsG_rng m q x i;have h2:=ndkG_rng m q r (ndsG m q x i).2;rw[ndkG,wtK];simp only;omega
end
theorem ndsG_append(m q:Nat):∀(d:List Node) (x:Node) (i:Int),ndsG m q (d++[x]) i=
  (if(ndsG m q d i).2=0/\m=10 then(ndsG m q d i).1 else(ndsG m q d i).1++[(ndG m q x (ndsG m q d i).2).1],(ndG m q x (ndsG m q d i).2).2)
 | [],x,i=>by
  by_cases h:i=0/\m=10<;>simp[ndsG,h]
 |y::d,x,i=>by
  rw[yha,ndsG,ndsG_append m q d x];rw[ndsG];simp only;congr 1;split<;>split<;>simp
theorem ndkG_append(m q:Nat):∀(d:List (List Node)) (x:List Node) (i:Int),ndkG m q (d++[x]) i=
  ((ndkG m q d i).1++[(ndsG m q x (ndkG m q d i).2).1],(ndsG m q x (ndkG m q d i).2).2)
 | [],x,i=>by simp[ndkG]
 |y::d,x,i=>by
  rw[yha,ndkG,ndkG_append m q d x];rw[ndkG];simp only[yha]
theorem ndsG_len(m q:Nat):∀(l:List Node) (i:Int),(ndsG m q l i).1.length<=l.length
 | [],i=>by simp[ndsG]
 |x::r,i=>by
  have:=ndsG_len m q r (ndG m q x i).2;rw[ndsG];simp only;split
  ·simp;omega
  ·simp;exact this
theorem ndkG_len(m q:Nat):∀(l:List (List Node)) (i:Int),(ndkG m q l i).1.length=l.length
 | [],i=>by simp[ndkG]
 |x::r,i=>by
  rw[ndkG];simp[ndkG_len m q r]
def NC(how:Nat)(l:List Node)(i:Int):Prop:=∀x0 x1 x2:Obj,
 zm E 11 [zC l,.ptr 3 0 0,.int .i64 how] [x0,x1,x2,.arr 1 [.int .i64 i]]=
  some (.ret (zj (ndsG (how%11) (how/11) l i).1),[x0,x1,x2,.arr 1 [.int .i64 (ndsG (how%11) (how/11) l i).2]])
set_option maxHeartbeats 2000000 in
theorem nodes_walk(how:Nat)(hh:how<65536)(l:List Node)(i:Int)(hi: -10000000000<=i-2*wtL l/\i<=1000)(hw:wtL l<100000)
  (h1:∀x∈l,∀q∈x.kids,∀b:Int,b<=i->i-2*wtL l<=b-2*wtL q->NC how q b)
  (h2:0<=i->∀x∈l,∀q∈(zea x (how%11) (how/11)).kids,∀b:Int,b<0-> -1000000<=b-2*wtL q->NC how q b):NC how l i:=by
 intro x0 x1 x2;refine zc rfl rfl rfl (by simp) ?_;have hll:=zgd l;have hm:how%11<11:=Nat.mod_lt _ (by omega);have r0:remK (how:Int) 11=((how%11:Nat):Int):=remNat how 11;have hsp:=fun x (hx:x∈l)=>spoilt_spec x how hh (by have:=wt_mem hx;omega)
 have hmm:((how%11:Nat):Int)=10<->how%11=10:=by omega
 have hne:∀x:Node,how%11=10->zea x (how%11) (how/11)=x:=by
  intro x h;rw[h];rfl
 generalize hm0:how%11=m at*;generalize hq0:how/11=q at*;simp[F11,zC];refine zH l K11_1 B11_1 (fun d=>[(7,acc 8 ((ndsG m q d i).1.map zG)),(8,.int .i64 d.length)]) (fun d=>[x0,x1,x2,.arr 1 [.int .i64 (ndsG m q d i).2]]) (fun _=>True) (by omega) (by simp[ndsG]) ?_ ?_
 ·intros d x r s hl' hlt hget hget' hwr hp k1 k2 k3 k4;simp at k1 k3;clear k2;have hx:=hl'.mem;have hwx:=wt_mem hx;have hxk:=zeb x;have hlk:=len_wtK x.kids;have happ:=ndsG_append m q d x i;have hdl:=ndsG_len m q d i;have hrg:=ndsG_rng m q d i;have hwd:wtL d+(1+wtN x)<=wtL l:=by rw[hl'.eq,zJc,wtL];omega
  have hsx:=hsp x hx;have hks:=h1 x hx;have hks2:=fun h=>h2 h x hx
  rw[ndG_eq]at happ;rw[happ];generalize hD:(ndsG m q d i).1=D at*;generalize hb:(ndsG m q d i).2=b at*;clear hsp h1 h2 happ;have w1:zT .i64 (b-1)=b-1:=zn (by omega) (by omega);have q4:(D.length+1)*136<=zk:=by simp only[zk];omega
  by_cases hb0:b=0
  ·subst hb0;have wm1:zT .i64 (-1)= -1:=zn (by omega) (by omega);clear w1;have hwy:wtK (zea x m q).kids<=wtK x.kids+3:=by
    rcases spoilt_kids x m q with h|h<;>rw[h]
    ·omega
    ·rw[wtK_append];simp[wtK,wtL,wtN]
   have hlk2:=len_wtK (zea x m q).kids;have hkk:∀z∈(zea x m q).kids,∀c:Int,c<= -1-> -1000000<=c-2*wtL z->NC how z c:=fun z hz c h1 h2=>hks2 (by omega) z hz c (by omega) h2
   clear hks hks2;generalize hκ:(if m=7 then SK.plain else SK.firm)=κ at*;have hκ2:κ= .plain\/κ= .firm:=by rw[<-hκ];split<;>simp
   have κ1:∀l,stripA (.slice κ 1 l)= .slice κ 1 l:=by rcases hκ2 with h|h<;>rw[h]<;>intro l<;>rfl
   have κ2:∀l,strip (.slice κ 1 l)= .slice κ 1 l:=by rcases hκ2 with h|h<;>rw[h]<;>intro l<;>rfl
   have κ3:∀l,canon1 (.slice κ 1 l)= .slice κ 1 l:=by rcases hκ2 with h|h<;>rw[h]<;>intro l<;>rfl
   have κ4:∀l,isOwn (.slice κ 1 l)=none:=by rcases hκ2 with h|h<;>rw[h]<;>intro l<;>rfl
   have κ5:∀l,zq (.slice κ 1 l)=true:=by rcases hκ2 with h|h<;>rw[h]<;>intro l<;>rfl
   have κ6:∀l,zDb (.slice κ 1 l)=true:=by rcases hκ2 with h|h<;>rw[h]<;>intro l<;>rfl
   have κ7:∀l,cellsOf (.slice κ 1 l)=[.slice κ 1 l]:=by rcases hκ2 with h|h<;>rw[h]<;>intro l<;>rfl
   clear hκ2;generalize hy:zea x m q=y at*;clear hy hκ;simp only[if_true];simp[encK1,zh,zW,ints]at hsx;have hkl:y.kids.length<1000000:=by omega
   simp[*,zh,encK1,zW,ints,zz,zka];refine zH y.kids K11_0 B11_0 (fun e=>[(11,acc 1 ((ndkG m q e (-1)).1.map zj)),(12,.int .i64 e.length)]) (fun e=>[x0,x1,x2,.arr 1 [.int .i64 (ndkG m q e (-1)).2]]) (fun _=>True) (by omega) (by simp[ndkG]) ?_ ?_
   ·intros e z r' s' hl2 hlt2 hget2 hget2' hw2 hp' j1 j2 j3 j4;simp at j1 j2 j3;have hrg2:=ndkG_rng m q e (-1);have hwe:wtK e+(1+wtL z)<=wtK y.kids:=by rw[hl2.eq,wtK_append,wtK];omega
    have hv:=hkk z hl2.mem (ndkG m q e (-1)).2 (by omega) (by omega) x0 x1 x2;have happ:=ndkG_append m q e z (-1);have hel:=ndkG_len m q e (-1);have q5:(e.length+1)*24<=zk:=by simp only[zk];omega
    rw[hm0,hq0]at hv;rw[happ];generalize ndkG m q e (-1)=W at*;clear hkk happ hrg2 hwe hl2 hsx;simp[zC]at hv
    (simp[*,zC,zW,ints])<;>(repeat' (first|((first|refine sP _ ?_ ?_|refine gP _ ?_ ?_|refine sN _ ?_ ?_|refine gN _ ?_ ?_)<;>intro hc<;>(first|replace hc:=eqn hc|replace hc:=eqp hc)<;>simp[*,zC,zW,ints])|((first|refine sM _ ?_ ?_|refine gM _ ?_ ?_|refine sB _ ?_ ?_|refine gB _ ?_ ?_)<;>intro hc<;>simp[*,zC,zW,ints])))
   ·intros s' hp' j1 j2 j3 j4;simp at j1 j2 j3;clear hkk hsx;generalize ndkG m q y.kids (-1)=W at*;obtain⟨W1,W2⟩:=W;cases W1 with
    |nil=>
     simp only at j1 j2 j3 j4 ⊢;simp at j3;by_cases h10:m=10
     ·(simp[*,zj,kids,za,ints])<;>(repeat' (first|((first|refine sP _ ?_ ?_|refine gP _ ?_ ?_|refine sN _ ?_ ?_|refine gN _ ?_ ?_)<;>intro hc<;>(first|replace hc:=eqn hc|replace hc:=eqp hc)<;>simp[*,zj,kids,za,ints])|((first|refine sM _ ?_ ?_|refine gM _ ?_ ?_|refine sB _ ?_ ?_|refine gB _ ?_ ?_)<;>intro hc<;>simp[*,zj,kids,za,ints])))
      all_goals(try rfl)
     ·(simp[*,zj,kids,za,ints])<;>(repeat' (first|((first|refine sP _ ?_ ?_|refine gP _ ?_ ?_|refine sN _ ?_ ?_|refine gN _ ?_ ?_)<;>intro hc<;>(first|replace hc:=eqn hc|replace hc:=eqp hc)<;>simp[*,zj,kids,za,ints])|((first|refine sM _ ?_ ?_|refine gM _ ?_ ?_|refine sB _ ?_ ?_|refine gB _ ?_ ?_)<;>intro hc<;>simp[*,zj,kids,za,ints])))
      all_goals(try rfl)
    |cons w0 wr=>
     simp only at j1 j2 j3 j4 ⊢;simp at j3;by_cases h10:m=10
     ·(simp[*,zj,kids,za,ints])<;>(repeat' (first|((first|refine sP _ ?_ ?_|refine gP _ ?_ ?_|refine sN _ ?_ ?_|refine gN _ ?_ ?_)<;>intro hc<;>(first|replace hc:=eqn hc|replace hc:=eqp hc)<;>simp[*,zj,kids,za,ints])|((first|refine sM _ ?_ ?_|refine gM _ ?_ ?_|refine sB _ ?_ ?_|refine gB _ ?_ ?_)<;>intro hc<;>simp[*,zj,kids,za,ints])))
      all_goals(try rfl)
     ·(simp[*,zj,kids,za,ints])<;>(repeat' (first|((first|refine sP _ ?_ ?_|refine gP _ ?_ ?_|refine sN _ ?_ ?_|refine gN _ ?_ ?_)<;>intro hc<;>(first|replace hc:=eqn hc|replace hc:=eqp hc)<;>simp[*,zj,kids,za,ints])|((first|refine sM _ ?_ ?_|refine gM _ ?_ ?_|refine sB _ ?_ ?_|refine gB _ ?_ ?_)<;>intro hc<;>simp[*,zj,kids,za,ints])))
      all_goals(try rfl)
  ·have hb1:=eqn hb0;have hkk:∀z∈x.kids,∀c:Int,c<=b-1->i-2*wtL l<=c-2*wtL z->NC how z c:=fun z hz c h1 h2=>hks z hz c (by omega) h2
   clear hks hks2 hb0;simp only[hb1,if_false,false_and];have hkl:x.kids.length<1000000:=by omega
   simp[*,zh,encK1,zW,ints,zz,zka];refine zH x.kids K11_0 B11_0 (fun e=>[(11,acc 1 ((ndkG m q e (b-1)).1.map zj)),(12,.int .i64 e.length)]) (fun e=>[x0,x1,x2,.arr 1 [.int .i64 (ndkG m q e (b-1)).2]]) (fun _=>True) (by omega) (by simp[ndkG]) ?_ ?_
   ·intros e z r' s' hl2 hlt2 hget2 hget2' hw2 hp' j1 j2 j3 j4;simp at j1 j2 j3;have hrg2:=ndkG_rng m q e (b-1);have hwe:wtK e+(1+wtL z)<=wtK x.kids:=by rw[hl2.eq,wtK_append,wtK];omega
    have hv:=hkk z hl2.mem (ndkG m q e (b-1)).2 (by omega) (by omega) x0 x1 x2;have happ:=ndkG_append m q e z (b-1);have hel:=ndkG_len m q e (b-1);have q5:(e.length+1)*24<=zk:=by simp only[zk];omega
    rw[hm0,hq0]at hv;rw[happ];generalize ndkG m q e (b-1)=W at*;clear hkk happ hrg2 hwe hl2 hsx;simp[zC]at hv
    (simp[*,zC,zW,ints])<;>(repeat' (first|((first|refine sP _ ?_ ?_|refine gP _ ?_ ?_|refine sN _ ?_ ?_|refine gN _ ?_ ?_)<;>intro hc<;>(first|replace hc:=eqn hc|replace hc:=eqp hc)<;>simp[*,zC,zW,ints])|((first|refine sM _ ?_ ?_|refine gM _ ?_ ?_|refine sB _ ?_ ?_|refine gB _ ?_ ?_)<;>intro hc<;>simp[*,zC,zW,ints])))
   ·intros s' hp' j1 j2 j3 j4;simp at j1 j2 j3;clear hkk hsx;generalize ndkG m q x.kids (b-1)=W at*;obtain⟨W1,W2⟩:=W;cases W1 with
    |nil=>
     simp only at j1 j2 j3 j4 ⊢;simp at j3
     (simp[*,zj,kids,za,ints])<;>(repeat' (first|((first|refine sP _ ?_ ?_|refine gP _ ?_ ?_|refine sN _ ?_ ?_|refine gN _ ?_ ?_)<;>intro hc<;>(first|replace hc:=eqn hc|replace hc:=eqp hc)<;>simp[*,zj,kids,za,ints])|((first|refine sM _ ?_ ?_|refine gM _ ?_ ?_|refine sB _ ?_ ?_|refine gB _ ?_ ?_)<;>intro hc<;>simp[*,zj,kids,za,ints])))
     all_goals(try rfl)
    |cons w0 wr=>
     simp only at j1 j2 j3 j4 ⊢;simp at j3
     (simp[*,zj,kids,za,ints])<;>(repeat' (first|((first|refine sP _ ?_ ?_|refine gP _ ?_ ?_|refine sN _ ?_ ?_|refine gN _ ?_ ?_)<;>intro hc<;>(first|replace hc:=eqn hc|replace hc:=eqp hc)<;>simp[*,zj,kids,za,ints])|((first|refine sM _ ?_ ?_|refine gM _ ?_ ?_|refine sB _ ?_ ?_|refine gB _ ?_ ?_)<;>intro hc<;>simp[*,zj,kids,za,ints])))
     all_goals(try rfl)
 ·intros s hp k1 k2 k3 k4;simp at k1 k3
  (simp[*,zj])<;>(repeat' (first|((first|refine sP _ ?_ ?_|refine gP _ ?_ ?_|refine sN _ ?_ ?_|refine gN _ ?_ ?_)<;>intro hc<;>(first|replace hc:=eqn hc|replace hc:=eqp hc)<;>simp[*,zj])|((first|refine sM _ ?_ ?_|refine gM _ ?_ ?_|refine sB _ ?_ ?_|refine gB _ ?_ ?_)<;>intro hc<;>simp[*,zj])))
theorem nodes_neg(how:Nat)(hh:how<65536):∀(N:Nat) (l:List Node) (i:Int),wtL l<=N->N<100000-> -10000000000<=i-2*wtL l->i<0->NC how l i:=by
 intro N
 induction N using yca with
 |ind N ih=>
  intro l i hl hN h0 h1;refine nodes_walk how hh l i ⟨h0,by omega⟩ (by omega) ?_ (fun h=>by omega);intro x hx q hq b hb hb2;have:=wt_mem hx;have:=wt_kid hq;exact ih (wtL q) (by omega) q b (yk _) (by omega) (by omega) (by omega)
theorem nodes_all(how:Nat)(hh:how<65536):∀(N:Nat) (l:List Node) (i:Int),wtL l<=N->N<100000-> -10000000000<=i-2*wtL l->i<=1000->NC how l i:=by
 intro N
 induction N using yca with
 |ind N ih=>
  intro l i hl hN h0 h1;refine nodes_walk how hh l i ⟨h0,by omega⟩ (by omega) ?_ ?_
  ·intro x hx q hq b hb hb2;have:=wt_mem hx;have:=wt_kid hq;exact ih (wtL q) (by omega) q b (yk _) (by omega) (by omega) (by omega)
  ·intro hi x hx q hq b hb hb2;have:=wt_mem hx;have hq2:wtL q<100000:=by
    rcases spoilt_kids x (how%11) (how/11)with h|h
    ·rw[h]at hq;have:=wt_kid hq;omega
    ·rw[h,yz]at hq;rcases hq with hq|hq
     ·have:=wt_kid hq;omega
     ·simp at hq;rw[hq];simp[wtL,wtN,wtK]
   exact nodes_neg how hh (wtL q) q b (yk _) hq2 (by omega) hb
theorem spoilt_wtN(x:Node)(m q:Nat):wtN (zea x m q)<=wtN x+10:=by
 have hn:∀k:Nat,(([[97],[102],[109,97,105,110],[120],[]]:List (List UInt8))[k]?.getD []).length<=4:=by
  intro k
  match k with
  |0=>decide
  |1=>decide
  |2=>decide
  |3=>decide
  |4=>decide
  |k+5=>simp
 have h6:=hn (q%5);unfold zea;split<;>simp only[zeb,chg,yU,List.length_drop,yP,wtK_append,wtK,wtL,wtN]<;>omega
mutual
theorem ndG_wt(m q:Nat):∀(x:Node) (i:Int),wtN (ndG m q x i).1<=wtN x+(if 0<=i then 10 else 0)/\((ndG m q x i).2<0\/wtN (ndG m q x i).1<=wtN x)
 |⟨k,o,n,s,a,u,p,ks⟩,i=>by
  rw[ndG];split
  ·rename_i h;have:=spoilt_wtN ⟨k,o,n,s,a,u,p,ks⟩ m q;simp only;rw[if_pos (by omega)];exact⟨this,.inl (by omega)⟩
  ·obtain⟨h1,h2⟩:=ndkG_wt m q ks (i-1);simp only[wtN];refine⟨?_,?_⟩
   ·split
    ·split at h1<;>omega
    ·rw[if_neg (by omega)]at h1;omega
   ·rcases h2 with h|h
    ·exact .inl h
    ·exact .inr (by omega)
theorem ndsG_wt(m q:Nat):∀(l:List Node) (i:Int),wtL (ndsG m q l i).1<=wtL l+(if 0<=i then 10 else 0)/\((ndsG m q l i).2<0\/wtL (ndsG m q l i).1<=wtL l)
 | [],i=>by rw[ndsG];simp[wtL]
 |x::r,i=>by
  obtain⟨h1,h2⟩:=ndG_wt m q x i;obtain⟨h3,h4⟩:=ndsG_wt m q r (ndG m q x i).2;have hr:=ndG_rng m q x i;have hr2:=ndsG_rng m q r (ndG m q x i).2;rw[ndsG];simp only;refine⟨?_,?_⟩
  ·split
   ·rename_i hc;rw[if_pos (by omega)];rw[if_neg (by omega)]at h3;simp only[wtL];omega
   ·simp only[wtL];split
    ·split at h3
     ·rcases h2 with h|h
      ·omega
      ·omega
     ·split at h1<;>omega
    ·rw[if_neg (by omega)]at h1;rw[if_neg (by omega)]at h3;omega
  ·rcases h4 with h|h
   ·exact .inl h
   ·rcases h2 with h'|h'
    ·exact .inl (by omega)
    ·refine .inr ?_;split<;>simp only[wtL]<;>omega
theorem ndkG_wt(m q:Nat):∀(l:List (List Node)) (i:Int),wtK (ndkG m q l i).1<=wtK l+(if 0<=i then 10 else 0)/\((ndkG m q l i).2<0\/wtK (ndkG m q l i).1<=wtK l)
 | [],i=>by rw[ndkG];simp[wtK]
 |x::r,i=>by
  obtain⟨h1,h2⟩:=ndsG_wt m q x i;obtain⟨h3,h4⟩:=ndkG_wt m q r (ndsG m q x i).2;have hr:=ndsG_rng m q x i;have hr2:=ndkG_rng m q r (ndsG m q x i).2;rw[ndkG];simp only[wtK];refine⟨?_,?_⟩
  ·split
   ·split at h3
    ·rcases h2 with h|h<;>omega
    ·split at h1<;>omega
   ·rw[if_neg (by omega)]at h1;rw[if_neg (by omega)]at h3;omega
  ·rcases h4 with h|h
   ·exact .inl h
   ·rcases h2 with h'|h'
    ·exact .inl (by omega)
    ·exact .inr (by omega)
end
theorem viewG0(o d:Obj)(r:zb)(ars:List Arr)(s s':List UInt8)(t p t' p':Int)(ty ty':List Int)(l l':List Node):
  plainV (zB 12 0 (o::d:: .arr 5 [.agg [.str s,.int .i64 t,.int .i64 p,.slice .plain 1 (ty.map (PV.int .i64)),zC l],.agg [.str s',.int .i64 t',.int .i64 p',.slice .plain 1 (ty'.map (PV.int .i64)),zC l']]::r) (.agg [arrs ars,.mslice 2 0 2 5]))=encUnt ⟨ars,[⟨s,t,p,ty,l⟩,⟨s',t',p',ty',l'⟩]⟩:=by
 simp[zB,arrs,encUnt,flows,zf,ints,yv,zN]
theorem viewG1(o d:Obj)(r:zb)(ars:List Arr)(s s':List UInt8)(t p t' p':Int)(ty ty':List Int)(l l':List Node):
  plainV (zB 12 0 (o::d:: .arr 5 [.agg [.str s,.int .i64 t,.int .i64 p,.slice .plain 1 (ty.map (PV.int .i64)),zj l],.agg [.str s',.int .i64 t',.int .i64 p',.slice .plain 1 (ty'.map (PV.int .i64)),zC l']]::r) (.agg [arrs ars,.mslice 2 0 2 5]))=encUnt ⟨ars,[⟨s,t,p,ty,l⟩,⟨s',t',p',ty',l'⟩]⟩:=by
 simp[zB,arrs,encUnt,flows,zf,ints,yv,zN]
theorem viewG2(o d:Obj)(r:zb)(ars:List Arr)(s s':List UInt8)(t p t' p':Int)(ty ty':List Int)(l l':List Node):
  plainV (zB 12 0 (o::d:: .arr 5 [.agg [.str s,.int .i64 t,.int .i64 p,.slice .plain 1 (ty.map (PV.int .i64)),zC l],.agg [.str s',.int .i64 t',.int .i64 p',.slice .plain 1 (ty'.map (PV.int .i64)),zj l']]::r) (.agg [arrs ars,.mslice 2 0 2 5]))=encUnt ⟨ars,[⟨s,t,p,ty,l⟩,⟨s',t',p',ty',l'⟩]⟩:=by
 simp[zB,arrs,encUnt,flows,zf,ints,yv,zN]
theorem isVar_encUnt'(u:Unt):zq (encUnt u)=true:=yd rfl rfl
theorem shapeGood_spec(L:List UInt8)(hL:L.length<=9223372036854775807)(at_:Int)(h0:0<=at_/\at_<=255)(how:Int)(h1:0<=how/\how<=65535)(fl:Bool):
  zm E 3 [u8s L,.int .u8 at_,.int .u16 how,.bool fl] []=some (.ret (.bool true),[]):=by
 obtain⟨A,rfl⟩:∃A:Nat,at_=A:=⟨at_.toNat,by omega⟩
 obtain⟨H,rfl⟩:∃H:Nat,how=H:=⟨how.toNat,by omega⟩
 have ha:=awake8_spec;obtain⟨o,hm⟩:=madeF_spec L hL;have hz:=madeM_sz L;have hsm:∀f∈(madeM L).flows,wtL f.body<10000:=by
  have h1:=flowL_ok L [] 0;have h2:=flowL_ok L [1,2] (flowL L [] 0).i;obtain⟨a1,a2,a3,a4⟩:=h1;obtain⟨b1,b2,b3,b4⟩:=h2;intro f hf;simp only[madeM,yJ,yxa,or_false]at hf;rcases hf with rfl|rfl<;>simp[flowG_eq,wtL,wtN,wtK]<;>omega
 obtain⟨ars,f0,f1,hu⟩:∃ars f0 f1,madeM L=⟨ars,[f0,f1]⟩:=⟨_,_,_,rfl⟩
 rw[hu]at hm hz hsm;clear hu;obtain⟨s0,t0,p0,y0,l0⟩:=f0;obtain⟨s1,t1,p1,y1,l1⟩:=f1;have hw0:=hsm ⟨s0,t0,p0,y0,l0⟩ (by simp);have hw1:=hsm ⟨s1,t1,p1,y1,l1⟩ (by simp);have hy0:=hz.types ⟨s0,t0,p0,y0,l0⟩ (by simp);have hy1:=hz.types ⟨s1,t1,p1,y1,l1⟩ (by simp);simp only at hw0 hw1 hy0 hy1;have r0:remK (A:Int) 40=((A%40:Nat):Int):=remNat A 40;have hA:A%40<40:=Nat.mod_lt _ (by omega);have n0:=nodes_all H (by omega) (wtL l0) l0 ((A%40:Nat):Int) (yk _) (by omega) (by omega) (by omega);have n1:=nodes_all H (by omega) (wtL l1) l1 ((A%40:Nat):Int) (yk _) (by omega) (by omega) (by omega);have m0:=(ndsG_wt (H%11) (H/11) l0 ((A%40:Nat):Int)).1;have m1:=(ndsG_wt (H%11) (H/11) l1 ((A%40:Nat):Int)).1;rw[if_pos (by omega)]at m0 m1;have n0:=n0 o (.dead 5) (.arr 5 [zQa ⟨s0,t0,p0,y0,l0⟩,zQa ⟨s1,t1,p1,y1,l1⟩]);have n1:=n1 o (.dead 5) (.arr 5 [zQa ⟨s0,t0,p0,y0,l0⟩,zQa ⟨s1,t1,p1,y1,l1⟩]);generalize ndsG (H%11) (H/11) l0 ((A%40:Nat):Int)=G0 at*;generalize ndsG (H%11) (H/11) l1 ((A%40:Nat):Int)=G1 at*;obtain⟨g0,i0⟩:=G0;obtain⟨g1,i1⟩:=G1;simp only at m0 m1 n0 n1;have zs:∀(l l':List Node),wtL l<1099511000000->wtL l'<1099511000000->USz ⟨ars,[⟨s0,t0,p0,y0,l⟩,⟨s1,t1,p1,y1,l'⟩]⟩/\∀f∈(⟨ars,[⟨s0,t0,p0,y0,l⟩,⟨s1,t1,p1,y1,l'⟩]⟩:Unt).flows,wtL f.body<1099511000000:=by
  intro l l' h h';refine⟨⟨hz.arrs,by simp,fun f hf=>?_,fun f hf=>?_⟩,fun f hf=>?_⟩<;>simp only[yJ,yxa,or_false]at hf<;>rcases hf with rfl|rfl<;>simp only<;>omega
 have both:∀(l l':List Node),wtL l<1099511000000->wtL l'<1099511000000->∃e n,zm E 9 [encUnt ⟨ars,[⟨s0,t0,p0,y0,l⟩,⟨s1,t1,p1,y1,l'⟩]⟩] []=some (.ret (.tup [.int .i64 e,.int .i64 n]),[])∧
   zm E 10 [encUnt ⟨ars,[⟨s0,t0,p0,y0,l⟩,⟨s1,t1,p1,y1,l'⟩]⟩] []=some (.ret (.tup [.int .i64 e,.int .i64 n]),[]):=by
  intro l l' h h';obtain⟨z1,z2⟩:=zs l l' h h';have c:=check_spec _ z1;have d:=rcheck_spec _ z1 z2;rw[<-check_eq]at d;exact⟨_,_,c,d⟩
 obtain⟨e,n,c1,d1⟩:=both l0 l1 (by omega) (by omega);obtain⟨ea,na,c2,d2⟩:=both g0 l1 (by omega) (by omega);obtain⟨eb,nb,c3,d3⟩:=both l0 g1 (by omega) (by omega);have v0:=viewG0 o (.dead 5) [] ars s0 s1 t0 p0 t1 p1 y0 y1 l0 l1;have v0':=viewG0 o (.dead 5) [.arr 1 [.int .i64 ((A%40:Nat):Int)]] ars s0 s1 t0 p0 t1 p1 y0 y1 l0 l1;have v1:=viewG1 o (.dead 5) [.arr 1 [.int .i64 i0]] ars s0 s1 t0 p0 t1 p1 y0 y1 g0 l1;have v2:=viewG2 o (.dead 5) [.arr 1 [.int .i64 i1]] ars s0 s1 t0 p0 t1 p1 y0 y1 l0 g1;have bl:∀u:Unt,zp 0 (encUnt u)=true:=fun u=>flat_unt 0 u
 have wH:zT .i64 (H:Int)=(H:Int):=zn (by omega) (by omega);have wA:zT .i64 (A:Int)=(A:Int):=zn (by omega) (by omega);refine zc rfl rfl rfl (by simp[u8s]) ?_;generalize A%40=a at*;clear both zs hz hsm hw0 hw1 hy0 hy1 m0 m1 h0 h1 hA;simp[u8s,zQa,ints]at hm n0 n1;cases fl
 ·simp[*,-freezeK_agg12,F3,u8s,zQa,ints,isVar_encUnt',zz,zka]
 ·simp[*,-freezeK_agg12,F3,u8s,zQa,ints,isVar_encUnt',zz,zka]
end PE.U

namespace PE
open Go Go.RowKit
def Kept(w w':World):Prop:=w.keptBut w' (fun _=>False)/\∀k,k<w.heap.size->w'.heap[k]? =w.heap[k]?
theorem Kept.frame{w w':World}(h:Kept w w')(X:MemPlace->Prop):w.keptBut w' X:=World.keptBut_mono (fun p hp=>hp.elim) h.1
theorem kept_of_ext{w w':World}{G':Gh}{st':zb}(h:Ext (gh0 w) [] w G' st' w'):Kept w w':=
 ⟨by
  refine⟨h.os,h.output,fun i hi=>?_⟩;have hb:=(h.prot i (by simp[gh0,hi])).2.2;rw[hb];cases w.heap[i]? with
  |none=>rfl
  |some o=>cases o<;>first|exact⟨rfl,rfl,rfl,fun _ _=>rfl⟩|exact .inr ⟨rfl,rfl⟩|rfl,fun k hk=>(h.prot k (by simp[gh0,hk])).2.2⟩
theorem Kept.same{W w':World}(h:Kept W w'){p:MemPlace}(hp:p.block<W.heap.size):W.sameAt w' p:=by
 cases p with
 |cell b o=>exact World.cell?_of_block (w:=W) (h.2 b hp)
 |map b=>exact h.2 b hp
theorem Kept.trod{H:Type}{enc:TypeId×Value->H}{P:Program}{t:TypeId}(hl:laidOutB P=true)(hr:P.readableRec t=true)(hrow:t<P.types.size){W W':World}{v:Value}{d:DataW H}{ps:List MemPlace}
  (h:DataW.Trod enc P W 0 (fun _=>true) true t v d ps) (hb:Kept W W') (hlt:∀x∈ps,x.block<W.heap.size):
  DataW.Trod enc P W' 0 (fun b=>decide (b<W.heap.size)) true t v d ps:=
 WideElems.Trod_stays hl hr hrow h (fun x hx=>hb.same (hlt x hx)) (fun x hx=>by simpa using hlt x hx)
theorem walk_kept{P:Program}{T:Tabs}{E:Env}(hE:EnvOk P T E){f:Nat}{args:List PV}{margs:Array Value}{w:World}{st':zb}(hT:T.In (gh0 w) w)
  (h:zm E f args []=some (.ret (.bool true),st')) (hsz:margs.size=args.length)
  (hv:∀(j:Nat) c x,args[j]? =some c->margs[j]? =some x->VR ((gh0 w).im w) (fun _=>none) c x):
  Calls P f margs w fun e w'=>e= .returned (.bool true)/\Kept w w':=by
 obtain⟨n,hn⟩:=zUb.1 h;have hloc:ze (gh0 w).lc []=fun _=>none:=by funext l;simp[ze]
 refine((callF_good hE n _ _ _ _ _ hn (gh0 w) w margs rfl hT (gh0_sim w) hsz (by rw[hloc];exact hv)).2).mono ?_;intro e w' he;cases e with
 |returned mv=>
  obtain⟨G',q1,q2,q3⟩:=he;exact⟨by rw[VR.bool_inv q3],kept_of_ext q2⟩
 |panicked ch=>exact he.elim
 |outgrown=>exact he.elim
def IsRow(k:IntKind)(w:World)(a:Option Addr)(len cap:Nat)(zs:List Int):Prop:=
 (a=none/\len=0/\cap=0/\zs=[])∨
 ∃x,a=some x/\len<=cap/\cap<=maxLen/\zs.length=cap/\(∀i,i<zs.length->w.cell? (x.add i)=some (.int k (zs.getD i 0)))/\∀n∈zs,(Lit.int k n).wf=true
theorem row_vr{k:IntKind}{w:World}{a:Option Addr}{len cap:Nat}{zs:List Int}(h:IsRow k w a len cap zs):VR ((gh0 w).im w) (fun _=>none) (.slice .plain 1 ((zs.take len).map (PV.int k))) (.slice a len cap):=by
 rcases h with⟨rfl,rfl,rfl,rfl⟩|⟨x,rfl,hl,hm,hz,hcell,hwz⟩
 ·exact .slice0 _ _ _ _ (by simp) (by simp)
 ·by_cases h0:len=0
  ·subst h0;exact .slice0 _ _ _ _ (by simp) (by simp)
  ·obtain⟨b,off,spot⟩:=x;have hc:=hcell 0 (by omega);have hspot:spot=none:=by simpa[Addr.add]using World.cell?_spot hc
   subst hspot;have hlen:((zs.take len).map (PV.int k)).length=len:=by simp;omega
   have hget:∀(i:Nat) e,((zs.take len).map (PV.int k))[i]? =some e->i<len/\e= .int k (zs.getD i 0):=by
    intro i e he;rw[yh,yb]at he;obtain⟨n,hn,rfl⟩:=he;rw[yw]at hn;split at hn
    ·rename_i hi;refine⟨hi,?_⟩;rw[List.getD_eq_getElem?_getD,hn];rfl
    ·cases hn
   have:=VR.slice (I:=(gh0 w).im w) (L:=fun _=>none) (k:= .plain) (sz:=1) (l:=(zs.take len).map (PV.int k)) (b:=b) (o:=off) (cap:=cap)
    (by simp) (by simp) (by rw[hlen];exact hl) (fun i _=> .int k (zs.getD i 0)) ?_ ?_ ?_
   ·rw[hlen]at this;exact this
   ·intro i e he;obtain⟨_,rfl⟩:=hget i e he;exact⟨rfl,rfl⟩
   ·intro i e j c he hc;obtain⟨hi,rfl⟩:=hget i e he;cases j with
    |zero=>
     refine⟨gh0_im ?_,rfl⟩;have:=hcell i (by omega);have e:(⟨b,off,none⟩:Addr).add i=⟨b,off+i*1+0,none⟩:=by
      unfold Addr.add;by_cases hi0:i=0<;>simp[hi0]
     rw[<-e];exact this
    |succ j=>simp[cellsOf]at hc
   ·intro i e j c he hc;obtain⟨hi,rfl⟩:=hget i e he;cases j with
    |zero=>simp[cellsOf]at hc;subst hc;exact .int _ _
    |succ j=>simp[cellsOf]at hc
theorem row_len{k:IntKind}{w:World}{a:Option Addr}{len cap:Nat}{zs:List Int}(h:IsRow k w a len cap zs):(zs.take len).length<=maxLen:=by
 rcases h with⟨rfl,rfl,rfl,rfl⟩|⟨x,rfl,hl,hm,hz,hcell,hwz⟩
 ·simp
 ·rw[List.length_take];omega
def bytesOf(zs:List Int):List UInt8:=zs.map fun n=>yra n.toNat
theorem row_u8{w:World}{a:Option Addr}{len cap:Nat}{zs:List Int}(h:IsRow .u8 w a len cap zs):VR ((gh0 w).im w) (fun _=>none) (.slice .plain 1 ((bytesOf (zs.take len)).map fun b=> .int .u8 b.toNat)) (.slice a len cap):=by
 have hv:=row_vr h;have:(bytesOf (zs.take len)).map (fun b=>PV.int .u8 b.toNat)=(zs.take len).map (PV.int .u8):=by
  unfold bytesOf;rw[List.map_map];apply List.map_congr_left;intro n hn;have hwf:(Lit.int .u8 n).wf=true:=by
   rcases h with⟨rfl,rfl,rfl,rfl⟩|⟨x,rfl,hl,hm,hz,hcell,hwz⟩
   ·simp at hn
   ·exact hwz n (List.mem_of_mem_take hn)
  have hb:0<=n/\n<=255:=by
   simp only[Lit.wf,ya,decide_eq_true_eq]at hwf;exact hwf
  simp only[Function.comp_apply,PV.int.injEq,true_and];have:(yra n.toNat).toNat=n.toNat:=by
   rw[UInt8.toNat_ofNat'];omega
  omega
 rw[this];exact hv
theorem bytes_len{w:World}{a:Option Addr}{len cap:Nat}{zs:List Int}(h:IsRow .u8 w a len cap zs):(bytesOf (zs.take len)).length<=maxLen:=by
 unfold bytesOf;rw[yQ];exact row_len h
theorem str_vr(I:Im)(L:Loc){b:ByteArray}:VR I L (.str b.data.toList) (.string b):=VR.str b.data.toList
theorem str_len{b:ByteArray}(h:b.size<=maxLen):b.data.toList.length<=maxLen:=by
 rw[Array.length_toList];exact h
theorem maxLen_eq:maxLen=9223372036854775807:=by decide
def packT(P:Program)(e:TypeId)(l:List PV):PV:=match P.underlying e with
 |some (.struct _)=> .agg l
 |_=>l.headD .undef
def CellsT(P:Program):Nat->TypeId->List PV->Prop
 |0,_,_=>False
 |n+1,t,l=>match P.underlying t with
  |some (.int k)=>∃z,l=[.int k z]/\(Lit.int k z).wf=true
  |some .bool=>∃b,l=[.bool b]
  |some .string=>∃s:List UInt8,l=[.str s]/\s.length<=maxLen
  |some (.struct fs)=>l.length=P.cellsOf t/\∀f∈fs.toList,CellsT P n f.type ((l.drop f.offset).take (P.cellsOf f.type))
  |some (.slice e)=>∃es:List (List PV),l=[.slice .plain (P.cellsOf e) (es.map (packT P e))]/\es.length<=maxLen/\∀c∈es,CellsT P n e c
  |_=>False
def layB(P:Program):List Field->Nat->Nat->Bool
 | [],o,total=>o==total
 |f::r,o,total=>f.offset==o&&layB P r (o+P.cellsOf f.type) total
def plainB(P:Program)(S:List TypeId):Bool:=S.all fun t=>match P.underlying t with
 |some (.int _)=>P.cellsOf t==1
 |some .bool=>P.cellsOf t==1
 |some .string=>P.cellsOf t==1
 |some (.struct fs)=>fs.toList.all (fun f=>S.contains f.type)&&layB P fs.toList 0 (P.cellsOf t)
 |some (.slice e)=>S.contains e&&decide (0<P.cellsOf e)&&(P.cellsOf t==1)
 |_=>false
def R1(w:World)(c:PV)(v:Value):Prop:=VR ((gh0 w).im w) (fun _=>none) c v/\zDb c=true/\v.oneCell'=true
def Rs(w:World)(l:List PV)(cs:List Value):Prop:=l.length=cs.length/\∀(j:Nat) c v,l[j]? =some c->cs[j]? =some v->R1 w c v
theorem Rs.one{w:World}{c:PV}{v:Value}(h:R1 w c v):Rs w [c] [v]:=by
 refine⟨rfl,fun j c' v' hc hv=>?_⟩;cases j with
 |zero=>cases hc;cases hv;exact h
 |succ j=>simp at hc
theorem Rs.append{w:World}{l l':List PV}{cs cs':List Value}(h:Rs w l cs)(h':Rs w l' cs'):Rs w (l++l') (cs++cs'):=by
 refine⟨by simp[h.1,h'.1],fun j c v hc hv=>?_⟩;by_cases hj:j<l.length
 ·rw[yi hj]at hc;rw[yi (by rw[<-h.1];exact hj)]at hv;exact h.2 j c v hc hv
 ·rw[ym (by omega)]at hc;rw[ym (by rw[<-h.1];omega)]at hv;rw[<-h.1]at hv;exact h'.2 _ c v hc hv
theorem lay_join{P:Program}{w:World}{n:Nat}{cs:List Value}:∀(fs:List Field) (o total:Nat),layB P fs o total=true->total=cs.length→
  (∀f∈fs,∃l,Rs w l ((cs.drop f.offset).take (P.cellsOf f.type))/\CellsT P n f.type l)→
  ∃l,Rs w l (cs.drop o)/\∀f∈fs,o<=f.offset/\CellsT P n f.type ((l.drop (f.offset-o)).take (P.cellsOf f.type)):=by
 intro fs
 induction fs with
 |nil=>
  intro o total hl ht _;simp only[layB,beq_iff_eq]at hl;refine⟨[],⟨?_,fun j c v hc=>by simp at hc⟩,fun f hf=>by simp at hf⟩;simp;omega
 |cons f r ih=>
  intro o total hl ht hf;simp only[layB,ya,beq_iff_eq]at hl;obtain⟨ho,hl⟩:=hl;obtain⟨l1,h1,c1⟩:=hf f (by simp);obtain⟨l2,h2,c2⟩:=ih _ _ hl ht (fun g hg=>hf g (by simp[hg]));have hle:∀(fs:List Field) (o total:Nat),layB P fs o total=true->o<=total:=by
   intro fs
   induction fs with
   |nil=>intro o total h;simp only[layB,beq_iff_eq]at h;omega
   |cons g s ihs=>
    intro o total h;simp only[layB,ya,beq_iff_eq]at h;have:=ihs _ _ h.2;omega
  have hn:=hle _ _ _ hl;have hlen1:l1.length=P.cellsOf f.type:=by
   rw[h1.1,List.length_take,List.length_drop,ho];omega
  refine⟨l1++l2,?_,?_⟩
  ·have:cs.drop o=(cs.drop f.offset).take (P.cellsOf f.type)++cs.drop (o+P.cellsOf f.type):=by
    rw[ho,<-List.drop_drop,List.take_append_drop]
   rw[this];exact h1.append h2
  ·intro g hg;rcases yJ.1 hg with rfl|hg
   ·refine⟨by omega,?_⟩;rw[ho,Nat.sub_self,List.drop_zero,List.take_append_of_le_length (by omega),<-hlen1,List.take_length];exact c1
   ·obtain⟨h3,h4⟩:=c2 g hg;refine⟨by omega,?_⟩;have:(l1++l2).drop (g.offset-o)=l2.drop (g.offset-(o+P.cellsOf f.type)):=by
     rw[List.drop_append,List.drop_of_length_le (by omega),List.nil_append];congr 1;omega
    rw[this];exact h4
theorem cells_packed{P:Program}{n:Nat}{e:TypeId}{l:List PV}{w:World}{cs:List Value}(hr:Rs w l cs)(h:CellsT P n e l)(hsz:cs.length=P.cellsOf e):cellsOf (packT P e l)=l/\zq (packT P e l)=true:=by
 cases n with
 |zero=>exact h.elim
 |succ n=>
  unfold CellsT at h;unfold packT;split at h
  ·rename_i hu;rw[hu];obtain⟨z,rfl,_⟩:=h;exact⟨rfl,rfl⟩
  ·rename_i hu;rw[hu];obtain⟨z,rfl⟩:=h;exact⟨rfl,rfl⟩
  ·rename_i hu;rw[hu];obtain⟨z,rfl,_⟩:=h;exact⟨rfl,rfl⟩
  ·rename_i hu;rw[hu];exact⟨rfl,rfl⟩
  ·rename_i hu;rw[hu];obtain⟨z,rfl,_⟩:=h;exact⟨rfl,rfl⟩
  ·exact h.elim
theorem cells?_get{w:World}{a:Addr}{n:Nat}{cs:List Value}(h:w.cells? 0 a n=some cs):cs.length=n/\∀(j:Nat) v,cs[j]? =some v->w.cell? (a.add j)=some v:=by
 unfold World.cells? at h;rw[if_pos (Nat.zero_le _)]at h;have hl:=mapM_some_length h;rw[List.length_range]at hl;refine⟨hl,fun j v hv=>?_⟩;have hj:j<n:=by rw[<-hl];exact(yc.1 hv).1
 have:=mapM_some_get h j j (by rw[List.getElem?_range hj]);rw[this,hv]
theorem add_add(a:Addr)(ha:a.spot=none)(x:Nat):a.add x=⟨a.block,a.off+x,none⟩:=by
 obtain⟨b,o,s⟩:=a;simp only at ha;subst ha;unfold Addr.add;by_cases h:x=0<;>simp[h]
theorem read_cells{P:Program}{S:List TypeId}(hp:plainB P S=true){H:Type}{enc:TypeId×Value->H}{w:World}{sp:Nat->Bool}:∀(n:Nat) (t:TypeId) (cs:List Value) (x:DataW H×List MemPlace),t∈S→
  DataW.trod enc P w 0 sp true n t cs=some x->∃l,Rs w l cs/\CellsT P n t l/\cs.length=P.cellsOf t:=by
 intro n
 induction n with
 |zero=>intro t cs x _ h;simp[DataW.trod]at h
 |succ n ih=>
  intro t cs x ht h;have hp':=yo.1 hp t ht;split at hp'
  ·rename_i k hu;obtain⟨z,rfl,_,hw⟩:=DataW.trod_int hu h;simp only[beq_iff_eq]at hp';exact⟨[.int k z],Rs.one ⟨.int _ _,rfl,rfl⟩,by unfold CellsT;rw[hu];exact⟨z,rfl,hw⟩,by simp[hp']⟩
  ·rename_i hu;obtain⟨z,rfl,_⟩:=DataW.trod_bool hu h;simp only[beq_iff_eq]at hp';exact⟨[.bool z],Rs.one ⟨.bool _,rfl,rfl⟩,by unfold CellsT;rw[hu];exact⟨z,rfl⟩,by simp[hp']⟩
  ·rename_i hu;obtain⟨s,rfl,_,hm⟩:=DataW.trod_string hu h;simp only[beq_iff_eq]at hp';exact⟨[.str s.data.toList],Rs.one ⟨str_vr _ _,rfl,rfl⟩,by unfold CellsT;rw[hu];exact⟨_,rfl,str_len hm⟩,by simp[hp']⟩
  ·rename_i fs hu;simp only[ya,yo,List.contains_iff_mem]at hp';obtain⟨hS,hlay⟩:=hp';obtain⟨xs,m,hm,_,hlen,hxs,hget⟩:=DataW.trod_struct hu h;cases hm;obtain⟨l,hl,hc⟩:=lay_join (w:=w) (n:=n) (cs:=cs) fs.toList 0 _ hlay hlen.symm (by
    intro f hf;obtain⟨i,hi⟩:=List.getElem?_of_mem hf;have hi':fs[i]? =some f:=by simpa using hi
    have hg:=hget i f hi';have hlt:i<xs.length:=by rw[hxs];simpa using(yc.1 hi).1
    rw[ye hlt]at hg;obtain⟨l,h1,h2,_⟩:=ih _ _ _ (hS f hf) hg;exact⟨l,h1,h2⟩)
   rw[List.drop_zero]at hl;refine⟨l,hl,?_,hlen⟩;unfold CellsT;rw[hu];exact⟨by rw[hl.1,hlen],fun f hf=>by have:=(hc f hf).2;rwa[Nat.sub_zero]at this⟩
  ·rename_i e hu;simp only[ya,List.contains_iff_mem,decide_eq_true_eq,beq_iff_eq]at hp';obtain⟨⟨hS,hpos⟩,h1⟩:=hp';rcases DataW.trod_slice hu h with⟨rfl,_⟩|⟨a,len,cap,elems,rest,m,hm,rfl,_,_,hle,hcap,hel,hget,_,_⟩
   ·exact⟨[.slice .plain (P.cellsOf e) []],Rs.one ⟨.slice0 _ _ _ _ (by simp) (by simp),rfl,rfl⟩,by unfold CellsT;rw[hu];exact⟨[],rfl,by simp,by simp⟩,by simp[h1]⟩
   ·cases hm;have key:∀i,i<len->∃l:List PV,l.length=P.cellsOf e/\CellsT P n e l/\cellsOf (packT P e l)=l/\zq (packT P e l)=true/\∀(j:Nat) c,l[j]? =some c->∃v,w.cell? ((a.add (i*P.cellsOf e)).add j)=some v/\R1 w c v:=by
     intro i hi;have hg:=hget i hi;have hlt:i<elems.length:=by omega
     rw[ye hlt,yE]at hg;obtain⟨cs',h2,h3⟩:=hg;obtain⟨l,h4,h5,h6⟩:=ih _ _ _ hS h3;obtain⟨h7,h8⟩:=cells?_get h2;obtain⟨h9,h10⟩:=cells_packed h4 h5 h6;refine⟨l,by rw[h4.1,h6],h5,h9,h10,fun j c hc=>?_⟩;have hj:j<cs'.length:=by rw[<-h4.1];exact(yc.1 hc).1
     exact⟨cs'[j],h8 j _ (ye hj),h4.2 j c _ hc (ye hj)⟩
    let g:Nat->List PV:=fun i=>if hi:i<len then(key i hi).choose else[]
    have hg:∀i,i<len->(g i).length=P.cellsOf e/\CellsT P n e (g i)/\cellsOf (packT P e (g i))=g i/\zq (packT P e (g i))=true/\∀(j:Nat) c,(g i)[j]? =some c->∃v,w.cell? ((a.add (i*P.cellsOf e)).add j)=some v/\R1 w c v:=by
     intro i hi;have:=(key i hi).choose_spec;simp only[g,dif_pos hi];exact this
    have hel':∀(i:Nat) x,(((yR len).map g).map (packT P e))[i]? =some x->i<len/\x=packT P e (g i):=by
     intro i x hx;rw[List.map_map,yh,yb]at hx;obtain⟨k,hk,rfl⟩:=hx;obtain⟨hk1,hk2⟩:=yc.1 hk;rw[List.length_range]at hk1;rw[List.getElem_range]at hk2;subst hk2;exact⟨hk1,rfl⟩
    refine⟨[.slice .plain (P.cellsOf e) (((yR len).map g).map (packT P e))],Rs.one ⟨?_,rfl,rfl⟩,?_,by simp[h1]⟩
    ·by_cases h0:len=0
     ·subst h0;exact .slice0 _ _ _ _ (by simp) (by simp)
     ·obtain⟨q1,q2,q3,q4,q5⟩:=hg 0 (by omega);have hspot:a.spot=none:=by
       have hlt:0<(g 0).length:=by omega
       obtain⟨v,hv,_⟩:=q5 0 _ (ye hlt);have hsp:=World.cell?_spot hv;obtain⟨b,o,s⟩:=a;simpa[Addr.add]using hsp
      obtain⟨b,o,s⟩:=a;simp only at hspot;subst hspot;have hcell:∀(i:Nat) x (j:Nat) c,(((yR len).map g).map (packT P e))[i]? =some x->(cellsOf x)[j]? =some c->∃v,(gh0 w).im w b (o+i*P.cellsOf e+j)=some v/\R1 w c v:=by
       intro i x j c hx hc;obtain⟨hi,rfl⟩:=hel' i x hx;obtain⟨r1,r2,r3,r4,r5⟩:=hg i hi;rw[r3]at hc;obtain⟨v,hv,hr⟩:=r5 j c hc;refine⟨v,gh0_im ?_,hr⟩;rw[add_add ⟨b,o,none⟩ rfl,add_add ⟨b,o+i*P.cellsOf e,none⟩ rfl]at hv;exact hv
      have hlen:(((yR len).map g).map (packT P e)).length=len:=by simp
      have:=VR.slice (I:=(gh0 w).im w) (L:=fun _=>none) (k:= .plain) (sz:=P.cellsOf e) (l:=((yR len).map g).map (packT P e)) (b:=b) (o:=o) (cap:=cap)
       (by simp) (by simp) (by rw[hlen];exact hle) (fun i j=>((gh0 w).im w b (o+i*P.cellsOf e+j)).getD (.bool false)) ?_ ?_ ?_
      ·rw[hlen]at this;exact this
      ·intro i x hx;obtain⟨hi,rfl⟩:=hel' i x hx;obtain⟨r1,r2,r3,r4,r5⟩:=hg i hi;exact⟨by rw[r3,r1],r4⟩
      ·intro i x j c hx hc;obtain⟨v,hv,hr⟩:=hcell i x j c hx hc;simp only[hv,yO];exact⟨trivial,hr.2.2⟩
      ·intro i x j c hx hc;obtain⟨v,hv,hr⟩:=hcell i x j c hx hc;simp only[hv,yO];exact hr.1
    ·unfold CellsT;rw[hu];refine⟨(yR len).map g,rfl,by simp;omega,?_⟩;intro c hc;rw[ywa]at hc;obtain⟨i,hi,rfl⟩:=hc;exact(hg i (yja.1 hi)).2.1
  ·cases hp'
theorem packT_struct{P:Program}{e:TypeId}{fs:Array Field}(hu:P.underlying e=some (.struct fs))(l:List PV):packT P e l= .agg l:=by
 unfold packT;rw[hu]
theorem le_max{n:Nat}(h:n<=maxLen):n<=9223372036854775807:=by rw[maxLen_eq]at h;exact h
theorem read_row{P:Program}{S:List TypeId}(hp:plainB P S=true){H:Type}{enc:TypeId×Value->H}{w:World}{sp:Nat->Bool}{t e:TypeId}(hu:P.underlying t=some (.slice e))(ht:t∈S){v:Value}{d:DataW H}{ps:List MemPlace}(h:DataW.Trod enc P w 0 sp true t v d ps){a:Option Addr}{len cap:Nat}(hv:v= .slice a len cap):
  ∃(n:Nat) (es:List (List PV)),VR ((gh0 w).im w) (fun _=>none) (.slice .plain (P.cellsOf e) (es.map (packT P e))) v/\es.length<=maxLen/\∀c∈es,CellsT P n e c:=by
 subst hv;obtain⟨n,hf⟩:=h;obtain⟨l,h1,h2,h3⟩:=read_cells hp n t _ _ ht hf;cases n with
 |zero=>exact h2.elim
 |succ n=>
  unfold CellsT at h2;rw[hu]at h2;obtain⟨es,rfl,hm,hc⟩:=h2;exact⟨n,es,(h1.2 0 _ _ rfl (by simp[Value.cells])).1,hm,hc⟩
end PE
