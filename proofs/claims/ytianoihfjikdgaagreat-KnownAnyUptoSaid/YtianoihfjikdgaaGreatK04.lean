/-
  Texts joined by program: AZU9, AZU10, AZU11, AZU12, AZU13, AZA1, AZU14, AZU15, AZU16, AZU17, AZU18, AZU19, AZA2, AZA3, AZE1, AZE2, AZE3, AZE4, AZE5, AZE6, AZE7, AZE8, AZE9, AZI1, AZE10, AZE11, AZE12, AZE13.
-/
import Derived.Test.YtianoihfjikdgaaGreatK03
set_option linter.unusedVariables false
set_option linter.unusedSectionVars false
set_option linter.unusedSimpArgs false
open BitVec renaming ofInt→yr
open Bool renaming and_eq_false_iff→yY,and_eq_true→ya,false_eq_true→yE,false_or→yKa,not_eq_true'→yz,or_eq_false_iff→yw,or_eq_true→yD
open Eq renaming trans→ye
open Function renaming comp_def→yF
open Go.IntKind renaming bits→yS,wrap→yka
open List renaming all_eq_true→yi,append_assoc→yia,append_nil→yIa,concat_eq_append→yZ,cons_append→yaa,contains_iff_mem→yra,dropLast_concat→yCa,eq_nil_or_concat→yT,findIdx?_eq_none_iff→yda,foldl_append→yOa,foldl_cons→yR,foldl_nil→yUa,getElem?_eq_getElem→yd,getElem?_eq_some_iff→yb,getElem?_map→yf,getElem?_of_mem→yW,getElem?_zip_eq_some→yQ,length_append→yK,length_cons→yca,length_map→yO,length_nil→yua,map_append→yAa,map_congr_left→yxa,map_cons→yq,map_eq_nil_iff→yJa,map_nil→yEa,map_set→yoa,mem_append→yA,mem_cons→yG,mem_cons_of_mem→ywa,mem_map→yja,mem_of_getElem?→yu,mem_range→yya,mem_zipIdx_iff_getElem?→ysa,range→yI,range_succ→yRa,replicate→yn,set_append_right→yza,sum_append→yWa
open Nat renaming le_refl→yh,le_trans→yqa,strongRecOn→yfa,zero_add→yV
open Option renaming bind_eq_some_iff→yJ,map_eq_some_iff→yc
open Prod renaming fst→yTa
namespace PE.U
open Go PE
def listE(l:List Node)(q:Bool×St1):Bool×St1:=if q.1 then(!l.isEmpty,zpc q.2 (l.flatMap Node.outs))else(false,q.2)
def zWc(ty:List Int)(x:Node)(q:Bool×St1):Bool×St1:=if q.1&&(decide (x.outs=[])|| !zj x)then allM ty q.2 x.outs else(false,q.2)
def loopE(ty:List Int)(x:Node)(q:Bool×St1):Bool×St1:=if q.1 then(if decide (x.outs=[])|| !zj x then allM ty (zpc q.2 x.params) x.outs else(false,zpc q.2 x.params))else(false,q.2)
mutual
def nodeM(u:Unt)(f:Flow):Node->Place->Int->St1->Bool×St1
 |⟨k,o,n,s,a,us,ps,ks⟩,p,deep,S=>
  if !zBa ⟨k,o,n,s,a,us,ps,ks⟩then(false,S)
  else if k=10 then
   if zNa f.types S a [2]then zWc f.types ⟨k,o,n,s,a,us,ps,ks⟩ (zZd u f ks {p with inIf:=true,yield:=typesM f.types us} (deep+1) S)else(false,S)
  else if k=11 then
   if zNa f.types S a (typesM f.types ps)then
    if(allM f.types S ps).1 then loopE f.types ⟨k,o,n,s,a,us,ps,ks⟩ (zZd u f ks ⟨false,true,[],typesM f.types ps,typesM f.types us⟩ (deep+1) (allM f.types S ps).2)
    else(false,(allM f.types S ps).2)
   else(false,S)
  else if endK k then(endM f S ⟨k,o,n,s,a,us,ps,ks⟩ p,S)
  else zcb u f S ⟨k,o,n,s,a,us,ps,ks⟩
def zZd(u:Unt)(f:Flow):List (List Node)->Place->Int->St1->Bool×St1
 | [],p,deep,S=>(true,S)
 |l::r,p,deep,S=>if(listE l (goM u f l p deep S)).1 then zZd u f r p deep (listE l (goM u f l p deep S)).2 else(false,(listE l (goM u f l p deep S)).2)
def goM(u:Unt)(f:Flow):List Node->Place->Int->St1->Bool×St1
 | [],p,deep,S=>(true,S)
 |x::r,p,deep,S=>if 100<deep then(false,S)else
   if(nodeM u f x p deep S).1 then(if zj x=r.isEmpty then goM u f r p deep (nodeM u f x p deep S).2 else(false,(nodeM u f x p deep S).2))else(false,(nodeM u f x p deep S).2)
end
def zrb(u:Unt)(f:Flow)(l:List Node)(p:Place)(deep:Int)(S:St1):Bool×St1:=listE l (goM u f l p deep S)
theorem nodeM_eq(u:Unt)(f:Flow)(x:Node)(p:Place)(deep:Int)(S:St1):nodeM u f x p deep S=
  if !zBa x then(false,S)
  else if x.kind=10 then
   if zNa f.types S x.args [2]then zWc f.types x (zZd u f x.kids {p with inIf:=true,yield:=typesM f.types x.outs} (deep+1) S)else(false,S)
  else if x.kind=11 then
   if zNa f.types S x.args (typesM f.types x.params)then
    if(allM f.types S x.params).1 then loopE f.types x (zZd u f x.kids ⟨false,true,[],typesM f.types x.params,typesM f.types x.outs⟩ (deep+1) (allM f.types S x.params).2)
    else(false,(allM f.types S x.params).2)
   else(false,S)
  else if endK x.kind then(endM f S x p,S)
  else zcb u f S x:=by
 cases x;rw[nodeM]
theorem sumM_len(ty:List Int)(S:St1)(x:Node):(sumM ty S x).2.length=S.length:=by
 unfold sumM;split<;>split<;>simp[zPd]
theorem simpleM_len(u:Unt)(f:Flow)(S:St1)(x:Node):(zcb u f S x).2.length=S.length:=by
 simp only[zcb]
 repeat' split
 all_goals simp[zPd,sumM_len]
theorem choiceE_len(ty:List Int)(x:Node)(q:Bool×St1):(zWc ty x q).2.length=q.2.length:=by
 unfold zWc;split<;>simp[allM,zPd]
theorem loopE_len(ty:List Int)(x:Node)(q:Bool×St1):(loopE ty x q).2.length=q.2.length:=by
 unfold loopE;split
 ·split<;>simp[allM,zPd,zId]
 ·rfl
theorem listE_len(l:List Node)(q:Bool×St1):(listE l q).2.length=q.2.length:=by
 unfold listE;split<;>simp[zId]
mutual
theorem nodeM_len(u:Unt)(f:Flow):∀(x:Node) (p:Place) (deep:Int) (S:St1),(nodeM u f x p deep S).2.length=S.length
 |⟨k,o,n,s,a,us,ps,ks⟩,p,deep,S=>by
  rw[nodeM];split
  ·rfl
  split
  ·split
   ·rw[choiceE_len,kidsM_len u f ks]
   ·rfl
  split
  ·split
   ·split
    ·rw[loopE_len,kidsM_len u f ks];simp[allM,zPd]
    ·simp[allM,zPd]
   ·rfl
  split
  ·rfl
  ·exact simpleM_len _ _ _ _
theorem kidsM_len(u:Unt)(f:Flow):∀(ks:List (List Node)) (p:Place) (deep:Int) (S:St1),(zZd u f ks p deep S).2.length=S.length
 | [],p,deep,S=>rfl
 |l::r,p,deep,S=>by
  rw[zZd];split
  ·rw[kidsM_len u f r,listE_len,goM_len u f l]
  ·simp only;rw[listE_len,goM_len u f l]
theorem goM_len(u:Unt)(f:Flow):∀(l:List Node) (p:Place) (deep:Int) (S:St1),(goM u f l p deep S).2.length=S.length
 | [],p,deep,S=>rfl
 |x::r,p,deep,S=>by
  rw[goM];split
  ·rfl
  split
  ·split
   ·rw[goM_len u f r,nodeM_len u f x]
   ·exact nodeM_len u f x p deep S
  ·exact nodeM_len u f x p deep S
end
theorem listM_len(u:Unt)(f:Flow)(l:List Node)(p:Place)(deep:Int)(S:St1):(zrb u f l p deep S).2.length=S.length:=by
 unfold zrb;rw[listE_len,goM_len]
theorem eqGo_setG_ok{ty:List Int}:∀{l:List (Int×Int)} {S:St1},(eqGo (setG ty) S l).1=true->∀q∈l,0<=q.1/\q.1<ty.length
 | [],S,_,q,hq=>by cases hq
 |p::r,S,h,q,hq=>by
  simp only[eqGo]at h;split at h
  ·rename_i hp;rcases yG.1 hq with rfl|hq
   ·unfold setG at hp;split at hp
    ·rename_i hv;simp only[ya]at hv;exact zja hv.1
    ·cases hp
   ·exact eqGo_setG_ok h q hq
  ·cases h
theorem setM_ok{ty:List Int}{S:St1}{l ts:List Int}(h:(setM ty S l ts).1=true):∀v∈l,0<=v/\v<ty.length:=by
 unfold setM eqM at h;split at h
 ·rename_i hl;intro v hv;have:=eqGo_setG_ok h;obtain⟨i,hi,rfl⟩:=List.getElem_of_mem hv;exact this (l[i],ts[i]) (List.mem_iff_getElem.2 ⟨i,by simp;omega,by simp⟩)
 ·cases h
theorem nodeM_outs{u:Unt}{f:Flow}{x:Node}{p:Place}{deep:Int}{S:St1}(h:(nodeM u f x p deep S).1=true):∀v∈x.outs,0<=v/\v<f.types.length:=by
 rw[nodeM_eq]at h;split at h
 ·cases h
 split at h
 ·split at h
  ·unfold zWc at h;split at h
   ·exact setM_ok h
   ·cases h
  ·cases h
 split at h
 ·split at h
  ·split at h
   ·unfold loopE at h;split at h
    ·split at h
     ·exact setM_ok h
     ·cases h
    ·cases h
   ·cases h
  ·cases h
 split at h
 ·simp only[endM,ya,decide_eq_true_eq]at h;rw[h.1];simp
 ·simp only[zcb]at h
  repeat' split at h
  all_goals first|(cases h;done)|exact setM_ok h|skip
  all_goals
   simp only[sumM]at h
   repeat' split at h
   all_goals first|(cases h;done)|exact setM_ok h
theorem kidsM_nil(u:Unt)(f:Flow)(p:Place)(deep:Int)(S:St1):zZd u f [] p deep S=(true,S):=by rw[zZd]
theorem kidsM_cons(u:Unt)(f:Flow)(l:List Node)(r:List (List Node))(p:Place)(deep:Int)(S:St1):zZd u f (l::r) p deep S=if(zrb u f l p deep S).1 then zZd u f r p deep (zrb u f l p deep S).2 else(false,(zrb u f l p deep S).2):=by rw[zZd];rfl
def ListOk(u:Unt)(f:Flow)(deep:Int)(l:List Node):Prop:=∀p S,S.length=f.types.length→
 zk E 59 [chkV u f f.types.length,zh l,zf p,.int .i64 deep] [stO S]=some (.ret (.bool (zrb u f l p deep S).1),[stO (zrb u f l p deep S).2])
theorem choice_spec(u:Unt)(f:Flow)(S:St1)(x:Node)(p:Place)(deep:Int)(hS:S.length=f.types.length)(hx:wtN x<1099511627776)(hk:x.kids.length=2)(hl:∀l∈x.kids,ListOk u f deep l):
  zk E 109 [chkV u f f.types.length,zy x,zf p,.int .i64 deep] [stO S]=
   let q:=if zNa f.types S x.args [2]then zWc f.types x (zZd u f x.kids {p with inIf:=true,yield:=typesM f.types x.outs} deep S)else(false,S)
   some (.ret (.bool q.1),[stO q.2]):=by
 refine zb rfl rfl rfl (by simp[za,chkV,zf]) ?_;have hw:=zwa x;obtain⟨a,b,hab⟩:∃a b,x.kids=[a,b]:=by
  match hh:x.kids with
  | []=>rw[hh]at hk;cases hk
  | [_]=>rw[hh]at hk;cases hk
  | [a,b]=>exact⟨a,b,rfl⟩
  |_::_::_::_=>rw[hh]at hk;simp at hk
 generalize hp':({p with inIf:=true,yield:=typesM f.types x.outs}:Place)=p';have e1:p'.inIf=true:=by rw[<-hp']
 have e2:p'.inLoop=p.inLoop:=by rw[<-hp']
 have e3:p'.yield=typesM f.types x.outs:=by rw[<-hp']
 have e4:p'.next=p.next:=by rw[<-hp']
 have e5:p'.left=p.left:=by rw[<-hp']
 have h0:=types_spec u f f.types.length x.outs [stO S] (by omega);have h1:=zPa u f S x.args [2] hS (by omega);have h2:=hl a (by rw[hab];simp) p' S hS;have hS2:(zrb u f a p' deep S).2.length=f.types.length:=by rw[listM_len];exact hS
 have h3:=hl b (by rw[hab];simp) p' _ hS2;have hS3:(zrb u f b p' deep (zrb u f a p' deep S).2).2.length=f.types.length:=by rw[listM_len];exact hS2
 have h4:=all_spec u f _ x.outs hS3 (by omega);have h5:=zeb x [] hx;have ho:decide ((x.outs.length:Int)=0)=decide (x.outs=[]):=by simp
 have ek:zZd u f [a,b] p' deep S=if(zrb u f a p' deep S).1 then if(zrb u f b p' deep (zrb u f a p' deep S).2).1 then(true,(zrb u f b p' deep (zrb u f a p' deep S).2).2)else(false,(zrb u f b p' deep (zrb u f a p' deep S).2).2)else(false,(zrb u f a p' deep S).2):=by
  rw[kidsM_cons,kidsM_cons,kidsM_nil]
 simp[chkV,ints,za,zf,kids,hab,e1,e2,e3,e4,e5]at h0 h1 h2 h3 h4 h5;generalize zrb u f a p' deep S=ra at*;generalize zrb u f b p' deep ra.2=rb at*;clear hw hl;simp only[hab]
 (simp[*,F109,za,chkV,ints,zf,kids,zWc])<;>(repeat' (first|((first|refine sP _ ?_ ?_|refine gP _ ?_ ?_|refine sN _ ?_ ?_|refine gN _ ?_ ?_)<;>intro hc<;>(first|replace hc:=eqn hc|replace hc:=eqp hc)<;>simp[*,F109,za,chkV,ints,zf,kids,zWc])|((first|refine sM _ ?_ ?_|refine gM _ ?_ ?_|refine sB _ ?_ ?_|refine gB _ ?_ ?_)<;>intro hc<;>simp[*,F109,za,chkV,ints,zf,kids,zWc])))
 all_goals(try grind)
theorem loop_spec(u:Unt)(f:Flow)(S:St1)(x:Node)(deep:Int)(hS:S.length=f.types.length)(hx:wtN x<1099511627776)(hk:x.kids.length=1)(hl:∀l∈x.kids,ListOk u f deep l):
  zk E 110 [chkV u f f.types.length,zy x,.int .i64 deep] [stO S]=
   let q:=if zNa f.types S x.args (typesM f.types x.params)then
     if(allM f.types S x.params).1 then loopE f.types x (zZd u f x.kids ⟨false,true,[],typesM f.types x.params,typesM f.types x.outs⟩ deep (allM f.types S x.params).2)
     else(false,(allM f.types S x.params).2)
    else(false,S)
   some (.ret (.bool q.1),[stO q.2]):=by
 refine zb rfl rfl rfl (by simp[za,chkV,zf]) ?_;have hw:=zwa x;obtain⟨a,hab⟩:∃a,x.kids=[a]:=by
  match hh:x.kids with
  | []=>rw[hh]at hk;cases hk
  | [a]=>exact⟨a,rfl⟩
  |_::_::_=>rw[hh]at hk;simp at hk
 generalize hp':(⟨false,true,[],typesM f.types x.params,typesM f.types x.outs⟩:Place)=p';have e1:p'.inIf=false:=by rw[<-hp']
 have e2:p'.inLoop=true:=by rw[<-hp']
 have e3:p'.yield=[]:=by rw[<-hp']
 have e4:p'.next=typesM f.types x.params:=by rw[<-hp']
 have e5:p'.left=typesM f.types x.outs:=by rw[<-hp']
 have h0:=types_spec u f f.types.length x.outs [stO S] (by omega);have h0':=types_spec u f f.types.length x.params [stO S] (by omega);have h1:=zPa u f S x.args (typesM f.types x.params) hS (by omega);have h6:=all_spec u f S x.params hS (by omega);have hS1:(allM f.types S x.params).2.length=f.types.length:=by simp only[allM,zPd];exact hS
 have h2:=hl a (by rw[hab];simp) p' _ hS1;have hS2:(zrb u f a p' deep (allM f.types S x.params).2).2.length=f.types.length:=by rw[listM_len];exact hS1
 have h5:=zeb x [] hx;have ho:decide ((x.outs.length:Int)=0)=decide (x.outs=[]):=by simp
 have ek:zZd u f [a] p' deep (allM f.types S x.params).2=if(zrb u f a p' deep (allM f.types S x.params).2).1 then(true,(zrb u f a p' deep (allM f.types S x.params).2).2)else(false,(zrb u f a p' deep (allM f.types S x.params).2).2):=by
  rw[kidsM_cons,kidsM_nil]
 cases hok:(allM f.types S x.params).1
 ·simp[chkV,ints,za,zf,kids,hab,e1,e2,e3,e4,e5,hok]at h0 h0' h1 h2 h5 h6;clear hw hl;simp only[hab]
  (simp[*,F110,za,chkV,ints,zf,kids,loopE])<;>(repeat' (first|((first|refine sP _ ?_ ?_|refine gP _ ?_ ?_|refine sN _ ?_ ?_|refine gN _ ?_ ?_)<;>intro hc<;>(first|replace hc:=eqn hc|replace hc:=eqp hc)<;>simp[*,F110,za,chkV,ints,zf,kids,loopE])|((first|refine sM _ ?_ ?_|refine gM _ ?_ ?_|refine sB _ ?_ ?_|refine gB _ ?_ ?_)<;>intro hc<;>simp[*,F110,za,chkV,ints,zf,kids,loopE])))
  all_goals(try grind)
 ·have h7:=hide_spec u f _ x.params hS2 (by omega) (setM_ok hok);have hS3:(zpc (zrb u f a p' deep (allM f.types S x.params).2).2 x.params).length=f.types.length:=by rw[zId];exact hS2
  have h4:=all_spec u f _ x.outs hS3 (by omega);simp[chkV,ints,za,zf,kids,hab,e1,e2,e3,e4,e5,hok]at h0 h0' h1 h2 h4 h5 h6 h7;generalize zrb u f a p' deep (allM f.types S x.params).2=ra at*;clear hw hl;simp only[hab]
  (simp[*,F110,za,chkV,ints,zf,kids,loopE])<;>(repeat' (first|((first|refine sP _ ?_ ?_|refine gP _ ?_ ?_|refine sN _ ?_ ?_|refine gN _ ?_ ?_)<;>intro hc<;>(first|replace hc:=eqn hc|replace hc:=eqp hc)<;>simp[*,F110,za,chkV,ints,zf,kids,loopE])|((first|refine sM _ ?_ ?_|refine gM _ ?_ ?_|refine sB _ ?_ ?_|refine gB _ ?_ ?_)<;>intro hc<;>simp[*,F110,za,chkV,ints,zf,kids,loopE])))
  all_goals(try grind)
theorem node_spec(u:Unt)(f:Flow)(S:St1)(x:Node)(p:Place)(deep:Int)(hu:UOk u)(hS:S.length=f.types.length)(hx:wtN x<1099511627776)(hd:0<=deep/\deep<=100)(hl:∀l∈x.kids,ListOk u f (deep+1) l):
  zk E 85 [chkV u f f.types.length,zy x,zf p,.int .i64 deep] [stO S]=some (.ret (.bool (nodeM u f x p deep S).1),[stO (nodeM u f x p deep S).2]):=by
 refine zb rfl rfl rfl (by simp[za,chkV,zf]) ?_;have hw:zY .i64 (deep+1)=deep+1:=zq (by omega) (by omega);have h0:=bare_spec x;have h1:=ends_raw x.kind;have h2:=end_spec u f S x p hS hx;have h3:=simple_spec u f S x hu hS hx;have he:=nodeM_eq u f x p deep S;rw[he];clear he;have hb:zBa x=true->(x.kids.length:Int)=zjc x.kind:=by
  intro h;simp only[zBa,ya,decide_eq_true_eq]at h;exact h.2
 cases hbx:zBa x
 ·simp[chkV,za,zf,hbx]at h0 h2 h3;clear hl hb
  (simp[*,F85,za,chkV,zf])<;>(repeat' (first|((first|refine sP _ ?_ ?_|refine gP _ ?_ ?_|refine sN _ ?_ ?_|refine gN _ ?_ ?_)<;>intro hc<;>(first|replace hc:=eqn hc|replace hc:=eqp hc)<;>simp[*,F85,za,chkV,zf])|((first|refine sM _ ?_ ?_|refine gM _ ?_ ?_|refine sB _ ?_ ?_|refine gB _ ?_ ?_)<;>intro hc<;>simp[*,F85,za,chkV,zf])))
 have hb:=hb hbx;by_cases h10:x.kind=10
 ·have hk:x.kids.length=2:=by simp[zjc,h10]at hb;omega
  have h4:=choice_spec u f S x p (deep+1) hS hx hk hl;simp[chkV,za,zf,hbx,h10]at h0 h2 h3 h4;clear hl hb
  (simp[*,F85,za,chkV,zf])<;>(repeat' ((first|refine sP _ ?_ ?_|refine gP _ ?_ ?_|refine sN _ ?_ ?_|refine gN _ ?_ ?_|refine sM _ ?_ ?_|refine gM _ ?_ ?_|refine sB _ ?_ ?_|refine gB _ ?_ ?_)<;>intro hc<;>simp[*,F85,za,chkV,zf]))
 by_cases h11:x.kind=11
 ·have hk:x.kids.length=1:=by simp[zjc,h11]at hb;omega
  have h4:=loop_spec u f S x (deep+1) hS hx hk hl;simp[chkV,za,zf,hbx,h11]at h0 h2 h3 h4;clear hl hb
  (simp[*,F85,za,chkV,zf])<;>(repeat' ((first|refine sP _ ?_ ?_|refine gP _ ?_ ?_|refine sN _ ?_ ?_|refine gN _ ?_ ?_|refine sM _ ?_ ?_|refine gM _ ?_ ?_|refine sB _ ?_ ?_|refine gB _ ?_ ?_)<;>intro hc<;>simp[*,F85,za,chkV,zf]))
 simp[chkV,za,zf,hbx]at h0 h2 h3;clear hl hb;cases hek:endK x.kind
 ·(simp[*,F85,za,chkV,zf])<;>(repeat' ((first|refine sP _ ?_ ?_|refine gP _ ?_ ?_|refine sN _ ?_ ?_|refine gN _ ?_ ?_|refine sM _ ?_ ?_|refine gM _ ?_ ?_|refine sB _ ?_ ?_|refine gB _ ?_ ?_)<;>intro hc<;>simp[*,F85,za,chkV,zf]))
 ·(simp[*,F85,za,chkV,zf])<;>(repeat' ((first|refine sP _ ?_ ?_|refine gP _ ?_ ?_|refine sN _ ?_ ?_|refine gN _ ?_ ?_|refine sM _ ?_ ?_|refine gM _ ?_ ?_|refine sB _ ?_ ?_|refine gB _ ?_ ?_)<;>intro hc<;>simp[*,F85,za,chkV,zf]))
def sdM(u:Unt)(f:Flow)(p:Place)(deep:Int)(S:St1)(d:List Node):St1:=d.foldl (fun S x=>(nodeM u f x p deep S).2) S
theorem sdM_snoc(u:Unt)(f:Flow)(p:Place)(deep:Int)(S:St1)(d:List Node)(x:Node):sdM u f p deep S (d++[x])=(nodeM u f x p deep (sdM u f p deep S d)).2:=by simp[sdM]
theorem sdM_len(u:Unt)(f:Flow)(p:Place)(deep:Int)(d:List Node):∀S:St1,(sdM u f p deep S d).length=S.length:=by
 induction d with
 |nil=>intro S;rfl
 |cons x r ih=>intro S;simp only[sdM,yR];rw[<-sdM,ih,nodeM_len]
section
variable (u:Unt) (f:Flow) (n:Nat)
@[simp] theorem strip_chk:strip (chkV u f n)=chkV u f n:=ye rfl rfl
@[simp] theorem stripA_chk:stripA (chkV u f n)=chkV u f n:=ye rfl rfl
@[simp] theorem isVar_chk:zx (chkV u f n)=true:=ye rfl rfl
end
@[simp] theorem avoids_chk(dead:List Nat)(u:Unt)(f:Flow)(n:Nat):zod dead (chkV u f n)=true:=ye rfl rfl
theorem split_of{α:Type}{l d r:List α}{x:α}(h:Split l d x r):∀{r'},l=d++r'->r'=x::r:=by
 intro r' h';have:=h.eq;rw[h']at this;exact List.append_cancel_left this
theorem split_last{α:Type}{l d r:List α}{x:α}(h:Split l d x r):decide ((d.length:Int)=(l.length:Int)-1)=r.isEmpty:=by
 have:=congrArg List.length h.eq;simp at this;cases r with
 |nil=>simp at this ⊢;omega
 |cons y t=>simp at this ⊢;omega
theorem list_spec(u:Unt)(f:Flow)(hu:UOk u):∀(N:Nat) (l:List Node) (deep:Int),wtL l<=N->N<1099511627776->0<=deep->deep<=101->ListOk u f deep l:=by
 intro N
 induction N using yfa with
 |ind N ih=>
  intro l deep hl hN hd0 hd1 p S hS;refine zb rfl rfl rfl (by simp[chkV,zf]) ?_;have hll:=zsb l;simp[F59,zf,zh];refine zn l K59_0 B59_0 (fun d=>[(15,.int .i64 d.length)]) (fun d=>[stO (sdM u f p deep S d)]) (fun d=>(∃r,l=d++r/\goM u f l p deep S=goM u f r p deep (sdM u f p deep S d))/\∀y∈d,∀v∈y.outs,0<=v/\v<f.types.length) (by omega) (by simp[sdM]) ?_ ?_
  ·rintro d x r s hl' hlt hget hget' hw ⟨⟨r',hr1,hr2⟩,hp⟩ h1 h2 h3 h4
   have:=split_of hl' hr1;subst this;simp at h1 h2 h3;have hwx:=zZc hl'.mem;have hS1:(sdM u f p deep S d).length=f.types.length:=by rw[sdM_len];exact hS
   rw[goM]at hr2;have hsn:=sdM_snoc u f p deep S d x;have hlast:=split_last hl';have hw2:zY .i64 ((l.length:Int)-1)=(l.length:Int)-1:=zq (by omega) (by omega);have hc:=zeb x [] (by omega);have hout:=nodeM_outs (u:=u) (f:=f) (x:=x) (p:=p) (deep:=deep) (S:=sdM u f p deep S d);have hlm:zrb u f l p deep S=listE l (goM u f l p deep S):=rfl;by_cases hdeep:100<deep
   ·have e:zrb u f l p deep S=(false,sdM u f p deep S d):=by rw[hlm,hr2,if_pos hdeep];rfl
    clear ih hout hr1 hlm
    (simp[*,za,zh])<;>(repeat' (first|((first|refine sP _ ?_ ?_|refine gP _ ?_ ?_|refine sN _ ?_ ?_|refine gN _ ?_ ?_)<;>intro hc<;>(first|replace hc:=eqn hc|replace hc:=eqp hc)<;>simp[*,za,zh])|((first|refine sM _ ?_ ?_|refine gM _ ?_ ?_|refine sB _ ?_ ?_|refine gB _ ?_ ?_)<;>intro hc<;>simp[*,za,zh])))
   have hn:=node_spec u f (sdM u f p deep S d) x p deep hu hS1 (by omega) (by omega) (fun k hk=>by
    have:=zEb hk;exact ih (wtL k) (by omega) k (deep+1) (yh _) (by omega) (by omega) (by omega))
   rw[if_neg hdeep]at hr2;simp[za,zf]at hn hc;generalize hq:nodeM u f x p deep (sdM u f p deep S d)=q at*;cases hq1:q.1
   ·rw[hq1]at hr2 hn;have e:zrb u f l p deep S=(false,q.2):=by rw[hlm,hr2];rfl
    clear ih hout hr1 hlm
    (simp[*,za,zh])<;>(repeat' (first|((first|refine sP _ ?_ ?_|refine gP _ ?_ ?_|refine sN _ ?_ ?_|refine gN _ ?_ ?_)<;>intro hc<;>(first|replace hc:=eqn hc|replace hc:=eqp hc)<;>simp[*,za,zh])|((first|refine sM _ ?_ ?_|refine gM _ ?_ ?_|refine sB _ ?_ ?_|refine gB _ ?_ ?_)<;>intro hc<;>simp[*,za,zh])))
   rw[hq1]at hr2 hn;simp at hr2;by_cases hcl:zj x=r.isEmpty
   ·rw[if_pos hcl]at hr2;have hout':=hout hq1;clear ih hout hc hr1 hlm;have hc:=zeb x [] (by omega);simp[za]at hc;rw[hcl]at hc;have e:∃r',l=d++([x]++r')/\goM u f l p deep S=goM u f r' p deep q.2:=⟨r,by rw[hl'.eq];rfl,hr2⟩
    have e':∃r',l=d++x::r'/\goM u f l p deep S=goM u f r' p deep q.2:=⟨r,by rw[hl'.eq],hr2⟩
    (simp[*,za,zh])<;>(repeat' (first|((first|refine sP _ ?_ ?_|refine gP _ ?_ ?_|refine sN _ ?_ ?_|refine gN _ ?_ ?_)<;>intro hc<;>(first|replace hc:=eqn hc|replace hc:=eqp hc)<;>simp[*,za,zh])|((first|refine sM _ ?_ ?_|refine gM _ ?_ ?_|refine sB _ ?_ ?_|refine gB _ ?_ ?_)<;>intro hc<;>simp[*,za,zh])))
    all_goals(try grind)
   ·rw[if_neg hcl]at hr2;have e:zrb u f l p deep S=(false,q.2):=by rw[hlm,hr2];rfl
    clear ih hout hr1 hlm
    (simp[*,za,zh])<;>(repeat' (first|((first|refine sP _ ?_ ?_|refine gP _ ?_ ?_|refine sN _ ?_ ?_|refine gN _ ?_ ?_)<;>intro hc<;>(first|replace hc:=eqn hc|replace hc:=eqp hc)<;>simp[*,za,zh])|((first|refine sM _ ?_ ?_|refine gM _ ?_ ?_|refine sB _ ?_ ?_|refine gB _ ?_ ?_)<;>intro hc<;>simp[*,za,zh])))
    all_goals exact absurd (of_eq_true (by assumption)) hcl
  ·rintro s ⟨⟨r',hr1,hr2⟩,hp⟩ h1 h2 h3 h4
   have:r'=[]:=by
    have:=congrArg List.length hr1;simp at this;exact this
   subst this;simp at h1 h2 h3;rw[goM]at hr2;have hlm:zrb u f l p deep S=(!l.isEmpty,zpc (sdM u f p deep S l) (l.flatMap Node.outs)):=by
    show listE l (goM u f l p deep S)=_
    rw[hr2];rfl
   clear ih hr1;simp[*,zf,zh];refine zn l K59_1 B59_1 (fun d=>[(43,.int .i64 d.length)]) (fun d=>[stO (zpc (sdM u f p deep S l) (d.flatMap Node.outs))]) (fun d=>True) (by omega) (by simp[zpc]) ?_ ?_
   ·intros d x r s' hl' hlt hget hget' hw _ h1' h2' h3' h4';have hwx:=zZc hl'.mem;have hxe:=zwa x;have hh:=hide_spec u f (zpc (sdM u f p deep S l) (d.flatMap Node.outs)) x.outs (by rw[zId,sdM_len];exact hS) (by omega) (hp x hl'.mem);have hh2:zpc (zpc (sdM u f p deep S l) (d.flatMap Node.outs)) x.outs=zpc (sdM u f p deep S l) (d.flatMap Node.outs++x.outs):=by simp[zpc]
    rw[hh2]at hh;simp at h1' h3';clear h2' hp h1 h2
    (simp[*,za,zh])<;>(repeat' (first|((first|refine sP _ ?_ ?_|refine gP _ ?_ ?_|refine sN _ ?_ ?_|refine gN _ ?_ ?_)<;>intro hc<;>(first|replace hc:=eqn hc|replace hc:=eqp hc)<;>simp[*,za,zh])|((first|refine sM _ ?_ ?_|refine gM _ ?_ ?_|refine sB _ ?_ ?_|refine gB _ ?_ ?_)<;>intro hc<;>simp[*,za,zh])))
   ·intros s' _ h1' h2' h3' h4';simp at h1' h3';clear h2' hp h1 h2;have hz:decide (0<l.length)= !l.isEmpty:=by cases l<;>simp
    (simp[*,zh])<;>(repeat' (first|((first|refine sP _ ?_ ?_|refine gP _ ?_ ?_|refine sN _ ?_ ?_|refine gN _ ?_ ?_)<;>intro hc<;>(first|replace hc:=eqn hc|replace hc:=eqp hc)<;>simp[*,zh])|((first|refine sM _ ?_ ?_|refine gM _ ?_ ?_|refine sB _ ?_ ?_|refine gB _ ?_ ?_)<;>intro hc<;>simp[*,zh])))
def tyOk(t:Int):Bool:=decide (t=1)||decide (t=2)
theorem isType_spec(t:Int)(σ:zc):zk E 55 [.int .i64 t] σ=some (.ret (.bool (tyOk t)),σ):=by
 refine zb rfl rfl rfl (by simp) ?_
 (simp[*,F55,tyOk])<;>(repeat' ((first|refine sP _ ?_ ?_|refine gP _ ?_ ?_|refine sN _ ?_ ?_|refine gN _ ?_ ?_|refine sM _ ?_ ?_|refine gM _ ?_ ?_|refine sB _ ?_ ?_|refine gB _ ?_ ?_)<;>intro hc<;>simp[*,F55,tyOk]))
theorem notType_spec(t:Int)(σ:zc):zk E 58 [.int .i64 t] σ=some (.ret (.bool (!tyOk t)),σ):=by
 refine zb rfl rfl rfl (by simp) ?_
 (simp[*,F58,isType_spec])<;>(repeat' ((first|refine sP _ ?_ ?_|refine gP _ ?_ ?_|refine sN _ ?_ ?_|refine gN _ ?_ ?_|refine sM _ ?_ ?_|refine gM _ ?_ ?_|refine sB _ ?_ ?_|refine gB _ ?_ ?_)<;>intro hc<;>simp[*,F58,isType_spec]))
def initM(f:Flow)(k:Nat):St1:=yn k 1++yn (f.types.length-k) 0
def zKa:Place:=⟨false,false,[],[],[]⟩
def flowM(u:Unt)(f:Flow):Bool:=
 !(decide (8<f.params)||decide (20000<f.types.length)||f.types.any (fun t=> !tyOk t))&&(zrb u f f.body zKa 1 (initM f f.params.toNat)).1
theorem initM_len(f:Flow)(k:Nat)(h:k<=f.types.length):(initM f k).length=f.types.length:=by simp[initM];omega
theorem initM_set(f:Flow)(k:Nat)(h:k<f.types.length):(initM f k).set k 1=initM f (k+1):=by
 unfold initM;have:f.types.length-k=(f.types.length-(k+1))+1:=by omega
 rw[this,List.replicate_succ,yza _ _ (by simp)];simp[List.replicate_succ']
theorem flow_spec(u:Unt)(f:Flow)(hu:UOk u)(hp:0<=f.params/\f.params<=f.types.length)(ht:f.types.length<1099511627776)(hb:wtL f.body<1099511627776):
  zk E 39 [encUnt u,zd f] []=some (.ret (.bool (flowM u f)),[]):=by
 refine zb rfl rfl rfl (by simp[encUnt,zd]) ?_;have h1:=containsFuncInt f.types (fun t=> !tyOk t) 58 [] [] [] ht (by simp) (fun x _=>notType_spec x []);have h2:=list_spec u f hu (wtL f.body) f.body 1 (yh _) hb (by omega) (by omega) zKa (initM f f.params.toNat) (initM_len f _ (by omega));simp[zf,zKa]at h2;have ho:decide ((20000:Int)<f.types.length)=decide (20000<f.types.length):=by simp;omega
 have l1:(0:Int)<=(f.types.length:Int):=by omega
 have l2:(f.types.length:Int)<=9223372036854775807:=by omega
 have l3:8*(f.types.length:Int)<=281474976710656:=by omega
 (simp[*,F39,encUnt,zd,ints,flowM,zKa])<;>(repeat' (first|((first|refine sP _ ?_ ?_|refine gP _ ?_ ?_|refine sN _ ?_ ?_|refine gN _ ?_ ?_)<;>intro hc<;>(first|replace hc:=eqn hc|replace hc:=eqp hc)<;>simp[*,F39,encUnt,zd,ints,flowM,zKa])|((first|refine sM _ ?_ ?_|refine gM _ ?_ ?_|refine sB _ ?_ ?_|refine gB _ ?_ ?_)<;>intro hc<;>simp[*,F39,encUnt,zd,ints,flowM,zKa])))
 all_goals first
  |refine zn (yI f.params.toNat) K39_0 B39_0 (fun d=>[(31,.int .i64 d.length)]) (fun d=>[stO (initM f d.length)]) (fun _=>True) (by simp;omega) (by simp[initM,stO]) ?_ ?_
  |(try grind)
 ·intros d x r s hl' hlt hget hget' hw _ q1 q2 q3 q4;simp at hlt;have e1:(d.length:Int)<f.params:=by omega
  have e2:d.length<f.types.length:=by omega
  have e3:=initM_set f d.length e2;have e4:=initM_len f d.length (by omega);have e5:(initM f (d.length+1)).map (PV.int .i64)=((initM f d.length).map (PV.int .i64)).set d.length (.int .i64 1):=by rw[<-e3,yoa]
  simp at q1 q2 q3 q4;clear h1 h2 hget hget' e3
  (simp[*,zd,ints,zC,zra,stO])<;>(repeat' (first|((first|refine sP _ ?_ ?_|refine gP _ ?_ ?_|refine sN _ ?_ ?_|refine gN _ ?_ ?_)<;>intro hc<;>(first|replace hc:=eqn hc|replace hc:=eqp hc)<;>simp[*,zd,ints,zC,zra,stO])|((first|refine sM _ ?_ ?_|refine gM _ ?_ ?_|refine sB _ ?_ ?_|refine gB _ ?_ ?_)<;>intro hc<;>simp[*,zd,ints,zC,zra,stO])))
 ·intros s _ q1 q2 q3 q4;have e0:(f.params.toNat:Int)=f.params:=by omega
  simp at q1 q2 q3 q4;clear h1;simp[chkV,ints,flowM,zKa,stO]at h2
  (simp[*,zd,ints,stO])<;>(repeat' (first|((first|refine sP _ ?_ ?_|refine gP _ ?_ ?_|refine sN _ ?_ ?_|refine gN _ ?_ ?_)<;>intro hc<;>(first|replace hc:=eqn hc|replace hc:=eqp hc)<;>simp[*,zd,ints,stO])|((first|refine sM _ ?_ ?_|refine gM _ ?_ ?_|refine sB _ ?_ ?_|refine gB _ ?_ ?_)<;>intro hc<;>simp[*,zd,ints,stO])))
  all_goals(try grind)
def bump:List (List UInt8×Int)->List UInt8->List (List UInt8×Int)
 | [],s=>[(s,yka .i64 (0+1))]
 |(k,v)::r,s=>if s=k then(s,yka .i64 (v+1))::r else(k,v)::bump r s
def bumps(l:List (List UInt8)):List (List UInt8×Int):=l.foldl bump []
def encM(m:List (List UInt8×Int)):List (PV×PV):=m.map fun p=>(.str p.1,.int .i64 p.2)
def findC(s:List UInt8):List (List UInt8×Int)->Option Int
 | []=>none
 |(k,v)::r=>if s=k then some v else findC s r
theorem mapFind_enc(s:List UInt8):∀m,zha true (.str s) (encM m)=some ((findC s m).map (PV.int .i64))
 | []=>rfl
 |(k,v)::r=>by
  have ih:=mapFind_enc s r;simp only[encM]at ih;simp only[encM,yq,zha,zwc,findC];by_cases h:s=k
  ·simp[h]
  ·simp[h,ih]
theorem mapSet_enc(s:List UInt8):∀m,zLb true (.str s) (.int .i64 (zY .i64 ((findC s m).getD 0+1))) (encM m)=some (encM (bump m s))
 | []=>by simp[encM,zLb,findC,bump,zba]
 |(k,v)::r=>by
  have ih:=mapSet_enc s r;simp only[encM]at ih;simp only[encM,yq,zLb,zwc,findC,bump];by_cases h:s=k
  ·simp[h,zba]
  ·simp[h,ih]
theorem bump_keys(s:List UInt8):∀m,(bump m s).map yTa=if s∈m.map yTa then m.map yTa else m.map yTa++[s]
 | []=>by simp[bump]
 |(k,v)::r=>by
  have ih:=bump_keys s r;simp only[bump];by_cases h:s=k
  ·simp[h]
  ·simp only[h,if_false,yq,ih,yG,false_or];split<;>simp
def dist(l:List (List UInt8)):List (List UInt8):=l.foldl (fun d s=>if s∈d then d else d++[s]) []
theorem bumps_keys(l:List (List UInt8)):(bumps l).map yTa=dist l:=by
 have:∀(l:List (List UInt8)) m,(l.foldl bump m).map yTa=l.foldl (fun d s=>if s∈d then d else d++[s]) (m.map yTa):=by
  intro l
  induction l with
  |nil=>intro m;rfl
  |cons s r ih=>intro m;simp only[yR,ih,bump_keys]
 exact this l []
theorem dist_nodup(l:List (List UInt8)):decide ((dist l).length=l.length)=decide l.Nodup:=by
 have key:∀(l d:List (List UInt8)),d.Nodup->(l.foldl (fun d s=>if s∈d then d else d++[s]) d).length<=d.length+l.length∧
   ((l.foldl (fun d s=>if s∈d then d else d++[s]) d).length=d.length+l.length<->(d++l).Nodup):=by
  intro l
  induction l with
  |nil=>intro d hd;simp[hd]
  |cons s r ih=>
   intro d hd;simp only[yR];by_cases h:s∈d
   ·rw[if_pos h];obtain⟨h1,h2⟩:=ih d hd;refine⟨by simp;omega,⟨fun e=>by simp at e;omega,fun e=>?_⟩⟩;rw[List.nodup_append]at e;exact absurd rfl (e.2.2 s h s (by simp))
   ·rw[if_neg h];have hd':(d++[s]).Nodup:=by
     rw[List.nodup_append];exact⟨hd,by simp,fun a ha b hb e=>by simp at hb;subst hb;subst e;exact h ha⟩
    obtain⟨h1,h2⟩:=ih (d++[s]) hd';refine⟨by simp at h1 ⊢;omega,?_⟩;rw[show d++s::r=d++[s]++r by simp,<-h2];simp;omega
 have:=(key l [] (by simp)).2;simp only[List.nil_append,yua,yV]at this;unfold dist;simp only[decide_eq_decide];exact this
theorem bumps_snoc(l:List (List UInt8))(s:List UInt8):bumps (l++[s])=bump (bumps l) s:=by simp[bumps]
theorem encM_len(m:List (List UInt8×Int)):(encM m).length=(m.map yTa).length:=by simp[encM]
def zFc(u:Unt):List (List UInt8):=u.arrays.map Arr.name++u.flows.map Flow.name
def arrOk(a:Arr):Bool:=nameM a.name&&decide (1<=a.size)&&decide (a.size<=1000)
def ztc(f:Flow):Bool:=nameM f.name&&tyOk f.type&&decide (0<=f.params)&&decide (f.params<=f.types.length)
def zF:List UInt8:=[109,97,105,110]
def zld(u:Unt):Bool:=match u.flows[(zU u.flows zF).toNat]? with
 |some g=>decide (0<=zU u.flows zF)&&decide (g.type=1)&&decide (g.params=0)
 |none=>false
def zqc(u:Unt):Bool:=u.arrays.all arrOk&&u.flows.all ztc&&decide (zFc u).Nodup&&zld u
theorem findC_cases(s:List UInt8)(m:List (List UInt8×Int)):∃o,findC s m=o/\zha true (.str s) (encM m)=some (o.map (PV.int .i64))/\zLb true (.str s) (.int .i64 (zY .i64 (o.getD 0+1))) (encM m)=some (encM (bump m s)):=
 ⟨_,rfl,mapFind_enc s m,mapSet_enc s m⟩
theorem head_spec(u:Unt)(hu1:u.arrays.length<1099511627776)(hu2:u.flows.length<1099511627776):zk E 38 [encUnt u] []=some (.ret (.bool (zqc u)),[]):=by
 refine zb rfl rfl rfl (by simp[encUnt]) ?_;simp[F38,encUnt,arrs];refine zn u.arrays K38_0 B38_0 (fun d=>[(13,.int .i64 d.length)]) (fun d=>[.mp (encM (bumps (d.map Arr.name)))]) (fun d=>d.all arrOk=true) (by omega) (by simp[bumps,encM]) ?_ ?_
 ·intros d x r s hl' hlt hget hget' hw hp h1 h2 h3 h4;simp at h1 h2 h3;have hn:=name_spec x.name [];have hall:u.arrays.all arrOk=(d.all arrOk&&(arrOk x&&r.all arrOk)):=by rw[hl'.eq];simp
  have hsn:bumps (List.map Arr.name d++[x.name])=bump (bumps (List.map Arr.name d)) x.name:=bumps_snoc _ _;obtain⟨o,o1,o2,o3⟩:=findC_cases x.name (bumps (d.map Arr.name));clear o1;cases hnm:nameM x.name
  ·have hx:arrOk x=false:=by simp[arrOk,hnm]
   have hh:zqc u=false:=by simp only[zqc,hall,hx];simp
   cases o<;>(simp at o3;(simp[*,zN,arrs])<;>(repeat' (first|((first|refine sP _ ?_ ?_|refine gP _ ?_ ?_|refine sN _ ?_ ?_|refine gN _ ?_ ?_)<;>intro hc<;>(first|replace hc:=eqn hc|replace hc:=eqp hc)<;>simp[*,zN,arrs])|((first|refine sM _ ?_ ?_|refine gM _ ?_ ?_|refine sB _ ?_ ?_|refine gB _ ?_ ?_)<;>intro hc<;>simp[*,zN,arrs]))))
  ·by_cases hs1:x.size<1
   ·have hx:arrOk x=false:=by simp[arrOk];omega
    have hh:zqc u=false:=by simp only[zqc,hall,hx];simp
    cases o<;>(simp at o3;(simp[*,zN,arrs])<;>(repeat' (first|((first|refine sP _ ?_ ?_|refine gP _ ?_ ?_|refine sN _ ?_ ?_|refine gN _ ?_ ?_)<;>intro hc<;>(first|replace hc:=eqn hc|replace hc:=eqp hc)<;>simp[*,zN,arrs])|((first|refine sM _ ?_ ?_|refine gM _ ?_ ?_|refine sB _ ?_ ?_|refine gB _ ?_ ?_)<;>intro hc<;>simp[*,zN,arrs]))))
   ·by_cases hs2:1000<x.size
    ·have hx:arrOk x=false:=by simp[arrOk];omega
     have hh:zqc u=false:=by simp only[zqc,hall,hx];simp
     cases o<;>(simp at o3;(simp[*,zN,arrs])<;>(repeat' (first|((first|refine sP _ ?_ ?_|refine gP _ ?_ ?_|refine sN _ ?_ ?_|refine gN _ ?_ ?_)<;>intro hc<;>(first|replace hc:=eqn hc|replace hc:=eqp hc)<;>simp[*,zN,arrs])|((first|refine sM _ ?_ ?_|refine gM _ ?_ ?_|refine sB _ ?_ ?_|refine gB _ ?_ ?_)<;>intro hc<;>simp[*,zN,arrs]))))
    ·have hx:arrOk x=true:=by simp[arrOk,hnm];omega
     have hpp:∀y∈d,arrOk y=true:=by simpa using hp
     clear hall;cases o<;>(simp at o3;(simp[*,zN,arrs])<;>(repeat' (first|((first|refine sP _ ?_ ?_|refine gP _ ?_ ?_|refine sN _ ?_ ?_|refine gN _ ?_ ?_)<;>intro hc<;>(first|replace hc:=eqn hc|replace hc:=eqp hc)<;>simp[*,zN,arrs])|((first|refine sM _ ?_ ?_|refine gM _ ?_ ?_|refine sB _ ?_ ?_|refine gB _ ?_ ?_)<;>intro hc<;>simp[*,zN,arrs]))))<;>(try grind)
 intros s0 hpa h1 h2 h3 h4;simp at h1 h2 h3;simp[*,arrs,flows];refine zn u.flows K38_1 B38_1 (fun d=>[(40,.int .i64 d.length)]) (fun d=>[.mp (encM (bumps (u.arrays.map Arr.name++d.map Flow.name)))]) (fun d=>d.all ztc=true) (by omega) (by simp) ?_ ?_
 ·intros d x r s hl' hlt hget hget' hw hp h1' h2' h3' h4';simp at h1' h2' h3';clear h1 h2 h3 h4;have hn:=name_spec x.name [];have ht:=isType_spec x.type [];have hall:u.flows.all ztc=(d.all ztc&&(ztc x&&r.all ztc)):=by rw[hl'.eq];simp
  have hsn:bumps (List.map Arr.name u.arrays++(List.map Flow.name d++[x.name]))=bump (bumps (List.map Arr.name u.arrays++List.map Flow.name d)) x.name:=by rw[<-yia];exact bumps_snoc _ _
  obtain⟨o,o1,o2,o3⟩:=findC_cases x.name (bumps (u.arrays.map Arr.name++d.map Flow.name));clear o1;have hh:ztc x=false->zqc u=false:=fun hx=>by simp only[zqc,hall,hx];simp
  have hpp:∀y∈d,ztc y=true:=by simpa using hp
  cases hx:ztc x
  ·have hh:=hh hx;simp only[ztc]at hx;clear hall;cases o<;>(simp at o3;(simp[*,zd,flows,ints])<;>(repeat' (first|((first|refine sP _ ?_ ?_|refine gP _ ?_ ?_|refine sN _ ?_ ?_|refine gN _ ?_ ?_)<;>intro hc<;>(first|replace hc:=eqn hc|replace hc:=eqp hc)<;>simp[*,zd,flows,ints])|((first|refine sM _ ?_ ?_|refine gM _ ?_ ?_|refine sB _ ?_ ?_|refine gB _ ?_ ?_)<;>intro hc<;>simp[*,zd,flows,ints]))))<;>(try grind)
  ·have hx2:=hx;simp only[ztc,ya,decide_eq_true_eq]at hx2;obtain⟨⟨⟨n1,n2⟩,n3⟩,n4⟩:=hx2;have n3':¬x.params<0:=by omega
   have n4':¬(x.types.length:Int)<x.params:=by omega
   clear hall hh;cases o<;>(simp at o3;(simp[*,zd,flows,ints])<;>(repeat' (first|((first|refine sP _ ?_ ?_|refine gP _ ?_ ?_|refine sN _ ?_ ?_|refine gN _ ?_ ?_)<;>intro hc<;>(first|replace hc:=eqn hc|replace hc:=eqp hc)<;>simp[*,zd,flows,ints])|((first|refine sM _ ?_ ?_|refine gM _ ?_ ?_|refine sB _ ?_ ?_|refine gB _ ?_ ?_)<;>intro hc<;>simp[*,zd,flows,ints]))))<;>(try grind)
 ·intros s hp h1' h2' h3' h4';simp at h1' h2' h3';clear h1 h2 h3 h4;have hpl:=place_spec u zF [] hu2;simp[encUnt,zF,arrs,flows]at hpl;have hk:(encM (bumps (u.arrays.map Arr.name++u.flows.map Flow.name))).length=(dist (zFc u)).length:=by rw[encM_len,bumps_keys];rfl
  have hd:=dist_nodup (zFc u);have hul:(zFc u).length=u.arrays.length+u.flows.length:=by simp[zFc]
  have hw:zY .i64 ((u.arrays.length:Int)+u.flows.length)=(u.arrays.length:Int)+u.flows.length:=zq (by omega) (by omega);have hh:zqc u=(decide (zFc u).Nodup&&zld u):=by simp only[zqc,hpa,hp];simp
  have hz:decide (((dist (zFc u)).length:Int)=(u.arrays.length:Int)+u.flows.length)=decide (zFc u).Nodup:=by
   rw[<-hd,hul];simp;omega
  by_cases hp0:0<=zU u.flows zF
  ·obtain⟨g,q1,q2,q3,q4⟩:=place_get hp0;have q5:u.flows[(zU u.flows zF).toNat]=g:=by simpa[q4]using q1
   have hm:zld u=(decide (g.type=1)&&decide (g.params=0)):=by simp[zld,q1,hp0]
   simp[zF]at hp0 q1 q4 q5;clear hd hul hpa hp;cases hnd:decide (zFc u).Nodup
   ·rw[hnd]at hz hh
    (simp[*,flows,zd,arrs])<;>(repeat' (first|((first|refine sP _ ?_ ?_|refine gP _ ?_ ?_|refine sN _ ?_ ?_|refine gN _ ?_ ?_)<;>intro hc<;>(first|replace hc:=eqn hc|replace hc:=eqp hc)<;>simp[*,flows,zd,arrs])|((first|refine sM _ ?_ ?_|refine gM _ ?_ ?_|refine sB _ ?_ ?_|refine gB _ ?_ ?_)<;>intro hc<;>simp[*,flows,zd,arrs])))
   ·rw[hnd]at hz hh
    (simp[*,flows,zd,arrs])<;>(repeat' (first|((first|refine sP _ ?_ ?_|refine gP _ ?_ ?_|refine sN _ ?_ ?_|refine gN _ ?_ ?_)<;>intro hc<;>(first|replace hc:=eqn hc|replace hc:=eqp hc)<;>simp[*,flows,zd,arrs])|((first|refine sM _ ?_ ?_|refine gM _ ?_ ?_|refine sB _ ?_ ?_|refine gB _ ?_ ?_)<;>intro hc<;>simp[*,flows,zd,arrs])))
  ·have hm:zld u=false:=by
    unfold zld;split<;>simp;omega
   simp only[zF]at hp0;clear hd hul hpa hp;cases hnd:decide (zFc u).Nodup
   ·rw[hnd]at hz hh
    (simp[*,flows,zd,arrs])<;>(repeat' (first|((first|refine sP _ ?_ ?_|refine gP _ ?_ ?_|refine sN _ ?_ ?_|refine gN _ ?_ ?_)<;>intro hc<;>(first|replace hc:=eqn hc|replace hc:=eqp hc)<;>simp[*,flows,zd,arrs])|((first|refine sM _ ?_ ?_|refine gM _ ?_ ?_|refine sB _ ?_ ?_|refine gB _ ?_ ?_)<;>intro hc<;>simp[*,flows,zd,arrs])))
   ·rw[hnd]at hz hh
    (simp[*,flows,zd,arrs])<;>(repeat' (first|((first|refine sP _ ?_ ?_|refine gP _ ?_ ?_|refine sN _ ?_ ?_|refine gN _ ?_ ?_)<;>intro hc<;>(first|replace hc:=eqn hc|replace hc:=eqp hc)<;>simp[*,flows,zd,arrs])|((first|refine sM _ ?_ ?_|refine gM _ ?_ ?_|refine sB _ ?_ ?_|refine gB _ ?_ ?_)<;>intro hc<;>simp[*,flows,zd,arrs])))
structure USz(u:Unt):Prop where
 arrs:u.arrays.length<1099511627776
 flows:u.flows.length<1099511627776
 types:∀f∈u.flows,f.types.length<1099511627776
 body:∀f∈u.flows,wtL f.body<1099511627776
theorem USz.ok{u:Unt}(h:USz u)(hh:zqc u=true):UOk u:=by
 refine⟨h.arrs,h.flows,fun f hf=>?_,h.types⟩;simp only[zqc,ya,yi]at hh;have:=hh.1.1.2 f hf;simp only[ztc,ya,decide_eq_true_eq]at this;exact⟨this.1.2,this.2⟩
def zta(u:Unt):Int×Int:=if zqc u then(match u.flows.findIdx? (fun f=> !flowM u f)with
 |some i=>(80,(i:Int))
 |none=>(0,0))else(1,0)
theorem check_spec(u:Unt)(hu:USz u):zk E 23 [encUnt u] []=some (.ret (.tup [.int .i64 (zta u).1,.int .i64 (zta u).2]),[]):=by
 refine zb rfl rfl rfl (by simp[encUnt]) ?_;have h1:=head_spec u hu.arrs hu.flows;cases hh:zqc u
 ·simp[encUnt,hh,flows]at h1;have hc:zta u=(1,0):=by simp[zta,hh]
  (simp[*,F23,encUnt,flows])<;>(repeat' (first|((first|refine sP _ ?_ ?_|refine gP _ ?_ ?_|refine sN _ ?_ ?_|refine gN _ ?_ ?_)<;>intro hc<;>(first|replace hc:=eqn hc|replace hc:=eqp hc)<;>simp[*,F23,encUnt,flows])|((first|refine sM _ ?_ ?_|refine gM _ ?_ ?_|refine sB _ ?_ ?_|refine gB _ ?_ ?_)<;>intro hc<;>simp[*,F23,encUnt,flows])))
 ·have ho:=hu.ok hh;simp[encUnt,hh,flows]at h1;have hf:∀f∈u.flows,zk E 39 [encUnt u,zd f] []=some (.ret (.bool (flowM u f)),[]):=fun f hf=>flow_spec u f ho (ho.pars f hf) (hu.types f hf) (hu.body f hf)
  have hfl:=hu.flows;simp[F23,encUnt,flows,h1];refine zn u.flows K23_0 B23_0 (fun d=>[(12,.int .i64 d.length)]) (fun d=>[]) (fun d=>∀f∈d,flowM u f=true) (by omega) (by simp) ?_ ?_
  ·intros d x r s hl' hlt hget hget' hw hp q1 q2 q3 q4;simp at q1 q2 q3;have hfx:=hf x hl'.mem;simp[encUnt,flows,zd]at hfx;clear hf hu ho h1;cases hx:flowM u x
   ·have hi:=ztd (p:=fun f=> !flowM u f) hl' (by simpa using hp) (by simp[hx]);have hcx:zta u=(80,(d.length:Int)):=by
     unfold idx at hi;simp only[zta,hh,if_true];cases hfi:u.flows.findIdx? (fun f=> !flowM u f)with
     |none=>rw[hfi]at hi;simp at hi
     |some i=>rw[hfi]at hi;simp at hi;simp[hi]
    (simp[*,zd,flows])<;>(repeat' (first|((first|refine sP _ ?_ ?_|refine gP _ ?_ ?_|refine sN _ ?_ ?_|refine gN _ ?_ ?_)<;>intro hc<;>(first|replace hc:=eqn hc|replace hc:=eqp hc)<;>simp[*,zd,flows])|((first|refine sM _ ?_ ?_|refine gM _ ?_ ?_|refine sB _ ?_ ?_|refine gB _ ?_ ?_)<;>intro hc<;>simp[*,zd,flows])))
   ·(simp[*,zd,flows])<;>(repeat' (first|((first|refine sP _ ?_ ?_|refine gP _ ?_ ?_|refine sN _ ?_ ?_|refine gN _ ?_ ?_)<;>intro hc<;>(first|replace hc:=eqn hc|replace hc:=eqp hc)<;>simp[*,zd,flows])|((first|refine sM _ ?_ ?_|refine gM _ ?_ ?_|refine sB _ ?_ ?_|refine gB _ ?_ ?_)<;>intro hc<;>simp[*,zd,flows])))
    all_goals(try grind)
  ·intros s hp q1 q2 q3 q4;simp at q1 q2 q3;have hcx:zta u=(0,0):=by
    have:u.flows.findIdx? (fun f=> !flowM u f)=none:=by rw[yda];simpa using hp
    simp[zta,hh,this]
   clear hf hu ho hh h1 hp
   (simp[*])<;>(repeat' (first|((first|refine sP _ ?_ ?_|refine gP _ ?_ ?_|refine sN _ ?_ ?_|refine gN _ ?_ ?_)<;>intro hc<;>(first|replace hc:=eqn hc|replace hc:=eqp hc)<;>simp[*])|((first|refine sM _ ?_ ?_|refine gM _ ?_ ?_|refine sB _ ?_ ?_|refine gB _ ?_ ?_)<;>intro hc<;>simp[*])))
structure RS where
 inp:List Int
 arrs:List (List Int)
 out:List Int
 cost:Int
 fuel:Nat
inductive Rt(α:Type) where
 |ok (a:α)
 |stop (k:Int)
structure Wy where
 kind:Int
 l:List Int
abbrev NEv:=Node->List Int->RS->Rt Wy×List Int×RS
def oneC(op a:Int):Int:=
 if op=20 then yka .i64 (0-a)else if op=21 then yka .i64 (-1-a)else if op=22 then(if a=0 then 1 else 0)
 else if op=23 then(a+128)%256-128 else if op=24 then(a+32768)%65536-32768 else if op=25 then(a+2147483648)%4294967296-2147483648
 else if op=26 then a%256 else if op=27 then a%65536 else if op=28 then a%4294967296 else 0
def and64C(a b:Int):Int:=(yr 64 a&&&yr 64 b).toInt
def or64C(a b:Int):Int:=(yr 64 a|||yr 64 b).toInt
def xor64C(a b:Int):Int:=(yr 64 a^^^yr 64 b).toInt
def twoC(op a b:Int):Int×Bool:=
 if(cmp op a b).2=true then(if(cmp op a b).1=true then 1 else 0,true)
 else if op=1 then(yka .i64 (a+b),true)else if op=2 then(yka .i64 (a-b),true)else if op=3 then(yka .i64 (a*b),true)
 else if op=6 then(and64C a b,true)else if op=7 then(or64C a b,true)else if op=8 then(xor64C a b,true)
 else if op=9 then(yka .i64 (a*2^(b%64).toNat),true)else if op=10 then(a.fdiv (2^(b%64).toNat),true)
 else if op=11 then(yka .i64 ((a%18446744073709551616).fdiv (2^(b%64).toNat)),true)
 else if b=0 then(0,false)else if op=4 then(yka .i64 (a.tdiv b),true)else if op=5 then(a.tmod b,true)else(0,false)
theorem one_eqC(op a:Int):one op a=oneC op a:=by
 unfold one oneC;by_cases h1:op=20
 ·subst h1;simp[W,zba]
 by_cases h2:op=21
 ·subst h2;simp[not64,W,zba]
 by_cases h3:op=22
 ·subst h3;simp
 by_cases h4:op=26
 ·subst h4;simp only[wrapK_u8];simp;rw[W_id]<;>omega
 by_cases h5:op=27
 ·subst h5;simp only[wrapK_u16];simp;rw[W_id]<;>omega
 by_cases h6:op=28
 ·subst h6;simp only[wrapK_u32];simp;rw[W_id]<;>omega
 by_cases h7:op=23
 ·subst h7;simp only[wrapK_i8];simp;rw[W_id]<;>omega
 by_cases h8:op=24
 ·subst h8;simp only[wrapK_i16];simp;rw[W_id]<;>omega
 by_cases h9:op=25
 ·subst h9;simp only[wrapK_i32];simp;rw[W_id]<;>omega
 simp[h1,h2,h3,h4,h5,h6,h7,h8,h9]
theorem wrap64u(n:Int):yka .u64 n=n%18446744073709551616:=by simp[yka,yS,IntKind.signed]
theorem two_eqC(op a b:Int):two op a b=twoC op a b:=by
 have h63:zke b 63=b%64:=by have:=and_mask b 6 (by decide);simpa using this
 have hm:min (b%64).toNat 64=(b%64).toNat:=by omega
 unfold two twoC;rw[h63,hm];simp only[W,zba,and64_eq,or64_eq,xor64_eq,remK_eq,shrK_eq,and64C,or64C,xor64C,wrap64u]
def zHa(S:RS):RS:={S with cost:=yka .i64 (S.cost+1)}
def atA(l:List Int)(i:Nat):Int:=(l[i]?).getD 0
def cellAt(u:Unt)(S:RS)(nm:List UInt8)(n:Int):Option Int:=
 if n<0 then none else(S.arrs[(zje u.arrays nm).toNat]?).bind fun l=>l[n.toNat]?
def putAt(u:Unt)(S:RS)(nm:List UInt8)(n m:Int):Option RS:=
 if n<0 then none else(S.arrs[(zje u.arrays nm).toNat]?).bind fun l=>if n.toNat<l.length then some {S with arrs:=S.arrs.set (zje u.arrays nm).toNat (l.set n.toNat m)}else none
def flowAt(u:Unt)(nm:List UInt8):Option Flow:=u.flows[(zU u.flows nm).toNat]?
def setW:List Int->List Int->List Int->List Int
 |v,o::os,n::ns=>setW (v.set o.toNat n) os ns
 |v,_,_=>v
def ofW(v l:List Int):List Int:=l.map (at0 v)
def kid0(n:Node):List Node:=(n.kids[0]?).getD []
def kid1(n:Node):List Node:=(n.kids[1]?).getD []
section
variable (u:Unt) (ev:NEv)
def zMb:List Node->List Int->RS->Rt Wy×List Int×RS
 | [],v,S=>(.ok ⟨0,[]⟩,v,S)
 |n::r,v,S=>match ev n v S with
  |(.ok w,v1,S1)=>if w.kind=0 then zMb r v1 S1 else(.ok w,v1,S1)
  |(.stop k,v1,S1)=>(.stop k,v1,S1)
def callW(f:Flow)(l:List Int)(S:RS):Rt Int×RS:=match zMb ev f.body (l++yn (f.types.length-l.length) 0) S with
 |(.ok w,_,S1)=>(.ok (atA w.l 0),S1)
 |(.stop k,_,S1)=>(.stop k,S1)
def plainW(n:Node)(l:List Int)(S:RS):Rt (List Int)×RS:=
 if n.kind=3 then(.ok [oneC n.op (atA l 0)],S)
 else if n.kind=4 then(if(twoC n.op (atA l 0) (atA l 1)).2 then(.ok [(twoC n.op (atA l 0) (atA l 1)).1],S)else(.stop 2,S))
 else if n.kind=5 then(match cellAt u S n.name (atA l 0)with
  |some m=>(.ok [m],S)
  |none=>(.stop 3,S))
 else if n.kind=6 then(match putAt u S n.name (atA l 0) (atA l 1)with
  |some S1=>(.ok [],S1)
  |none=>(.stop 3,S))
 else if n.kind=7 then(match flowAt u n.name with
  |some f=>match callW ev f l S with
   |(.ok m,S1)=>(.ok [m],S1)
   |(.stop k,S1)=>(.stop k,S1)
  |none=>(.ok [],S))
 else if n.kind=8 then(match S.inp with
  | []=>(.stop 4,S)
  |m::r=>(.ok [m],{S with inp:=r}))
 else if n.kind=9 then(.ok [],{S with out:=S.out++[atA l 0]})
 else(.ok [],S)
def choiceW(n:Node)(c:Int)(v:List Int)(S:RS):Rt Wy×List Int×RS:=match zMb ev (if c=0 then kid1 n else kid0 n) v S with
 |(.ok w,v1,S1)=>if w.kind=12 then(.ok ⟨0,[]⟩,setW v1 n.outs w.l,S1)else(.ok w,v1,S1)
 |(.stop k,v1,S1)=>(.stop k,v1,S1)
def zWd(n:Node):Nat->List Int->List Int->RS->Rt Wy×List Int×RS
 |0,_,v,S=>(.stop 0,v,S)
 |k+1,l,v,S=>match zMb ev (kid0 n) (setW v n.params l) S with
  |(.ok w,v1,S1)=>if w.kind=15 then(.ok w,v1,S1)else if w.kind=14 then(.ok ⟨0,[]⟩,setW v1 n.outs w.l,S1)else zWd n k w.l v1 S1
  |(.stop j,v1,S1)=>(.stop j,v1,S1)
def nodeW(w:Nat)(n:Node)(v:List Int)(S:RS):Rt Wy×List Int×RS:=
 if n.kind=1\/n.kind=2 then(.ok ⟨0,[]⟩,setW v n.outs [n.n],S)
 else if 12<=n.kind/\n.kind<=15 then(.ok ⟨n.kind,ofW v n.args⟩,v,S)
 else if n.kind=10 then choiceW ev n (atA (ofW v n.args) 0) v S
 else if n.kind=11 then zWd ev n (w+1) (ofW v n.args) v S
 else match plainW u ev n (ofW v n.args) (zHa S)with
  |(.ok m,S1)=>(.ok ⟨0,[]⟩,setW v n.outs m,S1)
  |(.stop k,S1)=>(.stop k,v,S1)
end
def evN(u:Unt):Nat->NEv
 |0=>fun _ v S=>(.stop 0,v,S)
 |w+1=>fun n v S=>match S.fuel with
  |0=>(.stop 0,v,S)
  |k+1=>nodeW u (evN u w) w n v {S with fuel:=k}
structure Rn where
 status:Int
 code:Int
 out:List Int
 cost:Int
 fuel:Nat
def run0(u:Unt)(inp:List Int)(fuel:Int):RS:=⟨inp,u.arrays.map (fun a=>yn a.size.toNat 0),[],0,fuel.toNat⟩
def runEnd:Rt Int×RS->Rn
 |(.ok n,S)=>⟨1,n,S.out,S.cost,S.fuel⟩
 |(.stop k,S)=>⟨k,0,S.out,S.cost,S.fuel⟩
def mainW(u:Unt)(S:RS):Rt Int×RS:=match flowAt u zF with
 |some f=>callW (evN u S.fuel) f [] S
 |none=>(.ok 0,S)
def playM(u:Unt)(inp:List Int)(fuel:Int):Rn:=
 if(zta u).1=0 then runEnd (mainW u (run0 u inp fuel))else⟨0,0,[],0,0⟩
abbrev Set1:=List Bool
def seO(Z:Set1):Obj:= .arr 1 (Z.map PV.bool)
def atB(l:List Bool)(v:Int):Bool:=(l[v.toNat]?).getD false
theorem atB_get{l:List Bool}{v:Int}(h0:0<=v)(h1:v<l.length):l[v.toNat]? =some (atB l v):=by
 unfold atB;have:v.toNat<l.length:=by omega
 simp[this]
theorem atB_get'{l:List Bool}{v:Int}(h0:0<=v)(h1:v<l.length)(h:v.toNat<l.length):l[v.toNat]'h=atB l v:=by
 unfold atB;simp[h]
theorem in_spec(l:List Int)(n:Int)(σ:zc)(hl:l.length<1099511627776):zk E 143 [ints l,.int .i64 n] σ=some (.ret (.bool (l.contains n)),σ):=by
 refine zb rfl rfl rfl (by simp) ?_;simp[F143];refine zn l K143_0 B143_0 (fun d=>[(5,.int .i64 d.length)]) (fun _=>σ) (fun d=>n ∉ d) (by omega) (by simp) ?_ ?_
 ·intros d x r s hl' hlt hget hget' hw hp h1 h2 h3 h4;simp at h1 h3;have hm:=hl'.mem
  (simp[*,ints])<;>(repeat' (first|((first|refine sP _ ?_ ?_|refine gP _ ?_ ?_|refine sN _ ?_ ?_|refine gN _ ?_ ?_)<;>intro hc<;>(first|replace hc:=eqn hc|replace hc:=eqp hc)<;>simp[*,ints])|((first|refine sM _ ?_ ?_|refine gM _ ?_ ?_|refine sB _ ?_ ?_|refine gB _ ?_ ?_)<;>intro hc<;>simp[*,ints])))
  all_goals(try grind)
 ·intros s hp h1 h2 h3 h4;simp at h1 h3
  (simp[*,ints])<;>(repeat' (first|((first|refine sP _ ?_ ?_|refine gP _ ?_ ?_|refine sN _ ?_ ?_|refine gN _ ?_ ?_)<;>intro hc<;>(first|replace hc:=eqn hc|replace hc:=eqp hc)<;>simp[*,ints])|((first|refine sM _ ?_ ?_|refine gM _ ?_ ?_|refine sB _ ?_ ?_|refine gB _ ?_ ?_)<;>intro hc<;>simp[*,ints])))
theorem of_spec(u:Unt)(f:Flow)(n:Nat)(l:List Int)(σ:zc)(hl:l.length<1099511627776):zk E 120 [chkV u f n,ints l] σ=some (.ret (ints (typesM f.types l)),σ):=by
 refine zb rfl rfl rfl (by simp) ?_;simp[F120,ints];refine zn l K120_0 B120_0 (fun d=>[(6,.int .i64 d.length),(5,acc 1 (d.map fun v=> .int .i64 (at0 f.types v)))]) (fun _=>σ) (fun d=>d.all (fun v=>valM f.types v 0)=true) (by omega) (by simp) ?_ ?_
 ·intros d x r s hl' hlt hget hget' hw hp h1 h2 h3 h4;simp at h1 h3;clear h2;have hn:valM f.types x 0=false->typesM f.types l=[]:=by
   intro hx;unfold typesM;rw[if_neg];rw[hl'.eq];simp[hx]
  by_cases r0:x<0
  ·have hn:=hn (by simp[valM];omega)
   (simp[*,chkV,ints])<;>(repeat' (first|((first|refine sP _ ?_ ?_|refine gP _ ?_ ?_|refine sN _ ?_ ?_|refine gN _ ?_ ?_)<;>intro hc<;>(first|replace hc:=eqn hc|replace hc:=eqp hc)<;>simp[*,chkV,ints])|((first|refine sM _ ?_ ?_|refine gM _ ?_ ?_|refine sB _ ?_ ?_|refine gB _ ?_ ?_)<;>intro hc<;>simp[*,chkV,ints])))
  by_cases r1:(f.types.length:Int)<=x
  ·have hn:=hn (by simp[valM];omega)
   (simp[*,chkV,ints])<;>(repeat' (first|((first|refine sP _ ?_ ?_|refine gP _ ?_ ?_|refine sN _ ?_ ?_|refine gN _ ?_ ?_)<;>intro hc<;>(first|replace hc:=eqn hc|replace hc:=eqp hc)<;>simp[*,chkV,ints])|((first|refine sM _ ?_ ?_|refine gM _ ?_ ?_|refine sB _ ?_ ?_|refine gB _ ?_ ?_)<;>intro hc<;>simp[*,chkV,ints])))
  ·have r0':0<=x:=by omega
   have r1':x<f.types.length:=by omega
   have hv:valM f.types x 0=true:=by simp[valM];omega
   have q1:=zrc r0' r1';have q2:x.toNat<f.types.length:=by omega
   have q3:=zyb r0' r1' q2;have q4:(d.length+1)*8<=zG:=by simp only[zG];omega
   clear hn
   (simp[*,chkV,ints])<;>(repeat' (first|((first|refine sP _ ?_ ?_|refine gP _ ?_ ?_|refine sN _ ?_ ?_|refine gN _ ?_ ?_)<;>intro hc<;>(first|replace hc:=eqn hc|replace hc:=eqp hc)<;>simp[*,chkV,ints])|((first|refine sM _ ?_ ?_|refine gM _ ?_ ?_|refine sB _ ?_ ?_|refine gB _ ?_ ?_)<;>intro hc<;>simp[*,chkV,ints])))
 ·intros s hp h1 h2 h3 h4;simp at h1 h3;have:typesM f.types l=l.map (at0 f.types):=by
   unfold typesM;rw[if_pos hp]
  (simp[*,ints])<;>(repeat' (first|((first|refine sP _ ?_ ?_|refine gP _ ?_ ?_|refine sN _ ?_ ?_|refine gN _ ?_ ?_)<;>intro hc<;>(first|replace hc:=eqn hc|replace hc:=eqp hc)<;>simp[*,ints])|((first|refine sM _ ?_ ?_|refine gM _ ?_ ?_|refine sB _ ?_ ?_|refine gB _ ?_ ?_)<;>intro hc<;>simp[*,ints])))
def useR(ty:List Int)(seen:List Int)(v t:Int):Bool:=decide (0<=v)&&(decide (v<ty.length)&&(seen.contains v&&(decide (t=0)||decide (at0 ty v=t))))
def zA(ty:List Int)(seen:List Int)(l want:List Int):Bool:=decide (l.length=want.length)&&(l.zip want).all fun p=>useR ty seen p.1 p.2
theorem zip_get{l ts d:List Int}{q:Nat}{v t:Int}(hget:(l.zip ts)[q]? =some (v,t)):l[q]? =some v/\ts[q]? =some t:=by
 rw[yQ]at hget;exact hget
theorem rtypes_spec(u:Unt)(f:Flow)(n:Nat)(l seen want:List Int)(σ:zc)(hl:l.length<1099511627776)(hs:seen.length<1099511627776):
  zk E 121 [chkV u f n,ints l,ints seen,ints want] σ=some (.ret (.bool (zA f.types seen l want)),σ):=by
 refine zb rfl rfl rfl (by simp) ?_;by_cases hlen:l.length=want.length
 ·simp[F121,ints,hlen];have ht:zA f.types seen l want=(l.zip want).all fun p=>useR f.types seen p.1 p.2:=by simp[zA,hlen]
  refine zn (l.zip want) K121_0 B121_0 (fun d=>[(9,.int .i64 d.length)]) (fun _=>σ) (fun d=>∀p∈d,useR f.types seen p.1 p.2=true) (by simp;omega) (by simp) ?_ ?_
  ·rintro d ⟨v,t⟩ r s hl' hlt hget hget' hw hp h1 h2 h3 h4
   simp at h1 h3;clear h2;obtain⟨g1,g2⟩:=zip_get (d:=l) hget;have hlt1:d.length<l.length:=by simp at hlt;omega
   have hlt2:d.length<want.length:=by omega
   have g1':l[d.length]=v:=by simpa[hlt1]using g1
   have g2':want[d.length]=t:=by simpa[hlt2]using g2
   have hin:=in_spec seen v [] hs;have hf:useR f.types seen v t=false->zA f.types seen l want=false:=fun hx=>by
    rw[ht,hl'.eq];simp[hx]
   clear hget hget' ht;simp[ints]at hin;by_cases r0:v<0
   ·have hf:=hf (by simp[useR];omega)
    (simp[*,chkV,ints])<;>(repeat' (first|((first|refine sP _ ?_ ?_|refine gP _ ?_ ?_|refine sN _ ?_ ?_|refine gN _ ?_ ?_)<;>intro hc<;>(first|replace hc:=eqn hc|replace hc:=eqp hc)<;>simp[*,chkV,ints])|((first|refine sM _ ?_ ?_|refine gM _ ?_ ?_|refine sB _ ?_ ?_|refine gB _ ?_ ?_)<;>intro hc<;>simp[*,chkV,ints])))
   by_cases r1:(f.types.length:Int)<=v
   ·have hf:=hf (by simp[useR];omega)
    (simp[*,chkV,ints])<;>(repeat' (first|((first|refine sP _ ?_ ?_|refine gP _ ?_ ?_|refine sN _ ?_ ?_|refine gN _ ?_ ?_)<;>intro hc<;>(first|replace hc:=eqn hc|replace hc:=eqp hc)<;>simp[*,chkV,ints])|((first|refine sM _ ?_ ?_|refine gM _ ?_ ?_|refine sB _ ?_ ?_|refine gB _ ?_ ?_)<;>intro hc<;>simp[*,chkV,ints])))
   have r0':0<=v:=by omega
   have r1':v<f.types.length:=by omega
   have q1:=zrc r0' r1';have q2:v.toNat<f.types.length:=by omega
   have q3:=zyb r0' r1' q2;have hu:(seen.contains v&&(decide (t=0)||decide (at0 f.types v=t)))=useR f.types seen v t:=by simp[useR,r0',r1']
   cases hx:useR f.types seen v t
   ·have hf:=hf hx;rw[hx]at hu
    (simp[*,chkV,ints])<;>(repeat' (first|((first|refine sP _ ?_ ?_|refine gP _ ?_ ?_|refine sN _ ?_ ?_|refine gN _ ?_ ?_)<;>intro hc<;>(first|replace hc:=eqn hc|replace hc:=eqp hc)<;>simp[*,chkV,ints])|((first|refine sM _ ?_ ?_|refine gM _ ?_ ?_|refine sB _ ?_ ?_|refine gB _ ?_ ?_)<;>intro hc<;>simp[*,chkV,ints])))
    all_goals(try grind)
   ·clear hf;rw[hx]at hu
    (simp[*,chkV,ints])<;>(repeat' (first|((first|refine sP _ ?_ ?_|refine gP _ ?_ ?_|refine sN _ ?_ ?_|refine gN _ ?_ ?_)<;>intro hc<;>(first|replace hc:=eqn hc|replace hc:=eqp hc)<;>simp[*,chkV,ints])|((first|refine sM _ ?_ ?_|refine gM _ ?_ ?_|refine sB _ ?_ ?_|refine gB _ ?_ ?_)<;>intro hc<;>simp[*,chkV,ints])))
    all_goals(try grind)
  ·rintro s hp h1 h2 h3 h4
   have hz:(l.zip want).length=l.length:=by simp;omega
   rw[hz]at h3;simp at h1 h3;have ht2:zA f.types seen l want=true:=by rw[ht,yi];exact hp
   clear hp ht
   (simp[*,ints])<;>(repeat' (first|((first|refine sP _ ?_ ?_|refine gP _ ?_ ?_|refine sN _ ?_ ?_|refine gN _ ?_ ?_)<;>intro hc<;>(first|replace hc:=eqn hc|replace hc:=eqp hc)<;>simp[*,ints])|((first|refine sM _ ?_ ?_|refine gM _ ?_ ?_|refine sB _ ?_ ?_|refine gB _ ?_ ?_)<;>intro hc<;>simp[*,ints])))
 ·have ht:zA f.types seen l want=false:=by simp[zA,hlen]
  have hlen':¬(l.length:Int)=want.length:=by omega
  (simp[*,F121,ints])<;>(repeat' (first|((first|refine sP _ ?_ ?_|refine gP _ ?_ ?_|refine sN _ ?_ ?_|refine gN _ ?_ ?_)<;>intro hc<;>(first|replace hc:=eqn hc|replace hc:=eqp hc)<;>simp[*,F121,ints])|((first|refine sM _ ?_ ?_|refine gM _ ?_ ?_|refine sB _ ?_ ?_|refine gB _ ?_ ?_)<;>intro hc<;>simp[*,F121,ints])))
def zda(ty:List Int)(Z:Set1)(v t:Int):Bool×Set1:=if valM ty v t&& !atB Z v then(true,Z.set v.toNat true)else(false,Z)
def zI(ty:List Int)(Z:Set1)(l want:List Int):Bool×Set1:=eqM (zda ty) Z l want
theorem setRG_len(ty:List Int)(Z:Set1)(v t:Int):(zda ty Z v t).2.length=Z.length:=by
 unfold zda;split<;>simp
theorem zud(ty:List Int):∀(l:List (Int×Int)) (S:Set1),(eqGo (zda ty) S l).2.length=S.length
 | [],S=>rfl
 |p::r,S=>by
  simp only[eqGo];split
  ·rw[zud ty r,setRG_len]
  ·rw[setRG_len]
theorem zHb(ty:List Int)(S:Set1)(l ts:List Int):(zI ty S l ts).2.length=S.length:=by
 unfold zI eqM;split
 ·exact zud _ _ _
 ·rfl
theorem rsets_spec(u:Unt)(f:Flow)(Z:Set1)(l want:List Int)(hZ:Z.length=f.types.length)(hl:l.length<1099511627776):
  zk E 122 [chkV u f f.types.length,ints l,ints want] [seO Z]=some (.ret (.bool (zI f.types Z l want).1),[seO (zI f.types Z l want).2]):=by
 refine zb rfl rfl rfl (by simp) ?_;by_cases hlen:l.length=want.length
 ·simp[F122,ints,hlen];have hm:zI f.types Z l want=eqGo (zda f.types) Z (l.zip want):=by simp[zI,eqM,hlen]
  refine zn (l.zip want) K122_0 B122_0 (fun d=>[(7,.int .i64 d.length)]) (fun d=>[seO (eqGo (zda f.types) Z d).2]) (fun d=>(eqGo (zda f.types) Z d).1=true) (by simp;omega) (by simp[eqGo]) ?_ ?_
  ·rintro d ⟨v,t⟩ r s hl' hlt hget hget' hw hp h1 h2 h3 h4
   simp at h1 h3;clear h2;obtain⟨g1,g2⟩:=zip_get (d:=l) hget;have hlt1:d.length<l.length:=by simp at hlt;omega
   have hlt2:d.length<want.length:=by omega
   have g1':l[d.length]=v:=by simpa[hlt1]using g1
   have g2':want[d.length]=t:=by simpa[hlt2]using g2
   have hZ1:(eqGo (zda f.types) Z d).2.length=f.types.length:=by rw[zud];exact hZ
   generalize hzd:(eqGo (zda f.types) Z d).2=Z1 at*;have e1:eqGo (zda f.types) Z (d++[(v,t)])=((zda f.types Z1 v t).1,(zda f.types Z1 v t).2):=by
    rw[zTc,hp,hzd];simp only[eqGo,if_true];cases(zda f.types Z1 v t).1<;>rfl
   have e2:(zda f.types Z1 v t).1=false->zI f.types Z l want=(false,Z1):=by
    intro hf;have h2:(zda f.types Z1 v t).2=Z1:=by
     by_cases hc:(valM f.types v t&& !atB Z1 v)=true
     ·rw[zda,if_pos hc]at hf;cases hf
     ·rw[zda,if_neg hc]
    rw[hm,hl'.eq,zTc,hp,hzd];simp[eqGo,hf,h2]
   clear hget hget' hm;by_cases r0:v<0
   ·have hv:valM f.types v t=false:=by simp[valM];omega
    have e2:=e2 (by simp[zda,hv])
    (simp[*,chkV,ints])<;>(repeat' (first|((first|refine sP _ ?_ ?_|refine gP _ ?_ ?_|refine sN _ ?_ ?_|refine gN _ ?_ ?_)<;>intro hc<;>(first|replace hc:=eqn hc|replace hc:=eqp hc)<;>simp[*,chkV,ints])|((first|refine sM _ ?_ ?_|refine gM _ ?_ ?_|refine sB _ ?_ ?_|refine gB _ ?_ ?_)<;>intro hc<;>simp[*,chkV,ints])))
   by_cases r1:(f.types.length:Int)<=v
   ·have hv:valM f.types v t=false:=by simp[valM];omega
    have e2:=e2 (by simp[zda,hv])
    (simp[*,chkV,ints])<;>(repeat' (first|((first|refine sP _ ?_ ?_|refine gP _ ?_ ?_|refine sN _ ?_ ?_|refine gN _ ?_ ?_)<;>intro hc<;>(first|replace hc:=eqn hc|replace hc:=eqp hc)<;>simp[*,chkV,ints])|((first|refine sM _ ?_ ?_|refine gM _ ?_ ?_|refine sB _ ?_ ?_|refine gB _ ?_ ?_)<;>intro hc<;>simp[*,chkV,ints])))
   have r0':0<=v:=by omega
   have r1':v<f.types.length:=by omega
   have rz:v<Z1.length:=by omega
   have q1:=zrc r0' r1';have q2:v.toNat<f.types.length:=by omega
   have q3:=zyb r0' r1' q2;have q4:=atB_get r0' rz;have q5:v.toNat<Z1.length:=by omega
   have q6:=atB_get' r0' rz q5;have hv:(decide (t=0)||decide (at0 f.types v=t))=valM f.types v t:=by simp[valM,r0',r1']
   cases hb:atB Z1 v
   ·cases hx:valM f.types v t
    ·have e2:=e2 (by simp[zda,hx]);rw[hx]at hv
     (simp[*,chkV,ints,seO,zC,zra])<;>(repeat' (first|((first|refine sP _ ?_ ?_|refine gP _ ?_ ?_|refine sN _ ?_ ?_|refine gN _ ?_ ?_)<;>intro hc<;>(first|replace hc:=eqn hc|replace hc:=eqp hc)<;>simp[*,chkV,ints,seO,zC,zra])|((first|refine sM _ ?_ ?_|refine gM _ ?_ ?_|refine sB _ ?_ ?_|refine gB _ ?_ ?_)<;>intro hc<;>simp[*,chkV,ints,seO,zC,zra])))
     all_goals(try grind)
    ·have e3:zda f.types Z1 v t=(true,Z1.set v.toNat true):=by simp[zda,hx,hb]
     rw[hx]at hv;rw[e3]at e1;clear e2
     (simp[*,chkV,ints,seO,zC,zra,yoa])<;>(repeat' (first|((first|refine sP _ ?_ ?_|refine gP _ ?_ ?_|refine sN _ ?_ ?_|refine gN _ ?_ ?_)<;>intro hc<;>(first|replace hc:=eqn hc|replace hc:=eqp hc)<;>simp[*,chkV,ints,seO,zC,zra,yoa])|((first|refine sM _ ?_ ?_|refine gM _ ?_ ?_|refine sB _ ?_ ?_|refine gB _ ?_ ?_)<;>intro hc<;>simp[*,chkV,ints,seO,zC,zra,yoa])))
     all_goals(try grind)
   ·have e2:=e2 (by simp[zda,hb])
    (simp[*,chkV,ints,seO])<;>(repeat' (first|((first|refine sP _ ?_ ?_|refine gP _ ?_ ?_|refine sN _ ?_ ?_|refine gN _ ?_ ?_)<;>intro hc<;>(first|replace hc:=eqn hc|replace hc:=eqp hc)<;>simp[*,chkV,ints,seO])|((first|refine sM _ ?_ ?_|refine gM _ ?_ ?_|refine sB _ ?_ ?_|refine gB _ ?_ ?_)<;>intro hc<;>simp[*,chkV,ints,seO])))
  ·rintro s hp h1 h2 h3 h4
   have hz:(l.zip want).length=l.length:=by simp;omega
   rw[hz]at h3;simp at h1 h3
   (simp[*,ints])<;>(repeat' (first|((first|refine sP _ ?_ ?_|refine gP _ ?_ ?_|refine sN _ ?_ ?_|refine gN _ ?_ ?_)<;>intro hc<;>(first|replace hc:=eqn hc|replace hc:=eqp hc)<;>simp[*,ints])|((first|refine sM _ ?_ ?_|refine gM _ ?_ ?_|refine sB _ ?_ ?_|refine gB _ ?_ ?_)<;>intro hc<;>simp[*,ints])))
 ·have ht:zI f.types Z l want=(false,Z):=by simp[zI,eqM,hlen]
  have hlen':¬(l.length:Int)=want.length:=by omega
  (simp[*,F122,ints])<;>(repeat' (first|((first|refine sP _ ?_ ?_|refine gP _ ?_ ?_|refine sN _ ?_ ?_|refine gN _ ?_ ?_)<;>intro hc<;>(first|replace hc:=eqn hc|replace hc:=eqp hc)<;>simp[*,F122,ints])|((first|refine sM _ ?_ ?_|refine gM _ ?_ ?_|refine sB _ ?_ ?_|refine gB _ ?_ ?_)<;>intro hc<;>simp[*,F122,ints])))
def takesR(op:Int):Int:=if op=18\/op=19\/op=22 then 2 else if op=16\/op=17 then 0 else 1
def makesR(op:Int):Int:=if op=18\/op=19\/op=22\/(12<=op/\op<=17)then 2 else 1
theorem roperand_spec(op:Int):zk E 144 [.int .i64 op] []=some (.ret (.tup [.int .i64 (takesR op),.int .i64 (makesR op)]),[]):=by
 refine zb rfl rfl rfl (by simp) ?_
 (simp[*,F144,takesR,makesR])<;>(repeat' ((first|refine sP _ ?_ ?_|refine gP _ ?_ ?_|refine sN _ ?_ ?_|refine gN _ ?_ ?_|refine sM _ ?_ ?_|refine gM _ ?_ ?_|refine sB _ ?_ ?_|refine gB _ ?_ ?_)<;>intro hc<;>simp[*,F144,takesR,makesR]))
 all_goals(try grind)
def isOne(op:Int):Bool:=decide (20<=op)&&decide (op<=28)
def isTwo(op:Int):Bool:=decide (1<=op)&&decide (op<=17)
theorem isOne_spec(op:Int):zk E 145 [.int .i64 op] []=some (.ret (.bool (isOne op)),[]):=by
 refine zb rfl rfl rfl (by simp) ?_
 (simp[*,F145,isOne])<;>(repeat' ((first|refine sP _ ?_ ?_|refine gP _ ?_ ?_|refine sN _ ?_ ?_|refine gN _ ?_ ?_|refine sM _ ?_ ?_|refine gM _ ?_ ?_|refine sB _ ?_ ?_|refine gB _ ?_ ?_)<;>intro hc<;>simp[*,F145,isOne]))
theorem isTwo_spec(op:Int):zk E 146 [.int .i64 op] []=some (.ret (.bool (isTwo op)),[]):=by
 refine zb rfl rfl rfl (by simp) ?_
 (simp[*,F146,isTwo])<;>(repeat' ((first|refine sP _ ?_ ?_|refine gP _ ?_ ?_|refine sN _ ?_ ?_|refine gN _ ?_ ?_|refine sM _ ?_ ?_|refine gM _ ?_ ?_|refine sB _ ?_ ?_|refine gB _ ?_ ?_)<;>intro hc<;>simp[*,F146,isTwo]))
theorem takesR_one{op:Int}(h:isOne op=true):takesR op=takes op/\makesR op=zqb op:=by
 simp[isOne]at h;constructor<;>simp[takesR,takes,makesR,zqb]<;>grind
theorem takesR_two{op:Int}(h:isTwo op=true):takesR op=takes op/\makesR op=zqb op:=by
 simp[isTwo]at h;constructor<;>simp[takesR,takes,makesR,zqb]<;>grind
theorem rbare_spec(x:Node):zk E 119 [zy x] []=some (.ret (.bool (zBa x)),[]):=by
 refine zb rfl rfl rfl (by simp[za]) ?_;have hp:decide ((x.params.length:Int)=0)=decide (x.params=[]):=by simp
 by_cases h10:x.kind=10
 ·(simp[*,F119,za,ints,kids,zBa,zjc])<;>(repeat' ((first|refine sP _ ?_ ?_|refine gP _ ?_ ?_|refine sN _ ?_ ?_|refine gN _ ?_ ?_|refine sM _ ?_ ?_|refine gM _ ?_ ?_|refine sB _ ?_ ?_|refine gB _ ?_ ?_)<;>intro hc<;>simp[*,F119,za,ints,kids,zBa,zjc]))
  all_goals(try grind)
 ·by_cases h11:x.kind=11
  ·(simp[*,F119,za,ints,kids,zBa,zjc])<;>(repeat' ((first|refine sP _ ?_ ?_|refine gP _ ?_ ?_|refine sN _ ?_ ?_|refine gN _ ?_ ?_|refine sM _ ?_ ?_|refine gM _ ?_ ?_|refine sB _ ?_ ?_|refine gB _ ?_ ?_)<;>intro hc<;>simp[*,F119,za,ints,kids,zBa,zjc]))
   all_goals(try grind)
  ·(simp[*,F119,za,ints,kids,zBa,zjc])<;>(repeat' ((first|refine sP _ ?_ ?_|refine gP _ ?_ ?_|refine sN _ ?_ ?_|refine gN _ ?_ ?_|refine sM _ ?_ ?_|refine gM _ ?_ ?_|refine sB _ ?_ ?_|refine gB _ ?_ ?_)<;>intro hc<;>simp[*,F119,za,ints,kids,zBa,zjc]))
   all_goals(try grind)
def zu(u:Unt)(f:Flow)(seen:List Int)(w:Place)(Z:Set1)(n:Node):Bool×Set1:=
 let ty:=f.types
 if n.kind=1 then if zA ty seen n.args []then zI ty Z n.outs [1]else(false,Z)
 else if n.kind=2 then if(n.n=0\/n.n=1)/\zA ty seen n.args []=true then zI ty Z n.outs [2]else(false,Z)
 else if n.kind=3 then if isOne n.op&&zA ty seen n.args [takes n.op]then zI ty Z n.outs [zqb n.op]else(false,Z)
 else if n.kind=4 then if(isTwo n.op&&zA ty seen n.args [takes n.op,takes n.op])=true/\at0 ty (at0 n.args 0)=at0 ty (at0 n.args 1)then zI ty Z n.outs [zqb n.op]else(false,Z)
 else if n.kind=5 then if zPb u.arrays n.name&&zA ty seen n.args [1]then zI ty Z n.outs [1]else(false,Z)
 else if n.kind=6 then(zPb u.arrays n.name&&(zA ty seen n.args [1,1]&&decide (n.outs=[])),Z)
 else if n.kind=7 then
  match u.flows[(zU u.flows n.name).toNat]? with
  |some g=>if 0<=zU u.flows n.name/\zA ty seen n.args (pars g)=true then zI ty Z n.outs [g.type]else(false,Z)
  |none=>(false,Z)
 else if n.kind=8 then if n.args=[]then zI ty Z n.outs [1]else(false,Z)
 else if n.kind=9 then(zA ty seen n.args [1]&&decide (n.outs=[]),Z)
 else if n.kind=12 then(w.inIf&&(zA ty seen n.args w.yield&&decide (n.outs=[])),Z)
 else if n.kind=13 then(w.inLoop&&(zA ty seen n.args w.next&&decide (n.outs=[])),Z)
 else if n.kind=14 then(w.inLoop&&(zA ty seen n.args w.left&&decide (n.outs=[])),Z)
 else if n.kind=15 then(zA ty seen n.args [f.type]&&decide (n.outs=[]),Z)
 else(false,Z)
theorem typesR_two{ty seen l:List Int}{t t':Int}(h:zA ty seen l [t,t']=true):∃a b,l=[a,b]/\0<=a/\a<ty.length/\0<=b/\b<ty.length:=by
 unfold zA at h
 match l with
 | []=>simp at h
 | [_]=>simp at h
 |a::b::_::_=>simp at h
 | [a,b]=>
  simp[useR]at h;exact⟨a,b,rfl,h.1.1,h.1.2.1,h.2.1,h.2.2.1⟩
theorem arrAt_has(l:List Arr)(s:List UInt8):decide (0<=zje l s)=zPb l s:=idx_ge _ _
set_option maxHeartbeats 1000000 in
theorem rsimple_spec(u:Unt)(f:Flow)(seen:List Int)(w:Place)(Z:Set1)(x:Node)(hu:UOk u)(hZ:Z.length=f.types.length)(hx:wtN x<1099511627776)(hs:seen.length<1099511627776):
  zk E 123 [chkV u f f.types.length,zy x,ints seen,zf w] [seO Z]=some (.ret (.bool (zu u f seen w Z x).1),[seO (zu u f seen w Z x).2]):=by
 refine zb rfl rfl rfl (by simp[za,chkV,zf]) ?_;have hw:=zwa x;have hT:=fun want=>rtypes_spec u f f.types.length x.args seen want [seO Z] (by omega) hs
 have hS:=fun want=>rsets_spec u f Z x.outs want hZ (by omega)
 have h6:=rarray_spec u x.name [] hu.arrs;have h7:=zXb u x.name [] hu.flows;have ho:=arrAt_has u.arrays x.name;have hl0:decide ((x.outs.length:Int)=0)=decide (x.outs=[]):=by simp
 have hl1:decide ((x.args.length:Int)=0)=decide (x.args=[]):=by simp
 by_cases k7:x.kind=7
 ·by_cases hp:0<=zU u.flows x.name
  ·obtain⟨g,q1,q2,q3,q4⟩:=place_get hp;obtain⟨p1,p2⟩:=hu.pars g q2;have q5:u.flows[(zU u.flows x.name).toNat]=g:=by simpa[q4]using q1
   have e:zu u f seen w Z x=if zA f.types seen x.args (pars g)=true then zI f.types Z x.outs [g.type]else(false,Z):=by simp[zu,k7,q1,hp]
   have h8:=hT (pars g);have h9:=hS [g.type];have p3:g.params.toNat<=g.types.length:=by omega
   simp[chkV,ints,encUnt,za,k7,flows,pars,List.map_take]at h8 h9 h7;clear h6 hu hT hS hw hl0 hl1 ho
   (simp[*,F123,za,chkV,ints,flows,zd,pars,List.map_take,zf])<;>(repeat' ((first|refine sP _ ?_ ?_|refine gP _ ?_ ?_|refine sN _ ?_ ?_|refine gN _ ?_ ?_|refine sM _ ?_ ?_|refine gM _ ?_ ?_|refine sB _ ?_ ?_|refine gB _ ?_ ?_)<;>intro hc<;>simp[*,F123,za,chkV,ints,flows,zd,pars,List.map_take,zf]))
  ·have e:zu u f seen w Z x=(false,Z):=by
    simp only[zu,k7];simp;split<;>simp[hp]
   simp[chkV,ints,encUnt,za,k7]at h7;clear h6 hu hT hS hw hl0 hl1 ho
   (simp[*,F123,za,chkV,ints,zf])<;>(repeat' ((first|refine sP _ ?_ ?_|refine gP _ ?_ ?_|refine sN _ ?_ ?_|refine gN _ ?_ ?_|refine sM _ ?_ ?_|refine gM _ ?_ ?_|refine sB _ ?_ ?_|refine gB _ ?_ ?_)<;>intro hc<;>simp[*,F123,za,chkV,ints,zf]))
 by_cases k3:x.kind=3
 ·have e:zu u f seen w Z x=if isOne x.op&&zA f.types seen x.args [takes x.op]then zI f.types Z x.outs [zqb x.op]else(false,Z):=by simp[zu,k3]
  have a1:=roperand_spec x.op;have a2:=isOne_spec x.op;cases ho1:isOne x.op
  ·rw[ho1]at e a2;clear h6 h7 hu hT hS hw hl0 hl1 ho
   (simp[*,F123,za,chkV,ints,zf])<;>(repeat' ((first|refine sP _ ?_ ?_|refine gP _ ?_ ?_|refine sN _ ?_ ?_|refine gN _ ?_ ?_|refine sM _ ?_ ?_|refine gM _ ?_ ?_|refine sB _ ?_ ?_|refine gB _ ?_ ?_)<;>intro hc<;>simp[*,F123,za,chkV,ints,zf]))
  ·obtain⟨t1,t2⟩:=takesR_one ho1;rw[t1,t2]at a1;rw[ho1]at e a2;have h8:=hT [takes x.op];have h9:=hS [zqb x.op];simp[chkV,ints,za]at h8 h9;clear h6 h7 hu hT hS hw hl0 hl1 ho
   (simp[*,F123,za,chkV,ints,zf])<;>(repeat' ((first|refine sP _ ?_ ?_|refine gP _ ?_ ?_|refine sN _ ?_ ?_|refine gN _ ?_ ?_|refine sM _ ?_ ?_|refine gM _ ?_ ?_|refine sB _ ?_ ?_|refine gB _ ?_ ?_)<;>intro hc<;>simp[*,F123,za,chkV,ints,zf]))
 by_cases k4:x.kind=4
 ·have e:zu u f seen w Z x=if(isTwo x.op&&zA f.types seen x.args [takes x.op,takes x.op])=true/\at0 f.types (at0 x.args 0)=at0 f.types (at0 x.args 1)then zI f.types Z x.outs [zqb x.op]else(false,Z):=by simp[zu,k4]
  have a1:=roperand_spec x.op;have a2:=isTwo_spec x.op;cases ho1:isTwo x.op
  ·rw[ho1]at e a2;clear h6 h7 hu hT hS hw hl0 hl1 ho
   (simp[*,F123,za,chkV,ints,zf])<;>(repeat' ((first|refine sP _ ?_ ?_|refine gP _ ?_ ?_|refine sN _ ?_ ?_|refine gN _ ?_ ?_|refine sM _ ?_ ?_|refine gM _ ?_ ?_|refine sB _ ?_ ?_|refine gB _ ?_ ?_)<;>intro hc<;>simp[*,F123,za,chkV,ints,zf]))
  ·obtain⟨t1,t2⟩:=takesR_two ho1;rw[t1,t2]at a1;rw[ho1]at e a2;have h8:=hT [takes x.op,takes x.op];have h9:=hS [zqb x.op];cases hty:zA f.types seen x.args [takes x.op,takes x.op]
   ·rw[hty]at e h8;simp[chkV,ints,za]at h8 h9;clear h6 h7 hu hT hS hw hl0 hl1 ho
    (simp[*,F123,za,chkV,ints,zf])<;>(repeat' ((first|refine sP _ ?_ ?_|refine gP _ ?_ ?_|refine sN _ ?_ ?_|refine gN _ ?_ ?_|refine sM _ ?_ ?_|refine gM _ ?_ ?_|refine sB _ ?_ ?_|refine gB _ ?_ ?_)<;>intro hc<;>simp[*,F123,za,chkV,ints,zf]))
   ·obtain⟨a,b,e1,r0,r1,r2,r3⟩:=typesR_two hty;have q1:=zrc r0 r1;have q2:a.toNat<f.types.length:=by omega
    have q3:=zyb r0 r1 q2;have q1':=zrc r2 r3;have q2':b.toNat<f.types.length:=by omega
    have q3':=zyb r2 r3 q2';have z0:at0 [a,b] 0=a:=rfl;have z1:at0 [a,b] 1=b:=rfl;rw[hty]at e h8;rw[e1]at e h8 hty;simp[chkV,ints,za]at h8 h9;clear h6 h7 hu hT hS hw hl0 hl1 ho
    (simp[*,F123,za,chkV,ints,zf])<;>(repeat' ((first|refine sP _ ?_ ?_|refine gP _ ?_ ?_|refine sN _ ?_ ?_|refine gN _ ?_ ?_|refine sM _ ?_ ?_|refine gM _ ?_ ?_|refine sB _ ?_ ?_|refine gB _ ?_ ?_)<;>intro hc<;>simp[*,F123,za,chkV,ints,zf]))
    all_goals(try grind)
 have e:zu u f seen w Z x=if x.kind=1 then if zA f.types seen x.args []then zI f.types Z x.outs [1]else(false,Z)
  else if x.kind=2 then if(x.n=0\/x.n=1)/\zA f.types seen x.args []=true then zI f.types Z x.outs [2]else(false,Z)
  else if x.kind=5 then if zPb u.arrays x.name&&zA f.types seen x.args [1]then zI f.types Z x.outs [1]else(false,Z)
  else if x.kind=6 then(zPb u.arrays x.name&&(zA f.types seen x.args [1,1]&&decide (x.outs=[])),Z)
  else if x.kind=8 then if x.args=[]then zI f.types Z x.outs [1]else(false,Z)
  else if x.kind=9 then(zA f.types seen x.args [1]&&decide (x.outs=[]),Z)
  else if x.kind=12 then(w.inIf&&(zA f.types seen x.args w.yield&&decide (x.outs=[])),Z)
  else if x.kind=13 then(w.inLoop&&(zA f.types seen x.args w.next&&decide (x.outs=[])),Z)
  else if x.kind=14 then(w.inLoop&&(zA f.types seen x.args w.left&&decide (x.outs=[])),Z)
  else if x.kind=15 then(zA f.types seen x.args [f.type]&&decide (x.outs=[]),Z)
  else(false,Z):=by simp[zu,k7,k3,k4]
 have t0:=hT [];have t1:=hT [1];have t2:=hT [1,1];have t3:=hT w.yield;have t4:=hT w.next;have t5:=hT w.left;have t6:=hT [f.type];have s1:=hS [1];have s2:=hS [2];simp[chkV,ints,za,encUnt]at t0 t1 t2 t3 t4 t5 t6 s1 s2 h6;clear h7 hu hT hS hw;rw[e]
 (simp[*,F123,za,chkV,ints,zf,encUnt])<;>(repeat' (first|((first|refine sP _ ?_ ?_|refine gP _ ?_ ?_|refine sN _ ?_ ?_|refine gN _ ?_ ?_)<;>intro hc<;>(first|replace hc:=eqn hc|replace hc:=eqp hc)<;>simp[*,F123,za,chkV,ints,zf,encUnt])|((first|refine sM _ ?_ ?_|refine gM _ ?_ ?_|refine sB _ ?_ ?_|refine gB _ ?_ ?_)<;>intro hc<;>simp[*,F123,za,chkV,ints,zf,encUnt])))
 all_goals(try grind)
def zzb(l:List Node)(q:Bool×Set1):Bool×Set1:=if q.1 then(!l.isEmpty,q.2)else(false,q.2)
def endR(ty:List Int)(x:Node)(q:Bool×Set1):Bool×Set1:=if q.1&&(decide (x.outs=[])|| !zj x)then zI ty q.2 x.outs (zDa x.outs.length)else(false,q.2)
mutual
def zaa(u:Unt)(f:Flow):Node->List Int->Place->Int->Set1->Bool×Set1
 |⟨k,o,n,s,a,us,ps,ks⟩,seen,w,deep,Z=>
  if !zBa ⟨k,o,n,s,a,us,ps,ks⟩then(false,Z)
  else if k=10 then
   if zA f.types seen a [2]then endR f.types ⟨k,o,n,s,a,us,ps,ks⟩ (zO u f ks seen {w with inIf:=true,yield:=typesM f.types us} (deep+1) Z)else(false,Z)
  else if k=11 then
   if zA f.types seen a (typesM f.types ps)then
    if(zI f.types Z ps (zDa ps.length)).1 then endR f.types ⟨k,o,n,s,a,us,ps,ks⟩ (zO u f ks (seen++ps) ⟨false,true,[],typesM f.types ps,typesM f.types us⟩ (deep+1) (zI f.types Z ps (zDa ps.length)).2)
    else(false,(zI f.types Z ps (zDa ps.length)).2)
   else(false,Z)
  else zu u f seen w Z ⟨k,o,n,s,a,us,ps,ks⟩
def zO(u:Unt)(f:Flow):List (List Node)->List Int->Place->Int->Set1->Bool×Set1
 | [],seen,w,deep,Z=>(true,Z)
 |l::r,seen,w,deep,Z=>if(zzb l (goR u f l seen w deep Z)).1 then zO u f r seen w deep (zzb l (goR u f l seen w deep Z)).2 else(false,(zzb l (goR u f l seen w deep Z)).2)
def goR(u:Unt)(f:Flow):List Node->List Int->Place->Int->Set1->Bool×Set1
 | [],seen,w,deep,Z=>(true,Z)
 |x::r,seen,w,deep,Z=>if 100<deep then(false,Z)else
   if(zaa u f x seen w deep Z).1 then(if zj x=r.isEmpty then goR u f r (seen++x.outs) w deep (zaa u f x seen w deep Z).2 else(false,(zaa u f x seen w deep Z).2))else(false,(zaa u f x seen w deep Z).2)
end
def zZa(u:Unt)(f:Flow)(l:List Node)(seen:List Int)(w:Place)(deep:Int)(Z:Set1):Bool×Set1:=zzb l (goR u f l seen w deep Z)
theorem zXa(u:Unt)(f:Flow)(x:Node)(seen:List Int)(w:Place)(deep:Int)(Z:Set1):zaa u f x seen w deep Z=
  if !zBa x then(false,Z)
  else if x.kind=10 then
   if zA f.types seen x.args [2]then endR f.types x (zO u f x.kids seen {w with inIf:=true,yield:=typesM f.types x.outs} (deep+1) Z)else(false,Z)
  else if x.kind=11 then
   if zA f.types seen x.args (typesM f.types x.params)then
    if(zI f.types Z x.params (zDa x.params.length)).1 then endR f.types x (zO u f x.kids (seen++x.params) ⟨false,true,[],typesM f.types x.params,typesM f.types x.outs⟩ (deep+1) (zI f.types Z x.params (zDa x.params.length)).2)
    else(false,(zI f.types Z x.params (zDa x.params.length)).2)
   else(false,Z)
  else zu u f seen w Z x:=by
 cases x;rw[zaa]
theorem kidsR_nil(u:Unt)(f:Flow)(seen:List Int)(w:Place)(deep:Int)(Z:Set1):zO u f [] seen w deep Z=(true,Z):=by rw[zO]
theorem kidsR_cons(u:Unt)(f:Flow)(l:List Node)(r:List (List Node))(seen:List Int)(w:Place)(deep:Int)(Z:Set1):zO u f (l::r) seen w deep Z=if(zZa u f l seen w deep Z).1 then zO u f r seen w deep (zZa u f l seen w deep Z).2 else(false,(zZa u f l seen w deep Z).2):=by rw[zO];rfl
theorem len_ite{c:Prop}[Decidable c]{a b:Bool×Set1}{n:Nat}(ha:a.2.length=n)(hb:b.2.length=n):(if c then a else b).2.length=n:=by
 split<;>assumption
theorem simpleR_len(u:Unt)(f:Flow)(seen:List Int)(w:Place)(Z:Set1)(x:Node):(zu u f seen w Z x).2.length=Z.length:=by
 unfold zu;dsimp only
 repeat' (first|exact zHb _ _ _ _|exact rfl|refine len_ite ?_ ?_|split)
theorem endR_len(ty:List Int)(x:Node)(q:Bool×Set1):(endR ty x q).2.length=q.2.length:=by
 unfold endR;split<;>simp[zHb]
theorem lastE_len(l:List Node)(q:Bool×Set1):(zzb l q).2.length=q.2.length:=by
 unfold zzb;split<;>simp
mutual
theorem nodeR_len(u:Unt)(f:Flow):∀(x:Node) (seen:List Int) (p:Place) (deep:Int) (Z:Set1),(zaa u f x seen p deep Z).2.length=Z.length
 |⟨k,o,n,s,a,us,ps,ks⟩,seen,p,deep,Z=>by
  rw[zaa];split
  ·rfl
  split
  ·split
   ·rw[endR_len,kidsR_len u f ks]
   ·rfl
  split
  ·split
   ·split
    ·rw[endR_len,kidsR_len u f ks];simp[zHb]
    ·simp[zHb]
   ·rfl
  ·exact simpleR_len _ _ _ _ _ _
theorem kidsR_len(u:Unt)(f:Flow):∀(ks:List (List Node)) (seen:List Int) (p:Place) (deep:Int) (Z:Set1),(zO u f ks seen p deep Z).2.length=Z.length
 | [],seen,p,deep,Z=>rfl
 |l::r,seen,p,deep,Z=>by
  rw[zO];split
  ·rw[kidsR_len u f r,lastE_len,goR_len u f l]
  ·simp only;rw[lastE_len,goR_len u f l]
theorem goR_len(u:Unt)(f:Flow):∀(l:List Node) (seen:List Int) (p:Place) (deep:Int) (Z:Set1),(goR u f l seen p deep Z).2.length=Z.length
 | [],seen,p,deep,Z=>rfl
 |x::r,seen,p,deep,Z=>by
  rw[goR];split
  ·rfl
  split
  ·split
   ·rw[goR_len u f r,nodeR_len u f x]
   ·exact nodeR_len u f x seen p deep Z
  ·exact nodeR_len u f x seen p deep Z
end
theorem listR_len(u:Unt)(f:Flow)(l:List Node)(seen:List Int)(p:Place)(deep:Int)(Z:Set1):(zZa u f l seen p deep Z).2.length=Z.length:=by
 unfold zZa;rw[lastE_len,goR_len]
def RListOk(u:Unt)(f:Flow)(deep:Int)(seen:List Int)(l:List Node):Prop:=∀p Z,Z.length=f.types.length→
 zk E 63 [chkV u f f.types.length,zh l,ints seen,zf p,.int .i64 deep] [seO Z]=some (.ret (.bool (zZa u f l seen p deep Z).1),[seO (zZa u f l seen p deep Z).2])
set_option maxHeartbeats 1000000 in
theorem rnode_spec(u:Unt)(f:Flow)(seen:List Int)(Z:Set1)(x:Node)(p:Place)(deep:Int)(hu:UOk u)(hZ:Z.length=f.types.length)(hx:wtN x<1099511627776)(hd:0<=deep/\deep<=100)
  (hs:seen.length+wtN x<1099511627776) (hl:∀l∈x.kids,∀seen',seen'.length<=seen.length+x.params.length->RListOk u f (deep+1) seen' l):
  zk E 91 [chkV u f f.types.length,zy x,ints seen,zf p,.int .i64 deep] [seO Z]=some (.ret (.bool (zaa u f x seen p deep Z).1),[seO (zaa u f x seen p deep Z).2]):=by
 refine zb rfl rfl rfl (by simp[za,chkV,zf]) ?_;have hw:zY .i64 (deep+1)=deep+1:=zq (by omega) (by omega);have hwx:=zwa x;have h0:=rbare_spec x;have h3:=rsimple_spec u f seen p Z x hu hZ hx (by omega);have he:=zXa u f x seen p deep Z;rw[he];clear he;have hb:zBa x=true->(x.kids.length:Int)=zjc x.kind:=by
  intro h;simp only[zBa,ya,decide_eq_true_eq]at h;exact h.2
 cases hbx:zBa x
 ·simp[chkV,za,zf,hbx]at h0 h3;clear hl hb hwx
  (simp[*,F91,za,chkV,zf])<;>(repeat' (first|((first|refine sP _ ?_ ?_|refine gP _ ?_ ?_|refine sN _ ?_ ?_|refine gN _ ?_ ?_)<;>intro hc<;>(first|replace hc:=eqn hc|replace hc:=eqp hc)<;>simp[*,F91,za,chkV,zf])|((first|refine sM _ ?_ ?_|refine gM _ ?_ ?_|refine sB _ ?_ ?_|refine gB _ ?_ ?_)<;>intro hc<;>simp[*,F91,za,chkV,zf])))
 have hb:=hb hbx;have ho:decide ((x.outs.length:Int)=0)=decide (x.outs=[]):=by simp
 have lo1:(0:Int)<=(x.outs.length:Int):=by omega
 have lo2:(x.outs.length:Int)<=9223372036854775807:=by omega
 have lo3:8*(x.outs.length:Int)<=281474976710656:=by omega
 have lp1:(0:Int)<=(x.params.length:Int):=by omega
 have lp2:(x.params.length:Int)<=9223372036854775807:=by omega
 have lp3:8*(x.params.length:Int)<=281474976710656:=by omega
 have h5:=rclosed_spec x [] hx;have hof:=of_spec u f f.types.length x.outs [seO Z] (by omega);by_cases h10:x.kind=10
 ·have hk:x.kids.length=2:=by simp[zjc,h10]at hb;omega
  obtain⟨a,b,hab⟩:∃a b,x.kids=[a,b]:=by
   match hh:x.kids with
   | []=>rw[hh]at hk;cases hk
   | [_]=>rw[hh]at hk;cases hk
   | [a,b]=>exact⟨a,b,rfl⟩
   |_::_::_::_=>rw[hh]at hk;simp at hk
  generalize hp':({p with inIf:=true,yield:=typesM f.types x.outs}:Place)=p';have e1:p'.inIf=true:=by rw[<-hp']
  have e2:p'.inLoop=p.inLoop:=by rw[<-hp']
  have e3:p'.yield=typesM f.types x.outs:=by rw[<-hp']
  have e4:p'.next=p.next:=by rw[<-hp']
  have e5:p'.left=p.left:=by rw[<-hp']
  have hT:=rtypes_spec u f f.types.length x.args seen [2] [seO Z] (by omega) (by omega);have h1:=hl a (by rw[hab];simp) seen (by omega) p' Z hZ;have hZ2:(zZa u f a seen p' (deep+1) Z).2.length=f.types.length:=by rw[listR_len];exact hZ
  have h2:=hl b (by rw[hab];simp) seen (by omega) p' _ hZ2;have hZ3:(zZa u f b seen p' (deep+1) (zZa u f a seen p' (deep+1) Z).2).2.length=f.types.length:=by rw[listR_len];exact hZ2
  have hS:=rsets_spec u f _ x.outs (zDa x.outs.length) hZ3 (by omega);have ek:zO u f [a,b] seen p' (deep+1) Z=if(zZa u f a seen p' (deep+1) Z).1 then if(zZa u f b seen p' (deep+1) (zZa u f a seen p' (deep+1) Z).2).1 then(true,(zZa u f b seen p' (deep+1) (zZa u f a seen p' (deep+1) Z).2).2)else(false,(zZa u f b seen p' (deep+1) (zZa u f a seen p' (deep+1) Z).2).2)else(false,(zZa u f a seen p' (deep+1) Z).2):=by
   rw[kidsR_cons,kidsR_cons,kidsR_nil]
  simp[chkV,ints,za,zf,kids,hab,e1,e2,e3,e4,e5,hbx,zDa]at h0 h1 h2 hT hS h5 hof;generalize zZa u f a seen p' (deep+1) Z=ra at*;generalize zZa u f b seen p' (deep+1) ra.2=rb at*;simp[h10]at h0 h5;clear hl hb hwx h3;simp only[hab]
  (simp[*,F91,za,chkV,ints,zf,kids,endR,zDa])<;>(repeat' (first|((first|refine sP _ ?_ ?_|refine gP _ ?_ ?_|refine sN _ ?_ ?_|refine gN _ ?_ ?_)<;>intro hc<;>(first|replace hc:=eqn hc|replace hc:=eqp hc)<;>simp[*,F91,za,chkV,ints,zf,kids,endR,zDa])|((first|refine sM _ ?_ ?_|refine gM _ ?_ ?_|refine sB _ ?_ ?_|refine gB _ ?_ ?_)<;>intro hc<;>simp[*,F91,za,chkV,ints,zf,kids,endR,zDa])))
  all_goals(try grind)
 by_cases h11:x.kind=11
 ·have hk:x.kids.length=1:=by simp[zjc,h11]at hb;omega
  obtain⟨a,hab⟩:∃a,x.kids=[a]:=by
   match hh:x.kids with
   | []=>rw[hh]at hk;cases hk
   | [a]=>exact⟨a,rfl⟩
   |_::_::_=>rw[hh]at hk;simp at hk
  generalize hp':(⟨false,true,[],typesM f.types x.params,typesM f.types x.outs⟩:Place)=p';have e1:p'.inIf=false:=by rw[<-hp']
  have e2:p'.inLoop=true:=by rw[<-hp']
  have e3:p'.yield=[]:=by rw[<-hp']
  have e4:p'.next=typesM f.types x.params:=by rw[<-hp']
  have e5:p'.left=typesM f.types x.outs:=by rw[<-hp']
  have hop:=of_spec u f f.types.length x.params [seO Z] (by omega);have hT:=rtypes_spec u f f.types.length x.args seen (typesM f.types x.params) [seO Z] (by omega) (by omega);have hP:=rsets_spec u f Z x.params (zDa x.params.length) hZ (by omega);have hZ1:(zI f.types Z x.params (zDa x.params.length)).2.length=f.types.length:=by rw[zHb];exact hZ
  have h1:=hl a (by rw[hab];simp) (seen++x.params) (by simp) p' _ hZ1;have hZ2:(zZa u f a (seen++x.params) p' (deep+1) (zI f.types Z x.params (zDa x.params.length)).2).2.length=f.types.length:=by rw[listR_len];exact hZ1
  have hS:=rsets_spec u f _ x.outs (zDa x.outs.length) hZ2 (by omega);have ek:zO u f [a] (seen++x.params) p' (deep+1) (zI f.types Z x.params (zDa x.params.length)).2=if(zZa u f a (seen++x.params) p' (deep+1) (zI f.types Z x.params (zDa x.params.length)).2).1 then(true,(zZa u f a (seen++x.params) p' (deep+1) (zI f.types Z x.params (zDa x.params.length)).2).2)else(false,(zZa u f a (seen++x.params) p' (deep+1) (zI f.types Z x.params (zDa x.params.length)).2).2):=by
   rw[kidsR_cons,kidsR_nil]
  have r1:(seen.length)*8<=zG:=by simp only[zG];omega
  have r2:(seen.length+x.params.length)*8<=zG:=by simp only[zG];omega
  simp[chkV,ints,za,zf,kids,hab,e1,e2,e3,e4,e5,hbx,zDa]at h0 h1 hT hS h5 hof hop hP;simp[zDa]at hZ1 hZ2 ek;obtain⟨ra,hra⟩:∃ra,zZa u f a (seen++x.params) p' (deep+1) (zI f.types Z x.params (yn x.params.length 0)).2=ra:=⟨_,rfl⟩
  simp only[hra]at h1 hS ek hZ2;simp[h11]at h0 h5;clear hl hb hwx h3;simp only[hab]
  (simp[*,F91,za,chkV,ints,zf,kids,endR,zDa])<;>(repeat' (first|((first|refine sP _ ?_ ?_|refine gP _ ?_ ?_|refine sN _ ?_ ?_|refine gN _ ?_ ?_)<;>intro hc<;>(first|replace hc:=eqn hc|replace hc:=eqp hc)<;>simp[*,F91,za,chkV,ints,zf,kids,endR,zDa])|((first|refine sM _ ?_ ?_|refine gM _ ?_ ?_|refine sB _ ?_ ?_|refine gB _ ?_ ?_)<;>intro hc<;>simp[*,F91,za,chkV,ints,zf,kids,endR,zDa])))
  all_goals(try grind)
 simp[chkV,za,zf,hbx]at h0 h3;clear hl hb hwx h5 hof
 (simp[*,F91,za,chkV,zf])<;>(repeat' (first|((first|refine sP _ ?_ ?_|refine gP _ ?_ ?_|refine sN _ ?_ ?_|refine gN _ ?_ ?_)<;>intro hc<;>(first|replace hc:=eqn hc|replace hc:=eqp hc)<;>simp[*,F91,za,chkV,zf])|((first|refine sM _ ?_ ?_|refine gM _ ?_ ?_|refine sB _ ?_ ?_|refine gB _ ?_ ?_)<;>intro hc<;>simp[*,F91,za,chkV,zf])))
def sdR(u:Unt)(f:Flow)(p:Place)(deep:Int)(seen:List Int)(Z:Set1)(d:List Node):Set1×List Int:=d.foldl (fun q x=>((zaa u f x q.2 p deep q.1).2,q.2++x.outs)) (Z,seen)
theorem sdR_snoc(u:Unt)(f:Flow)(p:Place)(deep:Int)(seen:List Int)(Z:Set1)(d:List Node)(x:Node):sdR u f p deep seen Z (d++[x])=((zaa u f x (sdR u f p deep seen Z d).2 p deep (sdR u f p deep seen Z d).1).2,(sdR u f p deep seen Z d).2++x.outs):=by simp[sdR]
theorem sdR_len(u:Unt)(f:Flow)(p:Place)(deep:Int)(d:List Node):∀seen Z,(sdR u f p deep seen Z d).1.length=Z.length:=by
 induction d with
 |nil=>intro seen Z;rfl
 |cons x r ih=>intro seen Z;simp only[sdR,yR];rw[<-sdR,ih,nodeR_len]
def znc(l:List Node):List Int:=l.flatMap fun x=>x.outs
theorem wt_kid2{x:Node}{l:List Node}(h:l∈x.kids):wtL l+1<=wtK x.kids:=by
 generalize x.kids=ks at h
 induction ks with
 |nil=>cases h
 |cons y r ih=>
  simp only[wtK];rcases yG.1 h with rfl|h
  ·omega
  ·have:=ih h;omega
@[simp] theorem louts_nil:znc []=[]:=rfl
theorem louts_append(a b:List Node):znc (a++b)=znc a++znc b:=by simp[znc]
@[simp] theorem louts_snoc(a:List Node)(x:Node):znc (a++[x])=znc a++x.outs:=by simp[znc]
theorem louts_cons(a:List Node)(x:Node):znc (x::a)=x.outs++znc a:=by simp[znc]
theorem sdR_seen(u:Unt)(f:Flow)(p:Place)(deep:Int)(d:List Node):∀seen Z,(sdR u f p deep seen Z d).2=seen++znc d:=by
 induction d with
 |nil=>intro seen Z;simp[sdR]
 |cons x r ih=>intro seen Z;simp only[sdR,yR];rw[<-sdR,ih,louts_cons];simp
theorem outs_wt(l:List Node):(znc l).length<=wtL l:=by
 induction l with
 |nil=>simp
 |cons x r ih=>rw[louts_cons,yK,wtL];have:=zwa x;omega
theorem rlist_spec(u:Unt)(f:Flow)(hu:UOk u):∀(N:Nat) (l:List Node) (deep:Int) (seen:List Int),wtL l<=N->seen.length+N<1099511627776->0<=deep->deep<=101->RListOk u f deep seen l:=by
 intro N
 induction N using yfa with
 |ind N ih=>
  intro l deep seen hl hN hd0 hd1 p Z hZ;refine zb rfl rfl rfl (by simp[chkV,zf]) ?_;have hll:=zsb l;have r1:(seen.length)*8<=zG:=by simp only[zG];omega
  simp[F63,zf,zh,ints,r1];refine zn l K63_0 B63_0 (fun d=>[(12,.int .i64 d.length),(11,acc 1 ((seen++znc d).map (PV.int .i64)))]) (fun d=>[seO (sdR u f p deep seen Z d).1]) (fun d=>∃r,l=d++r/\goR u f l seen p deep Z=goR u f r (seen++znc d) p deep (sdR u f p deep seen Z d).1) (by omega) (by simp[sdR]) ?_ ?_
  ·rintro d x r s hl' hlt hget hget' hw ⟨r',hr1,hr2⟩ h1 h2 h3 h4
   have:=split_of hl' hr1;subst this;simp at h1 h2 h3;have hwx:=zZc hl'.mem;have hxe:=zwa x;have hZ1:(sdR u f p deep seen Z d).1.length=f.types.length:=by rw[sdR_len];exact hZ
   have hseen:=sdR_seen u f p deep d seen Z;rw[goR]at hr2;have hsn:=sdR_snoc u f p deep seen Z d x;rw[hseen]at hsn;have hlast:=split_last hl';have hw2:zY .i64 ((l.length:Int)-1)=(l.length:Int)-1:=zq (by omega) (by omega);have hc:=rclosed_spec x [] (by omega);have hlm:zZa u f l seen p deep Z=zzb l (goR u f l seen p deep Z):=rfl;have hfl:(znc l)=znc d++(x.outs++znc r):=by rw[hl'.eq,louts_append,louts_cons]
   have how:=outs_wt l;have hdw:wtL l=wtL d+(1+wtN x+wtL r):=by rw[hl'.eq,zwd];rfl
   have hod:=outs_wt d;have hlen:(znc d).length+x.outs.length<=wtL l:=by omega
   clear hfl;by_cases hdeep:100<deep
   ·have e:zZa u f l seen p deep Z=(false,(sdR u f p deep seen Z d).1):=by rw[hlm,hr2,if_pos hdeep];rfl
    clear ih hr1 hlm
    (simp[*,za,zh])<;>(repeat' (first|((first|refine sP _ ?_ ?_|refine gP _ ?_ ?_|refine sN _ ?_ ?_|refine gN _ ?_ ?_)<;>intro hc<;>(first|replace hc:=eqn hc|replace hc:=eqp hc)<;>simp[*,za,zh])|((first|refine sM _ ?_ ?_|refine gM _ ?_ ?_|refine sB _ ?_ ?_|refine gB _ ?_ ?_)<;>intro hc<;>simp[*,za,zh])))
   have hn:=rnode_spec u f (seen++znc d) (sdR u f p deep seen Z d).1 x p deep hu hZ1 (by omega) (by omega) (by simp only[yK];omega) (fun k hk seen' hs'=>by
    have:=wt_kid2 hk;refine ih (wtL k) (by omega) k (deep+1) seen' (yh _) ?_ (by omega) (by omega);simp only[yK]at hs';omega)
   rw[if_neg hdeep]at hr2;generalize hq:zaa u f x (seen++znc d) p deep (sdR u f p deep seen Z d).1=q at*;have r2:(seen.length+(znc d).length+x.outs.length)*8<=zG:=by simp only[zG];omega
   simp[za,zf,ints]at hn hc;cases hq1:q.1
   ·rw[hq1]at hr2 hn;have e:zZa u f l seen p deep Z=(false,q.2):=by rw[hlm,hr2];rfl
    clear ih hr1 hlm
    (simp[*,za,zh,ints])<;>(repeat' (first|((first|refine sP _ ?_ ?_|refine gP _ ?_ ?_|refine sN _ ?_ ?_|refine gN _ ?_ ?_)<;>intro hc<;>(first|replace hc:=eqn hc|replace hc:=eqp hc)<;>simp[*,za,zh,ints])|((first|refine sM _ ?_ ?_|refine gM _ ?_ ?_|refine sB _ ?_ ?_|refine gB _ ?_ ?_)<;>intro hc<;>simp[*,za,zh,ints])))
   rw[hq1]at hr2 hn;simp at hr2;by_cases hcl:zj x=r.isEmpty
   ·rw[if_pos hcl]at hr2;clear ih hc hr1 hlm;have hc:=rclosed_spec x [] (by omega);simp[za,ints]at hc;rw[hcl]at hc;have e:∃r',l=d++x::r'/\goR u f l seen p deep Z=goR u f r' (seen++(znc d++x.outs)) p deep q.2:=⟨r,by rw[hl'.eq],by rw[hr2]⟩
    (simp[*,za,zh,ints])<;>(repeat' (first|((first|refine sP _ ?_ ?_|refine gP _ ?_ ?_|refine sN _ ?_ ?_|refine gN _ ?_ ?_)<;>intro hc<;>(first|replace hc:=eqn hc|replace hc:=eqp hc)<;>simp[*,za,zh,ints])|((first|refine sM _ ?_ ?_|refine gM _ ?_ ?_|refine sB _ ?_ ?_|refine gB _ ?_ ?_)<;>intro hc<;>simp[*,za,zh,ints])))
    all_goals(try grind)
   ·rw[if_neg hcl]at hr2;have e:zZa u f l seen p deep Z=(false,q.2):=by rw[hlm,hr2];rfl
    clear ih hr1 hlm
    (simp[*,za,zh,ints])<;>(repeat' (first|((first|refine sP _ ?_ ?_|refine gP _ ?_ ?_|refine sN _ ?_ ?_|refine gN _ ?_ ?_)<;>intro hc<;>(first|replace hc:=eqn hc|replace hc:=eqp hc)<;>simp[*,za,zh,ints])|((first|refine sM _ ?_ ?_|refine gM _ ?_ ?_|refine sB _ ?_ ?_|refine gB _ ?_ ?_)<;>intro hc<;>simp[*,za,zh,ints])))
    all_goals exact absurd (of_eq_true (by assumption)) hcl
  ·rintro s ⟨r',hr1,hr2⟩ h1 h2 h3 h4
   have:r'=[]:=by
    have:=congrArg List.length hr1;simp at this;exact this
   subst this;simp at h1 h2 h3;rw[goR]at hr2;have hlm:zZa u f l seen p deep Z=(!l.isEmpty,(sdR u f p deep seen Z l).1):=by
    show zzb l (goR u f l seen p deep Z)=_
    rw[hr2];rfl
   have hz:decide (0<l.length)= !l.isEmpty:=by cases l<;>simp
   clear ih hr1
   (simp[*,zf,zh])<;>(repeat' (first|((first|refine sP _ ?_ ?_|refine gP _ ?_ ?_|refine sN _ ?_ ?_|refine gN _ ?_ ?_)<;>intro hc<;>(first|replace hc:=eqn hc|replace hc:=eqp hc)<;>simp[*,zf,zh])|((first|refine sM _ ?_ ?_|refine gM _ ?_ ?_|refine sB _ ?_ ?_|refine gB _ ?_ ?_)<;>intro hc<;>simp[*,zf,zh])))
def zkc(f:Flow)(k:Nat):Set1:=yn k true++yn (f.types.length-k) false
def zpb(k:Nat):List Int:=(yI k).map fun(i:Nat)=>(i:Int)
def zkb(u:Unt)(f:Flow):Bool:=
 !(decide (f.params<0)||decide (8<f.params)||decide ((f.types.length:Int)<f.params)||decide (20000<f.types.length)||f.types.any (fun t=> !tyOk t))&&
  (zZa u f f.body (zpb f.params.toNat) zKa 1 (zkc f f.params.toNat)).1
theorem zNb(f:Flow)(k:Nat)(h:k<=f.types.length):(zkc f k).length=f.types.length:=by simp[zkc];omega
theorem initR_set(f:Flow)(k:Nat)(h:k<f.types.length):(zkc f k).set k true=zkc f (k+1):=by
 unfold zkc;have:f.types.length-k=(f.types.length-(k+1))+1:=by omega
 rw[this,List.replicate_succ,yza _ _ (by simp)];simp[List.replicate_succ']
theorem firsts_succ(k:Nat):zpb (k+1)=zpb k++[(k:Int)]:=by simp[zpb,yRa]
theorem firsts_len(k:Nat):(zpb k).length=k:=by simp[zpb]
theorem rflow_spec(u:Unt)(f:Flow)(hu:UOk u)(ht:f.types.length<1099511627776)(hb:wtL f.body<1099511000000):
  zk E 43 [encUnt u,zd f] []=some (.ret (.bool (zkb u f)),[]):=by
 refine zb rfl rfl rfl (by simp[encUnt,zd]) ?_;have ho:decide ((20000:Int)<f.types.length)=decide (20000<f.types.length):=by simp;omega
 have l1:(0:Int)<=(f.types.length:Int):=by omega
 have l2:(f.types.length:Int)<=9223372036854775807:=by omega
 have l3:8*(f.types.length:Int)<=281474976710656:=by omega
 have l4:(f.types.length:Int)<=281474976710656:=by omega
 by_cases c1:f.params<0
 ·have e:zkb u f=false:=by simp[zkb,c1]
  (simp[*,F43,encUnt,zd,ints])<;>(repeat' (first|((first|refine sP _ ?_ ?_|refine gP _ ?_ ?_|refine sN _ ?_ ?_|refine gN _ ?_ ?_)<;>intro hc<;>(first|replace hc:=eqn hc|replace hc:=eqp hc)<;>simp[*,F43,encUnt,zd,ints])|((first|refine sM _ ?_ ?_|refine gM _ ?_ ?_|refine sB _ ?_ ?_|refine gB _ ?_ ?_)<;>intro hc<;>simp[*,F43,encUnt,zd,ints])))
 by_cases c2:8<f.params
 ·have e:zkb u f=false:=by simp[zkb,c2]
  (simp[*,F43,encUnt,zd,ints])<;>(repeat' (first|((first|refine sP _ ?_ ?_|refine gP _ ?_ ?_|refine sN _ ?_ ?_|refine gN _ ?_ ?_)<;>intro hc<;>(first|replace hc:=eqn hc|replace hc:=eqp hc)<;>simp[*,F43,encUnt,zd,ints])|((first|refine sM _ ?_ ?_|refine gM _ ?_ ?_|refine sB _ ?_ ?_|refine gB _ ?_ ?_)<;>intro hc<;>simp[*,F43,encUnt,zd,ints])))
 by_cases c3:(f.types.length:Int)<f.params
 ·have e:zkb u f=false:=by simp[zkb,c3]
  (simp[*,F43,encUnt,zd,ints])<;>(repeat' (first|((first|refine sP _ ?_ ?_|refine gP _ ?_ ?_|refine sN _ ?_ ?_|refine gN _ ?_ ?_)<;>intro hc<;>(first|replace hc:=eqn hc|replace hc:=eqp hc)<;>simp[*,F43,encUnt,zd,ints])|((first|refine sM _ ?_ ?_|refine gM _ ?_ ?_|refine sB _ ?_ ?_|refine gB _ ?_ ?_)<;>intro hc<;>simp[*,F43,encUnt,zd,ints])))
 by_cases c4:20000<f.types.length
 ·have e:zkb u f=false:=by simp[zkb,c4]
  have c4':(20000:Int)<f.types.length:=by omega
  (simp[*,F43,encUnt,zd,ints])<;>(repeat' (first|((first|refine sP _ ?_ ?_|refine gP _ ?_ ?_|refine sN _ ?_ ?_|refine gN _ ?_ ?_)<;>intro hc<;>(first|replace hc:=eqn hc|replace hc:=eqp hc)<;>simp[*,F43,encUnt,zd,ints])|((first|refine sM _ ?_ ?_|refine gM _ ?_ ?_|refine sB _ ?_ ?_|refine gB _ ?_ ?_)<;>intro hc<;>simp[*,F43,encUnt,zd,ints])))
 have c4':¬(20000:Int)<f.types.length:=by omega
 have e:zkb u f=(!(f.types.any (fun t=> !tyOk t))&&(zZa u f f.body (zpb f.params.toNat) zKa 1 (zkc f f.params.toNat)).1):=by simp[zkb,c1,c2,c3,c4]
 have h2:=rlist_spec u f hu (wtL f.body) f.body 1 (zpb f.params.toNat) (yh _) (by rw[firsts_len];omega) (by omega) (by omega) zKa (zkc f f.params.toNat) (zNb f _ (by omega));simp[F43,encUnt,zd,ints,c1,c2,c3,c4'];refine zn f.types K43_0 B43_0 (fun d=>[(5,.int .i64 d.length)]) (fun _=>[]) (fun d=>d.all tyOk=true) (by omega) (by simp) ?_ ?_
 ·intros d x r s hl' hlt hget hget' hw hp q1 q2 q3 q4;simp at q1 q2 q3;have hf:tyOk x=false->zkb u f=false:=fun h=>by
   rw[e];have:f.types.any (fun t=> !tyOk t)=true:=by rw[hl'.eq];simp[h]
   rw[this];rfl
  have ht:tyOk x=(decide (x=1)||decide (x=2)):=rfl;have hpp:∀y∈d,tyOk y=true:=by simpa using hp
  clear h2 e;cases hx:tyOk x
  ·have hf:=hf hx;rw[hx]at ht;replace ht:=ht.symm
   (simp[*,ints])<;>(repeat' (first|((first|refine sP _ ?_ ?_|refine gP _ ?_ ?_|refine sN _ ?_ ?_|refine gN _ ?_ ?_)<;>intro hc<;>(first|replace hc:=eqn hc|replace hc:=eqp hc)<;>simp[*,ints])|((first|refine sM _ ?_ ?_|refine gM _ ?_ ?_|refine sB _ ?_ ?_|refine gB _ ?_ ?_)<;>intro hc<;>simp[*,ints])))
   all_goals(try grind)
  ·rw[hx]at ht;replace ht:=ht.symm;clear hf
   (simp[*,ints])<;>(repeat' (first|((first|refine sP _ ?_ ?_|refine gP _ ?_ ?_|refine sN _ ?_ ?_|refine gN _ ?_ ?_)<;>intro hc<;>(first|replace hc:=eqn hc|replace hc:=eqp hc)<;>simp[*,ints])|((first|refine sM _ ?_ ?_|refine gM _ ?_ ?_|refine sB _ ?_ ?_|refine gB _ ?_ ?_)<;>intro hc<;>simp[*,ints])))
   all_goals(try grind)
 intros s hpt q1 q2 q3 q4;simp at q1 q2 q3;have hany:f.types.any (fun t=> !tyOk t)=false:=by
  have:∀t∈f.types,tyOk t=true:=by simpa using hpt
  simpa using this
 rw[hany]at e;clear hpt hany;simp[*,ints,zd];refine zn (yI f.params.toNat) K43_1 B43_1 (fun d=>[(8,.int .i64 d.length),(7,acc 1 ((zpb d.length).map (PV.int .i64)))]) (fun d=>[seO (zkc f d.length)]) (fun _=>True) (by simp;omega) (by simp[zkc,seO,zpb]) ?_ ?_
 ·intros d x r s hl' hlt hget hget' hw _ q1' q2' q3' q4';simp at hlt;have e1:(d.length:Int)<f.params:=by omega
  have e2:d.length<f.types.length:=by omega
  have e3:=initR_set f d.length e2;have e4:=zNb f d.length (by omega);have e5:(zkc f (d.length+1)).map PV.bool=((zkc f d.length).map PV.bool).set d.length (.bool true):=by rw[<-e3,yoa]
  have e6:=firsts_succ d.length;have e7:=firsts_len d.length;have r2:(d.length+1)*8<=zG:=by simp only[zG];omega
  simp at q1' q2' q3' q4';clear h2 hget hget' e3 q1 q2 q3 q4 e
  (simp[*,zd,ints,zC,zra,seO])<;>(repeat' (first|((first|refine sP _ ?_ ?_|refine gP _ ?_ ?_|refine sN _ ?_ ?_|refine gN _ ?_ ?_)<;>intro hc<;>(first|replace hc:=eqn hc|replace hc:=eqp hc)<;>simp[*,zd,ints,zC,zra,seO])|((first|refine sM _ ?_ ?_|refine gM _ ?_ ?_|refine sB _ ?_ ?_|refine gB _ ?_ ?_)<;>intro hc<;>simp[*,zd,ints,zC,zra,seO])))
 ·intros s _ q1' q2' q3' q4';have e0:(f.params.toNat:Int)=f.params:=by omega
  simp at q1' q2' q3' q4';clear q1 q2 q3 q4;simp[chkV,ints,zf,zKa,seO]at h2
  (simp[*,zd,ints,seO,zKa])<;>(repeat' (first|((first|refine sP _ ?_ ?_|refine gP _ ?_ ?_|refine sN _ ?_ ?_|refine gN _ ?_ ?_)<;>intro hc<;>(first|replace hc:=eqn hc|replace hc:=eqp hc)<;>simp[*,zd,ints,seO,zKa])|((first|refine sM _ ?_ ?_|refine gM _ ?_ ?_|refine sB _ ?_ ?_|refine gB _ ?_ ?_)<;>intro hc<;>simp[*,zd,ints,seO,zKa])))
  all_goals(try grind)
def arrGood(u:Unt)(p:Arr×Nat):Bool:=arrOk p.1&&(decide (zje u.arrays p.1.name=p.2)&&decide (zU u.flows p.1.name<0))
def zee(u:Unt)(p:Flow×Nat):Bool:=ztc p.1&&decide (zU u.flows p.1.name=p.2)
def rheadM(u:Unt):Bool:=u.arrays.zipIdx.all (arrGood u)&&(u.flows.zipIdx.all (zee u)&&zld u)
theorem split_idx{α:Type}{l d r:List α}{x:α}(h:Split l d x r):l.zipIdx=d.zipIdx++(x,d.length)::r.zipIdx (d.length+1):=by
 rw[h.eq,List.zipIdx_append,List.zipIdx_cons];simp
theorem rglobals_spec(u:Unt)(hu1:u.arrays.length<1099511627776)(hu2:u.flows.length<1099511627776):zk E 42 [encUnt u] []=some (.ret (.bool (rheadM u)),[]):=by
 refine zb rfl rfl rfl (by simp[encUnt]) ?_;simp[F42,encUnt,arrs];refine zn u.arrays K42_0 B42_0 (fun d=>[(3,.int .i64 d.length)]) (fun _=>[]) (fun d=>d.zipIdx.all (arrGood u)=true) (by omega) (by simp) ?_ ?_
 ·intros d x r s hl' hlt hget hget' hw hp h1 h2 h3 h4;simp at h1 h2 h3;have hn:=rname_spec x.name [];have ha:=rarray_spec u x.name [] hu1;have hpl:=zXb u x.name [] hu2;have hall:arrGood u (x,d.length)=false->rheadM u=false:=fun h=>by simp only[rheadM,split_idx hl',List.all_append,List.all_cons,h];simp
  have hg:arrGood u (x,d.length)=((nameM x.name&&decide (1<=x.size)&&decide (x.size<=1000))&&(decide (zje u.arrays x.name=d.length)&&decide (zU u.flows x.name<0))):=rfl;have hz:(d++[x]).zipIdx=d.zipIdx++[(x,d.length)]:=by rw[List.zipIdx_append];simp
  simp[encUnt,flows,arrs]at ha hpl;cases hgx:arrGood u (x,d.length)
  ·have hall:=hall hgx;rw[hgx]at hg;replace hg:=hg.symm;clear hgx hz hp
   (simp[*,zN,arrs,flows])<;>(repeat' (first|((first|refine sP _ ?_ ?_|refine gP _ ?_ ?_|refine sN _ ?_ ?_|refine gN _ ?_ ?_)<;>intro hc<;>(first|replace hc:=eqn hc|replace hc:=eqp hc)<;>simp[*,zN,arrs,flows])|((first|refine sM _ ?_ ?_|refine gM _ ?_ ?_|refine sB _ ?_ ?_|refine gB _ ?_ ?_)<;>intro hc<;>simp[*,zN,arrs,flows])))
   all_goals(try grind)
  ·clear hall;rw[hgx]at hg;replace hg:=hg.symm;simp only[ya,decide_eq_true_eq]at hg;obtain⟨⟨⟨g1,g2⟩,g3⟩,g4,g5⟩:=hg;have g2':¬x.size<1:=by omega
   have g3':¬1000<x.size:=by omega
   have g5':¬0<=zU u.flows x.name:=by omega
   have hp':(d++[x]).zipIdx.all (arrGood u)=true:=by rw[hz,List.all_append,hp];simp[hgx]
   clear hp hz g2 g3
   (simp[*,zN,arrs,flows])<;>(repeat' (first|((first|refine sP _ ?_ ?_|refine gP _ ?_ ?_|refine sN _ ?_ ?_|refine gN _ ?_ ?_)<;>intro hc<;>(first|replace hc:=eqn hc|replace hc:=eqp hc)<;>simp[*,zN,arrs,flows])|((first|refine sM _ ?_ ?_|refine gM _ ?_ ?_|refine sB _ ?_ ?_|refine gB _ ?_ ?_)<;>intro hc<;>simp[*,zN,arrs,flows])))
   all_goals(try grind)
 intros s0 hpa h1 h2 h3 h4;simp only[List.forall_mem_cons]at h1 h2;simp at h1 h2 h3;simp[*,arrs,flows];refine zn u.flows K42_1 B42_1 (fun d=>[(5,.int .i64 d.length)]) (fun _=>[]) (fun d=>d.zipIdx.all (zee u)=true) (by omega) (by simp) ?_ ?_
 ·intros d x r s hl' hlt hget hget' hw hp h1' h2' h3' h4';simp at h1' h2' h3';clear h1 h2 h3 h4;have hn:=rname_spec x.name [];have hpl:=zXb u x.name [] hu2;have hall:zee u (x,d.length)=false->rheadM u=false:=fun h=>by simp only[rheadM,split_idx hl',List.all_append,List.all_cons,h];simp
  have hg:zee u (x,d.length)=((nameM x.name&&(decide (x.type=1)||decide (x.type=2))&&decide (0<=x.params)&&decide (x.params<=x.types.length))&&decide (zU u.flows x.name=d.length)):=rfl;have hz:(d++[x]).zipIdx=d.zipIdx++[(x,d.length)]:=by rw[List.zipIdx_append];simp
  simp[encUnt,flows,arrs]at hpl;cases hgx:zee u (x,d.length)
  ·have hall:=hall hgx;rw[hgx]at hg;replace hg:=hg.symm;clear hgx hz hp hpa
   (simp[*,zd,arrs,flows,ints])<;>(repeat' (first|((first|refine sP _ ?_ ?_|refine gP _ ?_ ?_|refine sN _ ?_ ?_|refine gN _ ?_ ?_)<;>intro hc<;>(first|replace hc:=eqn hc|replace hc:=eqp hc)<;>simp[*,zd,arrs,flows,ints])|((first|refine sM _ ?_ ?_|refine gM _ ?_ ?_|refine sB _ ?_ ?_|refine gB _ ?_ ?_)<;>intro hc<;>simp[*,zd,arrs,flows,ints])))
   all_goals(try grind)
  ·clear hall;rw[hgx]at hg;replace hg:=hg.symm;simp only[ya,decide_eq_true_eq]at hg;obtain⟨⟨⟨⟨g1,g2⟩,g3⟩,g3b⟩,g4⟩:=hg;have g3':¬x.params<0:=by omega
   have g3b':¬(x.types.length:Int)<x.params:=by omega
   have hp':(d++[x]).zipIdx.all (zee u)=true:=by rw[hz,List.all_append,hp];simp[hgx]
   clear hp hz g3 g3b hpa
   (simp[*,zd,arrs,flows,ints])<;>(repeat' (first|((first|refine sP _ ?_ ?_|refine gP _ ?_ ?_|refine sN _ ?_ ?_|refine gN _ ?_ ?_)<;>intro hc<;>(first|replace hc:=eqn hc|replace hc:=eqp hc)<;>simp[*,zd,arrs,flows,ints])|((first|refine sM _ ?_ ?_|refine gM _ ?_ ?_|refine sB _ ?_ ?_|refine gB _ ?_ ?_)<;>intro hc<;>simp[*,zd,arrs,flows,ints])))
   all_goals(try grind)
 ·intros s hp h1' h2' h3' h4';simp at h1' h2' h3';clear h1 h2 h3 h4;have hpl:=zXb u zF [] hu2;simp[encUnt,zF,arrs,flows]at hpl;have hh:rheadM u=zld u:=by simp only[rheadM,hpa,hp];simp
  by_cases hp0:0<=zU u.flows zF
  ·obtain⟨g,q1,q2,q3,q4⟩:=place_get hp0;have q5:u.flows[(zU u.flows zF).toNat]=g:=by simpa[q4]using q1
   have hm:zld u=(decide (g.type=1)&&decide (g.params=0)):=by simp[zld,q1,hp0]
   simp only[zF]at hp0 q1 q4 q5;clear hpa hp
   (simp[*,flows,zd,arrs])<;>(repeat' (first|((first|refine sP _ ?_ ?_|refine gP _ ?_ ?_|refine sN _ ?_ ?_|refine gN _ ?_ ?_)<;>intro hc<;>(first|replace hc:=eqn hc|replace hc:=eqp hc)<;>simp[*,flows,zd,arrs])|((first|refine sM _ ?_ ?_|refine gM _ ?_ ?_|refine sB _ ?_ ?_|refine gB _ ?_ ?_)<;>intro hc<;>simp[*,flows,zd,arrs])))
  ·have hm:zld u=false:=by
    unfold zld;split<;>simp;omega
   simp only[zF]at hp0;clear hpa hp
   (simp[*,flows,zd,arrs])<;>(repeat' (first|((first|refine sP _ ?_ ?_|refine gP _ ?_ ?_|refine sN _ ?_ ?_|refine gN _ ?_ ?_)<;>intro hc<;>(first|replace hc:=eqn hc|replace hc:=eqp hc)<;>simp[*,flows,zd,arrs])|((first|refine sM _ ?_ ?_|refine gM _ ?_ ?_|refine sB _ ?_ ?_|refine gB _ ?_ ?_)<;>intro hc<;>simp[*,flows,zd,arrs])))
theorem idx_first{α:Type}{p:α->Bool}{l:List α}{k:Nat}(h:idx p l=k):∀j (hj:j<l.length),j<k->p l[j]=false:=by
 unfold idx at h;cases hf:l.findIdx? p with
 |none=>rw[hf]at h;simp at h
 |some i=>
  rw[hf]at h;have h:i=k:=by simp at h;omega
  subst h;rw[List.findIdx?_eq_some_iff_getElem]at hf;obtain⟨hi,h1,h2⟩:=hf;intro j hj hji;have:=h2 j hji;simpa using this
theorem idx_nodup{α:Type}(g:α->List UInt8)(l:List α):(∀p∈l.zipIdx,idx (fun y=>decide (g y=g p.1)) l=p.2)<->(l.map g).Nodup:=by
 rw[List.nodup_iff_pairwise_ne,List.pairwise_map,List.pairwise_iff_getElem];constructor
 ·intro h i j hi hj hij e;have h1:=h (l[j],j) (by rw[ysa];simp[hj]);have h2:=idx_first h1 i hi hij;simp at h2;exact h2 e
 ·rintro h ⟨x,i⟩ hp
  rw[ysa]at hp;simp only at hp;obtain⟨hi,rfl⟩:=yb.1 hp;have hs:Split l (l.take i) l[i] (l.drop (i+1)):=by
   show l=_
   simp
  have:=ztd (p:=fun y=>decide (g y=g l[i])) hs (by
   intro y hy;obtain⟨j,hj,rfl⟩:=List.getElem_of_mem hy;simp at hj;rw[List.getElem_take];have:=h j i (by omega) hi (by omega);simpa using this) (by simp)
  simp only;rw[this];simp;omega
theorem place_neg(l:List Flow)(s:List UInt8):zU l s<0<->s ∉ l.map Flow.name:=by
 have h:=idx_ge (fun f=>decide (f.name=s)) l;unfold zU;constructor
 ·intro h0 hm;obtain⟨f,hf,rfl⟩:=yja.1 hm;have:l.any (fun g=>decide (g.name=f.name))=true:=by rw[List.any_eq_true];exact⟨f,hf,by simp⟩
  rw[this]at h;simp at h;omega
 ·intro hm;have:l.any (fun g=>decide (g.name=s))=false:=by
   rw[List.any_eq_false];intro f hf;simp;rintro rfl;exact hm (yja.2 ⟨f,hf,rfl⟩)
  rw[this]at h;simp at h;omega
theorem zip_all{α:Type}{l:List α}{p:α->Bool}:(∀x∈l,p x=true)<->∀q∈l.zipIdx,p q.1=true:=by
 constructor
 ·rintro h ⟨x,i⟩ hq
  rw[ysa]at hq;exact h x (yu hq)
 ·intro h x hx;obtain⟨i,hi,rfl⟩:=List.getElem_of_mem hx;exact h (l[i],i) (by rw[ysa];simp[hi])
theorem rhead_eq(u:Unt):rheadM u=zqc u:=by
 unfold rheadM zqc;rw[Bool.eq_iff_iff];simp only[ya,yi,decide_eq_true_eq,arrGood,zee,zFc,List.nodup_append];have h1:=idx_nodup Arr.name u.arrays;have h2:=idx_nodup Flow.name u.flows;have h3:(∀p∈u.arrays.zipIdx,zU u.flows p.1.name<0)<->∀a∈u.arrays.map Arr.name,∀b∈u.flows.map Flow.name,a≠b:=by
  constructor
  ·intro h a ha b hb e;obtain⟨x,hx,rfl⟩:=yja.1 ha;have:=(zip_all (p:=fun x=>decide (zU u.flows x.name<0))).2 (fun q hq=>by simpa using h q hq) x hx;simp[place_neg]at this;subst e;obtain⟨y,hy,e⟩:=yja.1 hb;exact this y hy e
  ·rintro h ⟨x,i⟩ hq
   rw[ysa]at hq;rw[place_neg];intro hm;exact h x.name (yja.2 ⟨x,yu hq,rfl⟩) x.name hm rfl
 have h4:=zip_all (l:=u.arrays) (p:=arrOk);have h5:=zip_all (l:=u.flows) (p:=ztc);have h6:∀p∈u.arrays.zipIdx,(zje u.arrays p.1.name=p.2<->idx (fun y=>decide (y.name=p.1.name)) u.arrays=p.2):=fun p _=>Iff.rfl
 have h7:∀p∈u.flows.zipIdx,(zU u.flows p.1.name=p.2<->idx (fun y=>decide (y.name=p.1.name)) u.flows=p.2):=fun p _=>Iff.rfl
 constructor
 ·rintro⟨a,b,c⟩
  exact⟨⟨⟨h4.2 fun q hq=>(a q hq).1,h5.2 fun q hq=>(b q hq).1⟩,h1.1 fun q hq=>(a q hq).2.1,h2.1 fun q hq=>(b q hq).2,h3.1 fun q hq=>(a q hq).2.2⟩,c⟩
 ·rintro⟨⟨⟨a,b⟩,c,d,e⟩,m⟩
  exact⟨fun q hq=>⟨h4.1 a q hq,h1.2 c q hq,h3.2 e q hq⟩,fun q hq=>⟨h5.1 b q hq,h2.2 d q hq⟩,m⟩
def zmc(u:Unt):Int×Int:=if rheadM u then(match u.flows.findIdx? (fun f=> !zkb u f)with
 |some i=>(80,(i:Int))
 |none=>(0,0))else(1,0)
theorem rcheck_spec(u:Unt)(hu:USz u)(hb:∀f∈u.flows,wtL f.body<1099511000000):zk E 25 [encUnt u] []=some (.ret (.tup [.int .i64 (zmc u).1,.int .i64 (zmc u).2]),[]):=by
 refine zb rfl rfl rfl (by simp[encUnt]) ?_;have h1:=rglobals_spec u hu.arrs hu.flows;cases hh:rheadM u
 ·simp[encUnt,hh,flows]at h1;have hc:zmc u=(1,0):=by simp[zmc,hh]
  (simp[*,F25,encUnt,flows])<;>(repeat' (first|((first|refine sP _ ?_ ?_|refine gP _ ?_ ?_|refine sN _ ?_ ?_|refine gN _ ?_ ?_)<;>intro hc<;>(first|replace hc:=eqn hc|replace hc:=eqp hc)<;>simp[*,F25,encUnt,flows])|((first|refine sM _ ?_ ?_|refine gM _ ?_ ?_|refine sB _ ?_ ?_|refine gB _ ?_ ?_)<;>intro hc<;>simp[*,F25,encUnt,flows])))
 ·have ho:=hu.ok (by rw[<-rhead_eq];exact hh);simp[encUnt,hh,flows]at h1;have hf:∀f∈u.flows,zk E 43 [encUnt u,zd f] []=some (.ret (.bool (zkb u f)),[]):=fun f hf=>rflow_spec u f ho (hu.types f hf) (hb f hf)
  have hfl:=hu.flows;simp[F25,encUnt,flows,h1];refine zn u.flows K25_0 B25_0 (fun d=>[(4,.int .i64 d.length)]) (fun d=>[]) (fun d=>∀f∈d,zkb u f=true) (by omega) (by simp) ?_ ?_
  ·intros d x r s hl' hlt hget hget' hw hp q1 q2 q3 q4;simp at q1 q2 q3;have hfx:=hf x hl'.mem;simp[encUnt,flows,zd]at hfx;clear hf hu ho h1 hb;cases hx:zkb u x
   ·have hi:=ztd (p:=fun f=> !zkb u f) hl' (by simpa using hp) (by simp[hx]);have hcx:zmc u=(80,(d.length:Int)):=by
     unfold idx at hi;simp only[zmc,hh,if_true];cases hfi:u.flows.findIdx? (fun f=> !zkb u f)with
     |none=>rw[hfi]at hi;simp at hi
     |some i=>rw[hfi]at hi;simp at hi;simp[hi]
    (simp[*,zd,flows])<;>(repeat' (first|((first|refine sP _ ?_ ?_|refine gP _ ?_ ?_|refine sN _ ?_ ?_|refine gN _ ?_ ?_)<;>intro hc<;>(first|replace hc:=eqn hc|replace hc:=eqp hc)<;>simp[*,zd,flows])|((first|refine sM _ ?_ ?_|refine gM _ ?_ ?_|refine sB _ ?_ ?_|refine gB _ ?_ ?_)<;>intro hc<;>simp[*,zd,flows])))
   ·(simp[*,zd,flows])<;>(repeat' (first|((first|refine sP _ ?_ ?_|refine gP _ ?_ ?_|refine sN _ ?_ ?_|refine gN _ ?_ ?_)<;>intro hc<;>(first|replace hc:=eqn hc|replace hc:=eqp hc)<;>simp[*,zd,flows])|((first|refine sM _ ?_ ?_|refine gM _ ?_ ?_|refine sB _ ?_ ?_|refine gB _ ?_ ?_)<;>intro hc<;>simp[*,zd,flows])))
    all_goals(try grind)
  ·intros s hp q1 q2 q3 q4;simp at q1 q2 q3;have hcx:zmc u=(0,0):=by
    have:u.flows.findIdx? (fun f=> !zkb u f)=none:=by rw[yda];simpa using hp
    simp[zmc,hh,this]
   clear hf hu ho hh h1 hp hb
   (simp[*,flows])<;>(repeat' (first|((first|refine sP _ ?_ ?_|refine gP _ ?_ ?_|refine sN _ ?_ ?_|refine gN _ ?_ ?_)<;>intro hc<;>(first|replace hc:=eqn hc|replace hc:=eqp hc)<;>simp[*,flows])|((first|refine sM _ ?_ ?_|refine gM _ ?_ ?_|refine sB _ ?_ ?_|refine gB _ ?_ ?_)<;>intro hc<;>simp[*,flows])))
structure Rel(ty:List Int)(S:St1)(seen:List Int)(Z:Set1):Prop where
 s:S.length=ty.length
 z:Z.length=ty.length
 set:∀v,0<=v->v<(ty.length:Int)->(atB Z v=true<->at0 S v≠0)
 seen:∀v,0<=v->v<(ty.length:Int)->(v∈seen<->at0 S v=1)
theorem at0_set{S:St1}{v w c:Int}(hv:0<=v)(hv':v<S.length)(hw:0<=w)(hw':w<S.length):at0 (S.set v.toNat c) w=if w=v then c else at0 S w:=by
 unfold at0;rw[List.getElem?_set];by_cases h:w=v
 ·subst h;have:w.toNat<S.length:=by omega
  simp[this]
 ·have:v.toNat≠w.toNat:=by omega
  simp[h,this]
theorem atB_set{S:Set1}{v w:Int}{c:Bool}(hv:0<=v)(hv':v<S.length)(hw:0<=w)(hw':w<S.length):atB (S.set v.toNat c) w=if w=v then c else atB S w:=by
 unfold atB;rw[List.getElem?_set];by_cases h:w=v
 ·subst h;have:w.toNat<S.length:=by omega
  simp[this]
 ·have:v.toNat≠w.toNat:=by omega
  simp[h,this]
theorem eqGo_use{ty:List Int}{S:St1}:∀l,(eqGo (useG ty) S l).1=l.all fun p=>(useG ty S p.1 p.2).1
 | []=>rfl
 |p::r=>by
  simp only[eqGo,List.all_cons];split
  ·rename_i h;rw[h,Bool.true_and];exact eqGo_use r
  ·rename_i h;simp only[Bool.not_eq_true]at h;rw[h];rfl
theorem use_rel{ty:List Int}{S:St1}{seen:List Int}{Z:Set1}(h:Rel ty S seen Z)(l ts:List Int):zNa ty S l ts=zA ty seen l ts:=by
 have key:∀v t,(useG ty S v t).1=useR ty seen v t:=by
  intro v t;simp only[useG,useR,valM];by_cases h0:0<=v
  ·by_cases h1:v<(ty.length:Int)
   ·have:=h.seen v h0 h1;have e:seen.contains v=decide (at0 S v=1):=by rw[Bool.eq_iff_iff];simpa using this
    rw[e];simp[h0,h1];grind
   ·simp[h1]
  ·simp[h0]
 unfold zNa eqM zA;by_cases hl:l.length=ts.length
 ·rw[if_pos hl,eqGo_use];simp only[hl,decide_true,Bool.true_and];congr 1;funext p;exact key _ _
 ·rw[if_neg hl];simp[hl]
theorem setGo_rel{ty:List Int}:∀(zs:List (Int×Int)) (S:St1) (seen:List Int) (Z:Set1),Rel ty S seen Z→
  (eqGo (setG ty) S zs).1=(eqGo (zda ty) Z zs).1/\((eqGo (setG ty) S zs).1=true->Rel ty (eqGo (setG ty) S zs).2 (seen++zs.map yTa) (eqGo (zda ty) Z zs).2/\∀v∈zs.map yTa,0<=v/\v<ty.length/\at0 S v=0)
 | [],S,seen,Z,h=>⟨rfl,fun _=>⟨by simpa[eqGo]using h,fun v hv=>by simp at hv⟩⟩
 |(v,t)::r,S,seen,Z,h=>by
  have hc:(valM ty v t&&decide (at0 S v=0))=(valM ty v t&& !atB Z v):=by
   cases hv:valM ty v t
   ·rfl
   ·obtain⟨h0,h1⟩:=zja hv;have:=h.set v h0 h1;cases hz:atB Z v<;>simp[hz]at this ⊢ <;>omega
  simp only[eqGo,setG,zda,hc];by_cases hb:(valM ty v t&& !atB Z v)=true
  ·simp only[hb,if_true];have hb':=hb;rw[<-hc]at hb';simp only[ya,decide_eq_true_eq]at hb';obtain⟨h0,h1⟩:=zja hb'.1;have hr:Rel ty (S.set v.toNat 1) (seen++[v]) (Z.set v.toNat true):=by
    refine⟨by simp[h.s],by simp[h.z],fun w hw hw'=>?_,fun w hw hw'=>?_⟩
    ·rw[at0_set h0 (by rw[h.s];exact h1) hw (by rw[h.s];exact hw'),atB_set h0 (by rw[h.z];exact h1) hw (by rw[h.z];exact hw')];by_cases e:w=v
     ·simp[e]
     ·simp only[e,if_false];exact h.set w hw hw'
    ·rw[at0_set h0 (by rw[h.s];exact h1) hw (by rw[h.s];exact hw')];by_cases e:w=v
     ·simp[e]
     ·simp only[yA,List.mem_singleton,e,or_false,if_false];exact h.seen w hw hw'
   obtain⟨q1,q2⟩:=setGo_rel r _ _ _ hr;refine⟨q1,fun hok=>?_⟩;obtain⟨q3,q4⟩:=q2 hok;refine⟨by simpa using q3,fun w hw=>?_⟩;simp only[yq,yG]at hw;rcases hw with rfl|hw
   ·exact⟨h0,h1,hb'.2⟩
   ·obtain⟨p1,p2,p3⟩:=q4 w hw;rw[at0_set h0 (by rw[h.s];exact h1) p1 (by rw[h.s];exact p2)]at p3;split at p3
    ·omega
    ·exact⟨p1,p2,p3⟩
  ·simp only[Bool.not_eq_true]at hb;simp[hb]
theorem zip_fst{l ts:List Int}(h:l.length=ts.length):(l.zip ts).map yTa=l:=by
 rw[List.map_fst_zip];omega
def zCa(ty:List Int)(seen outs:List Int)(q:Bool×St1)(r:Bool×Set1):Prop:=
 q.1=r.1/\(q.1=true->Rel ty q.2 (seen++outs) r.2/\∀v∈outs,0<=v/\v<(ty.length:Int)/\v ∉ seen)
theorem zsd{ty:List Int}{S:St1}{seen:List Int}{Z:Set1}(h:Rel ty S seen Z)(l ts:List Int):zCa ty seen l (setM ty S l ts) (zI ty Z l ts):=by
 unfold setM zI eqM;by_cases hl:l.length=ts.length
 ·rw[if_pos hl,if_pos hl];obtain⟨q1,q2⟩:=setGo_rel (l.zip ts) S seen Z h;refine⟨q1,fun hok=>?_⟩;obtain⟨q3,q4⟩:=q2 hok;rw[zip_fst hl]at q3 q4;refine⟨q3,fun v hv=>?_⟩;obtain⟨p1,p2,p3⟩:=q4 v hv;exact⟨p1,p2,fun hm=>by have:=(h.seen v p1 p2).1 hm;omega⟩
 ·rw[if_neg hl,if_neg hl];exact⟨rfl,fun h=>by cases h⟩
theorem zCa.fail{ty:List Int}{seen outs:List Int}{S:St1}{Z:Set1}:zCa ty seen outs (false,S) (false,Z):=⟨rfl,fun h=>by cases h⟩
theorem zCa.nil{ty:List Int}{seen:List Int}{S:St1}{Z:Set1}{outs:List Int}{b:Bool}(h:Rel ty S seen Z)(ho:b=true->outs=[]):zCa ty seen outs (b,S) (b,Z):=
 ⟨rfl,fun hb=>by simp only at hb;rw[ho hb];exact⟨by simpa using h,fun v hv=>by simp at hv⟩⟩
theorem setM_nil(ty:List Int)(S:St1)(l:List Int):setM ty S l []=(decide (l=[]),S):=by
 unfold setM eqM;cases l with
 |nil=>rfl
 |cons x r=>simp
theorem usesM_nil(ty:List Int)(S:St1)(l:List Int):zNa ty S l []=decide (l=[]):=by
 unfold zNa eqM;cases l with
 |nil=>rfl
 |cons x r=>simp
theorem zCa.ite{ty:List Int}{seen outs:List Int}{q:Bool×St1}{r:Bool×Set1}{S:St1}{Z:Set1}{b c:Prop}[Decidable b][Decidable c](hbc:b<->c)(h:zCa ty seen outs q r):zCa ty seen outs (if b then q else(false,S)) (if c then r else(false,Z)):=by
 by_cases hb:b
 ·rw[if_pos hb,if_pos (hbc.1 hb)];exact h
 ·rw[if_neg hb,if_neg (fun hc=>hb (hbc.2 hc))];exact zCa.fail
theorem simple_rel{u:Unt}{f:Flow}{S:St1}{seen:List Int}{Z:Set1}(h:Rel f.types S seen Z)(x:Node)(w:Place)(hk:endK x.kind=false):zCa f.types seen x.outs (zcb u f S x) (zu u f seen w Z x):=by
 have hu:=use_rel h;have k12:¬x.kind=12:=by rintro e;simp[endK,e]at hk
 have k13:¬x.kind=13:=by rintro e;simp[endK,e]at hk
 have k14:¬x.kind=14:=by rintro e;simp[endK,e]at hk
 have k15:¬x.kind=15:=by rintro e;simp[endK,e]at hk
 unfold zcb zu;simp only[hu,k12,k13,k14,k15,if_false];by_cases k1:x.kind=1
 ·simp only[k1,if_true];exact zCa.ite Iff.rfl (zsd h _ _)
 by_cases k2:x.kind=2
 ·simp only[k2,if_true];simp;exact zCa.ite Iff.rfl (zsd h _ _)
 by_cases k3:x.kind=3
 ·simp[k3,sumM,hu];refine zCa.ite ?_ (zsd h _ _);simp[isOne];grind
 by_cases k4:x.kind=4
 ·simp[k4,sumM,hu];refine zCa.ite ?_ (zsd h _ _);simp[isTwo];grind
 by_cases k5:x.kind=5
 ·simp[k5];exact zCa.ite Iff.rfl (zsd h _ _)
 by_cases k6:x.kind=6
 ·simp[k6,setM_nil];by_cases hc:zPb u.arrays x.name=true/\zA f.types seen x.args [1,1]=true
  ·rw[if_pos hc];simp[hc.1,hc.2];exact zCa.nil h (by simp)
  ·rw[if_neg hc];have:(zPb u.arrays x.name&&(zA f.types seen x.args [1,1]&&decide (x.outs=[])))=false:=by
    cases h1:zPb u.arrays x.name<;>cases h2:zA f.types seen x.args [1,1]<;>simp_all
   rw[this];exact zCa.fail
 by_cases k7:x.kind=7
 ·simp[k7];cases hfl:u.flows[(zU u.flows x.name).toNat]? with
  |none=>exact zCa.fail
  |some g=>exact zCa.ite Iff.rfl (zsd h _ _)
 by_cases k8:x.kind=8
 ·simp[k8];have:(zA f.types seen x.args []=true)<->x.args=[]:=by rw[<-hu,usesM_nil];simp
  exact zCa.ite this (zsd h _ _)
 by_cases k9:x.kind=9
 ·simp[k9,setM_nil];cases hc:zA f.types seen x.args [1]
  ·simp;exact zCa.fail
  ·simp;exact zCa.nil h (by simp)
 simp[k1,k2,k3,k4,k5,k6,k7,k8,k9];exact zCa.fail
theorem end_rel{u:Unt}{f:Flow}{S:St1}{seen:List Int}{Z:Set1}(h:Rel f.types S seen Z)(x:Node)(w:Place)(hk:endK x.kind=true):zCa f.types seen x.outs (endM f S x w,S) (zu u f seen w Z x):=by
 have hu:=use_rel h;have e:zu u f seen w Z x=(endM f S x w,Z):=by
  simp only[endK,ya,decide_eq_true_eq]at hk;have:x.kind=12\/x.kind=13\/x.kind=14\/x.kind=15:=by omega
  unfold zu endM;rcases this with k|k|k|k<;>simp[k,hu]<;>grind
 rw[e];refine zCa.nil h (fun hb=>?_);simp only[endM,ya,decide_eq_true_eq]at hb;exact hb.1
theorem at0_hide(S:St1)(l:List Int):∀{n:Nat},S.length=n->(∀v∈l,0<=v/\v<(n:Int))->∀w,0<=w->w<(n:Int)->at0 (zpc S l) w=if w∈l then 2 else at0 S w:=by
 induction l generalizing S with
 |nil=>intro n hS hl w h0 h1;simp[zpc]
 |cons v r ih=>
  intro n hS hl w h0 h1;obtain⟨v0,v1⟩:=hl v (by simp);have e:zpc S (v::r)=zpc (S.set v.toNat 2) r:=rfl;rw[e,ih (S.set v.toNat 2) (by simpa using hS) (fun x hx=>hl x (ywa _ hx)) w h0 h1];rw[at0_set v0 (by omega) h0 (by omega)];by_cases hw:w=v
  ·subst hw;by_cases hr:w∈r<;>simp[hr]
  ·by_cases hr:w∈r<;>simp[hr,hw]
theorem Rel.hide{ty:List Int}{S:St1}{seen:List Int}{Z:Set1}{l:List Int}(h:Rel ty S (seen++l) Z)(hl:∀v∈l,0<=v/\v<(ty.length:Int)/\v ∉ seen):Rel ty (zpc S l) seen Z:=by
 have hh:=at0_hide S l h.s (fun v hv=>⟨(hl v hv).1,(hl v hv).2.1⟩);refine⟨by rw[zId];exact h.s,h.z,fun v h0 h1=>?_,fun v h0 h1=>?_⟩
 ·rw[hh v h0 h1,h.set v h0 h1];by_cases hv:v∈l
  ·have:=(h.seen v h0 h1).1 (List.mem_append_right _ hv);simp[hv,this]
  ·simp[hv]
 ·rw[hh v h0 h1];have hs:=h.seen v h0 h1;rw[yA]at hs;by_cases hv:v∈l
  ·simp[hv,(hl v hv).2.2]
  ·simp only[hv,or_false,if_false]at hs ⊢;exact hs
def Same1(ty:List Int)(seen:List Int)(q:Bool×St1)(r:Bool×Set1):Prop:=q.1=r.1/\(q.1=true->Rel ty q.2 seen r.2)
theorem list_rel{ty:List Int}{seen:List Int}{l:List Node}{q:Bool×St1}{r:Bool×Set1}(h:zCa ty seen (znc l) q r):Same1 ty seen (listE l q) (zzb l r):=by
 obtain⟨h1,h2⟩:=h;unfold listE zzb;rw[<-h1];cases hq:q.1
 ·exact⟨rfl,fun h=>by cases h⟩
 ·simp only[if_true];refine⟨rfl,fun _=>?_⟩;obtain⟨h3,h4⟩:=h2 hq;exact h3.hide h4
theorem choice_rel{ty:List Int}{seen:List Int}{x:Node}{q:Bool×St1}{r:Bool×Set1}(h:Same1 ty seen q r):zCa ty seen x.outs (zWc ty x q) (endR ty x r):=by
 obtain⟨h1,h2⟩:=h;unfold zWc endR;rw[<-h1];cases hq:q.1
 ·simp;exact zCa.fail
 ·by_cases hb:(decide (x.outs=[])|| !zj x)=true
  ·simp only[hb,Bool.and_self,if_true];exact zsd (h2 hq) _ _
  ·simp only[hb,Bool.true_and];exact zCa.fail
theorem loop_rel{ty:List Int}{seen:List Int}{x:Node}{q:Bool×St1}{r:Bool×Set1}(h:Same1 ty (seen++x.params) q r)(hp:∀v∈x.params,0<=v/\v<(ty.length:Int)/\v ∉ seen):zCa ty seen x.outs (loopE ty x q) (endR ty x r):=by
 obtain⟨h1,h2⟩:=h;unfold loopE endR;rw[<-h1];cases hq:q.1
 ·simp;exact zCa.fail
 ·by_cases hb:(decide (x.outs=[])|| !zj x)=true
  ·simp only[hb,Bool.and_self,if_true];exact zsd ((h2 hq).hide hp) _ _
  ·simp only[hb,Bool.true_and,if_true];exact zCa.fail
mutual
theorem node_rel(u:Unt)(f:Flow):∀(x:Node) (w:Place) (deep:Int) (S:St1) (seen:List Int) (Z:Set1),Rel f.types S seen Z->zCa f.types seen x.outs (nodeM u f x w deep S) (zaa u f x seen w deep Z)
 |⟨k,o,n,s,a,us,ps,ks⟩,w,deep,S,seen,Z,h=>by
  have hu:=use_rel h;rw[nodeM,zaa];cases hb:zBa ⟨k,o,n,s,a,us,ps,ks⟩
  ·simp;exact zCa.fail
  simp only[Bool.not_true,yE,if_false];by_cases k10:k=10
  ·simp only[k10,if_true];refine zCa.ite (by rw[hu]) ?_;exact choice_rel (kids_rel u f ks _ _ S seen Z h)
  simp only[k10,if_false];by_cases k11:k=11
  ·simp only[k11,if_true];rw[hu];cases hc:zA f.types seen a (typesM f.types ps)
   ·simp;exact zCa.fail
   simp only[if_true];obtain⟨p1,p2⟩:=zsd h ps (zDa ps.length);have e:allM f.types S ps=setM f.types S ps (zDa ps.length):=rfl;rw[e,<-p1];cases hok:(setM f.types S ps (zDa ps.length)).1
   ·simp;exact zCa.fail
   simp only[if_true];obtain⟨p3,p4⟩:=p2 hok;exact loop_rel (kids_rel u f ks _ _ _ _ _ p3) p4
  simp only[k11,if_false];cases hk:endK k
  ·simp only[yE,if_false];exact simple_rel h _ w hk
  ·simp only[if_true];exact end_rel h _ w hk
theorem kids_rel(u:Unt)(f:Flow):∀(ks:List (List Node)) (w:Place) (deep:Int) (S:St1) (seen:List Int) (Z:Set1),Rel f.types S seen Z->Same1 f.types seen (zZd u f ks w deep S) (zO u f ks seen w deep Z)
 | [],w,deep,S,seen,Z,h=>by rw[zZd,zO];exact⟨rfl,fun _=>h⟩
 |l::r,w,deep,S,seen,Z,h=>by
  rw[zZd,zO];obtain⟨h1,h2⟩:=list_rel (go_rel u f l w deep S seen Z h);rw[<-h1];cases hq:(listE l (goM u f l w deep S)).1
  ·simp only[yE,if_false];exact⟨rfl,fun h=>by cases h⟩
  ·simp only[if_true];exact kids_rel u f r w deep _ seen _ (h2 hq)
theorem go_rel(u:Unt)(f:Flow):∀(l:List Node) (w:Place) (deep:Int) (S:St1) (seen:List Int) (Z:Set1),Rel f.types S seen Z->zCa f.types seen (znc l) (goM u f l w deep S) (goR u f l seen w deep Z)
 | [],w,deep,S,seen,Z,h=>by rw[goM,goR];exact zCa.nil h (fun _=>rfl)
 |x::r,w,deep,S,seen,Z,h=>by
  rw[goM,goR];by_cases hd:100<deep
  ·rw[if_pos hd,if_pos hd];exact zCa.fail
  rw[if_neg hd,if_neg hd];obtain⟨h1,h2⟩:=node_rel u f x w deep S seen Z h;rw[<-h1];cases hq:(nodeM u f x w deep S).1
  ·simp only[yE,if_false];exact zCa.fail
  simp only[if_true];obtain⟨h3,h4⟩:=h2 hq;by_cases hc:zj x=r.isEmpty
  ·rw[if_pos hc,if_pos hc];obtain⟨q1,q2⟩:=go_rel u f r w deep _ _ _ h3;refine⟨q1,fun hok=>?_⟩;obtain⟨q3,q4⟩:=q2 hok;rw[louts_cons];refine⟨by simpa[yia]using q3,fun v hv=>?_⟩;rcases yA.1 hv with hv|hv
   ·exact h4 v hv
   ·obtain⟨p1,p2,p3⟩:=q4 v hv;exact⟨p1,p2,fun hm=>p3 (List.mem_append_left _ hm)⟩
  ·rw[if_neg hc,if_neg hc];exact zCa.fail
end
theorem init_rel(f:Flow)(hp:0<=f.params/\f.params<=f.types.length):Rel f.types (initM f f.params.toNat) (zpb f.params.toNat) (zkc f f.params.toNat):=by
 have hk:f.params.toNat<=f.types.length:=by omega
 refine⟨initM_len f _ hk,zNb f _ hk,fun v h0 h1=>?_,fun v h0 h1=>?_⟩
 ·have hv:v.toNat<f.types.length:=by omega
  unfold at0 atB initM zkc;rw[List.getElem?_append,List.getElem?_append];by_cases h:v.toNat<f.params.toNat
  ·simp[h]
  ·have:v.toNat-f.params.toNat<f.types.length-f.params.toNat:=by omega
   simp[h,this]
 ·have hv:v.toNat<f.types.length:=by omega
  have hm:v∈zpb f.params.toNat<->v.toNat<f.params.toNat:=by
   simp only[zpb,yja,yya];constructor
   ·rintro⟨i,hi,rfl⟩;simpa using hi
   ·intro h;exact⟨v.toNat,h,by omega⟩
  rw[hm];unfold at0 initM;rw[List.getElem?_append];by_cases h:v.toNat<f.params.toNat
  ·simp[h]
  ·have:v.toNat-f.params.toNat<f.types.length-f.params.toNat:=by omega
   simp[h,this]
theorem flow_eq(u:Unt)(f:Flow)(hp:0<=f.params/\f.params<=f.types.length):flowM u f=zkb u f:=by
 have h:=list_rel (go_rel u f f.body zKa 1 _ _ _ (init_rel f hp));have h1:¬f.params<0:=by omega
 have h2:¬(f.types.length:Int)<f.params:=by omega
 have h3:(zrb u f f.body zKa 1 (initM f f.params.toNat)).1=(zZa u f f.body (zpb f.params.toNat) zKa 1 (zkc f f.params.toNat)).1:=h.1;simp only[flowM,zkb,h1,h2,h3,decide_false,yKa,Bool.or_false]
theorem findIdx_congr{α:Type}{p q:α->Bool}:∀{l:List α},(∀x∈l,p x=q x)->l.findIdx? p=l.findIdx? q
 | [],_=>rfl
 |x::r,h=>by
  rw[List.findIdx?_cons,List.findIdx?_cons,h x (by simp),findIdx_congr (fun y hy=>h y (ywa _ hy))]
theorem check_eq(u:Unt):zta u=zmc u:=by
 unfold zta zmc;rw[rhead_eq];cases hh:zqc u
 ·rfl
 ·have:u.flows.findIdx? (fun f=> !flowM u f)=u.flows.findIdx? (fun f=> !zkb u f):=by
   refine findIdx_congr (fun f hf=>?_);simp only[zqc,ya,yi]at hh;have:=hh.1.1.2 f hf;simp only[ztc,ya,decide_eq_true_eq]at this;rw[flow_eq u f ⟨this.1.2,this.2⟩]
  rw[this]<;>rfl
def inR(m:Nat)(l:List Int):Prop:=∀v∈l,0<=v/\v<(m:Int)
structure Pl where
 y:Option Nat
 x:Option Nat
 l:Option Nat
structure okH(u:Unt)(m:Nat)(p:Pl)(n:Node):Prop where
 args:inR m n.args
 outs:inR m n.outs
 prs:inR m n.params
 k12:(n.kind=1\/n.kind=2)->n.outs.length=1
 k3:n.kind=3->n.args.length=1/\n.outs.length=1
 k4:n.kind=4->n.args.length=2/\n.outs.length=1
 k5:n.kind=5->zPb u.arrays n.name=true/\n.args.length=1/\n.outs.length=1
 k6:n.kind=6->zPb u.arrays n.name=true/\n.args.length=2/\n.outs.length=0
 k7:n.kind=7->∃g,flowAt u n.name=some g/\0<=zU u.flows n.name/\n.args.length=(pars g).length/\n.outs.length=1
 k8:n.kind=8->n.outs.length=1
 k9:n.kind=9->n.args.length=1/\n.outs.length=0
 k10:n.kind=10->n.args.length=1/\n.kids.length=2
 k11:n.kind=11->n.args.length=n.params.length/\n.kids.length=1
 k12':n.kind=12->p.y=some n.args.length
 k13:n.kind=13->p.x=some n.args.length
 k14:n.kind=14->p.l=some n.args.length
 k15:n.kind=15->n.args.length=1
 k:1<=n.kind/\n.kind<=15
def plIn(p:Pl)(k:Int)(us ps:List Int):Pl:=if k=11 then⟨none,some ps.length,some us.length⟩else{p with y:=some us.length}
mutual
def okN(u:Unt)(m:Nat):Pl->Node->Prop
 |p,⟨k,o,n,s,a,us,ps,ks⟩=>okH u m p ⟨k,o,n,s,a,us,ps,ks⟩/\okK u m (plIn p k us ps) ks
def okK(u:Unt)(m:Nat):Pl->List (List Node)->Prop
 |p,[]=>True
 |p,l::r=>(l≠ []/\okL u m p l)/\okK u m p r
def okL(u:Unt)(m:Nat):Pl->List Node->Prop
 |p,[]=>True
 |p,x::r=>okN u m p x/\zj x=r.isEmpty/\okL u m p r
end
theorem zkd(u:Unt)(m:Nat)(p:Pl)(x:Node):okN u m p x=(okH u m p x/\okK u m (plIn p x.kind x.outs x.params) x.kids):=by
 cases x;rw[okN]
theorem zYb{u:Unt}{m:Nat}{p:Pl}:∀{ks:List (List Node)},okK u m p ks->∀l∈ks,l≠ []/\okL u m p l
 | [],_,l,h=>by cases h
 |k::r,h,l,hl=>by
  rw[okK]at h;rcases yG.1 hl with rfl|hl
  ·exact h.1
  ·exact zYb h.2 l hl
def plOf(w:Place):Pl:=⟨if w.inIf then some w.yield.length else none,if w.inLoop then some w.next.length else none,if w.inLoop then some w.left.length else none⟩
theorem zsa{ty seen l want:List Int}(h:zA ty seen l want=true):inR ty.length l/\l.length=want.length:=by
 unfold zA at h;rw[ya,decide_eq_true_eq,yi]at h;refine⟨fun v hv=>?_,h.1⟩;obtain⟨i,hi⟩:=yW hv;have hlt:=(yb.1 hi).1;obtain⟨t,ht⟩:∃t,want[i]? =some t:=⟨_,yd (by omega)⟩
 have hm:(v,t)∈l.zip want:=yu (i:=i) (by rw[yQ];exact⟨hi,ht⟩);have:=h.2 _ hm;simp only[useR,ya,decide_eq_true_eq]at this;exact⟨this.1,this.2.1⟩
theorem setRG_go{ty:List Int}:∀{l:List (Int×Int)} {S:Set1},(eqGo (zda ty) S l).1=true->∀q∈l,0<=q.1/\q.1<ty.length
 | [],_,_,q,hq=>by cases hq
 |(v,t)::r,S,h,q,hq=>by
  simp only[eqGo,zda]at h;by_cases hb:(valM ty v t&& !atB S v)=true
  ·simp only[hb,if_true]at h;rcases yG.1 hq with rfl|hq
   ·rw[ya]at hb;exact zja hb.1
   ·exact setRG_go h q hq
  ·simp only[Bool.not_eq_true]at hb;simp[hb]at h
theorem zWa{ty:List Int}{Z:Set1}{l want:List Int}(h:(zI ty Z l want).1=true):inR ty.length l/\l.length=want.length:=by
 unfold zI eqM at h;split at h
 ·rename_i hl;refine⟨fun v hv=>?_,hl⟩;have:v∈(l.zip want).map yTa:=by rw[zip_fst hl];exact hv
  obtain⟨q,hq,rfl⟩:=yja.1 this;exact setRG_go h q hq
 ·cases h
theorem typesM_len{ty l:List Int}(h:inR ty.length l):(typesM ty l).length=l.length:=by
 unfold typesM;rw[if_pos,yO];rw[yi];intro v hv;obtain⟨h0,h1⟩:=h v hv;simp[valM,h0,h1]
theorem zbc(m:Nat):inR m []:=fun v h=>by cases h
theorem endR_ok{ty:List Int}{x:Node}{q:Bool×Set1}(h:(endR ty x q).1=true):q.1=true/\inR ty.length x.outs:=by
 unfold endR at h;split at h
 ·rename_i hc;rw[ya]at hc;exact⟨hc.1,(zWa h).1⟩
 ·cases h
theorem bareM_ok{x:Node}(h:zBa x=true):(x.kids.length:Int)=zjc x.kind/\(x.kind=11\/x.params=[]):=by
 simp only[zBa,ya,yD,decide_eq_true_eq]at h;exact⟨h.2,h.1.2⟩
theorem simpleR_ok{u:Unt}{f:Flow}{seen:List Int}{w:Place}{Z:Set1}{x:Node}(hb:zBa x=true)(h10:x.kind≠10)(h11:x.kind≠11)(h:(zu u f seen w Z x).1=true):okH u f.types.length (plOf w) x:=by
 obtain⟨_,hp⟩:=bareM_ok hb;have hp:x.params=[]:=hp.resolve_left h11;have hpar:inR f.types.length x.params:=by rw[hp];exact zbc _
 unfold zu at h;dsimp only at h;by_cases k1:x.kind=1
 ·rw[if_pos k1]at h;split at h
  ·rename_i ha;have a:=zsa ha;have o:=zWa h;refine⟨a.1,o.1,hpar,?_,?_,?_,?_,?_,?_,?_,?_,?_,?_,?_,?_,?_,?_,?_⟩<;>intros<;>first|omega|(simp_all;done)|skip
  ·cases h
 rw[if_neg k1]at h;by_cases k2:x.kind=2
 ·rw[if_pos k2]at h;split at h
  ·rename_i ha;have a:=zsa ha.2;have o:=zWa h;refine⟨a.1,o.1,hpar,?_,?_,?_,?_,?_,?_,?_,?_,?_,?_,?_,?_,?_,?_,?_⟩<;>intros<;>first|omega|(simp_all;done)|skip
  ·cases h
 rw[if_neg k2]at h;by_cases k3:x.kind=3
 ·rw[if_pos k3]at h;split at h
  ·rename_i ha;rw[ya]at ha;have a:=zsa ha.2;have o:=zWa h;refine⟨a.1,o.1,hpar,?_,?_,?_,?_,?_,?_,?_,?_,?_,?_,?_,?_,?_,?_,?_⟩<;>intros<;>first|omega|(simp_all;done)|skip
  ·cases h
 rw[if_neg k3]at h;by_cases k4:x.kind=4
 ·rw[if_pos k4]at h;split at h
  ·rename_i ha;have ha:=ha.1;rw[ya]at ha;have a:=zsa ha.2;have o:=zWa h;refine⟨a.1,o.1,hpar,?_,?_,?_,?_,?_,?_,?_,?_,?_,?_,?_,?_,?_,?_,?_⟩<;>intros<;>first|omega|(simp_all;done)|skip
  ·cases h
 rw[if_neg k4]at h;by_cases k5:x.kind=5
 ·rw[if_pos k5]at h;split at h
  ·rename_i ha;rw[ya]at ha;have a:=zsa ha.2;have o:=zWa h;refine⟨a.1,o.1,hpar,?_,?_,?_,?_,?_,?_,?_,?_,?_,?_,?_,?_,?_,?_,?_⟩<;>intros<;>first|omega|(simp_all;done)|skip
  ·cases h
 rw[if_neg k5]at h;by_cases k6:x.kind=6
 ·rw[if_pos k6]at h;simp only[ya,decide_eq_true_eq]at h;have a:=zsa h.2.1;have o:inR f.types.length x.outs:=by rw[h.2.2];exact zbc _
  have o2:x.outs.length=0:=by rw[h.2.2];rfl
  refine⟨a.1,o,hpar,?_,?_,?_,?_,?_,?_,?_,?_,?_,?_,?_,?_,?_,?_,?_⟩<;>intros<;>first|omega|(simp_all;done)|skip
 rw[if_neg k6]at h;by_cases k7:x.kind=7
 ·rw[if_pos k7]at h;split at h
  ·rename_i g hg;split at h
   ·rename_i ha;have a:=zsa ha.2;have o:=zWa h;have hk:∃g,flowAt u x.name=some g/\0<=zU u.flows x.name/\x.args.length=(pars g).length/\x.outs.length=1:=⟨g,hg,ha.1,a.2,o.2⟩
    refine⟨a.1,o.1,hpar,?_,?_,?_,?_,?_,fun _=>hk,?_,?_,?_,?_,?_,?_,?_,?_,?_⟩<;>intros<;>omega
   ·cases h
  ·cases h
 rw[if_neg k7]at h;by_cases k8:x.kind=8
 ·rw[if_pos k8]at h;split at h
  ·rename_i ha;have o:=zWa h;have a:inR f.types.length x.args:=by rw[ha];exact zbc _
   refine⟨a,o.1,hpar,?_,?_,?_,?_,?_,?_,?_,?_,?_,?_,?_,?_,?_,?_,?_⟩<;>intros<;>first|omega|(simp_all;done)|skip
  ·cases h
 rw[if_neg k8]at h;by_cases k9:x.kind=9
 ·rw[if_pos k9]at h;simp only[ya,decide_eq_true_eq]at h;have a:=zsa h.1;have o:inR f.types.length x.outs:=by rw[h.2];exact zbc _
  have o2:x.outs.length=0:=by rw[h.2];rfl
  refine⟨a.1,o,hpar,?_,?_,?_,?_,?_,?_,?_,?_,?_,?_,?_,?_,?_,?_,?_⟩<;>intros<;>first|omega|(simp_all;done)|skip
 rw[if_neg k9]at h;by_cases k12:x.kind=12
 ·rw[if_pos k12]at h;simp only[ya,decide_eq_true_eq]at h;have a:=zsa h.2.1;have o:inR f.types.length x.outs:=by rw[h.2.2];exact zbc _
  have hy:(plOf w).y=some x.args.length:=by simp only[plOf,h.1,if_true,a.2]
  refine⟨a.1,o,hpar,?_,?_,?_,?_,?_,?_,?_,?_,?_,?_,?_,?_,?_,?_,?_⟩<;>intros<;>first|omega|(simp_all;done)|skip
 rw[if_neg k12]at h;by_cases k13:x.kind=13
 ·rw[if_pos k13]at h;simp only[ya,decide_eq_true_eq]at h;have a:=zsa h.2.1;have o:inR f.types.length x.outs:=by rw[h.2.2];exact zbc _
  have hy:(plOf w).x=some x.args.length:=by simp only[plOf,h.1,if_true,a.2]
  refine⟨a.1,o,hpar,?_,?_,?_,?_,?_,?_,?_,?_,?_,?_,?_,?_,?_,?_,?_⟩<;>intros<;>first|omega|(simp_all;done)|skip
 rw[if_neg k13]at h;by_cases k14:x.kind=14
 ·rw[if_pos k14]at h;simp only[ya,decide_eq_true_eq]at h;have a:=zsa h.2.1;have o:inR f.types.length x.outs:=by rw[h.2.2];exact zbc _
  have hy:(plOf w).l=some x.args.length:=by simp only[plOf,h.1,if_true,a.2]
  refine⟨a.1,o,hpar,?_,?_,?_,?_,?_,?_,?_,?_,?_,?_,?_,?_,?_,?_,?_⟩<;>intros<;>first|omega|(simp_all;done)|skip
 rw[if_neg k14]at h;by_cases k15:x.kind=15
 ·rw[if_pos k15]at h;simp only[ya,decide_eq_true_eq]at h;have a:=zsa h.1;have o:inR f.types.length x.outs:=by rw[h.2];exact zbc _
  refine⟨a.1,o,hpar,?_,?_,?_,?_,?_,?_,?_,?_,?_,?_,?_,?_,?_,?_,?_⟩<;>intros<;>first|omega|(simp_all;done)|skip
 rw[if_neg k15]at h;cases h
theorem plOf_if{w:Place}{ty us ps:List Int}(h:inR ty.length us):plOf {w with inIf:=true,yield:=typesM ty us}=plIn (plOf w) 10 us ps:=by
 simp[plOf,plIn,typesM_len h]
theorem plOf_loop{p:Pl}{ty us ps:List Int}(h:inR ty.length us)(h':inR ty.length ps):plOf ⟨false,true,[],typesM ty ps,typesM ty us⟩=plIn p 11 us ps:=by
 simp[plOf,plIn,typesM_len h,typesM_len h']
mutual
theorem nodeR_ok(u:Unt)(f:Flow):∀(x:Node) (seen:List Int) (w:Place) (deep:Int) (Z:Set1),(zaa u f x seen w deep Z).1=true->okN u f.types.length (plOf w) x
 |⟨k,o,n,s,a,us,ps,ks⟩,seen,w,deep,Z,h=>by
  rw[okN];rw[zaa]at h;by_cases hb:zBa ⟨k,o,n,s,a,us,ps,ks⟩=true
  ·rw[hb]at h;simp only[Bool.not_true,yE,if_false]at h;obtain⟨hk,hp⟩:=bareM_ok hb;simp only at hk hp;by_cases k10:k=10
   ·rw[if_pos k10]at h;split at h
    ·rename_i ha;have a1:=zsa ha;obtain⟨q1,q2⟩:=endR_ok h;simp only at q2;have hp0:ps=[]:=hp.resolve_left (by omega);have hk2:ks.length=2:=by rw[k10]at hk;simp[zjc]at hk;omega
     have hkid:=kidsR_ok u f ks _ _ _ _ q1;rw[plOf_if (ps:=ps) q2]at hkid;rw[k10];refine⟨⟨a1.1,q2,by simp only[hp0];exact zbc _,?_,?_,?_,?_,?_,?_,?_,?_,?_,?_,?_,?_,?_,?_,?_⟩,hkid⟩<;>intros<;>(try dsimp only at*)<;>first|omega|exact⟨a1.2,hk2⟩|exact⟨by simpa using a1.2,hk2⟩
    ·cases h
   ·rw[if_neg k10]at h;by_cases k11:k=11
    ·rw[if_pos k11]at h;split at h
     ·rename_i ha;split at h
      ·rename_i hs;have s1:=zWa hs;have a1:=zsa ha;rw[typesM_len s1.1]at a1;obtain⟨q1,q2⟩:=endR_ok h;simp only at q2;have hk2:ks.length=1:=by rw[k11]at hk;simp[zjc]at hk;omega
       have hkid:=kidsR_ok u f ks _ _ _ _ q1;rw[plOf_loop (p:=plOf w) q2 s1.1]at hkid;rw[k11];refine⟨⟨a1.1,q2,s1.1,?_,?_,?_,?_,?_,?_,?_,?_,?_,?_,?_,?_,?_,?_,?_⟩,hkid⟩<;>intros<;>(try dsimp only at*)<;>first|omega|exact⟨a1.2,hk2⟩|exact⟨by simpa using a1.2,hk2⟩
      ·cases h
     ·cases h
    ·rw[if_neg k11]at h;have hh:=simpleR_ok hb k10 k11 h;have hk0:ks=[]:=by
      simp[zjc,k10,k11]at hk;exact hk
     exact⟨hh,by rw[hk0,okK];trivial⟩
  ·simp only[Bool.not_eq_true]at hb;rw[hb]at h;simp at h
theorem kidsR_ok(u:Unt)(f:Flow):∀(ks:List (List Node)) (seen:List Int) (w:Place) (deep:Int) (Z:Set1),(zO u f ks seen w deep Z).1=true->okK u f.types.length (plOf w) ks
 | [],seen,w,deep,Z,h=>by rw[okK];trivial
 |l::r,seen,w,deep,Z,h=>by
  rw[okK];rw[zO]at h;split at h
  ·rename_i hl;refine⟨?_,kidsR_ok u f r _ _ _ _ h⟩;unfold zzb at hl;split at hl
   ·rename_i hg;refine⟨?_,goR_ok u f l _ _ _ _ hg⟩
    rintro rfl
    simp at hl
   ·cases hl
  ·cases h
theorem goR_ok(u:Unt)(f:Flow):∀(l:List Node) (seen:List Int) (w:Place) (deep:Int) (Z:Set1),(goR u f l seen w deep Z).1=true->okL u f.types.length (plOf w) l
 | [],seen,w,deep,Z,h=>by rw[okL];trivial
 |x::r,seen,w,deep,Z,h=>by
  rw[okL];rw[goR]at h;split at h
  ·cases h
  ·split at h
   ·rename_i hn;split at h
    ·rename_i hc;exact⟨nodeR_ok u f x _ _ _ _ hn,hc,goR_ok u f r _ _ _ _ h⟩
    ·cases h
   ·cases h
end
structure OkU(u:Unt):Prop where
 sz:USz u
 body:∀f∈u.flows,f.body≠ []/\okL u f.types.length ⟨none,none,none⟩ f.body
 pars:∀f∈u.flows,0<=f.params/\f.params<=f.types.length
 arrs:∀a∈u.arrays,1<=a.size/\a.size<=1000
 names:(u.arrays.map Arr.name).Nodup
 main:∃f,flowAt u zF=some f/\f∈u.flows/\0<=zU u.flows zF/\f.params=0
theorem checkM_ok{u:Unt}(hz:USz u)(h:(zta u).1=0):OkU u:=by
 have h2:=h;rw[check_eq]at h2;unfold zmc at h2;rw[rhead_eq]at h2;cases hh:zqc u
 ·rw[hh]at h2;simp at h2
 ·rw[hh]at h2;simp only[if_true]at h2;have hfl:∀f∈u.flows,zkb u f=true:=by
   cases hx:u.flows.findIdx? (fun f=> !zkb u f)with
   |some i=>rw[hx]at h2;simp at h2
   |none=>rw[yda]at hx;simpa using hx
  simp only[zqc,ya,yi,decide_eq_true_eq]at hh;obtain⟨⟨⟨ha,hf⟩,hn⟩,hm⟩:=hh;refine⟨hz,fun f hf'=>?_,fun f hf'=>?_,fun a ha'=>?_,?_,?_⟩
  ·have h3:=hfl f hf';unfold zkb at h3;rw[ya]at h3;have h4:=h3.2;unfold zZa zzb at h4;split at h4
   ·rename_i hg;refine⟨?_,goR_ok u f f.body _ _ _ _ hg⟩;intro e;rw[e]at h4;simp at h4
   ·cases h4
  ·have:=hf f hf';simp only[ztc,ya,decide_eq_true_eq]at this;exact⟨this.1.2,this.2⟩
  ·have:=ha a ha';simp only[arrOk,ya,decide_eq_true_eq]at this;exact⟨this.1.2,this.2⟩
  ·unfold zFc at hn;rw[List.nodup_append]at hn;exact hn.1
  ·unfold zld at hm;unfold flowAt;split at hm
   ·rename_i f hf';simp only[ya,decide_eq_true_eq]at hm;exact⟨f,hf',yu hf',by grind,by grind⟩
   ·cases hm
structure Mono(S S1:RS):Prop where
 fuel:S1.fuel<=S.fuel
 out:S1.out.length+S1.fuel<=S.out.length+S.fuel
 arrs:S1.arrs.map List.length=S.arrs.map List.length
theorem Mono.refl(S:RS):Mono S S:=⟨yh _,yh _,rfl⟩
theorem Mono.trans{a b c:RS}(h:Mono a b)(k:Mono b c):Mono a c:=⟨yqa k.1 h.1,yqa k.2 h.2,k.3.trans h.3⟩
structure Mono1(S S1:RS):Prop where
 fuel:S1.fuel<=S.fuel
 out:S1.out.length+S1.fuel<=S.out.length+S.fuel+1
 arrs:S1.arrs.map List.length=S.arrs.map List.length
theorem Mono.one{a b:RS}(h:Mono a b):Mono1 a b:=⟨h.1,by have:=h.2;omega,h.3⟩
theorem zcd:∀(v o n:List Int),(setW v o n).length=v.length
 |v,[],n=>by simp[setW]
 |v,_::_,[]=>by simp[setW]
 |v,o::os,n::ns=>by rw[setW,zcd];simp
theorem ofW_len(v l:List Int):(ofW v l).length=l.length:=by simp[ofW]
def Ended(p:Pl)(r:Wy):Prop:=
 (r.kind=12/\p.y=some r.l.length)\/(r.kind=13/\p.x=some r.l.length)\/(r.kind=14/\p.l=some r.l.length)\/(r.kind=15/\r.l.length=1)
theorem Ended.ne{p:Pl}{r:Wy}(h:Ended p r):r.kind≠0:=by
 rcases h with h|h|h|h<;>omega
def NodeOk(m:Nat)(p:Pl)(x:Node)(S:RS)(q:Rt Wy×List Int×RS):Prop:=
 Mono S q.2.2/\q.2.1.length=m/\∀r,q.1= .ok r->q.2.2.fuel<S.fuel/\((r.kind=0/\zj x=false)\/(Ended p r/\(r.kind=12->x.kind=12)/\(r.kind=14->x.leaves=true)))
def ListRun(m:Nat)(p:Pl)(l:List Node)(S:RS)(q:Rt Wy×List Int×RS):Prop:=
 Mono S q.2.2/\q.2.1.length=m/\∀r,q.1= .ok r->q.2.2.fuel<S.fuel/\Ended p r/\(r.kind=12->zK l=true)/\(r.kind=14->zw l=true)
def EvOk(u:Unt)(ev:NEv):Prop:=∀m p x v S,okN u m p x->v.length=m->NodeOk m p x S (ev x v S)
theorem closed_ends{x:Node}(h:12<=x.kind/\x.kind<=15):zj x=true:=by
 unfold zj;rw[if_neg (by omega),if_neg (by omega)];simp[Node.ends,h.1,h.2]
theorem yields_cons{x:Node}{r:List Node}(h:r≠ []):zK (x::r)=zK r:=by
 unfold zK;cases r with
 |nil=>exact absurd rfl h
 |cons y r=>rw[List.getLast?_cons_cons]
section
variable {u:Unt} {ev:NEv} (H:EvOk u ev)
include H
theorem zYd{m:Nat}{p:Pl}:∀(l:List Node) (v:List Int) (S:RS),l≠ []->okL u m p l->v.length=m->ListRun m p l S (zMb ev l v S)
 | [],v,S,hne,_,_=>absurd rfl hne
 |x::r,v,S,_,ho,hv=>by
  rw[okL]at ho;obtain⟨o1,o2,o3⟩:=ho;obtain⟨h1,f2,h2⟩:=H m p x v S o1 hv;unfold zMb;generalize ev x v S=q at*;obtain⟨a,v1,S1⟩:=q;simp only at f2 h1;cases a with
  |stop k=>exact⟨h1,f2,fun r e=>by cases e⟩
  |ok w=>
   obtain⟨f1,f3⟩:=h2 w rfl;simp only;by_cases hk:w.kind=0
   ·rw[if_pos hk];have hc:zj x=false:=by
     rcases f3 with f3|f3
     ·exact f3.2
     ·exact absurd hk f3.1.ne
    have hne:r≠ []:=by rintro rfl;rw[hc]at o2;cases o2
    obtain⟨i1,i0,i2⟩:=zYd r v1 S1 hne o3 f2;refine⟨h1.trans i1,i0,fun r' e=>?_⟩;obtain⟨j1,j3,j4,j5⟩:=i2 r' e;refine⟨by simp only at f1;omega,j3,fun e=>?_,fun e=>?_⟩
    ·rw[yields_cons hne];exact j4 e
    ·rw[zTa,List.any_cons,<-zTa,j5 e,Bool.or_true]
   ·rw[if_neg hk];refine⟨h1,f2,fun r' e=>?_⟩;cases e;rcases f3 with f3|⟨f3,f4,f5⟩
    ·exact absurd f3.1 hk
    ·refine⟨f1,f3,fun e=>?_,fun e=>?_⟩
     ·have hx:=f4 e;have hc:=closed_ends (x:=x) (by omega);rw[hc]at o2;have:r=[]:=by simpa using o2.symm
      subst this;simp[zK,hx]
     ·rw[zTa,List.any_cons,f5 e,Bool.true_or]
theorem callW_ok{f:Flow}(hb:f.body≠ []/\okL u f.types.length ⟨none,none,none⟩ f.body){l:List Int}(hl:l.length<=f.types.length)(S:RS):
  Mono S (callW ev f l S).2/\(∀n,(callW ev f l S).1= .ok n->(callW ev f l S).2.fuel<S.fuel):=by
 have h:=zYd H f.body (l++yn (f.types.length-l.length) 0) S hb.1 hb.2 (by simp;omega);unfold callW;generalize zMb ev f.body (l++yn (f.types.length-l.length) 0) S=q at*;obtain⟨a,v1,S1⟩:=q;obtain⟨h1,_,h2⟩:=h;cases a with
 |stop k=>exact⟨h1,fun n e=>by cases e⟩
 |ok w=>exact⟨h1,fun n e=>(h2 w rfl).1⟩
theorem plainW_ok(hU:OkU u){m:Nat}{p:Pl}{x:Node}(ho:okH u m p x)(hk:3<=x.kind/\x.kind<=9){l:List Int}(hl:l.length=x.args.length)(S:RS):
  Mono1 S (plainW u ev x l S).2/\∀n,(plainW u ev x l S).1= .ok n->n.length=x.outs.length:=by
 unfold plainW;by_cases k3:x.kind=3
 ·rw[if_pos k3];exact⟨(Mono.refl _).one,fun n e=>by cases e;rw[(ho.k3 k3).2];rfl⟩
 rw[if_neg k3];by_cases k4:x.kind=4
 ·rw[if_pos k4];split
  ·exact⟨(Mono.refl _).one,fun n e=>by cases e;rw[(ho.k4 k4).2];rfl⟩
  ·exact⟨(Mono.refl _).one,fun n e=>by cases e⟩
 rw[if_neg k4];by_cases k5:x.kind=5
 ·rw[if_pos k5];split
  ·exact⟨(Mono.refl _).one,fun n e=>by cases e;rw[(ho.k5 k5).2.2];rfl⟩
  ·exact⟨(Mono.refl _).one,fun n e=>by cases e⟩
 rw[if_neg k5];by_cases k6:x.kind=6
 ·rw[if_pos k6];split
  ·rename_i S1 hp;refine⟨?_,fun n e=>by cases e;rw[(ho.k6 k6).2.2];rfl⟩;unfold putAt at hp;split at hp
   ·cases hp
   ·rw[yJ]at hp;obtain⟨row,hr,hp⟩:=hp;split at hp
    ·cases hp;refine Mono.one ⟨yh _,yh _,?_⟩;simp only[yoa,List.length_set];have hlt:=(yb.1 hr).1;have e:row.length=(S.arrs.map List.length)[(zje u.arrays x.name).toNat]'(by simpa using hlt):=by
      rw[List.getElem_map,(yb.1 hr).2]
     rw[e,List.set_getElem_self]
    ·cases hp
  ·exact⟨(Mono.refl _).one,fun n e=>by cases e⟩
 rw[if_neg k6];by_cases k7:x.kind=7
 ·rw[if_pos k7];obtain⟨g,hg,_,ha,hs⟩:=ho.k7 k7;rw[hg];simp only;have hgm:g∈u.flows:=yu hg;have hc:=callW_ok H (hU.body g hgm) (l:=l) (by rw[hl,ha];simp[pars];omega) S;generalize callW ev g l S=q at*;obtain⟨a,S1⟩:=q;cases a with
  |stop k=>exact⟨hc.1.one,fun n e=>by cases e⟩
  |ok k=>exact⟨hc.1.one,fun n e=>by cases e;rw[hs];rfl⟩
 rw[if_neg k7];by_cases k8:x.kind=8
 ·rw[if_pos k8];split
  ·exact⟨(Mono.refl _).one,fun n e=>by cases e⟩
  ·exact⟨Mono.one ⟨yh _,yh _,rfl⟩,fun n e=>by cases e;rw[ho.k8 k8];rfl⟩
 rw[if_neg k8];by_cases k9:x.kind=9
 ·rw[if_pos k9];exact⟨⟨yh _,by simp;omega,rfl⟩,fun n e=>by cases e;rw[(ho.k9 k9).2];rfl⟩
 omega
omit H in
theorem kids_two{x:Node}(h:x.kids.length=2):x.kids=[kid0 x,kid1 x]:=by
 unfold kid0 kid1
 match hk:x.kids with
 | [a,b]=>rfl
 | []=>rw[hk]at h;cases h
 | [_]=>rw[hk]at h;cases h
 |_::_::_::_=>rw[hk]at h;simp at h
omit H in
theorem kids_one{x:Node}(h:x.kids.length=1):x.kids=[kid0 x]:=by
 unfold kid0
 match hk:x.kids with
 | [a]=>rfl
 | []=>rw[hk]at h;cases h
 |_::_::_=>rw[hk]at h;simp at h
omit H in
theorem Mono.less{k:Nat}{S:RS}{q:RS}(hf:S.fuel=k+1)(h:Mono {S with fuel:=k} q):Mono S q/\q.fuel<S.fuel:=by
 obtain⟨h1,h2,h3⟩:=h;simp only at h1 h2 h3;exact⟨⟨by omega,by omega,h3⟩,by omega⟩
theorem choiceW_ok{m:Nat}{p:Pl}{x:Node}(ho:okN u m p x)(hk:x.kind=10)(c:Int){v:List Int}(hv:v.length=m)(S:RS):
  Mono S (choiceW ev x c v S).2.2/\(choiceW ev x c v S).2.1.length=m/\∀r,(choiceW ev x c v S).1= .ok r->((r.kind=0/\zj x=false)\/(Ended p r/\(r.kind=12->x.kind=12)/\(r.kind=14->x.leaves=true))):=by
 rw[zkd]at ho;obtain⟨o1,o2⟩:=ho;have hkid:=kids_two (o1.k10 hk).2;have hp:plIn p x.kind x.outs x.params={p with y:=some x.outs.length}:=by rw[hk];rfl
 rw[hp]at o2;have hmem:(if c=0 then kid1 x else kid0 x)∈x.kids:=by rw[hkid];split<;>simp
 obtain⟨h1,h2⟩:=zYb o2 _ hmem;have h:=zYd H _ v S h1 h2 hv;unfold choiceW;generalize(if c=0 then kid1 x else kid0 x)=l at*;generalize zMb ev l v S=q at*;obtain⟨a,v1,S1⟩:=q;obtain⟨h3,g2,h4⟩:=h;simp only at g2 h3;cases a with
 |stop k=>exact⟨h3,g2,fun r e=>by cases e⟩
 |ok w=>
  obtain⟨g1,g3,g4,g5⟩:=h4 w rfl;simp only;by_cases hw:w.kind=12
  ·rw[if_pos hw];refine⟨h3,by simp only[zcd];exact g2,fun r e=>?_⟩;cases e;refine .inl ⟨rfl,?_⟩;have hy:=g4 hw;unfold zj;rw[if_pos ⟨hk,(o1.k10 hk).2⟩];rw[<-Bool.not_eq_true,yi];intro hall;have:=hall l hmem;rw[hy]at this;cases this
  ·rw[if_neg hw];refine⟨h3,g2,fun r e=>?_⟩;cases e;refine .inr ⟨?_,fun e=>absurd e hw,fun e=>?_⟩
   ·rcases g3 with g3|g3
    ·exact absurd g3.1 hw
    ·exact .inr g3
   ·rw[zGd,hk];simp only[decide_true,Bool.true_and];rw[yD,List.any_eq_true];exact .inr ⟨l,hmem,g5 e⟩
theorem loopW_ok{m:Nat}{p:Pl}{x:Node}(ho:okN u m p x)(hk:x.kind=11):∀(k:Nat) {l v:List Int} (hl:l.length=x.params.length) (hv:v.length=m) (S:RS),
  Mono S (zWd ev x k l v S).2.2/\(zWd ev x k l v S).2.1.length=m/\∀r,(zWd ev x k l v S).1= .ok r->((r.kind=0/\zj x=false)\/(Ended p r/\(r.kind=12->x.kind=12)/\(r.kind=14->x.leaves=true)))
 |0,l,v,hl,hv,S=>⟨Mono.refl _,hv,fun r e=>by cases e⟩
 |k+1,l,v,hl,hv,S=>by
  have ho':=ho;rw[zkd]at ho';obtain⟨o1,o2⟩:=ho';have hkid:=kids_one (o1.k11 hk).2;have hp:plIn p x.kind x.outs x.params=⟨none,some x.params.length,some x.outs.length⟩:=by rw[hk];rfl
  rw[hp]at o2;have hmem:kid0 x∈x.kids:=by rw[hkid];simp
  obtain⟨h1,h2⟩:=zYb o2 _ hmem;have h:=zYd H _ (setW v x.params l) S h1 h2 (by rw[zcd];exact hv);have ih:=fun l v hl hv S=>loopW_ok ho hk k (l:=l) (v:=v) hl hv S
  unfold zWd;generalize zMb ev (kid0 x) (setW v x.params l) S=q at*;obtain⟨a,v1,S1⟩:=q;obtain⟨h3,g2,h4⟩:=h;simp only at g2 h3;cases a with
  |stop k=>exact⟨h3,g2,fun r e=>by cases e⟩
  |ok w=>
   obtain⟨g1,g3,g4,g5⟩:=h4 w rfl;simp only;by_cases hw:w.kind=15
   ·rw[if_pos hw];refine⟨h3,g2,fun r e=>?_⟩;cases e;refine .inr ⟨?_,fun e=>by omega,fun e=>by omega⟩;rcases g3 with g3|g3|g3|g3
    ·omega
    ·omega
    ·omega
    ·exact .inr (.inr (.inr g3))
   ·rw[if_neg hw];by_cases hw4:w.kind=14
    ·rw[if_pos hw4];refine⟨h3,by simp only[zcd];exact g2,fun r e=>?_⟩;cases e;refine .inl ⟨rfl,?_⟩;have hy:=g5 hw4;unfold zj;rw[if_neg (by omega),if_pos ⟨hk,(o1.k11 hk).2⟩,hkid];simp[hy]
    ·rw[if_neg hw4];have hlen:w.l.length=x.params.length:=by
      rcases g3 with g3|g3|g3|g3
      ·cases g3.2
      ·have:=g3.2;simp at this;omega
      ·omega
      ·omega
     obtain⟨i1,i0,i2⟩:=ih w.l v1 hlen g2 S1;exact⟨h3.trans i1,i0,i2⟩
theorem nodeW_ok(hU:OkU u){m:Nat}{p:Pl}{x:Node}(ho:okN u m p x){v:List Int}(hv:v.length=m)(w:Nat){k:Nat}{S:RS}(hf:S.fuel=k+1):
  NodeOk m p x S (nodeW u ev w x v {S with fuel:=k}):=by
 have ho':=ho;rw[zkd]at ho';obtain⟨o1,o2⟩:=ho';unfold nodeW;by_cases k1:x.kind=1\/x.kind=2
 ·rw[if_pos k1];obtain⟨q1,q2⟩:=Mono.less hf (Mono.refl _);refine⟨q1,by simp only[zcd];exact hv,fun r e=>?_⟩;cases e;refine⟨q2,.inl ⟨rfl,?_⟩⟩;unfold zj;rw[if_neg (by omega),if_neg (by omega)];simp only[Node.ends,yY,decide_eq_false_iff_not];omega
 rw[if_neg k1];by_cases k2:12<=x.kind/\x.kind<=15
 ·rw[if_pos k2];obtain⟨q1,q2⟩:=Mono.less hf (Mono.refl _);refine⟨q1,hv,fun r e=>?_⟩;cases e;refine⟨q2,.inr ⟨?_,fun e=>e,fun e=>?_⟩⟩
  ·unfold Ended;simp only[ofW_len];have h12:=o1.k12';have h13:=o1.k13;have h14:=o1.k14;have h15:=o1.k15;rcases(show x.kind=12\/x.kind=13\/x.kind=14\/x.kind=15 from by omega)with e|e|e|e
   ·exact .inl ⟨e,h12 e⟩
   ·exact .inr (.inl ⟨e,h13 e⟩)
   ·exact .inr (.inr (.inl ⟨e,h14 e⟩))
   ·exact .inr (.inr (.inr ⟨e,h15 e⟩))
  ·simp only at e;rw[zGd,e];rfl
 rw[if_neg k2];by_cases k10:x.kind=10
 ·rw[if_pos k10];obtain⟨h1,h0,h2⟩:=choiceW_ok H ho k10 (atA (ofW v x.args) 0) hv {S with fuel:=k};obtain⟨q1,q2⟩:=Mono.less hf h1;exact⟨q1,h0,fun r e=>⟨q2,h2 r e⟩⟩
 rw[if_neg k10];by_cases k11:x.kind=11
 ·rw[if_pos k11];obtain⟨h1,h0,h2⟩:=loopW_ok H ho k11 (w+1) (l:=ofW v x.args) (by rw[ofW_len];exact(o1.k11 k11).1) hv {S with fuel:=k};obtain⟨q1,q2⟩:=Mono.less hf h1;exact⟨q1,h0,fun r e=>⟨q2,h2 r e⟩⟩
 rw[if_neg k11];have hkk:3<=x.kind/\x.kind<=9:=by have:=o1.k;omega
 have h:=plainW_ok H hU o1 hkk (ofW_len v x.args) (zHa {S with fuel:=k});have hc:zj x=false:=by
  unfold zj;rw[if_neg (by omega),if_neg (by omega)];simp only[Node.ends,yY,decide_eq_false_iff_not];omega
 generalize plainW u ev x (ofW v x.args) (zHa {S with fuel:=k})=q at*;obtain⟨a,S1⟩:=q;obtain⟨⟨h1,h2,h3⟩,h4⟩:=h;simp only[zHa]at h1 h2 h3;have q1:Mono S S1:=⟨by omega,by omega,h3⟩
 cases a with
 |stop j=>exact⟨q1,hv,fun r e=>by cases e⟩
 |ok l=>
  refine⟨q1,by simp only[zcd];exact hv,fun r e=>?_⟩;cases e;exact⟨by simp only;omega,.inl ⟨rfl,hc⟩⟩
end
theorem evN_ok{u:Unt}(hU:OkU u):∀w,EvOk u (evN u w)
 |0=>fun m p x v S ho hv=>⟨Mono.refl _,hv,fun r e=>by cases e⟩
 |w+1=>fun m p x v S ho hv=>by
  have ih:=evN_ok hU w;simp only[evN];cases hf:S.fuel with
  |zero=>exact⟨Mono.refl _,hv,fun r e=>by cases e⟩
  |succ k=>exact nodeW_ok ih hU ho hv w hf
abbrev Fact:=Option Int
abbrev zT:=List (Int×Fact)
abbrev KS:=zT×Bool
def getA{α:Type}:List (Int×α)->Int->Option α
 | [],_=>none
 |p::r,v=>if v=p.1 then some p.2 else getA r v
def setA{α:Type}:List (Int×α)->Int->α->List (Int×α)
 | [],v,f=>[(v,f)]
 |p::r,v,f=>if v=p.1 then(v,f)::r else p::setA r v f
theorem getA_setA{α:Type}:∀(F:List (Int×α)) (v w:Int) (f:α),getA (setA F v f) w=if w=v then some f else getA F w
 | [],v,w,f=>by simp only[setA,getA]
 |p::r,v,w,f=>by
  rw[setA];by_cases h:v=p.1
  ·rw[if_pos h,getA,getA];by_cases h1:w=v
   ·rw[if_pos h1,if_pos h1]
   ·rw[if_neg h1,if_neg h1,if_neg (by rw[<-h];exact h1)]
  ·rw[if_neg h,getA,getA,getA_setA r v w f];by_cases h1:w=p.1
   ·rw[if_pos h1,if_pos h1,if_neg (by intro e;rw[e]at h1;exact h h1)]
   ·rw[if_neg h1,if_neg h1]
def zPc(S:KS)(v:Int)(f:Fact):KS:=
 match getA S.1 v with
 |none=>(setA S.1 v f,true)
 |some o=>if o=f then S else if o=none then S else(setA S.1 v none,true)
def stepK(S:KS)(p:Int×Int):KS:=match getA S.1 p.2 with
 |some f=>zPc S p.1 f
 |none=>S
def zna(S:KS)(l fr:List Int):KS:=(l.zip fr).foldl stepK S
def numK(F:zT)(v:Int):Int×Bool:=match getA F v with
 |some (some n)=>(n,true)
 |_=>(0,false)
noncomputable def madeK(F:zT)(k op:Int)(a:List Int):Fact:=
 if(numK F (at0 a 0)).2=false then none
 else if k=3 then some (one op (numK F (at0 a 0)).1)
 else if(numK F (at0 a 1)).2=false then none
 else if(two op (numK F (at0 a 0)).1 (numK F (at0 a 1)).1).2 then some (two op (numK F (at0 a 0)).1 (numK F (at0 a 1)).1).1 else none
structure Hd where
 y:List Int
 x:List Int
 l:List Int
def goes0(c:Int×Bool):Bool:= !(c.2&&decide (c.1=0))
def goes1(c:Int×Bool):Bool:= !(c.2&&decide (c.1≠0))
mutual
def passN(F:zT):Node->Bool
 |⟨k,o,n,s,a,us,ps,ks⟩=>
  if k=10 then goes0 (numK F (at0 a 0))&&((passKs F ks)[0]?).getD false||goes1 (numK F (at0 a 0))&&((passKs F ks)[1]?).getD false
  else if k=11 then((lvKs F ks)[0]?).getD false
  else decide (k=12)|| !zj ⟨k,o,n,s,a,us,ps,ks⟩
def passL(F:zT):List Node->Bool
 | []=>true
 |x::r=>passN F x&&passL F r
def passKs(F:zT):List (List Node)->List Bool
 | []=>[]
 |l::r=>(passL F l&&zK l)::passKs F r
def lvN(F:zT):Node->Bool
 |⟨k,o,n,s,a,us,ps,ks⟩=>decide (k=14)||decide (k=10)&&(goes0 (numK F (at0 a 0))&&((lvKs F ks)[0]?).getD false||goes1 (numK F (at0 a 0))&&((lvKs F ks)[1]?).getD false)
def lvL(F:zT):List Node->Bool
 | []=>false
 |x::r=>lvN F x||passN F x&&lvL F r
def lvKs(F:zT):List (List Node)->List Bool
 | []=>[]
 |l::r=>lvL F l::lvKs F r
end
def yldL(F:zT)(l:List Node):Bool:=passL F l&&zK l
theorem passKs_eq(F:zT):∀l:List (List Node),passKs F l=l.map (yldL F)
 | []=>rfl
 |l::r=>by rw[passKs,passKs_eq F r];rfl
theorem lvKs_eq(F:zT):∀l:List (List Node),lvKs F l=l.map (lvL F)
 | []=>rfl
 |l::r=>by rw[lvKs,lvKs_eq F r];rfl
mutual
noncomputable def zOc:Node->Hd->KS->KS×Bool
 |⟨k,o,n,s,a,us,ps,ks⟩,h,S=>
  if k=1\/k=2 then(zPc S (at0 us 0) (some n),true)
  else if k=3\/k=4 then(zPc S (at0 us 0) (madeK S.1 k o a),true)
  else if k=10 then zfb ks {h with y:=us} (numK S.1 (at0 a 0)) true S false
  else if k=11 then(zXd ks ⟨[],ps,us⟩ (zna S ps a),((lvKs (zXd ks ⟨[],ps,us⟩ (zna S ps a)).1 ks)[0]?).getD false)
  else if k=12 then(zna S h.y a,false)
  else if k=13 then(zna S h.x a,false)
  else if k=14 then(zna S h.l a,false)
  else(us.foldl (fun S v=>zPc S v none) S, !zj ⟨k,o,n,s,a,us,ps,ks⟩)
noncomputable def zdb:List Node->Hd->KS->KS
 | [],h,S=>S
 |x::r,h,S=>if(zOc x h S).2 then zdb r h (zOc x h S).1 else(zOc x h S).1
noncomputable def zfb:List (List Node)->Hd->Int×Bool->Bool->KS->Bool->KS×Bool
 | [],h,c,b,S,g=>(S,g)
 |l::r,h,c,b,S,g=>if(if b then goes0 c else goes1 c)then zfb r h c false (zdb l h S) (g||yldL (zdb l h S).1 l)else zfb r h c false S g
noncomputable def zXd:List (List Node)->Hd->KS->KS
 | [],h,S=>S
 |l::_,h,S=>zdb l h S
end
def lev(F:zT)(v:Int):Nat:=match getA F v with
 |none=>2
 |some (some _)=>1
 |some none=>0
def levs(m:Nat)(F:zT):Nat:=((yI m).map fun(i:Nat)=>lev F (i:Int)).sum
theorem sum_le_of(m:Nat)(f g:Nat->Nat)(h:∀i,i<m->f i<=g i):((yI m).map f).sum<=((yI m).map g).sum:=by
 induction m with
 |zero=>simp
 |succ m ih=>
  rw[yRa,yAa,yAa,yWa,yWa];have:=ih (fun i hi=>h i (by omega));have:=h m (by omega);simp;omega
theorem sum_lt_of(m:Nat)(f g:Nat->Nat)(h:∀i,i<m->f i<=g i)(k:Nat)(hk:k<m)(hf:f k<g k):((yI m).map f).sum<((yI m).map g).sum:=by
 induction m with
 |zero=>omega
 |succ m ih=>
  rw[yRa,yAa,yAa,yWa,yWa];have hm:=h m (by omega);by_cases hkm:k=m
  ·subst hkm;have:=sum_le_of k f g (fun i hi=>h i (by omega));simp;omega
  ·have:=ih (fun i hi=>h i (by omega)) (by omega);simp;omega
structure Up(m:Nat)(S S':KS):Prop where
 le:∀v,lev S'.1 v<=lev S.1 v
 flag:S.2=true->S'.2=true
 up:S'.2=true->S.2=true\/levs m S'.1<levs m S.1
 same:S'.2=false->S'=S
theorem Up.refl(m:Nat)(S:KS):Up m S S:=⟨fun v=>yh _,id,fun h=> .inl h,fun _=>rfl⟩
theorem levs_le{m:Nat}{F F':zT}(h:∀v,lev F' v<=lev F v):levs m F'<=levs m F:=sum_le_of m _ _ (fun i _=>h i)
theorem Up.trans{m:Nat}{S S' S'':KS}(h:Up m S S')(h':Up m S' S''):Up m S S'':=by
 refine⟨fun v=>yqa (h'.le v) (h.le v),fun e=>h'.flag (h.flag e),fun e=>?_,fun e=>?_⟩
 ·rcases h'.up e with h1|h1
  ·rcases h.up h1 with h2|h2
   ·exact .inl h2
   ·exact .inr (Nat.lt_of_le_of_lt (levs_le h'.le) h2)
  ·exact .inr (Nat.lt_of_lt_of_le h1 (levs_le h.le))
 ·have e1:=h'.same e;rw[e1]at e ⊢;exact h.same e
theorem lev_set(F:zT)(v w:Int)(f:Fact):lev (setA F v f) w=if w=v then(match f with
 |some _=>1
 |none=>0)else lev F w:=by
 unfold lev;rw[getA_setA];by_cases h:w=v
 ·rw[if_pos h,if_pos h];cases f<;>rfl
 ·rw[if_neg h,if_neg h]
theorem meetK_up{m:Nat}(S:KS){v:Int}(hv:0<=v/\v<m)(f:Fact):Up m S (zPc S v f):=by
 have step:∀g:Fact,(∀t:Nat,(match g with|some _=>1|none=>0)=t->t<lev S.1 v)->Up m S (setA S.1 v g,true):=by
  intro g hg;have hlt:=hg _ rfl;have hle:∀w,lev (setA S.1 v g) w<=lev S.1 w:=by
   intro w;rw[lev_set];by_cases h:w=v
   ·rw[if_pos h,h];exact Nat.le_of_lt hlt
   ·rw[if_neg h];exact yh _
  refine⟨hle,fun _=>rfl,fun _=> .inr ?_,fun h=>by cases h⟩;refine sum_lt_of m _ _ (fun i _=>hle i) v.toNat (by omega) ?_;have e:((v.toNat:Nat):Int)=v:=by omega
  rw[e,lev_set,if_pos rfl];exact hlt
 unfold zPc;split
 ·rename_i hn;refine step f (fun t ht=>?_);have:lev S.1 v=2:=by unfold lev;rw[hn]
  rw[this,<-ht];cases f<;>simp
 ·rename_i o ho;split
  ·exact Up.refl m S
  ·split
   ·exact Up.refl m S
   ·rename_i h1 h2;refine step none (fun t ht=>?_);have:lev S.1 v=1:=by
     unfold lev;rw[ho];cases o with
     |none=>exact absurd rfl h2
     |some z=>rfl
    rw[this,<-ht];simp
theorem foldl_up{α:Type}{m:Nat}(g:KS->α->KS):∀(l:List α) (S:KS),(∀S x,x∈l->Up m S (g S x))->Up m S (l.foldl g S)
 | [],S,h=>Up.refl m S
 |x::r,S,h=>(h S x (by simp)).trans (foldl_up g r (g S x) (fun S y hy=>h S y (by simp[hy])))
theorem meetsK_up{m:Nat}(S:KS){l fr:List Int}(h:inR m l):Up m S (zna S l fr):=by
 refine foldl_up _ _ _ (fun S p hp=>?_);have hp1:p.1∈l:=(List.of_mem_zip hp).1;unfold stepK;split
 ·exact meetK_up S (h _ hp1) _
 ·exact Up.refl m S
def HdR(m:Nat)(h:Hd):Prop:=inR m h.y/\inR m h.x/\inR m h.l
mutual
theorem nodeK_up{u:Unt}{m:Nat}:∀(x:Node) (p:Pl) (h:Hd) (S:KS),okN u m p x->HdR m h->Up m S (zOc x h S).1
 |⟨k,o,n,s,a,us,ps,ks⟩,p,h,S,hx,hh=>by
  rw[okN]at hx;obtain⟨ho,hk⟩:=hx;have h12:=ho.k12;have h3:=ho.k3;have h4:=ho.k4;have hu:=ho.outs;have hp:=ho.prs;simp only at h12 h3 h4 hu hp;have at1:us.length=1->0<=at0 us 0/\at0 us 0<m:=by
   intro hl
   match us,hl with
   | [v],_=>exact hu v (by simp)
  rw[zOc];split
  ·rename_i c;exact meetK_up S (at1 (h12 c)) _
  split
  ·rename_i c;refine meetK_up S (at1 ?_) _;rcases c with c|c
   ·exact(h3 c).2
   ·exact(h4 c).2
  split
  ·exact choiceK_up ks _ _ _ _ S _ hk ⟨hu,hh.2.1,hh.2.2⟩
  split
  ·exact(meetsK_up S hp).trans (loopK_up ks _ _ _ hk ⟨zbc m,hp,hu⟩)
  split
  ·exact meetsK_up S hh.1
  split
  ·exact meetsK_up S hh.2.1
  split
  ·exact meetsK_up S hh.2.2
  ·exact foldl_up _ _ _ (fun S v hv=>meetK_up S (hu v hv) none)
theorem listK_up{u:Unt}{m:Nat}:∀(l:List Node) (p:Pl) (h:Hd) (S:KS),okL u m p l->HdR m h->Up m S (zdb l h S)
 | [],p,h,S,hx,hh=>by rw[zdb];exact Up.refl m S
 |x::r,p,h,S,hx,hh=>by
  rw[okL]at hx;rw[zdb];have h1:=nodeK_up x p h S hx.1 hh;split
  ·exact h1.trans (listK_up r p h _ hx.2.2 hh)
  ·exact h1
theorem choiceK_up{u:Unt}{m:Nat}:∀(ks:List (List Node)) (p:Pl) (h:Hd) (c:Int×Bool) (b:Bool) (S:KS) (g:Bool),okK u m p ks->HdR m h->Up m S (zfb ks h c b S g).1
 | [],p,h,c,b,S,g,hx,hh=>by rw[zfb];exact Up.refl m S
 |l::r,p,h,c,b,S,g,hx,hh=>by
  rw[okK]at hx;rw[zfb];by_cases hc:(if b then goes0 c else goes1 c)=true
  ·rw[if_pos hc];exact(listK_up l p h S hx.1.2 hh).trans (choiceK_up r p h c false _ _ hx.2 hh)
  ·rw[if_neg hc];exact choiceK_up r p h c false S g hx.2 hh
theorem loopK_up{u:Unt}{m:Nat}:∀(ks:List (List Node)) (p:Pl) (h:Hd) (S:KS),okK u m p ks->HdR m h->Up m S (zXd ks h S)
 | [],p,h,S,hx,hh=>by rw[zXd];exact Up.refl m S
 |l::r,p,h,S,hx,hh=>by
  rw[okK]at hx;rw[zXd];exact listK_up l p h S hx.1.2 hh
end
def hd0:Hd:=⟨[],[],[]⟩
theorem hd0_r(m:Nat):HdR m hd0:=⟨zbc m,zbc m,zbc m⟩
def zRb(k:Nat):zT:=(yI k).map fun(i:Nat)=>((i:Int),none)
noncomputable def roundsK(l:List Node):Nat->zT->zT
 |0,F=>F
 |w+1,F=>if(zdb l hd0 (F,false)).2 then roundsK l w (zdb l hd0 (F,false)).1 else(zdb l hd0 (F,false)).1
noncomputable def zsc(f:Flow):zT:=roundsK f.body (2*f.types.length+1) (zRb f.params.toNat)
theorem levs_bound(m:Nat)(F:zT):levs m F<=2*m:=by
 have h:levs m F<=((yI m).map fun _=>2).sum:=sum_le_of m _ _ (fun i _=>by unfold lev;split<;>omega);have e:∀m:Nat,((yI m).map fun _=>2).sum=2*m:=by
  intro m
  induction m with
  |zero=>rfl
  |succ m ih=>rw[yRa,yAa,yWa,ih];simp;omega
 rw[e]at h;exact h
def zM:Fact->PV
 |none=> .agg [.bool true,.int .i64 0]
 |some n=> .agg [.bool false,.int .i64 n]
def zfe(F:zT):List (PV×PV):=F.map fun p=>(.int .i64 p.1,zM p.2)
def kst(S:KS)(τ:zc):zc:= .mp (zfe S.1):: .arr 2 [.agg [.mp 0,.bool S.2]]::τ
theorem find_facts:∀(F:zT) (v:Int),zha false (.int .i64 v) (zfe F)=some ((getA F v).map zM)
 | [],v=>rfl
 |p::r,v=>by
  have ih:=find_facts r v;unfold zfe at ih ⊢;rw[yq,zha,getA];by_cases h:v=p.1
  ·simp[zwc,h]
  ·simp[zwc,h,ih]
theorem set_facts:∀(F:zT) (v:Int) (f:Fact),zLb false (.int .i64 v) (zM f) (zfe F)=some (zfe (setA F v f))
 | [],v,f=>rfl
 |p::r,v,f=>by
  have ih:=set_facts r v f;unfold zfe at ih ⊢;rw[yq,zLb,setA];by_cases h:v=p.1
  ·simp[zwc,h]
  ·simp[zwc,h,ih]
theorem meetk_spec(S:KS)(v:Int)(f:Fact)(τ:zc):zk E 125 [.ptr 1 0 0,.int .i64 v,zM f] (kst S τ)=some (.ret (.tup []),kst (zPc S v f) τ):=by
 obtain⟨F,b⟩:=S;refine zb rfl rfl rfl (by cases f<;>simp[zM]) ?_;have hf:=find_facts F v;have hs:=fun g=>set_facts F v g
 unfold zPc;cases hg:getA F v with
 |none=>
  rw[hg]at hf;have hs:=hs f;simp only;generalize setA F v f=F' at*;cases f with
  |none=>simp[zM]at hf hs;simp[*,F125,kst,zM,zC,zra]
  |some n=>simp[zM]at hf hs;simp[*,F125,kst,zM,zC,zra]
 |some o=>
  rw[hg]at hf;simp only;have hs0:=hs none;clear hs;generalize setA F v none=F' at*;cases o with
  |none=>
   cases f with
   |none=>simp[zM]at hf hs0;simp[*,F125,kst,zM,zC,zra]
   |some n=>simp[zM]at hf hs0;simp[*,F125,kst,zM,zC,zra]
  |some z=>
   cases f with
   |none=>simp[zM]at hf hs0;simp[*,F125,kst,zM,zC,zra]
   |some n=>
    simp[zM]at hf hs0;by_cases h:z=n
    ·subst h;simp[*,F125,kst,zM,zC,zra]
    ·simp[*,F125,kst,zM,zC,zra]
theorem zgc(S:KS)(v:Int)(τ:zc):zk E 102 [.ptr 1 0 0,.int .i64 v] (kst S τ)=some (.ret (.tup [.int .i64 (numK S.1 v).1,.bool (numK S.1 v).2]),kst S τ):=by
 obtain⟨F,b⟩:=S;refine zb rfl rfl rfl (by simp) ?_;have hf:=find_facts F v;unfold numK;cases hg:getA F v with
 |none=>rw[hg]at hf;simp[zM]at hf;simp[*,F102,kst,zM]
 |some o=>
  rw[hg]at hf;cases o with
  |none=>simp[zM]at hf;simp[*,F102,kst,zM]
  |some z=>simp[zM]at hf;simp[*,F102,kst,zM]
theorem zVd(S:KS)(l fr:List Int)(τ:zc)(hl:l.length=fr.length)(hz:l.length<1099511627776):zk E 129 [.ptr 1 0 0,ints l,ints fr] (kst S τ)=some (.ret (.tup []),kst (zna S l fr) τ):=by
 refine zb rfl rfl rfl (by simp) ?_;simp[F129,ints];refine zn (l.zip fr) K129_0 B129_0 (fun d=>[(12,.int .i64 d.length)]) (fun d=>kst (d.foldl stepK S) τ) (fun _=>True) (by simp;omega) (by simp) ?_ ?_
 ·rintro d ⟨v,w⟩ r s hl' hlt hget hget' hw hp h1 h2 h3 h4
  simp at h1 h3;clear h2;obtain⟨g1,g2⟩:=zip_get (d:=l) hget;have hlt1:d.length<l.length:=by simp at hlt;omega
  have hlt2:d.length<fr.length:=by omega
  have g1':l[d.length]=v:=by simpa[hlt1]using g1
  have g2':fr[d.length]=w:=by simpa[hlt2]using g2
  rw[yOa];generalize hS:d.foldl stepK S=S1 at*;obtain⟨F,b⟩:=S1;have hf:=find_facts F w;clear hget hget' hl';rw[yR,yUa];cases hg:getA F w with
  |none=>
   have e:stepK (F,b) (v,w)=(F,b):=by simp[stepK,hg]
   rw[e];rw[hg]at hf;simp[zM]at hf;simp[*,kst,zM]
  |some f=>
   have e:stepK (F,b) (v,w)=zPc (F,b) v f:=by simp[stepK,hg]
   rw[e];rw[hg]at hf;have hm:=meetk_spec (F,b) v f τ;generalize zPc (F,b) v f=S2 at*;clear e;obtain⟨F2,b2⟩:=S2;cases f with
   |none=>simp[zM,kst]at hf hm;simp[*,kst,zM]
   |some z=>simp[zM,kst]at hf hm;simp[*,kst,zM]
 ·intros s hp h1 h2 h3 h4;simp at h1 h3;have hlen:l.length=(l.zip fr).length:=by simp;omega
  (simp[*,zna])<;>(repeat' (first|((first|refine sP _ ?_ ?_|refine gP _ ?_ ?_|refine sN _ ?_ ?_|refine gN _ ?_ ?_)<;>intro hc<;>(first|replace hc:=eqn hc|replace hc:=eqp hc)<;>simp[*,zna])|((first|refine sM _ ?_ ?_|refine gM _ ?_ ?_|refine sB _ ?_ ?_|refine gB _ ?_ ?_)<;>intro hc<;>simp[*,zna])))
theorem madek_spec(S:KS)(x:Node)(τ:zc)(hk:x.kind=3/\x.args.length=1\/x.kind=4/\x.args.length=2):
  zk E 126 [.ptr 1 0 0,zy x] (kst S τ)=some (.ret (zM (madeK S.1 x.kind x.op x.args)),kst S τ):=by
 refine zb rfl rfl rfl (by simp[za]) ?_;rcases hk with⟨hk,hl⟩|⟨hk,hl⟩
 ·match ha:x.args,hl with
  | [a],_=>
   have n1:=zgc S a τ;have e0:at0 [a] 0=a:=rfl;have h1:=one_spec x.op (numK S.1 a).1 [];unfold madeK;rw[e0];generalize numK S.1 a=q at*;obtain⟨q1,q2⟩:=q;cases q2
   ·simp[*,F126,za,ints,zM]
   ·simp[*,F126,za,ints,zM]
 ·match ha:x.args,hl with
  | [a,b],_=>
   have n1:=zgc S a τ;have n2:=zgc S b τ;have e0:at0 [a,b] 0=a:=rfl;have e1:at0 [a,b] 1=b:=rfl;have h1:=two_spec x.op (numK S.1 a).1 (numK S.1 b).1 [];unfold madeK;rw[e0,e1];generalize numK S.1 a=q at*;generalize numK S.1 b=z at*;obtain⟨q1,q2⟩:=q;obtain⟨z1,z2⟩:=z;simp only at h1;generalize two x.op q1 z1=t at*;obtain⟨t1,t2⟩:=t;cases q2
   ·simp[*,F126,za,ints,zM]
   ·cases z2
    ·simp[*,F126,za,ints,zM]
    ·cases t2
     ·simp[*,F126,za,ints,zM]
     ·simp[*,F126,za,ints,zM]
def PassSp(x:Node):Prop:=∀(S:KS) (τ:zc),zk E 162 [.ptr 1 0 0,zy x] (kst S τ)=some (.ret (.bool (passN S.1 x)),kst S τ)
def YldSp(l:List Node):Prop:=∀(S:KS) (τ:zc),zk E 148 [.ptr 1 0 0,zh l] (kst S τ)=some (.ret (.bool (yldL S.1 l)),kst S τ)
def LvSp(l:List Node):Prop:=∀(S:KS) (τ:zc),zk E 149 [.ptr 1 0 0,zh l] (kst S τ)=some (.ret (.bool (lvL S.1 l)),kst S τ)
theorem passN_eq(F:zT)(x:Node):passN F x=if x.kind=10 then goes0 (numK F (at0 x.args 0))&&((x.kids.map (yldL F))[0]?).getD false||goes1 (numK F (at0 x.args 0))&&((x.kids.map (yldL F))[1]?).getD false
  else if x.kind=11 then((x.kids.map (lvL F))[0]?).getD false else decide (x.kind=12)|| !zj x:=by
 cases x;rw[passN,passKs_eq,lvKs_eq]
theorem lvN_eq(F:zT)(x:Node):lvN F x=(decide (x.kind=14)||decide (x.kind=10)&&(goes0 (numK F (at0 x.args 0))&&((x.kids.map (lvL F))[0]?).getD false||goes1 (numK F (at0 x.args 0))&&((x.kids.map (lvL F))[1]?).getD false)):=by
 cases x;rw[lvN,lvKs_eq]
theorem pass_of{x:Node}(hw:wtN x<1099511627776)(h10:x.kind=10->x.args.length=1/\x.kids.length=2)(h11:x.kind=11->x.kids.length=1)(hy:x.kind=10->∀l∈x.kids,YldSp l)(hl:x.kind=11->∀l∈x.kids,LvSp l):PassSp x:=by
 intro S τ;refine zb rfl rfl rfl (by simp[za]) ?_;rw[passN_eq];have hc:=zeb x [] hw;by_cases k10:x.kind=10
 ·obtain⟨ha,hk⟩:=h10 k10;have hy:=hy k10
  match ha':x.args,ha with
  | [a],_=>
   match hk':x.kids,hk with
   | [l0,l1],_=>
    rw[hk']at hy;have y0:=hy l0 (by simp) S τ;have y1:=hy l1 (by simp) S τ;have n1:=zgc S a τ;have e0:at0 [a] 0=a:=rfl;have r0:(([l0,l1].map (yldL S.1))[0]?).getD false=yldL S.1 l0:=rfl;have r1:(([l0,l1].map (yldL S.1))[1]?).getD false=yldL S.1 l1:=rfl;rw[e0,r0,r1];clear r0 r1;generalize numK S.1 a=q at*;obtain⟨c,ok⟩:=q;generalize yldL S.1 l0=b0 at*;generalize yldL S.1 l1=b1 at*;clear hy hl h10 h11 hc;simp[zh]at y0 y1;by_cases c0:c=0
    ·subst c0;cases ok<;>cases b0<;>cases b1<;>simp[*,F162,za,ints,kids,zh,goes0,goes1]
    ·cases ok<;>cases b0<;>cases b1<;>simp[*,F162,za,ints,kids,zh,goes0,goes1]
 ·by_cases k11:x.kind=11
  ·have hk:=h11 k11;have hl:=hl k11
   match hk':x.kids,hk with
   | [l0],_=>
    rw[hk']at hl;have y0:=hl l0 (by simp) S τ;clear hy hl h10 h11 hc;simp[zh]at y0;simp[*,F162,za,ints,kids,zh]
  ·simp[za]at hc;clear hy hl h10 h11;by_cases k12:x.kind=12
   ·simp[*,F162,za]
   ·simp[*,F162,za]
theorem passL_append(F:zT):∀(a b:List Node),passL F (a++b)=(passL F a&&passL F b)
 | [],b=>by simp[passL]
 |x::r,b=>by rw[yaa,passL,passL_append F r b,passL,Bool.and_assoc]
theorem yld_of{l:List Node}(hw:wtL l<1099511627776)(hne:l≠ [])(hp:∀x∈l,PassSp x):YldSp l:=by
 intro S τ;refine zb rfl rfl rfl (by simp) ?_;have hll:=zsb l;simp[F148,zh];refine zn l K148_0 B148_0 (fun d=>[(9,.int .i64 d.length)]) (fun _=>kst S τ) (fun d=>passL S.1 d=true) (by omega) (by simp[passL]) ?_ ?_
 ·intros d x r s hl' hlt hget hget' hwr hpd h1 h2 h3 h4;simp at h1 h3;clear h2;have hs:=hp x hl'.mem S τ;have happ:=passL_append S.1 d [x];have hxx:passL S.1 [x]=passN S.1 x:=by simp[passL]
  rw[hpd,hxx]at happ;have hfalse:passN S.1 x=false->yldL S.1 l=false:=by
   intro h;unfold yldL;rw[hl'.eq,passL_append,passL,h];simp
  clear hp;simp[za]at hs;cases hb:passN S.1 x
  ·have hf:=hfalse hb;rw[hb]at hs;clear happ hfalse
   (simp[*,za])<;>(repeat' (first|((first|refine sP _ ?_ ?_|refine gP _ ?_ ?_|refine sN _ ?_ ?_|refine gN _ ?_ ?_)<;>intro hc<;>(first|replace hc:=eqn hc|replace hc:=eqp hc)<;>simp[*,za])|((first|refine sM _ ?_ ?_|refine gM _ ?_ ?_|refine sB _ ?_ ?_|refine gB _ ?_ ?_)<;>intro hc<;>simp[*,za])))
  ·rw[hb]at hs happ;clear hfalse
   (simp[*,za])<;>(repeat' (first|((first|refine sP _ ?_ ?_|refine gP _ ?_ ?_|refine sN _ ?_ ?_|refine gN _ ?_ ?_)<;>intro hc<;>(first|replace hc:=eqn hc|replace hc:=eqp hc)<;>simp[*,za])|((first|refine sM _ ?_ ?_|refine gM _ ?_ ?_|refine sB _ ?_ ?_|refine gB _ ?_ ?_)<;>intro hc<;>simp[*,za])))
 ·intros s hpd h1 h2 h3 h4;simp at h1 h3;clear h2;have hy:yldL S.1 l=zK l:=by unfold yldL;rw[hpd];rfl
  rw[hy];rcases yT l with rfl|⟨d,x,rfl⟩
  ·exact absurd rfl hne
  ·have hwr:zY .i64 (d.length:Int)=d.length:=zq (by omega) (by rw[yZ,yK]at hll;rw[yZ]at hw;omega);clear hp hne hy;simp at h1 h3;have hp:(0:Int)<d.length+1:=by omega
   (simp[*,zh,zK,za])<;>(repeat' (first|((first|refine sP _ ?_ ?_|refine gP _ ?_ ?_|refine sN _ ?_ ?_|refine gN _ ?_ ?_)<;>intro hc<;>(first|replace hc:=eqn hc|replace hc:=eqp hc)<;>simp[*,zh,zK,za])|((first|refine sM _ ?_ ?_|refine gM _ ?_ ?_|refine sB _ ?_ ?_|refine gB _ ?_ ?_)<;>intro hc<;>simp[*,zh,zK,za])))
set_option maxHeartbeats 4000000 in
theorem lv_of{l:List Node}(hw:wtL l<1099511627776)(hp:∀x∈l,PassSp x)(h10:∀x∈l,x.kind=10->x.args.length=1/\x.kids.length=2)(hk:∀x∈l,x.kind=10->∀q∈x.kids,LvSp q):LvSp l:=by
 intro S τ;refine zb rfl rfl rfl (by simp) ?_;have hll:=zsb l;simp[F149,zh];have hdrop:∀(d r:List Node),(∀x∈d,lvN S.1 x=false/\passN S.1 x=true)->lvL S.1 (d++r)=lvL S.1 r:=by
  intro d r
  induction d with
  |nil=>intro _;rfl
  |cons x d ih=>
   intro h;obtain⟨h1,h2⟩:=h x (by simp);rw[yaa,lvL,h1,h2,ih (fun y hy=>h y (by simp[hy]))];rfl
 refine zn l K149_0 B149_0 (fun d=>[(11,.int .i64 d.length)]) (fun _=>kst S τ) (fun d=>∀x∈d,lvN S.1 x=false/\passN S.1 x=true) (by omega) (by simp) ?_ ?_
 ·intros d x r s hl' hlt hget hget' hwr hpd h1 h2 h3 h4;simp at h1 h3;clear h2;have hx:=hl'.mem;have hs:=hp x hx S τ;have e:lvL S.1 l=(lvN S.1 x||passN S.1 x&&lvL S.1 r):=by rw[hl'.eq,hdrop d _ hpd,lvL]
  have hnext:lvN S.1 x=false->passN S.1 x=true->∀y∈d++[x],lvN S.1 y=false/\passN S.1 y=true:=by
   intro q1 q2 y hy;rcases yA.1 hy with hy|hy
   ·exact hpd y hy
   ·simp at hy;rw[hy];exact⟨q1,q2⟩
  have h10:=h10 x hx;have hk:=hk x hx;have hlv:=lvN_eq S.1 x;clear hp hdrop hpd;simp[za,ints]at hs;by_cases k14:x.kind=14
  ·have e1:lvN S.1 x=true:=by rw[hlv];simp[k14]
   rw[e1]at e;simp at e;clear hlv hnext hk h10
   (simp[*,za,ints])<;>(repeat' (first|((first|refine sP _ ?_ ?_|refine gP _ ?_ ?_|refine sN _ ?_ ?_|refine gN _ ?_ ?_)<;>intro hc<;>(first|replace hc:=eqn hc|replace hc:=eqp hc)<;>simp[*,za,ints])|((first|refine sM _ ?_ ?_|refine gM _ ?_ ?_|refine sB _ ?_ ?_|refine gB _ ?_ ?_)<;>intro hc<;>simp[*,za,ints])))
  ·by_cases k10:x.kind=10
   ·obtain⟨ha,hkl⟩:=h10 k10;have hk:=hk k10
    match ha':x.args,ha with
    | [a],_=>
     match hk':x.kids,hkl with
     | [l0,l1],_=>
      rw[hk']at hk;have y0:=hk l0 (by simp) S τ;have y1:=hk l1 (by simp) S τ;have n1:=zgc S a τ;rw[ha',hk']at hlv hs;have e0:at0 [a] 0=a:=rfl;rw[e0]at hlv;simp[k10]at hlv;simp[ints,kids,k10,zh]at hs;generalize numK S.1 a=q at*;obtain⟨c,ok⟩:=q;generalize lvL S.1 l0=b0 at*;generalize lvL S.1 l1=b1 at*;generalize lvN S.1 x=lv at*;generalize passN S.1 x=ps at*;subst hlv;clear hk h10 hkl;simp[zh]at y0 y1;by_cases c0:c=0
      ·subst c0;cases ok<;>cases b0<;>cases b1<;>cases ps<;>simp[goes0,goes1]at e<;>simp[*,za,ints,kids,zh]<;>(intro y hy;exact hnext (by simp[goes0,goes1]) rfl y (by simpa using hy))
      ·cases ok<;>cases b0<;>cases b1<;>cases ps<;>simp[goes0,goes1,c0]at e<;>simp[*,za,ints,kids,zh]<;>(intro y hy;exact hnext (by simp[goes0,goes1,c0]) rfl y (by simpa using hy))
   ·have e1:lvN S.1 x=false:=by rw[hlv];simp[k14,k10]
    rw[e1]at e hnext;simp at e;clear hlv hk h10;cases hb:passN S.1 x
    ·rw[hb]at e hs;simp at e;clear hnext;simp[*,za,ints]
    ·rw[hb]at e hs hnext;clear e;simp[*,za,ints];intro y hy;exact hnext rfl rfl y (by simpa using hy)
 ·intros s hpd h1 h2 h3 h4;simp at h1 h3;have e:lvL S.1 l=false:=by
   have:=hdrop l [] hpd;rw[yIa]at this;rw[this,lvL]
  clear hp hdrop hpd hk h10;simp[*]
theorem okL_mem{u:Unt}{m:Nat}{p:Pl}:∀{l:List Node},okL u m p l->∀x∈l,okN u m p x
 | [],_,x,hx=>by cases hx
 |y::r,h,x,hx=>by
  rw[okL]at h;rcases yG.1 hx with rfl|hx
  ·exact h.1
  ·exact okL_mem h.2.2 x hx
theorem pass_all(u:Unt)(m:Nat):∀(N:Nat),N<1099511627776→
  (∀(x:Node) (p:Pl),wtN x<=N->okN u m p x->PassSp x)/\(∀(l:List Node) (p:Pl),wtL l<=N->okL u m p l->(l≠ []->YldSp l)/\LvSp l):=by
 intro N
 induction N using yfa with
 |ind N ih=>
  intro hN;have hnode:∀(x:Node) (p:Pl),wtN x<=N->okN u m p x->PassSp x:=by
   intro x p hx hok;rw[zkd]at hok;obtain⟨ho,hk⟩:=hok;have kid:∀l∈x.kids,YldSp l/\LvSp l:=by
    intro l hl;have hw:=zEb hl;obtain⟨h1,h2⟩:=zYb hk l hl;have:=(ih (wtL l) (by omega) (by omega)).2 l _ (yh _) h2;exact⟨this.1 h1,this.2⟩
   exact pass_of (by omega) ho.k10 (fun h=>(ho.k11 h).2) (fun _ l hl=>(kid l hl).1) (fun _ l hl=>(kid l hl).2)
  refine⟨hnode,fun l p hl hok=>?_⟩;have hn:∀x∈l,PassSp x:=by
   intro x hx;have:=zZc hx;exact(ih (wtN x) (by omega) (by omega)).1 x p (yh _) (okL_mem hok x hx)
  refine⟨fun hne=>yld_of (by omega) hne hn,lv_of (by omega) hn (fun x hx h=>?_) (fun x hx h q hq=>?_)⟩
  ·have:=okL_mem hok x hx;rw[zkd]at this;exact this.1.k10 h
  ·have:=okL_mem hok x hx;rw[zkd]at this;obtain⟨h1,h2⟩:=zYb this.2 q hq;have w1:=zZc hx;have w2:=zEb hq;exact((ih (wtL q) (by omega) (by omega)).2 q _ (yh _) h2).2
def zBb(h:Hd):PV:= .agg [ints h.y,ints h.x,ints h.l]
def HdOk(p:Pl)(h:Hd):Prop:=(∀n,p.y=some n->h.y.length=n)/\(∀n,p.x=some n->h.x.length=n)/\(∀n,p.l=some n->h.l.length=n)
def NodeSp(x:Node)(h:Hd):Prop:=∀(S:KS) (τ:zc),zk E 99 [.ptr 1 0 0,zy x,zBb h] (kst S τ)=some (.ret (.bool (zOc x h S).2),kst (zOc x h S).1 τ)
def ListSp(l:List Node)(h:Hd):Prop:=∀(S:KS) (τ:zc),zk E 75 [.ptr 1 0 0,zh l,zBb h] (kst S τ)=some (.ret (.tup []),kst (zdb l h S) τ)
theorem nodeK_eq(x:Node)(h:Hd)(S:KS):zOc x h S=
  if x.kind=1\/x.kind=2 then(zPc S (at0 x.outs 0) (some x.n),true)
  else if x.kind=3\/x.kind=4 then(zPc S (at0 x.outs 0) (madeK S.1 x.kind x.op x.args),true)
  else if x.kind=10 then zfb x.kids {h with y:=x.outs} (numK S.1 (at0 x.args 0)) true S false
  else if x.kind=11 then(zXd x.kids ⟨[],x.params,x.outs⟩ (zna S x.params x.args),((lvKs (zXd x.kids ⟨[],x.params,x.outs⟩ (zna S x.params x.args)).1 x.kids)[0]?).getD false)
  else if x.kind=12 then(zna S h.y x.args,false)
  else if x.kind=13 then(zna S h.x x.args,false)
  else if x.kind=14 then(zna S h.l x.args,false)
  else(x.outs.foldl (fun S v=>zPc S v none) S, !zj x):=by
 cases x;rw[zOc]
theorem listK_append:∀(d r:List Node) (h:Hd) (S T:KS),(d.foldl (fun q x=>(if q.2 then((zOc x h q.1).1,(zOc x h q.1).2)else q)) (S,true))=(T,true)->zdb (d++r) h S=zdb r h T
 | [],r,h,S,T,e=>by simp at e;rw[e];rfl
 |x::d,r,h,S,T,e=>by
  rw[yR]at e;rw[yaa,zdb];cases hb:(zOc x h S).2
  ·simp[hb]at e;exfalso;have:∀(d:List Node) (T':KS),(d.foldl (fun q x=>(if q.2 then((zOc x h q.1).1,(zOc x h q.1).2)else q)) (T',false)).2=false:=by
    intro d
    induction d with
    |nil=>intro T';rfl
    |cons y d ih=>intro T';simp[ih]
   have h2:=this d (zOc x h S).1;rw[e]at h2;cases h2
  ·rw[if_pos rfl];simp only[if_true,hb]at e;exact listK_append d r h _ T e
theorem listK_of{l:List Node}{h:Hd}(hw:wtL l<1099511627776)(hp:∀x∈l,NodeSp x h):ListSp l h:=by
 intro S τ;refine zb rfl rfl rfl (by simp[zBb]) ?_;have hll:=zsb l;simp[F75,zh,zBb];generalize hg:(fun(q:KS×Bool) (x:Node)=>(if q.2 then((zOc x h q.1).1,(zOc x h q.1).2)else q))=g;refine zn l K75_0 B75_0 (fun d=>[(10,.int .i64 d.length)]) (fun d=>kst (d.foldl g (S,true)).1 τ) (fun d=>(d.foldl g (S,true)).2=true) (by omega) (by simp) ?_ ?_
 ·intros d x r s hl' hlt hget hget' hwr hpd h1 h2 h3 h4;simp at h1 h2 h3;rw[yOa,yR,yUa];have e:=listK_append d (x::r) h S (d.foldl g (S,true)).1 (by rw[hg];exact Prod.ext rfl hpd);rw[<-hl'.eq,zdb]at e;generalize hT:d.foldl g (S,true)=T at*;obtain⟨T,b⟩:=T;simp only at hpd;subst hpd;have hs:=hp x hl'.mem T τ;have eg:g (T,true) x=((zOc x h T).1,(zOc x h T).2):=by rw[<-hg];simp
  rw[eg];simp only at e h4;clear hp hT hg eg;generalize zOc x h T=q at*;obtain⟨q1,q2⟩:=q;simp[za,zBb,ints,kids]at hs;cases q2
  ·simp at e;simp[*,za,zBb,ints,kids]
  ·clear e;simp[*,za,zBb,ints,kids]
 ·intros s hpd h1 h2 h3 h4;simp at h1 h2 h3;have e:=listK_append l [] h S (l.foldl g (S,true)).1 (by rw[hg];exact Prod.ext rfl hpd);rw[yIa,zdb]at e;rw[e];clear hp hg e;simp[*]
noncomputable def ch0(l:List Node)(h:Hd)(c:Int×Bool)(S:KS):KS×Bool:=if goes0 c then(zdb l h S,yldL (zdb l h S).1 l)else(S,false)
noncomputable def ch1(l:List Node)(h:Hd)(c:Int×Bool)(q:KS×Bool):KS×Bool:=if goes1 c then(zdb l h q.1,q.2||yldL (zdb l h q.1).1 l)else q
theorem choiceK_two(l0 l1:List Node)(h:Hd)(c:Int×Bool)(S:KS):zfb [l0,l1] h c true S false=ch1 l1 h c (ch0 l0 h c S):=by
 simp only[zfb,ch0,ch1,if_true,yKa];cases goes0 c<;>cases goes1 c<;>simp
set_option maxHeartbeats 4000000 in
theorem choiceK_of{x:Node}{h:Hd}(ha:x.args.length=1)(hk:x.kids.length=2)(hw:wtN x<1099511627776)(hl:∀l∈x.kids,ListSp l {h with y:=x.outs})(hy:∀l∈x.kids,YldSp l)(S:KS)(τ:zc):
  zk E 127 [.ptr 1 0 0,zy x,zBb h] (kst S τ)=some (.ret (.bool (zfb x.kids {h with y:=x.outs} (numK S.1 (at0 x.args 0)) true S false).2),kst (zfb x.kids {h with y:=x.outs} (numK S.1 (at0 x.args 0)) true S false).1 τ):=by
 refine zb rfl rfl rfl (by simp[za,zBb]) ?_
 match ha':x.args,ha with
 | [a],_=>
  match hk':x.kids,hk with
  | [l0,l1],_=>
   rw[hk']at hl hy;have e0:at0 [a] 0=a:=rfl;have n1:=zgc S a τ;have a0:=hl l0 (by simp) S τ;have y0:=hy l0 (by simp) (zdb l0 {h with y:=x.outs} S) τ;have A1:=hl l1 (by simp);have Y1:=hy l1 (by simp);have w1:zY .i64 1=1:=zq (by omega) (by omega);have w2:zY .i64 2=2:=zq (by omega) (by omega);rw[e0,choiceK_two];generalize numK S.1 a=q at*;obtain⟨c,ok⟩:=q;have k0:ch0 l0 {h with y:=x.outs} (c,ok) S=if goes0 (c,ok)then(zdb l0 {h with y:=x.outs} S,yldL (zdb l0 {h with y:=x.outs} S).1 l0)else(S,false):=rfl
   have k1:∀q,ch1 l1 {h with y:=x.outs} (c,ok) q=if goes1 (c,ok)then(zdb l1 {h with y:=x.outs} q.1,q.2||yldL (zdb l1 {h with y:=x.outs} q.1).1 l1)else q:=fun q=>rfl
   simp[zh,zBb,ints]at a0 y0;clear hl hy e0;simp[F127,za,zBb,ints,kids,zh,n1,ha',hk'];refine zn [l0,l1] K127_0 B127_0 (fun d=>[(9,.bool (match d with
     | []=>false
     | [_]=>(ch0 l0 {h with y:=x.outs} (c,ok) S).2
     |_=>(ch1 l1 {h with y:=x.outs} (c,ok) (ch0 l0 {h with y:=x.outs} (c,ok) S)).2)),(27,.int .i64 d.length)])
    (fun d=>match d with
     | []=>kst S τ
     | [_]=>kst (ch0 l0 {h with y:=x.outs} (c,ok) S).1 τ
     |_=>kst (ch1 l1 {h with y:=x.outs} (c,ok) (ch0 l0 {h with y:=x.outs} (c,ok) S)).1 τ) (fun _=>True) (by simp) (by simp) ?_ ?_
   ·intros d y r s hl' hlt hget hget' hwr hpd h1 h2 h3 h4;simp at h1 h2 h3;have he:=hl'.eq;clear hget hget' hl' n1
    match d,he with
    | [],he=>
     simp at he;obtain⟨rfl,rfl⟩:=he;simp only[List.nil_append];rw[k0];clear A1 Y1 k0 k1;simp at h3 h4;by_cases c0:c=0
     ·subst c0;cases ok<;>simp[goes0]<;>simp[*,zBb,ints]
     ·cases ok<;>simp[goes0,c0]<;>simp[*,zBb,ints]
    | [z],he=>
     simp at he;obtain⟨rfl,rfl,rfl⟩:=he;simp only[yaa,List.nil_append];rw[k1];simp only at h3 h4;clear k0 k1 a0 y0;generalize ch0 l0 {h with y:=x.outs} (c,ok) S=q at*;obtain⟨T,g0⟩:=q;have a1:=A1 T τ;have y1:=Y1 (zdb l1 {h with y:=x.outs} T) τ;simp[zh,zBb,ints]at a1 y1;clear A1 Y1;simp at h3 h4;by_cases c0:c=0
     ·subst c0;cases ok<;>cases g0<;>simp[goes1]<;>simp[*,zBb,ints]
     ·cases ok<;>cases g0<;>simp[goes1,c0]<;>simp[*,zBb,ints]
    |z::z'::d,he=>simp at he
   ·intros s hpd h1 h2 h3 h4;simp at h1 h2 h3 h4;clear A1 Y1 k0 k1 a0 y0 n1;simp[*]
theorem zMa{x:Node}(h10:x.kind≠10)(h11:x.kind≠11):zj x=(decide (12<=x.kind)&&decide (x.kind<=15)):=by
 unfold zj;rw[if_neg (by intro h;exact h10 h.1),if_neg (by intro h;exact h11 h.1)];rfl
theorem loopK_of{x:Node}(ha:x.args.length=x.params.length)(hk:x.kids.length=1)(hw:wtN x<1099511627776)(hl:∀l∈x.kids,ListSp l ⟨[],x.params,x.outs⟩)(hv:∀l∈x.kids,LvSp l)(S:KS)(τ:zc):
  zk E 128 [.ptr 1 0 0,zy x] (kst S τ)=some (.ret (.bool (((lvKs (zXd x.kids ⟨[],x.params,x.outs⟩ (zna S x.params x.args)).1 x.kids)[0]?).getD false)),kst (zXd x.kids ⟨[],x.params,x.outs⟩ (zna S x.params x.args)) τ):=by
 refine zb rfl rfl rfl (by simp[za]) ?_;have hxk:=zwa x
 match hk':x.kids,hk with
 | [l0],_=>
  rw[hk']at hl hv;have m1:=zVd S x.params x.args τ ha.symm (by omega);have a0:=hl l0 (by simp) (zna S x.params x.args) τ;have y0:=hv l0 (by simp) (zdb l0 ⟨[],x.params,x.outs⟩ (zna S x.params x.args)) τ;have e:((lvKs (zXd [l0] ⟨[],x.params,x.outs⟩ (zna S x.params x.args)).1 [l0])[0]?).getD false=lvL (zdb l0 ⟨[],x.params,x.outs⟩ (zna S x.params x.args)).1 l0:=rfl;have e2:zXd [l0] ⟨[],x.params,x.outs⟩ (zna S x.params x.args)=zdb l0 ⟨[],x.params,x.outs⟩ (zna S x.params x.args):=by rw[zXd]
  rw[e,e2];generalize zdb l0 ⟨[],x.params,x.outs⟩ (zna S x.params x.args)=T at*;generalize lvL T.1 l0=b at*;clear e e2 hl hv hxk;simp[ints,zh,zBb]at m1 a0 y0;simp[*,F128,za,zBb,ints,kids,zh]
set_option maxHeartbeats 4000000 in
theorem nodek_of{u:Unt}{m:Nat}{p:Pl}{x:Node}{h:Hd}(ho:okH u m p x)(hh:HdOk p h)(hw:wtN x<1099511627776)
  (hch:x.kind=10->∀(S:KS) (τ:zc),zk E 127 [.ptr 1 0 0,zy x,zBb h] (kst S τ)=some (.ret (.bool (zfb x.kids {h with y:=x.outs} (numK S.1 (at0 x.args 0)) true S false).2),kst (zfb x.kids {h with y:=x.outs} (numK S.1 (at0 x.args 0)) true S false).1 τ))
  (hlp:x.kind=11->∀(S:KS) (τ:zc),zk E 128 [.ptr 1 0 0,zy x] (kst S τ)=some (.ret (.bool (((lvKs (zXd x.kids ⟨[],x.params,x.outs⟩ (zna S x.params x.args)).1 x.kids)[0]?).getD false)),kst (zXd x.kids ⟨[],x.params,x.outs⟩ (zna S x.params x.args)) τ)):NodeSp x h:=by
 intro S τ;refine zb rfl rfl rfl (by simp[za,zBb]) ?_;have hc:=zeb x [] hw;have hxk:=zwa x;rw[nodeK_eq];obtain⟨K,hK⟩:∃K,x.kind=K:=⟨_,rfl⟩
 by_cases k12:K=1\/K=2
 ·rw[if_pos (by rw[hK];exact k12)];have hl:=ho.k12 (by rw[hK];exact k12);rw[zMa (by omega) (by omega)]at hc
  match hu:x.outs,hl with
  | [v],_=>
   have m1:=meetk_spec S v (some x.n) τ;have e0:at0 [v] 0=v:=rfl;rw[e0];generalize zPc S v (some x.n)=T at*;clear hch hlp ho hh hxk e0;simp[zM]at m1;rcases k12 with k|k<;>subst k<;>simp[za,hK,hu,ints]at hc<;>simp[*,F99,za,zBb,ints]
 rw[if_neg (by rw[hK];exact k12)];by_cases k34:K=3\/K=4
 ·rw[if_pos (by rw[hK];exact k34)];rw[zMa (by omega) (by omega)]at hc;have hmk:=fun hk=>madek_spec S x τ hk
  have hal:(x.kind=3/\x.args.length=1\/x.kind=4/\x.args.length=2)/\x.outs.length=1:=by
   rcases k34 with k|k<;>subst k
   ·have:=ho.k3 hK;exact⟨.inl ⟨hK,this.1⟩,this.2⟩
   ·have:=ho.k4 hK;exact⟨.inr ⟨hK,this.1⟩,this.2⟩
  have hmk:=hmk hal.1
  match hu:x.outs,hal.2 with
  | [v],_=>
   have m1:=meetk_spec S v (madeK S.1 x.kind x.op x.args) τ;have e0:at0 [v] 0=v:=rfl;rw[e0];rw[hK]at hmk m1 ⊢;generalize hG:madeK S.1 K x.op x.args=g at*;generalize zPc S v g=T at*;clear hch hlp ho hh hxk e0 hG hal;simp[za,hK,hu,ints]at hmk;rcases k34 with k|k<;>subst k<;>simp[za,hK,hu,ints]at hc<;>cases g<;>simp[zM]at m1 hmk<;>simp[*,F99,za,zBb,ints]
 rw[if_neg (by rw[hK];exact k34)];by_cases k10:K=10
 ·rw[if_pos (by rw[hK];exact k10)];have hch:=hch (by rw[hK];exact k10) S τ;generalize zfb x.kids {h with y:=x.outs} (numK S.1 (at0 x.args 0)) true S false=q at*;subst k10;clear hlp ho hh hxk hc;simp[za,zBb,hK,ints,kids]at hch;simp[*,F99,za,zBb,ints,kids]
 rw[if_neg (by rw[hK];exact k10)];by_cases k11:K=11
 ·rw[if_pos (by rw[hK];exact k11)];have hlp:=hlp (by rw[hK];exact k11) S τ;generalize((lvKs (zXd x.kids ⟨[],x.params,x.outs⟩ (zna S x.params x.args)).1 x.kids)[0]?).getD false=b at*;generalize zXd x.kids ⟨[],x.params,x.outs⟩ (zna S x.params x.args)=T at*;subst k11;clear hch ho hh hxk hc;simp[za,hK,ints,kids]at hlp;simp[*,F99,za,zBb,ints,kids]
 rw[if_neg (by rw[hK];exact k11)];rw[zMa (by omega) (by omega)]at hc;by_cases c12:K=12
 ·rw[if_pos (by rw[hK];exact c12)];have m1:=zVd S h.y x.args τ (hh.1 _ (ho.k12' (by rw[hK];exact c12))) (by rw[hh.1 _ (ho.k12' (by rw[hK];exact c12))];omega);generalize zna S h.y x.args=T at*;subst c12;clear hch hlp ho hh hxk;simp[ints]at m1;simp[za,hK,ints]at hc;simp[*,F99,za,zBb,ints]
 rw[if_neg (by rw[hK];exact c12)];by_cases c13:K=13
 ·rw[if_pos (by rw[hK];exact c13)];have m1:=zVd S h.x x.args τ (hh.2.1 _ (ho.k13 (by rw[hK];exact c13))) (by rw[hh.2.1 _ (ho.k13 (by rw[hK];exact c13))];omega);generalize zna S h.x x.args=T at*;subst c13;clear hch hlp ho hh hxk;simp[ints]at m1;simp[za,hK,ints]at hc;simp[*,F99,za,zBb,ints]
 rw[if_neg (by rw[hK];exact c13)];by_cases c14:K=14
 ·rw[if_pos (by rw[hK];exact c14)];have m1:=zVd S h.l x.args τ (hh.2.2 _ (ho.k14 (by rw[hK];exact c14))) (by rw[hh.2.2 _ (ho.k14 (by rw[hK];exact c14))];omega);generalize zna S h.l x.args=T at*;subst c14;clear hch hlp ho hh hxk;simp[ints]at m1;simp[za,hK,ints]at hc;simp[*,F99,za,zBb,ints]
 rw[if_neg (by rw[hK];exact c14)];rw[zMa (by omega) (by omega)];have hol:x.outs.length<1099511627776:=by omega
 have hcl:=eqn k10;have hcl1:(K=1)=False:=eqn (by omega);have hcl2:(K=2)=False:=eqn (by omega);have hcl3:(K=3)=False:=eqn (by omega);have hcl4:(K=4)=False:=eqn (by omega);have hcl11:=eqn k11;have hc12:=eqn c12;have hc13:=eqn c13;have hc14:=eqn c14;have hmt:=fun S v=>meetk_spec S v none τ
 rw[hK]at hc ⊢;generalize hB:(decide (12<=K)&&decide (K<=15))=B at*;clear hch hlp ho hh hxk hB k12 k34 k10 k11 c12 c13 c14;simp[za,hK,ints,kids]at hc;simp[*,F99,za,zBb,ints,kids];refine zn x.outs K99_0 B99_0 (fun d=>[(14,.int .i64 d.length)]) (fun d=>kst (d.foldl (fun S v=>zPc S v none) S) τ) (fun _=>True) (by omega) (by simp) ?_ ?_
 ·intros d y r s hl' hlt hget hget' hwr hpd h1 h2 h3 h4;simp at h1 h2 h3;have m1:=hmt (d.foldl (fun S v=>zPc S v none) S) y;rw[yOa,yR,yUa];generalize d.foldl (fun S v=>zPc S v none) S=T at*;generalize zPc T y none=T' at*;clear hmt hl';simp[zM]at m1;simp[*]
 ·intros s hpd h1 h2 h3 h4;simp at h1 h2 h3;clear hmt;simp[*]
theorem study_all(u:Unt)(m:Nat):∀(N:Nat),N<1099511627776→
  (∀(x:Node) (p:Pl) (h:Hd),wtN x<=N->okN u m p x->HdOk p h->NodeSp x h)/\(∀(l:List Node) (p:Pl) (h:Hd),wtL l<=N->okL u m p l->HdOk p h->ListSp l h):=by
 intro N
 induction N using yfa with
 |ind N ih=>
  intro hN;refine⟨fun x p h hx hok hh=>?_,fun l p h hl hok hh=>?_⟩
  ·rw[zkd]at hok;obtain⟨ho,hk⟩:=hok;have pa:=fun q (hq:q∈x.kids)=>(pass_all u m (wtL q) (by have:=zEb hq;omega)).2 q _ (yh _) (zYb hk q hq).2
   have kid:∀(h':Hd),HdOk (plIn p x.kind x.outs x.params) h'->∀q∈x.kids,ListSp q h':=by
    intro h' hh' q hq;have hw:=zEb hq;exact(ih (wtL q) (by omega) (by omega)).2 q _ h' (yh _) (zYb hk q hq).2 hh'
   refine nodek_of ho hh (by omega) (fun h10=>?_) (fun h11=>?_)
   ·have h1:=ho.k10 h10;refine choiceK_of h1.1 h1.2 (by omega) (kid _ ?_) (fun q hq=>(pa q hq).1 (zYb hk q hq).1);rw[h10];refine⟨fun n hn=>?_,hh.2.1,hh.2.2⟩;simp only[plIn]at hn;rw[if_neg (by omega)]at hn;simpa using hn
   ·have h1:=ho.k11 h11;refine loopK_of h1.1 h1.2 (by omega) (kid _ ?_) (fun q hq=>(pa q hq).2);rw[h11];simp only[plIn,if_true];refine⟨?_,?_,?_⟩
    ·intro n hn;cases hn
    ·intro n hn;simpa using hn
    ·intro n hn;simpa using hn
  ·refine listK_of (by omega) (fun x hx=>?_);have:=zZc hx;exact(ih (wtN x) (by omega) (by omega)).1 x p h (yh _) (okL_mem hok x hx) hh
theorem setA_new{α:Type}:∀(F:List (Int×α)) (v:Int) (f:α),getA F v=none->setA F v f=F++[(v,f)]
 | [],v,f,_=>rfl
 |p::r,v,f,h=>by
  rw[getA]at h;split at h
  ·cases h
  ·rename_i hc;rw[setA,if_neg hc,setA_new r v f h];rfl
theorem getA_first:∀(k:Nat) (v:Int),getA (zRb k) v=if 0<=v/\v<k then some none else none
 |0,v=>by
  have:¬(0<=v/\v<((0:Nat):Int)):=by omega
  rw[if_neg this];rfl
 |k+1,v=>by
  have e:zRb (k+1)=zRb k++[((k:Int),none)]:=by simp[zRb,yRa]
  have app:∀(F:zT) (p:Int×Fact),getA (F++[p]) v=match getA F v with
   |some f=>some f
   |none=>if v=p.1 then some p.2 else none:=by
   intro F p
   induction F with
   |nil=>simp[getA]
   |cons q r ih=>
    rw[yaa,getA,getA];split
    ·rfl
    ·exact ih
  rw[e,app,getA_first k v];by_cases h:0<=v/\v<(k:Int)
  ·rw[if_pos h];simp only;rw[if_pos (by omega)]
  ·rw[if_neg h];simp only;by_cases h2:v=(k:Int)
   ·rw[if_pos h2,if_pos (by omega)]
   ·rw[if_neg h2,if_neg (by omega)]
theorem first12_succ(k:Nat):zRb (k+1)=setA (zRb k) (k:Int) none:=by
 rw[setA_new _ _ _ (by rw[getA_first,if_neg (by omega)])];simp[zRb,yRa]
theorem studied_spec{u:Unt}{p:Pl}(f:Flow)(hp:0<=f.params/\f.params<=f.types.length)(ht:f.types.length<=20000)(hw:wtL f.body<1099511627776)(hok:okL u f.types.length p f.body)(hh:HdOk p hd0):
  zk E 50 [zd f] []=some (.ret (.ptr 1 0 0),kst (zsc f,false) []):=by
 refine zb rfl rfl rfl (by simp[zd]) ?_;obtain⟨k,hk⟩:∃k:Nat,f.params=k:=⟨f.params.toNat,by omega⟩
 have hl:=(study_all u f.types.length (wtL f.body) hw).2 f.body p hd0 (yh _) hok hh;simp[F50,zd,hk];refine zn (yI k) K50_0 B50_0 (fun d=>[(10,.int .i64 d.length)]) (fun d=>kst (zRb d.length,false) []) (fun _=>True) (by simp;omega) (by simp[kst,zfe,zRb]) ?_ ?_
 ·intros d x r s hl' hlt hget hget' hwr hpd h1 h2 h3 h4;simp at h1 h2 h3 hlt;have hs:=set_facts (zRb d.length) (d.length:Int) none;rw[<-first12_succ]at hs;simp[zM]at hs;clear hl' hget hget' hl;simp[*,kst]
 ·intros s hpd h1 h2 h3 h4;simp at h1 h2 h3 h4;simp[*,kst,zC,zra];refine wp_while K50_1 B50_1 (fun c:KS=>if c.2 then levs f.types.length c.1+1 else 0) (fun _=>[]) (fun _=>[]) (fun c=>kst c [])
   (fun c=>if c.2 then∃w,levs f.types.length c.1<w/\roundsK f.body w c.1=zsc f else c.1=zsc f) (zRb k,true) ?_ ?_
  ·refine⟨by simp,by simp,by simp[kst],?_⟩;simp only[if_true];refine⟨2*f.types.length+1,?_,?_⟩
   ·have:=levs_bound f.types.length (zRb k);omega
   ·unfold zsc;rw[hk];rfl
  ·rintro⟨F,b⟩ s1 hP g1 g2 g3 g4 g5
   simp at g1 g2 g3 g4 g5;cases b
   ·simp at hP;clear hl;simp[*,kst]
   ·simp only[if_true]at hP;obtain⟨w,hw1,hw2⟩:=hP;cases w with
    |zero=>omega
    |succ w=>
     rw[roundsK]at hw2;have hup:=listK_up f.body p hd0 (F,false) hok (hd0_r _);have hl:=hl (F,false) [];generalize zdb f.body hd0 (F,false)=q at*;obtain⟨G,b⟩:=q;have hfin:(if b=true then levs f.types.length G+1 else 0)<levs f.types.length F+1/\(if b=true then∃w,levs f.types.length G<w/\roundsK f.body w G=zsc f else G=zsc f):=by
      cases b
      ·simp at hw2 ⊢;exact hw2
      ·simp only[if_true]at hw2 ⊢;rcases hup.up rfl with h|h
       ·cases h
       ·have h:levs f.types.length G<levs f.types.length F:=h;exact⟨by omega,w,by omega,hw2⟩
     clear hw2 hup;simp[kst,zBb,hd0,ints]at hl;simp[*,kst,zC,zra,zBb,ints];refine⟨G,?_⟩;cases b
     ·exact .inl ⟨⟨rfl,rfl⟩,by simpa using hfin.2⟩
     ·have h1:=hfin.1;have h2:=hfin.2;simp only[if_true]at h1 h2;exact .inr ⟨by omega,⟨rfl,rfl⟩,h2⟩
mutual
def zVa:Node->Node
 |⟨k,o,n,s,a,us,ps,ks⟩=>if zj ⟨k,o,n,s,a,us,ps,zCb ks⟩then⟨k,o,n,s,a,[],ps,zCb ks⟩else⟨k,o,n,s,a,us,ps,zCb ks⟩
def zL:List Node->List Node
 | []=>[]
 |x::r=>if zj (zVa x)then[zVa x]else zVa x::zL r
def zCb:List (List Node)->List (List Node)
 | []=>[]
 |l::r=>zL l::zCb r
end
theorem tidyKs_eq:∀l:List (List Node),zCb l=l.map zL
 | []=>rfl
 |x::r=>by rw[zCb,tidyKs_eq r];rfl
theorem closed_outs(x:Node)(us:List Int):zj {x with outs:=us}=zj x:=by cases x;rfl
theorem closed_args(x:Node)(us:List Int):zj {x with args:=us}=zj x:=by cases x;rfl
theorem tidyN_eq(x:Node):zVa x={x with outs:=(if zj {x with kids:=x.kids.map zL}then[]else x.outs),kids:=x.kids.map zL}:=by
 cases x;rw[zVa,tidyKs_eq];simp only;split<;>rfl
theorem tidyN_closed(x:Node):zj (zVa x)=zj {x with kids:=x.kids.map zL}:=by
 rw[tidyN_eq];rfl
theorem tidyN_kind(x:Node):(zVa x).kind=x.kind:=by rw[tidyN_eq]
theorem tidyN_args(x:Node):(zVa x).args=x.args:=by rw[tidyN_eq]
theorem closed_12{x:Node}(h:x.kind=12):zj x=true:=by
 rw[zMa (by omega) (by omega),h];rfl
theorem tidyL_mem:∀{l:List Node} {z:Node},z∈zL l->∃x∈l,z=zVa x
 | [],z,h=>by rw[zL]at h;cases h
 |x::r,z,h=>by
  rw[zL]at h;split at h
  ·simp at h;exact⟨x,by simp,h⟩
  ·rcases yG.1 h with h|h
   ·exact⟨x,by simp,h⟩
   ·obtain⟨y,hy,e⟩:=tidyL_mem h;exact⟨y,by simp[hy],e⟩
theorem tidyL_ne:∀{l:List Node},l≠ []->zL l≠ []
 | [],h=>absurd rfl h
 |x::r,_=>by rw[zL];split<;>simp
theorem tidyL_init:∀(l:List Node),∀z∈(zL l).dropLast,zj z=false
 | [],z,h=>by rw[zL]at h;cases h
 |x::r,z,h=>by
  rw[zL]at h;split at h
  ·cases h
  ·rename_i hc;cases hr:zL r with
   |nil=>rw[hr]at h;cases h
   |cons y s=>
    rw[hr,List.dropLast_cons_cons]at h;rcases yG.1 h with rfl|h
    ·simpa using hc
    ·exact tidyL_init r z (by rw[hr];exact h)
abbrev Tos:=List (Int×Int)
def valW(T:Tos)(l:List Int):List Int:=l.map fun v=>(getA T v).getD v
def setsW(T:Tos)(l n:List Int):Tos:=(l.zip n).foldl (fun T p=>setA T p.1 p.2) T
def zqd(op:Int):Bool:=decide (op=22)||decide (12<=op)&&decide (op<=17)
def sumW(F:zT)(x:Node):Node:=if(numK F (at0 x.outs 0)).2 then⟨if zqd x.op then 2 else 1,0,(numK F (at0 x.outs 0)).1,[],[],x.outs,[],[]⟩else x
def zGc(us:List Int)(q:List Node×Tos):List Node×Tos:=match q.1.getLast? with
 |some e=>if e.kind=12 then(q.1.dropLast,setsW q.2 us e.args)else q
 |none=>q
def zH(l:List Node):Bool:=match l.getLast? with
 |some e=>zj e
 |none=>false
mutual
def wrN(F:zT):Node->Tos->List Node×Tos
 |⟨k,o,n,s,a,us,ps,ks⟩,T=>
  if k=3\/k=4 then([sumW F ⟨k,o,n,s,valW T a,us,ps,ks⟩],T)
  else if k=10 then
   if(numK F (at0 a 0)).2 then zGc us (zob F ks (decide ((numK F (at0 a 0)).1≠0)) T)
   else([⟨k,o,n,s,valW T a,us,ps,(wrKs F ks T).1⟩],(wrKs F ks T).2)
  else if k=11 then([⟨k,o,n,s,valW T a,us,ps,(wrKs F ks T).1⟩],(wrKs F ks T).2)
  else([⟨k,o,n,s,valW T a,us,ps,ks⟩],T)
def wrGo(F:zT):List Node->Tos->List Node×Tos
 | [],T=>([],T)
 |x::r,T=>if zH (wrN F x T).1 then wrN F x T else((wrN F x T).1++(wrGo F r (wrN F x T).2).1,(wrGo F r (wrN F x T).2).2)
def wrKs(F:zT):List (List Node)->Tos->List (List Node)×Tos
 | [],T=>([],T)
 |l::r,T=>(zL (wrGo F l T).1::(wrKs F r (wrGo F l T).2).1,(wrKs F r (wrGo F l T).2).2)
def zob(F:zT):List (List Node)->Bool->Tos->List Node×Tos
 | [],b,T=>([],T)
 |l::r,b,T=>if b then(zL (wrGo F l T).1,(wrGo F l T).2)else zob F r true T
end
def wrL(F:zT)(l:List Node)(T:Tos):List Node×Tos:=(zL (wrGo F l T).1,(wrGo F l T).2)
theorem wrN_eq(F:zT)(x:Node)(T:Tos):wrN F x T=
  if x.kind=3\/x.kind=4 then([sumW F {x with args:=valW T x.args}],T)
  else if x.kind=10 then
   if(numK F (at0 x.args 0)).2 then zGc x.outs (zob F x.kids (decide ((numK F (at0 x.args 0)).1≠0)) T)
   else([{x with args:=valW T x.args,kids:=(wrKs F x.kids T).1}],(wrKs F x.kids T).2)
  else if x.kind=11 then([{x with args:=valW T x.args,kids:=(wrKs F x.kids T).1}],(wrKs F x.kids T).2)
  else([{x with args:=valW T x.args}],T):=by
 cases x;rw[wrN]
noncomputable def flowK(f:Flow):Flow:={f with body:=(wrL (zsc f) f.body []).1}
noncomputable def zic(u:Unt):Unt:=⟨u.arrays,u.flows.map flowK⟩
structure WN(p:Pl)(x:Node)(ns:List Node):Prop where
 yl:∀z∈ns,z.kind=12->x.kind=12/\p.y=some z.args.length
 ne:zj x=true->ns≠ []
structure WL(p:Pl)(l ns:List Node):Prop where
 yl:∀z∈ns,z.kind=12->zK l=true/\p.y=some z.args.length
 ne:ns≠ []
theorem WL.tidy{p:Pl}{l ns:List Node}(h:WL p l ns):WL p l (zL ns):=by
 refine⟨fun z hz hk=>?_,tidyL_ne h.ne⟩;obtain⟨x,hx,rfl⟩:=tidyL_mem hz;rw[tidyN_kind]at hk;rw[tidyN_args];exact h.yl x hx hk
theorem takenW_wn{p':Pl}{l ns:List Node}{us:List Int}{T:Tos}(h:WL p' l (zL ns)):
  (∀z∈(zGc us (zL ns,T)).1,z.kind≠12)/\(zK l=false->(zGc us (zL ns,T)).1≠ []):=by
 have hi:=tidyL_init ns;unfold zGc;rcases yT (zL ns)with he|⟨d,e,he⟩
 ·exact absurd he h.ne
 ·rw[he]at hi h ⊢;simp only[yZ,List.getLast?_concat,yCa]at hi h ⊢;have hd:∀z∈d,z.kind≠12:=by
   intro z hz hk;have:=hi z hz;rw[closed_12 hk]at this;cases this
  by_cases hk:e.kind=12
  ·rw[if_pos hk];refine⟨hd,fun hy=>?_⟩;have:=(h.yl e (by simp) hk).1;rw[hy]at this;cases this
  ·rw[if_neg hk];refine⟨fun z hz=>?_,fun _=>by simp⟩;rcases yA.1 hz with hz|hz
   ·exact hd z hz
   ·simp at hz;rw[hz];exact hk
theorem valW_len(T:Tos)(l:List Int):(valW T l).length=l.length:=by simp[valW]
theorem wl_cons{p:Pl}{x:Node}{r ns ms:List Node}(h:WN p x ns)(hr:r=[]->ms=[])(hl:r≠ []->WL p r ms)(hx:zj x=r.isEmpty):WL p (x::r) (ns++ms):=by
 refine⟨fun z hz hk=>?_,?_⟩
 ·rcases yA.1 hz with hz|hz
  ·obtain⟨h1,h2⟩:=h.yl z hz hk;have hc:=closed_12 h1;rw[hx]at hc;have:r=[]:=by simpa using hc
   subst this;exact⟨by simp[zK,h1],h2⟩
  ·cases r with
   |nil=>rw[hr rfl]at hz;cases hz
   |cons y s=>
    obtain⟨h1,h2⟩:=(hl (by simp)).yl z hz hk;refine⟨?_,h2⟩;have:zK (x::y::s)=zK (y::s):=by simp[zK]
    rw[this];exact h1
 ·cases r with
  |nil=>
   have:=h.ne (by rw[hx];rfl);simp[this]
  |cons y s=>
   have:=(hl (by simp)).ne;simp[this]
theorem wl_cut{p:Pl}{x:Node}{r ns:List Node}(h:WN p x ns)(hn:ns≠ [])(hx:zj x=r.isEmpty):WL p (x::r) ns:=by
 refine⟨fun z hz hk=>?_,hn⟩;obtain⟨h1,h2⟩:=h.yl z hz hk;have hc:=closed_12 h1;rw[hx]at hc;have:r=[]:=by simpa using hc
 subst this;exact⟨by simp[zK,h1],h2⟩
mutual
theorem wrN_wn{u:Unt}{m:Nat}(F:zT):∀(x:Node) (p:Pl) (T:Tos),okN u m p x->WN p x (wrN F x T).1
 |⟨k,o,n,s,a,us,ps,ks⟩,p,T,hok=>by
  rw[okN]at hok;obtain⟨ho,hk⟩:=hok;rw[wrN];split
  ·rename_i c;refine⟨fun z hz hk=>?_,fun _=>by simp⟩;simp at hz;subst hz;unfold sumW at hk;simp only at hk;split at hk
   ·simp only at hk;split at hk<;>simp at hk
   ·simp only at hk;omega
  ·rename_i c;split
   ·rename_i c10;split
    ·have hl:=wrPick_wl F ks (plIn p k us ps) (decide ((numK F (at0 a 0)).1≠0)) T hk (by
      have:=(ho.k10 c10).2;simp only at this;intro h;rw[h]at this;simp at this) (by
      have:=(ho.k10 c10).2;simp only at this;intro _ l h;rw[h]at this;simp at this)
     obtain⟨l,hm,ns,T',hq,hwl⟩:=hl;rw[hq];obtain⟨h1,h2⟩:=takenW_wn (us:=us) (T:=T') hwl;refine⟨fun z hz hk=>absurd hk (h1 z hz),fun hc=>h2 ?_⟩;have hkl:=(ho.k10 c10).2;simp only at hkl;unfold zj at hc;rw[if_pos ⟨c10,hkl⟩,yi]at hc;have:=hc l hm;simpa using this
    ·refine⟨fun z hz hk=>?_,fun _=>by simp⟩;simp at hz;subst hz;simp only at hk;omega
   ·rename_i c10;split
    ·refine⟨fun z hz hk=>?_,fun _=>by simp⟩;simp at hz;subst hz;simp only at hk;omega
    ·refine⟨fun z hz hk=>?_,fun _=>by simp⟩;simp at hz;subst hz;simp only at hk ⊢;refine⟨hk,?_⟩;rw[valW_len];exact ho.k12' hk
theorem wrGo_wl{u:Unt}{m:Nat}(F:zT):∀(l:List Node) (p:Pl) (T:Tos),okL u m p l->l≠ []->WL p l (wrGo F l T).1
 | [],p,T,hok,hne=>absurd rfl hne
 |x::r,p,T,hok,hne=>by
  rw[okL]at hok;have hn:=wrN_wn F x p T hok.1;rw[wrGo];split
  ·rename_i hc;refine wl_cut hn ?_ hok.2.1;intro h;rw[h]at hc;simp[zH]at hc
  ·refine wl_cons hn (fun h=>?_) (fun h=>wrGo_wl F r p _ hok.2.2 h) hok.2.1;rw[h,wrGo]
theorem wrPick_wl{u:Unt}{m:Nat}(F:zT):∀(ks:List (List Node)) (p:Pl) (b:Bool) (T:Tos),okK u m p ks->ks≠ []->(b=false->∀l,ks≠ [l])→
  ∃l∈ks,∃ns T',zob F ks b T=(zL ns,T')/\WL p l (zL ns)
 | [],p,b,T,hok,hne,_=>absurd rfl hne
 |l::r,p,b,T,hok,hne,hb=>by
  rw[okK]at hok;rw[zob];cases b
  ·simp only[yE,if_false];cases r with
   |nil=>exact absurd rfl (hb rfl l)
   |cons y s=>
    obtain⟨l',h1,h2⟩:=wrPick_wl F (y::s) p true T hok.2 (by simp) (fun h=>by cases h);exact⟨l',by simp[h1],h2⟩
  ·simp only[if_true];exact⟨l,by simp,_,_,rfl,(wrGo_wl F l p T hok.1.2 hok.1.1).tidy⟩
end
mutual
theorem tidyN_wt:∀x:Node,wtN (zVa x)<=wtN x
 |⟨k,o,n,s,a,us,ps,ks⟩=>by
  have h:=tidyKs_wt ks;rw[zVa];split<;>simp only[wtN,yua]<;>omega
theorem tidyL_wt:∀l:List Node,wtL (zL l)<=wtL l
 | []=>by rw[zL];exact yh _
 |x::r=>by
  have h1:=tidyN_wt x;have h2:=tidyL_wt r;rw[zL];split<;>simp only[wtL]<;>omega
theorem tidyKs_wt:∀l:List (List Node),wtK (zCb l)<=wtK l
 | []=>by rw[zCb];exact yh _
 |x::r=>by
  have h1:=tidyL_wt x;have h2:=tidyKs_wt r;rw[zCb];simp only[wtK];omega
end
theorem tidy_spec:∀(N:Nat) (l:List Node) (σ:zc),wtL l<=N->N<1000000000->zk E 78 [zh l] σ=some (.ret (zh (zL l)),σ):=by
 intro N
 induction N using yfa with
 |ind N ih=>
  intro l σ hl hN;refine zb rfl rfl rfl (by simp) ?_;have hll:=zsb l;have hgo:∀(d r:List Node),(∀x∈d,zj (zVa x)=false)->zL (d++r)=d.map zVa++zL r:=by
   intro d r
   induction d with
   |nil=>intro _;rfl
   |cons x d ih=>
    intro h;rw[yaa,zL,if_neg (by rw[h x (by simp)];simp),ih (fun y hy=>h y (by simp[hy]))];rfl
  simp[F78,zh];refine zn l K78_1 B78_1 (fun d=>[(2,acc 8 (d.map fun x=>zy (zVa x))),(11,.int .i64 d.length)]) (fun _=>σ) (fun d=>∀x∈d,zj (zVa x)=false) (by omega) (by simp) ?_ ?_
  ·intros d x r s hl' hlt hget hget' hw hp h1 h2 h3 h4;simp at h1 h3;clear h2;have hx:=hl'.mem;have hwx:=zZc hx;have hxk:=zwa x;have hlk:=len_wtK x.kids;have hk:∀q∈x.kids,zk E 78 [zh q] []=some (.ret (zh (zL q)),[]):=fun q hq=>ih (wtL q) (by have:=zEb hq;omega) q [] (yh _) (by have:=zEb hq;omega)
   have q4:(d.length+1)*136<=zG:=by simp only[zG];omega
   have hkl:x.kids.length<1000000000:=by omega
   have hwt:wtN {x with kids:=x.kids.map zL}<1099511627776:=by
    have:=tidyKs_wt x.kids;rw[tidyKs_eq]at this;rw[zwa];simp only;omega
   have hcl:=zeb {x with kids:=x.kids.map zL} [] hwt;have he:∀r,zL (d++x::r)=d.map zVa++zL (x::r):=fun r=>hgo d (x::r) hp
   have hcut:zj (zVa x)=true->zL l=d.map zVa++[zVa x]:=by
    intro hc;rw[hl'.eq,he,zL,if_pos hc]
   have hnext:zj (zVa x)=false->∀y∈d++[x],zj (zVa y)=false:=by
    intro hc y hy;rcases yA.1 hy with hy|hy
    ·exact hp y hy
    ·simp at hy;rw[hy];exact hc
   have htn:=tidyN_eq x;rw[<-tidyN_closed]at hcl htn;generalize hC:zj (zVa x)=C at*;clear hgo he hl hl' hwx hxk hwt ih hp;simp[za,ints,kids]at hcl;simp[*,za,ints,kids];refine zn x.kids K78_0 B78_0 (fun e=>[(5,acc 1 (e.map (zh ∘ zL))),(18,.int .i64 e.length)]) (fun _=>σ) (fun _=>True) (by omega) (by simp) ?_ ?_
   ·intros e y r' s' hl2 hlt2 hget2 hget2' hw2 hp' k1 k2 k3 k4;simp at k1 k2 k3;have hv:=hk y hl2.mem;have q5:(e.length+1)*24<=zG:=by simp only[zG];omega
    clear hk hcut hnext htn hcl;simp[zh]at hv
    (simp[*,zh,kids,ints])<;>(repeat' (first|((first|refine sP _ ?_ ?_|refine gP _ ?_ ?_|refine sN _ ?_ ?_|refine gN _ ?_ ?_)<;>intro hc<;>(first|replace hc:=eqn hc|replace hc:=eqp hc)<;>simp[*,zh,kids,ints])|((first|refine sM _ ?_ ?_|refine gM _ ?_ ?_|refine sB _ ?_ ?_|refine gB _ ?_ ?_)<;>intro hc<;>simp[*,zh,kids,ints])))
   ·intros s' hp' k1 k2 k3 k4;simp at k1 k2 k3;clear hk;have hm:∀l:List (List Node),l.map (fun y=>zh (zL y))=l.map (zh ∘ zL):=fun l=>rfl
    rcases hkk:x.kids with _|⟨k0,kr⟩
    ·simp only[hkk]at k1 k2 k3 htn hcl;simp at k1 k2 k3 hcl;cases C
     ·simp at hcut htn;simp[*,za,ints,kids]
      all_goals(first|done|(intro y hy;exact hnext rfl y (by simpa using hy)))
     ·simp at hcut htn;clear hnext;simp[*,za,ints,kids]
    ·simp only[hkk]at k1 k2 k3 htn hcl;simp at k1 k2 k3 hcl;cases C
     ·simp at hcut htn;simp[*,za,ints,kids]
      all_goals(first|done|(intro y hy;exact hnext rfl y (by simpa using hy)))
     ·simp at hcut htn;clear hnext;simp[*,za,ints,kids]
  ·intros s hp h1 h2 h3 h4;simp at h1 h3;have e:=hgo l [] hp;rw[yIa,zL,yIa]at e;rw[e];clear hgo
   (simp[*,zh])<;>(repeat' (first|((first|refine sP _ ?_ ?_|refine gP _ ?_ ?_|refine sN _ ?_ ?_|refine gN _ ?_ ?_)<;>intro hc<;>(first|replace hc:=eqn hc|replace hc:=eqp hc)<;>simp[*,zh])|((first|refine sM _ ?_ ?_|refine gM _ ?_ ?_|refine sB _ ?_ ?_|refine gB _ ?_ ?_)<;>intro hc<;>simp[*,zh])))
def encTos(T:Tos):List (PV×PV):=T.map fun p=>(.int .i64 p.1,.int .i64 p.2)
def wst(F:zT)(T:Tos):zc:=kst (F,false) [.mp (encTos T)]
def wrV:PV:= .iptr [.ptr 1 0 0,.mp 2] 0
theorem find_tos:∀(T:Tos) (v:Int),zha false (.int .i64 v) (encTos T)=some ((getA T v).map (PV.int .i64))
 | [],v=>rfl
 |p::r,v=>by
  have ih:=find_tos r v;unfold encTos at ih ⊢;rw[yq,zha,getA];by_cases h:v=p.1
  ·simp[zwc,h]
  ·simp[zwc,h,ih]
theorem set_tos:∀(T:Tos) (v w:Int),zLb false (.int .i64 v) (.int .i64 w) (encTos T)=some (encTos (setA T v w))
 | [],v,f=>rfl
 |p::r,v,f=>by
  have ih:=set_tos r v f;unfold encTos at ih ⊢;rw[yq,zLb,setA];by_cases h:v=p.1
  ·simp[zwc,h]
  ·simp[zwc,h,ih]
theorem values_spec(F:zT)(T:Tos)(l:List Int)(hz:l.length<1000000000):zk E 100 [wrV,ints l] (wst F T)=some (.ret (ints (valW T l)),wst F T):=by
 refine zb rfl rfl rfl (by simp[wrV]) ?_;simp[F100,ints,wrV];refine zn l K100_0 B100_0 (fun d=>[(11,.int .i64 d.length),(4,acc 1 ((valW T d).map (PV.int .i64)))]) (fun _=>wst F T) (fun _=>True) (by omega) (by simp[valW]) ?_ ?_
 ·intros d x r s hl' hlt hget hget' hw hp h1 h2 h3 h4;simp at h1 h3;clear h2;have hf:=find_tos T x;have q4:(d.length+1)*8<=zG:=by simp only[zG];omega
  have e:valW T (d++[x])=valW T d++[(getA T x).getD x]:=by simp[valW]
  have e2:(valW T d).length=d.length:=by simp[valW]
  rw[e];clear hl' hget e;generalize valW T d=D at*;cases hg:getA T x with
  |none=>rw[hg]at hf;simp at hf;simp[*,wst,kst]
  |some v=>rw[hg]at hf;simp at hf;simp[*,wst,kst]
 ·intros s hp h1 h2 h3 h4;simp at h1 h3
  (simp[*])<;>(repeat' (first|((first|refine sP _ ?_ ?_|refine gP _ ?_ ?_|refine sN _ ?_ ?_|refine gN _ ?_ ?_)<;>intro hc<;>(first|replace hc:=eqn hc|replace hc:=eqp hc)<;>simp[*])|((first|refine sM _ ?_ ?_|refine gM _ ?_ ?_|refine sB _ ?_ ?_|refine gB _ ?_ ?_)<;>intro hc<;>simp[*])))
theorem sumw_spec(F:zT)(T:Tos)(x:Node)(ho:x.outs.length=1):zk E 101 [wrV,zy x] (wst F T)=some (.ret (zy (sumW F x)),wst F T):=by
 refine zb rfl rfl rfl (by simp[wrV,za]) ?_
 match hu:x.outs,ho with
 | [v],_=>
  have n1:=zgc (F,false) v [.mp (encTos T)];have e0:at0 [v] 0=v:=rfl;unfold sumW;rw[hu,e0];simp only at n1;generalize numK F v=q at*;obtain⟨c,ok⟩:=q;have hw:kst (F,false) [.mp (encTos T)]=wst F T:=rfl;rw[hw]at n1;cases ok
  ·simp[*,F101,za,ints,kids,wrV]
  ·obtain⟨op,hop⟩:∃op,x.op=op:=⟨_,rfl⟩
   rw[hop];have hc:op=22\/op=12\/op=13\/op=14\/op=15\/op=16\/op=17\/((op=22)=False/\(op=12)=False/\(op=13)=False/\(op=14)=False/\(op=15)=False/\(op=16)=False/\(op=17)=False/\zqd op=false):=by
    by_cases h:op=22\/op=12\/op=13\/op=14\/op=15\/op=16\/op=17
    ·omega
    ·refine .inr (.inr (.inr (.inr (.inr (.inr (.inr ⟨eqn (by omega),eqn (by omega),eqn (by omega),eqn (by omega),eqn (by omega),eqn (by omega),eqn (by omega),?_⟩))))));unfold zqd;simp only[yw,yY,decide_eq_false_iff_not];omega
   rcases hc with h|h|h|h|h|h|h|⟨h1,h2,h3,h4,h5,h6,h7,h8⟩
   all_goals first
    |(subst h;have ht:zqd x.op=true:=by rw[hop];rfl
      rw[hop]at ht;simp[*,F101,za,ints,kids,wrV];done)
    |simp[*,F101,za,ints,kids,wrV]
def ListW(F:zT)(l:List Node):Prop:=∀T,zk E 51 [wrV,zh l] (wst F T)=some (.ret (zh (wrL F l T).1),wst F (wrL F l T).2)
def NodeW(F:zT)(x:Node):Prop:=∀T,zk E 76 [wrV,zy x] (wst F T)=some (.ret (zh (wrN F x T).1),wst F (wrN F x T).2)
theorem pick_two(F:zT)(l0 l1:List Node)(b:Bool)(T:Tos):zob F [l0,l1] b T=if b then wrL F l0 T else wrL F l1 T:=by
 cases b<;>simp[zob,wrL]
theorem taken_spec{F:zT}{p:Pl}{x:Node}{l0 l1:List Node}(hk:x.kids=[l0,l1])(hx:wtN x<1000000000)(h0:ListW F l0)(h1:ListW F l1)(c:Int)(T:Tos)
  (hl:∃l ns,(if decide (c≠0)then wrL F l0 T else wrL F l1 T)=(zL ns,(if decide (c≠0)then wrL F l0 T else wrL F l1 T).2)/\WL p l (zL ns)) (hp:∀n,p.y=some n->n=x.outs.length) (hz:wtL (if decide (c≠0)then wrL F l0 T else wrL F l1 T).1<1000000000):
  zk E 103 [wrV,zy x,.int .i64 c] (wst F T)=some (.ret (zh (zGc x.outs (zob F x.kids (decide (c≠0)) T)).1),wst F (zGc x.outs (zob F x.kids (decide (c≠0)) T)).2):=by
 refine zb rfl rfl rfl (by simp[wrV,za]) ?_;rw[hk,pick_two];have hxk:=zwa x;have h0:=h0 T;have h1:=h1 T;have hcall:zk E 51 [wrV,zh (if decide (c≠0)then l0 else l1)] (wst F T)=some (.ret (zh (if decide (c≠0)then wrL F l0 T else wrL F l1 T).1),wst F (if decide (c≠0)then wrL F l0 T else wrL F l1 T).2):=by
  split<;>assumption
 obtain⟨l,ns,hq,hwl⟩:=hl;generalize(if decide (c≠0)then wrL F l0 T else wrL F l1 T)=q at*;obtain⟨Q,T'⟩:=q;simp only[Prod.mk.injEq,and_true]at hq;rw[<-hq]at hwl;clear hq h0 h1;unfold zGc;rcases yT Q with he|⟨d,e,he⟩
 ·exact absurd he hwl.ne
 ·have hdl:(d.length:Int)+1<=1000000000:=by
   have:=zsb Q;rw[he]at this hz;simp at this;simp at hz;omega
  rw[he]at hcall hwl ⊢;simp only[yZ,List.getLast?_concat,yCa]at hcall hwl ⊢;have hwr:zY .i64 (d.length:Int)=d.length:=zq (by omega) (by omega);have hpos:(0:Int)<d.length+1:=by omega
  by_cases hke:e.kind=12
  ·rw[if_pos hke];have hlen:=hp _ (hwl.yl e (by simp) hke).2;have hol:x.outs.length<1000000000:=by omega
   have hzl:(x.outs.zip e.args).length=x.outs.length:=by simp;omega
   clear hwl hp hxk hx hz;unfold setsW;by_cases c0:c=0
   ·simp[c0,zh,wrV]at hcall;simp[*,F103,za,ints,kids,wrV,zh];refine zn (x.outs.zip e.args) K103_0 B103_0 (fun g=>[(38,.int .i64 g.length)]) (fun g=>wst F (g.foldl (fun T p=>setA T p.1 p.2) T')) (fun _=>True) (by omega) (by simp) ?_ ?_
    ·rintro g ⟨v,w⟩ r s hl' hlt hget hget' hw hp h1 h2 h3 h4
     simp at h1 h2 h3;obtain⟨g1,g2⟩:=zip_get (d:=x.outs) hget;have hlt1:g.length<x.outs.length:=by omega
     have hlt2:g.length<e.args.length:=by omega
     have g1':x.outs[g.length]=v:=by simpa[hlt1]using g1
     have g2':e.args[g.length]=w:=by simpa[hlt2]using g2
     rw[yOa,yR,yUa];generalize g.foldl (fun T p=>setA T p.1 p.2) T'=U at*;have hs:=set_tos U v w;clear hget hget' hl' hcall;simp[*,wst,kst]
    ·intros s hp h1 h2 h3 h4;simp at h1 h2 h3;have hmin:min x.outs.length e.args.length=x.outs.length:=by omega
     rw[hmin]at h3;clear hcall;simp[*]
   ·simp[c0,zh,wrV]at hcall;simp[*,F103,za,ints,kids,wrV,zh];refine zn (x.outs.zip e.args) K103_0 B103_0 (fun g=>[(38,.int .i64 g.length)]) (fun g=>wst F (g.foldl (fun T p=>setA T p.1 p.2) T')) (fun _=>True) (by omega) (by simp) ?_ ?_
    ·rintro g ⟨v,w⟩ r s hl' hlt hget hget' hw hp h1 h2 h3 h4
     simp at h1 h2 h3;obtain⟨g1,g2⟩:=zip_get (d:=x.outs) hget;have hlt1:g.length<x.outs.length:=by omega
     have hlt2:g.length<e.args.length:=by omega
     have g1':x.outs[g.length]=v:=by simpa[hlt1]using g1
     have g2':e.args[g.length]=w:=by simpa[hlt2]using g2
     rw[yOa,yR,yUa];generalize g.foldl (fun T p=>setA T p.1 p.2) T'=U at*;have hs:=set_tos U v w;clear hget hget' hl' hcall;simp[*,wst,kst]
    ·intros s hp h1 h2 h3 h4;simp at h1 h2 h3;have hmin:min x.outs.length e.args.length=x.outs.length:=by omega
     rw[hmin]at h3;clear hcall;simp[*]
  ·rw[if_neg hke];clear hwl hp hxk hx hz;by_cases c0:c=0
   ·simp[c0,zh,wrV]at hcall;simp[*,F103,za,ints,kids,wrV,zh]
   ·simp[c0,zh,wrV]at hcall;simp[*,F103,za,ints,kids,wrV,zh]
theorem checkM_iff(u:Unt):zta u=(0,0)<->zqc u=true/\∀f∈u.flows,zkb u f=true:=by
 rw[check_eq];unfold zmc;rw[rhead_eq];constructor
 ·intro h;split at h
  ·rename_i hh;refine⟨hh,?_⟩;split at h
   ·cases h
   ·rename_i hn;rw[yda]at hn;intro f hf;simpa using hn f hf
  ·cases h
 ·rintro⟨hh,hf⟩
  rw[if_pos hh];have hn:u.flows.findIdx? (fun f=> !zkb u f)=none:=by
   rw[yda];intro f h;simp[hf f h]
  rw[hn]
theorem checkM_fst{u:Unt}(h:(zta u).1=0):zta u=(0,0):=by
 unfold zta at h ⊢;split at h
 ·rename_i hh;rw[if_pos hh];split at h
  ·simp at h
  ·rename_i hn;rfl
 ·simp at h
mutual
def trnN(π:Int->Int):Node->Node
 |⟨k,o,n,s,a,u,p,ks⟩=>⟨k,o,n,s,a.map π,u.map π,p.map π,trnK π ks⟩
def trnL(π:Int->Int):List Node->List Node
 | []=>[]
 |x::r=>trnN π x::trnL π r
def trnK(π:Int->Int):List (List Node)->List (List Node)
 | []=>[]
 |l::r=>trnL π l::trnK π r
end
theorem trnL_eq(π:Int->Int):∀l:List Node,trnL π l=l.map (trnN π)
 | []=>rfl
 |x::r=>by rw[trnL,trnL_eq π r];rfl
theorem trnK_eq(π:Int->Int):∀l:List (List Node),trnK π l=l.map (trnL π)
 | []=>rfl
 |x::r=>by rw[trnK,trnK_eq π r];rfl
theorem trnN_eq(π:Int->Int)(x:Node):trnN π x=⟨x.kind,x.op,x.n,x.name,x.args.map π,x.outs.map π,x.params.map π,x.kids.map (trnL π)⟩:=by
 cases x;rw[trnN,trnK_eq]
theorem trn_yields(π:Int->Int)(l:List Node):zK (trnL π l)=zK l:=by
 unfold zK;rw[trnL_eq,List.getLast?_map];cases l.getLast? with
 |none=>rfl
 |some x=>simp[trnN_eq]
mutual
theorem trn_leavesN(π:Int->Int):∀x:Node,(trnN π x).leaves=x.leaves
 |⟨k,o,n,s,a,u,p,ks⟩=>by rw[trnN,Node.leaves,Node.leaves,trn_leavesK π ks]
theorem trn_leavesL(π:Int->Int):∀l:List Node,zw (trnL π l)=zw l
 | []=>rfl
 |x::r=>by rw[trnL,zw,zw,trn_leavesN π x,trn_leavesL π r]
theorem trn_leavesK(π:Int->Int):∀l:List (List Node),zpa (trnK π l)=zpa l
 | []=>rfl
 |x::r=>by rw[trnK,zpa,zpa,trn_leavesL π x,trn_leavesK π r]
end
theorem trn_closed(π:Int->Int)(x:Node):zj (trnN π x)=zj x:=by
 rw[trnN_eq];simp only[zj,yO,List.all_map,yF,trn_yields,trn_leavesL,Node.ends]
theorem trn_bare(π:Int->Int)(x:Node):zBa (trnN π x)=zBa x:=by
 rw[trnN_eq];simp[zBa]
structure Trn(π:Int->Int)(u u':Unt)(f f':Flow):Prop where
 len:f'.types.length=f.types.length
 rng:∀v:Int,0<=v->v<f.types.length->0<=π v/\π v<f.types.length
 inj:∀v w:Int,0<=v->v<f.types.length->0<=w->w<f.types.length->π v=π w->v=w
 ty:∀v:Int,0<=v->v<f.types.length->at0 f'.types (π v)=at0 f.types v
 rt:f'.type=f.type
 arr:u'.arrays=u.arrays
 pl:∀s,zU u'.flows s=zU u.flows s
 fl:∀(k:Nat) g,u.flows[k]? =some g->∃g',u'.flows[k]? =some g'/\pars g'=pars g/\g'.type=g.type
structure ZR(π:Int->Int)(n:Nat)(Z Z':Set1):Prop where
 l1:Z.length=n
 l2:Z'.length=n
 at':∀v:Int,0<=v->v<n->atB Z' (π v)=atB Z v
section
variable {π:Int->Int} {u u':Unt} {f f':Flow}
theorem Trn.val(h:Trn π u u' f f'){v t:Int}(hv:valM f.types v t=true):valM f'.types (π v) t=true:=by
 obtain⟨r0,r1⟩:=zja hv;obtain⟨p0,p1⟩:=h.rng v r0 r1;simp only[valM,ya,yD,decide_eq_true_eq]at hv ⊢;rw[h.len,h.ty v r0 r1];exact⟨p0,p1,hv.2.2⟩
theorem Trn.use(h:Trn π u u' f f'){seen:List Int}{v t:Int}(hv:useR f.types seen v t=true):useR f'.types (seen.map π) (π v) t=true:=by
 simp only[useR,ya,yD,decide_eq_true_eq,yra]at hv ⊢;obtain⟨r0,r1,r2,r3⟩:=hv;obtain⟨p0,p1⟩:=h.rng v r0 r1;rw[h.len,h.ty v r0 r1];exact⟨p0,p1,List.mem_map_of_mem r2,r3⟩
theorem Trn.types(h:Trn π u u' f f'){seen l want:List Int}(hv:zA f.types seen l want=true):zA f'.types (seen.map π) (l.map π) want=true:=by
 simp only[zA,ya,decide_eq_true_eq,yi,yO]at hv ⊢;refine⟨hv.1,fun p hp=>?_⟩;obtain⟨i,hi⟩:=yW hp;obtain⟨h1,h2⟩:=zip_get (d:=l) (q:=i) (v:=p.1) (t:=p.2) hi;rw[yf,yc]at h1;obtain⟨v,h3,h4⟩:=h1;have:=hv.2 (v,p.2) (yu (i:=i) (by rw[yQ];exact⟨h3,h2⟩));rw[<-h4];exact h.use this
theorem Trn.typesM(h:Trn π u u' f f'){l:List Int}(hl:∀v∈l,0<=v/\v<f.types.length):PE.U.typesM f'.types (l.map π)=PE.U.typesM f.types l:=by
 unfold PE.U.typesM;rw[if_pos,if_pos]
 ·rw[List.map_map];exact yxa fun v hv=>h.ty v (hl v hv).1 (hl v hv).2
 ·rw[yi];intro v hv;obtain⟨r0,r1⟩:=hl v hv;simp[valM,r0,r1]
 ·rw[yi];intro v hv;rw[yja]at hv;obtain⟨w,hw,rfl⟩:=hv;obtain⟨r0,r1⟩:=hl w hw;obtain⟨p0,p1⟩:=h.rng w r0 r1;simp[valM,p0,p1,h.len]
theorem atB_setI{Z:Set1}{v w:Int}(h0:0<=v)(h1:v<Z.length)(h2:0<=w):atB (Z.set v.toNat true) w=if v=w then true else atB Z w:=by
 unfold atB;rw[List.getElem?_set];by_cases h:v=w
 ·subst h;rw[if_pos rfl,if_pos (by omega),if_pos rfl];rfl
 ·rw[if_neg (by omega),if_neg h]
theorem Trn.setG(h:Trn π u u' f f'){Z Z':Set1}(hz:ZR π f.types.length Z Z'){v t:Int}(hv:(zda f.types Z v t).1=true):
  (zda f'.types Z' (π v) t).1=true/\ZR π f.types.length (zda f.types Z v t).2 (zda f'.types Z' (π v) t).2/\0<=v/\v<f.types.length:=by
 by_cases hc:(valM f.types v t&& !atB Z v)=true
 ·have hc0:=hc;simp only[ya]at hc;obtain⟨r0,r1⟩:=zja hc.1;obtain⟨p0,p1⟩:=h.rng v r0 r1;have hc':(valM f'.types (π v) t&& !atB Z' (π v))=true:=by
   rw[h.val hc.1,hz.at' v r0 r1,hc.2];rfl
  have e1:zda f.types Z v t=(true,Z.set v.toNat true):=if_pos hc0;have e2:zda f'.types Z' (π v) t=(true,Z'.set (π v).toNat true):=if_pos hc';rw[e1,e2];refine⟨rfl,⟨by simp[hz.l1],by simp[hz.l2],fun w w0 w1=>?_⟩,r0,r1⟩;obtain⟨q0,q1⟩:=h.rng w w0 w1;rw[atB_setI p0 (by rw[hz.l2];exact p1) q0,atB_setI r0 (by rw[hz.l1];exact r1) w0];by_cases e:v=w
  ·rw[if_pos e,if_pos (by rw[e])]
  ·rw[if_neg e,if_neg (fun e'=>e (h.inj v w r0 r1 w0 w1 e')),hz.at' w w0 w1]
 ·rw[zda,if_neg hc]at hv;cases hv
theorem Trn.eqGo(h:Trn π u u' f f'):∀(l:List (Int×Int)) (Z Z':Set1),ZR π f.types.length Z Z'->(PE.U.eqGo (zda f.types) Z l).1=true→
  (PE.U.eqGo (zda f'.types) Z' (l.map fun p=>(π p.1,p.2))).1=true/\ZR π f.types.length (PE.U.eqGo (zda f.types) Z l).2 (PE.U.eqGo (zda f'.types) Z' (l.map fun p=>(π p.1,p.2))).2/\∀p∈l,0<=p.1/\p.1<f.types.length
 | [],Z,Z',hz,_=>⟨rfl,hz,fun p hp=>by cases hp⟩
 |p::r,Z,Z',hz,hg=>by
  simp only[PE.U.eqGo,yq]at hg ⊢;by_cases hc:(zda f.types Z p.1 p.2).1=true
  ·rw[if_pos hc]at hg ⊢;obtain⟨h1,h2,h3,h4⟩:=h.setG hz hc;obtain⟨h5,h6,h7⟩:=h.eqGo r _ _ h2 hg;rw[if_pos h1];refine⟨h5,h6,fun q hq=>?_⟩;rcases yG.1 hq with rfl|hq
   ·exact⟨h3,h4⟩
   ·exact h7 q hq
  ·rw[if_neg hc]at hg;cases hg
theorem Trn.sets(h:Trn π u u' f f'){Z Z':Set1}(hz:ZR π f.types.length Z Z'){l want:List Int}(hv:(zI f.types Z l want).1=true):
  (zI f'.types Z' (l.map π) want).1=true/\ZR π f.types.length (zI f.types Z l want).2 (zI f'.types Z' (l.map π) want).2/\∀v∈l,0<=v/\v<f.types.length:=by
 unfold zI eqM at hv ⊢;rw[yO];split at hv
 ·rename_i hl;rw[if_pos hl,if_pos hl];obtain⟨h1,h2,h3⟩:=h.eqGo _ _ _ hz hv;have e:(l.map π).zip want=(l.zip want).map fun p=>(π p.1,p.2):=by
   rw[List.zip_map_left];rfl
  rw[e];refine⟨h1,h2,fun v hv=>?_⟩;obtain⟨i,hi⟩:=yW hv;have hlt:i<want.length:=by rw[<-hl];exact(yb.1 hi).1
  exact h3 (v,want[i]) (yu (i:=i) (by rw[yQ];exact⟨hi,yd hlt⟩))
 ·cases hv
theorem Trn.endR(h:Trn π u u' f f'){x:Node}{q q':Bool×Set1}(hz:ZR π f.types.length q.2 q'.2)(h1:q.1=true->q'.1=true)(hv:(endR f.types x q).1=true):
  (PE.U.endR f'.types (trnN π x) q').1=true/\ZR π f.types.length (PE.U.endR f.types x q).2 (PE.U.endR f'.types (trnN π x) q').2:=by
 unfold PE.U.endR at hv ⊢;split at hv
 ·rename_i hc;rw[if_pos hc];have ho:(trnN π x).outs=x.outs.map π:=by rw[trnN_eq]
  simp only[ya]at hc;have hc':(q'.1&&(decide ((trnN π x).outs=[])|| !zj (trnN π x)))=true:=by
   rw[trn_closed,ho,h1 hc.1];simpa using hc.2
  rw[if_pos hc',ho,yO];obtain⟨a,b,_⟩:=h.sets hz hv;exact⟨a,b⟩
 ·cases hv
theorem zxc{ty:List Int}{x:Node}{q:Bool×Set1}(hv:(PE.U.endR ty x q).1=true):q.1=true/\(zI ty q.2 x.outs (zDa x.outs.length)).1=true:=by
 unfold PE.U.endR at hv;split at hv
 ·rename_i hc;simp only[ya]at hc;exact⟨hc.1,hv⟩
 ·cases hv
theorem eqGo_rng{ty:List Int}:∀(l:List (Int×Int)) (Z:Set1),(PE.U.eqGo (zda ty) Z l).1=true->∀p∈l,0<=p.1/\p.1<ty.length
 | [],Z,_=>fun p hp=>by cases hp
 |p::r,Z,hg=>by
  simp only[PE.U.eqGo]at hg;by_cases hc:(zda ty Z p.1 p.2).1=true
  ·rw[if_pos hc]at hg;intro q hq;rcases yG.1 hq with rfl|hq
   ·by_cases hx:(valM ty q.1 q.2&& !atB Z q.1)=true
    ·simp only[ya]at hx;exact zja hx.1
    ·rw[zda,if_neg hx]at hc;cases hc
   ·exact eqGo_rng r _ hg q hq
  ·rw[if_neg hc]at hg;cases hg
theorem setsR_rng{ty:List Int}{Z:Set1}{l want:List Int}(hv:(zI ty Z l want).1=true):∀v∈l,0<=v/\v<ty.length:=by
 unfold zI eqM at hv;split at hv
 ·rename_i hl;intro v hv';obtain⟨i,hi⟩:=yW hv';have hlt:i<want.length:=by rw[<-hl];exact(yb.1 hi).1
  exact eqGo_rng _ _ hv (v,want[i]) (yu (i:=i) (by rw[yQ];exact⟨hi,yd hlt⟩))
 ·cases hv
theorem Trn.at2(h:Trn π u u' f f'){seen l:List Int}{t t':Int}(hl:zA f.types seen l [t,t']=true)(he:at0 f.types (at0 l 0)=at0 f.types (at0 l 1)):at0 f'.types (at0 (l.map π) 0)=at0 f'.types (at0 (l.map π) 1):=by
 obtain⟨a,b,rfl,a0,a1,b0,b1⟩:=typesR_two hl;have h1:=h.ty a a0 a1;have h2:=h.ty b b0 b1;simp only[at0]at he;simp only[at0,yq,yEa];simp only[at0]at h1 h2;simp at he ⊢;rw[h1,h2];exact he
theorem Trn.simple(h:Trn π u u' f f'){seen:List Int}{w:Place}{Z Z':Set1}(hz:ZR π f.types.length Z Z'){x:Node}(hv:(zu u f seen w Z x).1=true):
  (zu u' f' (seen.map π) w Z' (trnN π x)).1=true/\ZR π f.types.length (zu u f seen w Z x).2 (zu u' f' (seen.map π) w Z' (trnN π x)).2:=by
 unfold zu at hv ⊢;dsimp only at hv ⊢;have e:trnN π x=⟨x.kind,x.op,x.n,x.name,x.args.map π,x.outs.map π,x.params.map π,x.kids.map (trnL π)⟩:=trnN_eq π x;rw[e];dsimp only;have hn:∀{want:List Int},zA f.types seen x.args want=true->zA f'.types (seen.map π) (x.args.map π) want=true:=fun hw=>h.types hw
 by_cases k1:x.kind=1
 ·rw[if_pos k1]at hv;rw[if_pos k1,if_pos k1];split at hv
  ·rename_i hc;rw[if_pos hc,if_pos (hn hc)];obtain⟨a,b,_⟩:=h.sets hz hv;exact⟨a,b⟩
  ·cases hv
 rw[if_neg k1]at hv;rw[if_neg k1,if_neg k1];by_cases k2:x.kind=2
 ·rw[if_pos k2]at hv;rw[if_pos k2,if_pos k2];split at hv
  ·rename_i hc;rw[if_pos hc,if_pos ⟨hc.1,hn hc.2⟩];obtain⟨a,b,_⟩:=h.sets hz hv;exact⟨a,b⟩
  ·cases hv
 rw[if_neg k2]at hv;rw[if_neg k2,if_neg k2];by_cases k3:x.kind=3
 ·rw[if_pos k3]at hv;rw[if_pos k3,if_pos k3];split at hv
  ·rename_i hc;rw[if_pos hc,if_pos (by simp only[ya]at hc ⊢;exact⟨hc.1,hn hc.2⟩)];obtain⟨a,b,_⟩:=h.sets hz hv;exact⟨a,b⟩
  ·cases hv
 rw[if_neg k3]at hv;rw[if_neg k3,if_neg k3];by_cases k4:x.kind=4
 ·rw[if_pos k4]at hv;rw[if_pos k4,if_pos k4];split at hv
  ·rename_i hc;rw[if_pos hc,if_pos (by
    obtain⟨h1,h2⟩:=hc;simp only[ya]at h1 ⊢;exact⟨⟨h1.1,hn h1.2⟩,h.at2 h1.2 h2⟩)]
   obtain⟨a,b,_⟩:=h.sets hz hv;exact⟨a,b⟩
  ·cases hv
 rw[if_neg k4]at hv;rw[if_neg k4,if_neg k4];by_cases k5:x.kind=5
 ·rw[if_pos k5]at hv;rw[if_pos k5,if_pos k5,h.arr];split at hv
  ·rename_i hc;rw[if_pos hc,if_pos (by simp only[ya]at hc ⊢;exact⟨hc.1,hn hc.2⟩)];obtain⟨a,b,_⟩:=h.sets hz hv;exact⟨a,b⟩
  ·cases hv
 rw[if_neg k5]at hv;rw[if_neg k5,if_neg k5];by_cases k6:x.kind=6
 ·rw[if_pos k6]at hv;rw[if_pos k6,if_pos k6,h.arr];simp only[ya,decide_eq_true_eq,yJa]at hv ⊢;exact⟨⟨hv.1,hn hv.2.1,hv.2.2⟩,hz⟩
 rw[if_neg k6]at hv;rw[if_neg k6,if_neg k6];by_cases k7:x.kind=7
 ·rw[if_pos k7]at hv;rw[if_pos k7,if_pos k7,h.pl];split at hv
  ·rename_i g hg;obtain⟨g',hg',hp,ht⟩:=h.fl _ g hg;rw[hg'];dsimp only;split at hv
   ·rename_i hc;rw[if_pos hc,hp,ht,if_pos ⟨hc.1,hn hc.2⟩];obtain⟨a,b,_⟩:=h.sets hz hv;exact⟨a,b⟩
   ·cases hv
  ·cases hv
 rw[if_neg k7]at hv;rw[if_neg k7,if_neg k7];by_cases k8:x.kind=8
 ·rw[if_pos k8]at hv;rw[if_pos k8,if_pos k8];split at hv
  ·rename_i hc;rw[if_pos hc,if_pos (by rw[hc];rfl)];obtain⟨a,b,_⟩:=h.sets hz hv;exact⟨a,b⟩
  ·cases hv
 rw[if_neg k8]at hv;rw[if_neg k8,if_neg k8];by_cases k9:x.kind=9
 ·rw[if_pos k9]at hv;rw[if_pos k9,if_pos k9];simp only[ya,decide_eq_true_eq,yJa]at hv ⊢;exact⟨⟨hn hv.1,hv.2⟩,hz⟩
 rw[if_neg k9]at hv;rw[if_neg k9,if_neg k9];by_cases k12:x.kind=12
 ·rw[if_pos k12]at hv;rw[if_pos k12,if_pos k12];simp only[ya,decide_eq_true_eq,yJa]at hv ⊢;exact⟨⟨hv.1,hn hv.2.1,hv.2.2⟩,hz⟩
 rw[if_neg k12]at hv;rw[if_neg k12,if_neg k12];by_cases k13:x.kind=13
 ·rw[if_pos k13]at hv;rw[if_pos k13,if_pos k13];simp only[ya,decide_eq_true_eq,yJa]at hv ⊢;exact⟨⟨hv.1,hn hv.2.1,hv.2.2⟩,hz⟩
 rw[if_neg k13]at hv;rw[if_neg k13,if_neg k13];by_cases k14:x.kind=14
 ·rw[if_pos k14]at hv;rw[if_pos k14,if_pos k14];simp only[ya,decide_eq_true_eq,yJa]at hv ⊢;exact⟨⟨hv.1,hn hv.2.1,hv.2.2⟩,hz⟩
 rw[if_neg k14]at hv;rw[if_neg k14,if_neg k14];by_cases k15:x.kind=15
 ·rw[if_pos k15]at hv;rw[if_pos k15,if_pos k15];simp only[ya,decide_eq_true_eq,yJa,h.rt]at hv ⊢;exact⟨⟨hn hv.1,hv.2⟩,hz⟩
 rw[if_neg k15]at hv;cases hv
theorem trn_lastE{l l':List Node}{q q':Bool×Set1}(hl:l'.isEmpty=l.isEmpty)(hv:(zzb l q).1=true)(h1:q.1=true->q'.1=true/\ZR π f.types.length q.2 q'.2):
  (zzb l' q').1=true/\ZR π f.types.length (zzb l q).2 (zzb l' q').2:=by
 unfold zzb at hv ⊢;split at hv
 ·rename_i hc;obtain⟨a,b⟩:=h1 hc;rw[if_pos hc,if_pos a,hl];exact⟨hv,b⟩
 ·cases hv
mutual
theorem Trn.node(h:Trn π u u' f f'):∀(x:Node) (seen:List Int) (w:Place) (deep:Int) (Z Z':Set1),ZR π f.types.length Z Z'->(zaa u f x seen w deep Z).1=true→
  (zaa u' f' (trnN π x) (seen.map π) w deep Z').1=true/\ZR π f.types.length (zaa u f x seen w deep Z).2 (zaa u' f' (trnN π x) (seen.map π) w deep Z').2
 |⟨k,o,n,s,a,us,ps,ks⟩,seen,w,deep,Z,Z',hz,hv=>by
  have hb:=trn_bare π ⟨k,o,n,s,a,us,ps,ks⟩;have ho:=fun(q q':Bool×Set1)=>h.endR (x:=⟨k,o,n,s,a,us,ps,ks⟩) (q:=q) (q':=q')
  have hs:=h.simple (seen:=seen) (w:=w) hz (x:=⟨k,o,n,s,a,us,ps,ks⟩);rw[trnN]at hb ho hs ⊢;rw[zaa]at hv ⊢;rw[zaa,hb];split at hv
  ·cases hv
  rename_i c0;rw[if_neg c0,if_neg c0];split at hv
  ·rename_i c1;rw[if_pos c1,if_pos c1];split at hv
   ·rename_i c2;rw[if_pos c2,if_pos (h.types c2)];obtain⟨e1,e2⟩:=zxc hv;have hout:∀v∈us,0<=v/\v<f.types.length:=setsR_rng e2;rw[h.typesM hout];obtain⟨k1,k2⟩:=h.kids ks seen {w with inIf:=true,yield:=PE.U.typesM f.types us} (deep+1) Z Z' hz e1;exact ho _ _ k2 (fun _=>k1) hv
   ·cases hv
  ·rename_i c1;rw[if_neg c1,if_neg c1];split at hv
   ·rename_i c2;rw[if_pos c2,if_pos c2];split at hv
    ·rename_i c3;rw[if_pos c3];split at hv
     ·rename_i c4;rw[if_pos c4];obtain⟨p1,p2,p3⟩:=h.sets hz c4;obtain⟨e1,e2⟩:=zxc hv;have hout:∀v∈us,0<=v/\v<f.types.length:=setsR_rng e2;rw[yO,h.typesM p3,h.typesM hout,if_pos (h.types c3),if_pos p1];obtain⟨k1,k2⟩:=h.kids ks (seen++ps) ⟨false,true,[],PE.U.typesM f.types ps,PE.U.typesM f.types us⟩ (deep+1) _ _ p2 e1;rw[yAa]at k1 k2;exact ho _ _ k2 (fun _=>k1) hv
     ·cases hv
    ·cases hv
   ·rename_i c2;rw[if_neg c2,if_neg c2];exact hs hv
theorem Trn.kids(h:Trn π u u' f f'):∀(ks:List (List Node)) (seen:List Int) (w:Place) (deep:Int) (Z Z':Set1),ZR π f.types.length Z Z'->(zO u f ks seen w deep Z).1=true→
  (zO u' f' (trnK π ks) (seen.map π) w deep Z').1=true/\ZR π f.types.length (zO u f ks seen w deep Z).2 (zO u' f' (trnK π ks) (seen.map π) w deep Z').2
 | [],seen,w,deep,Z,Z',hz,hv=>by
  rw[trnK,zO,zO];exact⟨rfl,hz⟩
 |l::r,seen,w,deep,Z,Z',hz,hv=>by
  rw[trnK];rw[zO]at hv ⊢;rw[zO];split at hv
  ·rename_i c;rw[if_pos c];obtain⟨k1,k2⟩:=trn_lastE (π:=π) (f:=f) (l':=trnL π l) (q':=goR u' f' (trnL π l) (seen.map π) w deep Z') (by cases l<;>rfl) c (fun hq=>h.go l seen w deep Z Z' hz hq);rw[if_pos k1];exact h.kids r seen w deep _ _ k2 hv
  ·cases hv
theorem Trn.go(h:Trn π u u' f f'):∀(l:List Node) (seen:List Int) (w:Place) (deep:Int) (Z Z':Set1),ZR π f.types.length Z Z'->(goR u f l seen w deep Z).1=true→
  (goR u' f' (trnL π l) (seen.map π) w deep Z').1=true/\ZR π f.types.length (goR u f l seen w deep Z).2 (goR u' f' (trnL π l) (seen.map π) w deep Z').2
 | [],seen,w,deep,Z,Z',hz,hv=>by
  rw[trnL,goR,goR];exact⟨rfl,hz⟩
 |x::r,seen,w,deep,Z,Z',hz,hv=>by
  rw[trnL];rw[goR]at hv ⊢;rw[goR];split at hv
  ·cases hv
  rename_i c0;rw[if_neg c0,if_neg c0];split at hv
  ·rename_i c1;rw[if_pos c1];obtain⟨n1,n2⟩:=h.node x seen w deep Z Z' hz c1;rw[if_pos n1];split at hv
   ·rename_i c2;rw[if_pos c2,if_pos (by rw[trn_closed,c2];cases r<;>rfl)];obtain⟨g1,g2⟩:=h.go r (seen++x.outs) w deep _ _ n2 hv;have ho:(trnN π x).outs=x.outs.map π:=by rw[trnN_eq]
    rw[yAa]at g1 g2;rw[ho];exact⟨g1,g2⟩
   ·cases hv
  ·cases hv
end
end
theorem wtL_dropLast:∀l:List Node,wtL l.dropLast<=wtL l
 | []=>yh _
 | [x]=>by simp[wtL]
 |x::y::r=>by
  have:=wtL_dropLast (y::r);rw[List.dropLast_cons_cons,wtL,wtL];omega
theorem sumW_wt(F:zT)(x:Node):wtN (sumW F x)<=wtN x:=by
 unfold sumW;split
 ·rw[zwa,zwa];simp[wtK];omega
 ·exact yh _
theorem takenW_wt(us:List Int)(q:List Node×Tos):wtL (zGc us q).1<=wtL q.1:=by
 unfold zGc;split
 ·split
  ·exact wtL_dropLast _
  ·exact yh _
 ·exact yh _
mutual
theorem wrN_wt(F:zT):∀(x:Node) (T:Tos),wtL (wrN F x T).1<=1+wtN x
 |⟨k,o,n,s,a,us,ps,ks⟩,T=>by
  have hv:=valW_len T a;rw[wrN];split
  ·have:=sumW_wt F ⟨k,o,n,s,valW T a,us,ps,ks⟩;simp only[wtL,wtN,hv]at this ⊢;omega
  ·split
   ·split
    ·have h1:=takenW_wt us (zob F ks (decide ((numK F (at0 a 0)).1≠0)) T);have h2:=wrPick_wt F ks (decide ((numK F (at0 a 0)).1≠0)) T;simp only[wtN];omega
    ·have h2:=wrKs_wt F ks T;simp only[wtL,wtN,hv];omega
   ·split
    ·have h2:=wrKs_wt F ks T;simp only[wtL,wtN,hv];omega
    ·simp only[wtL,wtN,hv];omega
theorem wrGo_wt(F:zT):∀(l:List Node) (T:Tos),wtL (wrGo F l T).1<=wtL l
 | [],T=>by rw[wrGo];exact yh _
 |x::r,T=>by
  have h1:=wrN_wt F x T;have h2:=wrGo_wt F r (wrN F x T).2;rw[wrGo];split
  ·rw[wtL];omega
  ·simp only[zwd,wtL];omega
theorem wrKs_wt(F:zT):∀(l:List (List Node)) (T:Tos),wtK (wrKs F l T).1<=wtK l
 | [],T=>by rw[wrKs];exact yh _
 |x::r,T=>by
  have h1:=wrGo_wt F x T;have h3:=tidyL_wt (wrGo F x T).1;have h2:=wrKs_wt F r (wrGo F x T).2;rw[wrKs];simp only[wtK];omega
theorem wrPick_wt(F:zT):∀(l:List (List Node)) (b:Bool) (T:Tos),wtL (zob F l b T).1<=wtK l
 | [],b,T=>by rw[zob];simp[wtL]
 |x::r,b,T=>by
  have h1:=wrGo_wt F x T;have h3:=tidyL_wt (wrGo F x T).1;have h2:=wrPick_wt F r true T;rw[zob];split<;>simp only[wtK]<;>omega
end
theorem wrL_wt(F:zT)(l:List Node)(T:Tos):wtL (wrL F l T).1<=wtL l:=by
 have h1:=wrGo_wt F l T;have h3:=tidyL_wt (wrGo F l T).1;unfold wrL;simp only;omega
def goF(F:zT)(q:List Node×Tos)(x:Node):List Node×Tos:=(q.1++(wrN F x q.2).1,(wrN F x q.2).2)
theorem goF_wt(F:zT)(l:List Node):∀(q:List Node×Tos),wtL (l.foldl (goF F) q).1<=wtL q.1+wtL l:=by
 induction l with
 |nil=>intro q;simp[wtL]
 |cons x r ih=>
  intro q;have h1:=ih (goF F q x);have h2:=wrN_wt F x q.2;rw[yR];simp only[goF,zwd]at h1 ⊢;rw[wtL];omega
theorem lastClosed_app(a b:List Node)(h:zH a=false):zH (a++b)=zH b:=by
 rcases yT b with rfl|⟨d,e,rfl⟩
 ·rw[yIa,h];rfl
 ·rw[yZ,<-yia];simp[zH]
theorem listw_of{F:zT}{l:List Node}(hw:wtL l<100000000)(hp:∀x∈l,NodeW F x):ListW F l:=by
 intro T;refine zb rfl rfl rfl (by simp[wrV]) ?_;have hll:=zsb l;unfold wrL;simp[F51,zh,wrV];refine zn l K51_0 B51_0 (fun d=>[(4,acc 8 ((d.foldl (goF F) ([],T)).1.map zy)),(9,.int .i64 d.length)]) (fun d=>wst F (d.foldl (goF F) ([],T)).2)
  (fun d=>zH (d.foldl (goF F) ([],T)).1=false/\∀r,wrGo F (d++r) T=((d.foldl (goF F) ([],T)).1++(wrGo F r (d.foldl (goF F) ([],T)).2).1,(wrGo F r (d.foldl (goF F) ([],T)).2).2)) (by omega) (by simp[zH]) ?_ ?_
 ·intros d x r s hl' hlt hget hget' hwr hpd h1 h2 h3 h4;simp at h1 h3;clear h2;have hgw:=goF_wt F d ([],T);have hwd:wtL d+(1+wtN x)<=wtL l:=by rw[hl'.eq,zwd,wtL];omega
  have hxw:=wrN_wt F x (d.foldl (goF F) ([],T)).2;obtain⟨hc0,hgo⟩:=hpd;have hs:=hp x hl'.mem (d.foldl (goF F) ([],T)).2;have hnext:∀r,zH (wrN F x (d.foldl (goF F) ([],T)).2).1=false->wrGo F ((d++[x])++r) T=((goF F (d.foldl (goF F) ([],T)) x).1++(wrGo F r (goF F (d.foldl (goF F) ([],T)) x).2).1,(wrGo F r (goF F (d.foldl (goF F) ([],T)) x).2).2):=by
   intro r hc;rw[yia,List.singleton_append,hgo,wrGo,hc];simp[goF]
  have hcut:zH (wrN F x (d.foldl (goF F) ([],T)).2).1=true->wrGo F l T=((d.foldl (goF F) ([],T)).1++(wrN F x (d.foldl (goF F) ([],T)).2).1,(wrN F x (d.foldl (goF F) ([],T)).2).2):=by
   intro hc;rw[hl'.eq,hgo,wrGo,hc];simp
  rw[yOa,yR,yUa];generalize hq:d.foldl (goF F) ([],T)=q at*;obtain⟨D,U⟩:=q;simp only at hc0 hs hnext hcut hxw hgw ⊢;have hap:=lastClosed_app D (wrN F x U).1 hc0;have hgf:goF F (D,U) x=(D++(wrN F x U).1,(wrN F x U).2):=rfl;rw[hgf]at hnext ⊢;generalize hn:wrN F x U=n at*;obtain⟨ns,U'⟩:=n;simp only at hap hnext hcut hxw hs ⊢;have hln:=zsb (D++ns);have hDn:wtL (D++ns)<100000000:=by simp only[zwd]at hgw ⊢;simp only[wtL]at hgw;omega
  have q4:(D.length+ns.length)*136<=zG:=by rw[yK]at hln;simp only[zG];omega
  clear hp hgw hwd hxw hgo hq hgf hn hl' hget;simp[za,zh,wrV,ints,kids]at hs;have hmap:D.map zy++ns.map zy=(D++ns).map zy:=by simp
  have hmlen:D.length+ns.length=(D++ns).length:=by simp
  generalize hM:D++ns=M at*;rcases yT M with rfl|⟨dd,z,rfl⟩
  ·have hD:D=[]/\ns=[]:=by
    cases D<;>cases ns<;>simp at hM<;>exact⟨rfl,rfl⟩
   obtain⟨rfl,rfl⟩:=hD;have hnext:=fun r=>hnext r rfl
   clear hcut hM hmap hmlen hap hDn hln;simp at hs h3 h4;simp[*,za,zh,wrV,zH,ints,kids]
   first|done|(intro r;have:=hnext r;simpa using this)
  ·rw[yZ]at*;have hlc:zH (dd++[z])=zj z:=by simp[zH]
   have hzw:wtN z<1099511627776:=by have:=zZc (x:=z) (l:=dd++[z]) (by simp);omega
   have hcl:=zeb z [] hzw;have hwrap:zY .i64 (dd.length:Int)=dd.length:=zq (by omega) (by simp at hln;omega);have hpos:(0:Int)<(dd.length:Int)+1:=by omega
   have hlenM:D.length+ns.length=dd.length+1:=by rw[hmlen];simp
   rw[hlenM]at q4;have hacc:acc 8 ((dd++[z]).map zy)= .slice .own 8 ((dd++[z]).map zy):=acc_ne (by simp);rw[hlc]at hap;have ht:=tidy_spec (wtL (dd++[z])) (dd++[z]) [] (yh _) (by omega);simp[za]at hcl;clear hM hmlen hln hDn hzw;simp only[yAa,yq,yEa]at hacc hmap;rw[za z]at hacc hmap;simp only[ints,kids]at hacc hmap;simp[ints,kids]at hcl;cases hC:zj z
   ·rw[hC]at hcl hap hlc;have hnext:=fun r=>hnext r hap.symm
    clear hcut ht hap hC;simp[*,za,ints,kids,wrV]
    all_goals(intro r;have:=hnext r;simpa using this)
   ·rw[hC]at hcl hap hlc;have hcut:=hcut hap.symm;clear hnext hlc hap hC;rw[hcut];clear hcut;simp[zh,za,ints,kids]at ht;simp[*,za,ints,kids,wrV]
 ·intros s hpd h1 h2 h3 h4;simp at h1 h3;obtain⟨hc0,hgo⟩:=hpd;have e:=hgo [];rw[yIa,wrGo,yIa]at e;have hgw:=goF_wt F l ([],T);have ht:=tidy_spec (wtL (l.foldl (goF F) ([],T)).1) (l.foldl (goF F) ([],T)).1 [] (yh _) (by simp only[wtL]at hgw;omega);rw[e];clear hgo e hp hgw;generalize l.foldl (goF F) ([],T)=q at*;simp[zh]at ht;simp[*,zh]
theorem nodew_of{u:Unt}{m:Nat}{F:zT}{p:Pl}{x:Node}(hok:okN u m p x)(hx:wtN x<100000000)(hl:∀l∈x.kids,ListW F l):NodeW F x:=by
 intro T;rw[zkd]at hok;obtain⟨ho,hkk⟩:=hok;refine zb rfl rfl rfl (by simp[wrV,za]) ?_;have hxk:=zwa x;have hv:=values_spec F T x.args (by omega);obtain⟨K,hK⟩:∃K,x.kind=K:=⟨_,rfl⟩
 have l1:(0:Int)<=(x.args.length:Int):=by omega
 rw[wrN_eq];by_cases k34:K=3\/K=4
 ·rw[if_pos (by rw[hK];exact k34)];have hou:x.outs.length=1:=by
   rcases k34 with k|k<;>subst k
   ·exact(ho.k3 hK).2
   ·exact(ho.k4 hK).2
  have hs:=sumw_spec F T {x with args:=valW T x.args} hou;generalize sumW F {x with args:=valW T x.args}=y at*;generalize valW T x.args=va at*;clear hl ho hkk hxk hou;simp[za,ints,kids,wrV,hK]at hs;simp[ints,wrV]at hv;rcases k34 with k|k<;>subst k<;>simp[*,F76,za,ints,kids,wrV,zh]
 rw[if_neg (by rw[hK];exact k34)];have hc3:(K=3)=False:=eqn (by omega);have hc4:(K=4)=False:=eqn (by omega);by_cases k10:K=10
 ·rw[if_pos (by rw[hK];exact k10)];obtain⟨ha1,hk2⟩:=ho.k10 (by rw[hK];exact k10)
  match ha':x.args,ha1 with
  | [a],_=>
   match hk':x.kids,hk2 with
   | [q0,q1],_=>
    have e0:at0 [a] 0=a:=rfl;have n1:=zgc (F,false) a [.mp (encTos T)];have hw:kst (F,false) [.mp (encTos T)]=wst F T:=rfl;simp only at n1;rw[hw]at n1;rw[ha']at hv;rw[hk']at hl hkk;have w0:=hl q0 (by simp);have w1:=hl q1 (by simp);have wk:wtL q0<100000000/\wtL q1<100000000:=by
     have a1:=zEb (x:=x) (l:=q0) (by rw[hk'];simp);have a2:=zEb (x:=x) (l:=q1) (by rw[hk'];simp);omega
    rw[e0];by_cases hq:(numK F a).2=true
    ·rw[if_pos hq];have ok0:=zYb hkk q0 (by simp);have ok1:=zYb hkk q1 (by simp);have hval:(valW T [a]).length=1:=by simp[valW]
     have hpl:∀n,(plIn p x.kind x.outs x.params).y=some n->n=x.outs.length:=by
      intro n hn;rw[hK,k10]at hn;simp only[plIn]at hn;rw[if_neg (by omega)]at hn;simpa using hn.symm
     have ht:=taken_spec (F:=F) (p:=plIn p x.kind x.outs x.params) (x:={x with args:=valW T [a],kids:=[q0,q1]}) (l0:=q0) (l1:=q1) rfl (by
      rw[zwa];simp only[hval];rw[ha',hk']at hxk;simp only[yca,yua]at hxk;omega) w0 w1 (numK F a).1 T (by
      by_cases hc:decide ((numK F a).1≠0)=true
      ·rw[if_pos hc];exact⟨q0,_,rfl,(wrGo_wl F q0 _ T ok0.2 ok0.1).tidy⟩
      ·rw[if_neg hc];exact⟨q1,_,rfl,(wrGo_wl F q1 _ T ok1.2 ok1.1).tidy⟩) hpl (by
      have b0:=wrL_wt F q0 T;have b1:=wrL_wt F q1 T;split<;>omega)
     simp only at ht;generalize zGc x.outs (zob F [q0,q1] (decide ((numK F a).1≠0)) T)=Q at*;generalize numK F a=c at*;obtain⟨c1,c2⟩:=c;simp only at hq;subst hq;subst k10;clear hl ho hkk hxk w0 w1 wk e0 hpl ok0 ok1 hval;generalize valW T [a]=va at*;simp[za,ints,kids,wrV,hK,zh]at ht;simp[ints,wrV]at hv;simp[*,F76,za,ints,kids,wrV,zh]
    ·rw[if_neg hq];have hq:(numK F a).2=false:=by simpa using hq
     have w0:=w0 T;have w1:=w1 (wrL F q0 T).2;have e1:wrKs F [q0,q1] T=([(wrL F q0 T).1,(wrL F q1 (wrL F q0 T).2).1],(wrL F q1 (wrL F q0 T).2).2):=by simp[wrKs,wrL]
     rw[e1];generalize wrL F q0 T=Q0 at*;generalize wrL F q1 Q0.2=Q1 at*;generalize numK F a=c at*;obtain⟨c1,c2⟩:=c;simp only at hq;subst hq;subst k10;clear hl ho hkk hxk wk e0 e1;generalize valW T [a]=va at*;simp[zh,wrV]at w0 w1;simp[ints,wrV]at hv;simp[*,F76,za,ints,kids,wrV,zh]
 rw[if_neg (by rw[hK];exact k10)];have hc10:=eqn k10;by_cases k11:K=11
 ·rw[if_pos (by rw[hK];exact k11)];obtain⟨ha1,hk2⟩:=ho.k11 (by rw[hK];exact k11)
  match hk':x.kids,hk2 with
  | [q0],_=>
   rw[hk']at hl;have w0:=hl q0 (by simp) T;have e1:wrKs F [q0] T=([(wrL F q0 T).1],(wrL F q0 T).2):=by simp[wrKs,wrL]
   rw[e1];generalize wrL F q0 T=Q0 at*;subst k11;clear hl ho hkk hxk e1;generalize valW T x.args=va at*;simp[zh,wrV]at w0;simp[ints,wrV]at hv;simp[*,F76,za,ints,kids,wrV,zh]
 rw[if_neg (by rw[hK];exact k11)];have hc11:=eqn k11;clear hl ho hkk hxk k34 k10 k11;generalize valW T x.args=va at*;simp[ints,wrV]at hv;simp[*,F76,za,ints,kids,wrV,zh]
theorem write_all(u:Unt)(m:Nat)(F:zT):∀(N:Nat),N<100000000->(∀(x:Node) (p:Pl),wtN x<=N->okN u m p x->NodeW F x)/\(∀(l:List Node) (p:Pl),wtL l<=N->okL u m p l->ListW F l):=by
 intro N
 induction N using yfa with
 |ind N ih=>
  intro hN;refine⟨fun x p hx hok=>?_,fun l p hl hok=>?_⟩
  ·refine nodew_of hok (by omega) (fun q hq=>?_);have hw:=zEb hq;rw[zkd]at hok;exact(ih (wtL q) (by omega) (by omega)).2 q _ (yh _) (zYb hok.2 q hq).2
  ·refine listw_of (by omega) (fun x hx=>?_);have:=zZc hx;exact(ih (wtN x) (by omega) (by omega)).1 x p (yh _) (okL_mem hok x hx)
theorem hdok0:HdOk ⟨none,none,none⟩ hd0:=by
 refine⟨?_,?_,?_⟩<;>(intro n h;cases h)
theorem flowk_spec{u:Unt}(f:Flow)(hp:0<=f.params/\f.params<=f.types.length)(ht:f.types.length<=20000)(hw:wtL f.body<100000000)(hok:okL u f.types.length ⟨none,none,none⟩ f.body):
  zk E 33 [zd f] []=some (.ret (zd (flowK f)),[]):=by
 have hs:=studied_spec f hp ht (by omega) hok hdok0;have hl:=(write_all u f.types.length (zsc f) (wtL f.body) hw).2 f.body _ (yh _) hok [];unfold flowK;generalize zsc f=F at*;generalize wrL F f.body []=Q at*;refine zb rfl rfl rfl (by simp[zd]) ?_;simp[zd,kst,zh,ints]at hs;simp[wst,kst,wrV,encTos,zh]at hl;simp[*,F33,zd,zh,wrV,kst,ints,zce]
theorem known_spec(u:Unt)(hz:USz u)(hw:∀f∈u.flows,wtL f.body<100000000):zk E 17 [encUnt u] []=
  some (.ret (.tup [encUnt (if(zta u).1=0 then zic u else⟨[],[]⟩),.int .i64 (if(zta u).1=0 then 0 else 1)]),[]):=by
 have hck:=check_spec u hz;refine zb rfl rfl rfl (by simp[encUnt]) ?_;by_cases h0:(zta u).1=0
 ·rw[if_pos h0,if_pos h0];have hU:=checkM_ok hz h0;have ht:∀f∈u.flows,f.types.length<=20000:=by
   intro f hf;have h2:=((checkM_iff u).1 (checkM_fst h0)).2 f hf;unfold zkb at h2;simp only[ya,yz,yw,decide_eq_false_iff_not]at h2;omega
  have hfl:=hz.flows;have hk:∀f∈u.flows,zk E 33 [zd f] []=some (.ret (zd (flowK f)),[]):=fun f hf=>flowk_spec f (hU.pars f hf) (ht f hf) (hw f hf) (hU.body f hf).2
  rw[h0]at hck;clear ht hU hz hw;simp[encUnt,flows]at hck;simp[*,F17,encUnt,zic,flows];refine wp_eachB u.flows K17_0 B17_0 (fun d=>[(23,.int .i64 d.length)]) (fun d=>[(6,.cells [arrs u.arrays,acc 5 (d.map fun f=>zd (flowK f))])]) (fun _=>[]) (fun _=>True) (by omega) (by simp) ?_ ?_
  ·intros d x r s hl' hlt hget hget' hwr hpd h1 h2 h3 h3' h4;simp at h1 h2 h3 h3';have hs:=hk x hl'.mem;have q4:(d.length+1)*80<=zG:=by simp only[zG];omega
   obtain⟨fnm,fty,fps,fts,fbd⟩:=x;generalize hy:flowK ⟨fnm,fty,fps,fts,fbd⟩=y at*;obtain⟨ynm,yty,yps,yts,ybd⟩:=y;clear hk hl' hck;simp[zd]at hs;have hio:∀(l:List PV) (x:PV),isOwn (acc 5 (l++[x]))=some (5,l++[x]):=by intro l x;cases l<;>rfl
   simp[*,zd];exact(acc_ne (by simp)).symm
  ·intros s hpd h1 h2 h3 h3' h4;simp at h1 h2 h3 h3';clear hk hck;simp[*]
 ·rw[if_neg h0,if_neg h0];have hne:=eqn h0;simp[encUnt]at hck;clear hz hw h0;have ea:arrs []= .slice .plain 2 []:=rfl;have ef:flows []= .slice .plain 5 []:=rfl;simp[*,F17,encUnt]
mutual
theorem tidyN_idem:∀x:Node,zVa (zVa x)=zVa x
 |⟨k,o,n,s,a,us,ps,ks⟩=>by
  have h:=tidyKs_idem ks;have e:∀us',zj ⟨k,o,n,s,a,us',ps,zCb ks⟩=zj ⟨k,o,n,s,a,us,ps,zCb ks⟩:=fun us'=>rfl
  by_cases hc:zj ⟨k,o,n,s,a,us,ps,zCb ks⟩=true
  ·rw[zVa,if_pos hc,zVa,h,if_pos (by rw[e];exact hc)]
  ·rw[zVa,if_neg hc,zVa,h,if_neg hc]
theorem zyd:∀l:List Node,zL (zL l)=zL l
 | []=>rfl
 |x::r=>by
  have h1:=tidyN_idem x;have h2:=zyd r;by_cases hc:zj (zVa x)=true
  ·rw[zL,if_pos hc,zL,h1,if_pos hc]
  ·rw[zL,if_neg hc,zL,h1,if_neg hc,h2]
theorem tidyKs_idem:∀l:List (List Node),zCb (zCb l)=zCb l
 | []=>rfl
 |x::r=>by
  have h1:=zyd x;have h2:=tidyKs_idem r;rw[zCb,zCb,h1,h2]
end
def Td(y:Node):Prop:=y.kids.map zL=y.kids
theorem tidyN_td{y:Node}(h:Td y):zVa y=if zj y then{y with outs:=[]}else y:=by
 obtain⟨k,o,n,s,a,us,ps,ks⟩:=y;have h:ks.map zL=ks:=h;rw[zVa,tidyKs_eq,h]
theorem tidyL_td:∀(a b:List Node),(∀y∈a,Td y/\zj y=false)->zL (a++b)=a++zL b
 | [],b,_=>rfl
 |x::a,b,h=>by
  obtain⟨h1,h2⟩:=h x (by simp);have e:zVa x=x:=by rw[tidyN_td h1,h2];rfl
  rw[yaa,zL,e,h2,tidyL_td a b (fun y hy=>h y (by simp[hy]))];rfl
theorem wrKs_td(F:zT):∀(ks:List (List Node)) (T:Tos),(wrKs F ks T).1.map zL=(wrKs F ks T).1
 | [],T=>rfl
 |l::r,T=>by
  rw[wrKs];simp only[yq,zyd,wrKs_td F r]
def zTd(u:Unt)(f:Flow):List Node->List Int->Place->Int->Set1->Option (List Int×Set1)
 | [],seen,w,deep,Z=>some (seen,Z)
 |x::r,seen,w,deep,Z=>if zj x=false/\(zaa u f x seen w deep Z).1=true then zTd u f r (seen++x.outs) w deep (zaa u f x seen w deep Z).2 else none
section
variable {u:Unt} {f:Flow}
theorem goR_run{w:Place}{deep:Int}(hd:deep<=100):∀(a b:List Node) (seen:List Int) (Z:Set1) (s1:List Int) (Z1:Set1),b≠ []->zTd u f a seen w deep Z=some (s1,Z1)->goR u f (a++b) seen w deep Z=goR u f b s1 w deep Z1
 | [],b,seen,Z,s1,Z1,hb,h=>by
  rw[zTd]at h;cases h;rfl
 |x::a,b,seen,Z,s1,Z1,hb,h=>by
  rw[zTd]at h;split at h
  ·rename_i hc;rw[yaa,goR,if_neg (by omega),if_pos hc.2,if_pos ?_]
   ·exact goR_run hd a b _ _ s1 Z1 hb h
   ·rw[hc.1];cases a with
    |nil=>cases b with
     |nil=>exact absurd rfl hb
     |cons _ _=>rfl
    |cons _ _=>rfl
  ·cases h
theorem goR_split{w:Place}{deep:Int}:∀(d:List Node) (e:Node) (seen:List Int) (Z:Set1),(goR u f (d++[e]) seen w deep Z).1=true→
  ∃s1 Z1,zTd u f d seen w deep Z=some (s1,Z1)/\(zaa u f e s1 w deep Z1).1=true/\zj e=true/\(goR u f (d++[e]) seen w deep Z).2=(zaa u f e s1 w deep Z1).2/\deep<=100
 | [],e,seen,Z,h=>by
  rw[List.nil_append,goR]at h ⊢;split at h
  ·cases h
  rename_i h0;rw[if_neg h0];split at h
  ·rename_i h1;rw[if_pos h1];split at h
   ·rename_i h2;rw[if_pos h2];exact⟨seen,Z,rfl,h1,h2,by rw[goR],by omega⟩
   ·cases h
  ·cases h
 |x::d,e,seen,Z,h=>by
  rw[yaa,goR]at h ⊢;split at h
  ·cases h
  rename_i h0;rw[if_neg h0];split at h
  ·rename_i h1;rw[if_pos h1];split at h
   ·rename_i h2;rw[if_pos h2];obtain⟨s1,Z1,q1,q2,q3,q4,q5⟩:=goR_split d e _ _ h;refine⟨s1,Z1,?_,q2,q3,q4,q5⟩;have hx:zj x=false:=by rw[h2];cases d<;>rfl
    rw[zTd,if_pos ⟨hx,h1⟩];exact q1
   ·cases h
  ·cases h
theorem simpleR_y{seen:List Int}{w w':Place}{Z:Set1}{x:Node}(h:x.kind≠12)(h1:w'.inLoop=w.inLoop)(h2:w'.next=w.next)(h3:w'.left=w.left):zu u f seen w' Z x=zu u f seen w Z x:=by
 unfold zu;dsimp only;rw[h1,h2,h3];simp only[if_neg h]
theorem nodeR_y{seen:List Int}{w w':Place}{deep:Int}{Z:Set1}{x:Node}(h:x.kind≠12)(h1:w'.inLoop=w.inLoop)(h2:w'.next=w.next)(h3:w'.left=w.left):zaa u f x seen w' deep Z=zaa u f x seen w deep Z:=by
 rw[zXa,zXa,simpleR_y h h1 h2 h3];have e:∀(t:List Int),({w' with inIf:=true,yield:=t}:Place)={w with inIf:=true,yield:=t}:=by
  intro t;obtain⟨a,b,c,d,g⟩:=w;obtain⟨a',b',c',d',g'⟩:=w';simp only at h1 h2 h3;subst h1 h2 h3;rfl
 rw[e]
theorem goR_y{w w':Place}{deep:Int}(h1:w'.inLoop=w.inLoop)(h2:w'.next=w.next)(h3:w'.left=w.left):∀(l:List Node) (seen:List Int) (Z:Set1),(∀x∈l,x.kind≠12)->goR u f l seen w' deep Z=goR u f l seen w deep Z
 | [],seen,Z,h=>by rw[goR,goR]
 |x::r,seen,Z,h=>by
  rw[goR,goR,nodeR_y (h x (by simp)) h1 h2 h3,goR_y h1 h2 h3 r _ _ (fun y hy=>h y (by simp[hy]))]
theorem runR_y{w w':Place}{deep:Int}(h1:w'.inLoop=w.inLoop)(h2:w'.next=w.next)(h3:w'.left=w.left):∀(l:List Node) (seen:List Int) (Z:Set1),(∀x∈l,x.kind≠12)->zTd u f l seen w' deep Z=zTd u f l seen w deep Z
 | [],seen,Z,h=>by rw[zTd,zTd]
 |x::r,seen,Z,h=>by
  rw[zTd,zTd,nodeR_y (h x (by simp)) h1 h2 h3,runR_y h1 h2 h3 r _ _ (fun y hy=>h y (by simp[hy]))]
theorem simpleR_l{seen:List Int}{w:Place}{Z:Set1}{x:Node}(h:x.kind≠14)(t:List Int):zu u f seen {w with left:=t} Z x=zu u f seen w Z x:=by
 unfold zu;dsimp only;simp only[if_neg h]
mutual
theorem nodeR_l:∀(x:Node) (seen:List Int) (w:Place) (t:List Int) (deep:Int) (Z:Set1),x.leaves=false->zaa u f x seen {w with left:=t} deep Z=zaa u f x seen w deep Z
 |⟨k,o,n,s,a,us,ps,ks⟩,seen,w,t,deep,Z,h=>by
  rw[Node.leaves,yw]at h;obtain⟨h14,hk⟩:=h;have h14:k≠14:=by simpa using h14
  rw[zaa,zaa,simpleR_l (x:=⟨k,o,n,s,a,us,ps,ks⟩) h14];by_cases h10:k=10
  ·have hk:zpa ks=false:=by simpa[h10]using hk
   have e:=kidsR_l ks seen {w with inIf:=true,yield:=typesM f.types us} t (deep+1) Z hk;simp only at e ⊢;rw[e]
  ·simp only[if_neg h10]
theorem kidsR_l:∀(ks:List (List Node)) (seen:List Int) (w:Place) (t:List Int) (deep:Int) (Z:Set1),zpa ks=false->zO u f ks seen {w with left:=t} deep Z=zO u f ks seen w deep Z
 | [],seen,w,t,deep,Z,h=>by rw[zO,zO]
 |l::r,seen,w,t,deep,Z,h=>by
  rw[zpa,yw]at h;rw[zO,zO,goR_l l seen w t deep Z h.1,kidsR_l r seen w t deep _ h.2]
theorem goR_l:∀(l:List Node) (seen:List Int) (w:Place) (t:List Int) (deep:Int) (Z:Set1),zw l=false->goR u f l seen {w with left:=t} deep Z=goR u f l seen w deep Z
 | [],seen,w,t,deep,Z,h=>by rw[goR,goR]
 |x::r,seen,w,t,deep,Z,h=>by
  rw[zw,yw]at h;rw[goR,goR,nodeR_l x seen w t deep Z h.1,goR_l r _ w t deep _ h.2]
end
end
def zva(ty:List Int)(F:zT):Prop:=∀v n,getA F v=some (some n)->at0 ty v=2->n=0\/n=1
theorem one_22(a:Int):one 22 a=0\/one 22 a=1:=by
 unfold one;simp;by_cases h:a=0<;>simp[h]
theorem two_cmp(op a b:Int)(h:12<=op/\op<=17):(two op a b).1=0\/(two op a b).1=1:=by
 have hc:(cmp op a b).2=true:=by
  unfold cmp;rcases(by omega:op=12\/op=13\/op=14\/op=15\/op=16\/op=17)with h|h|h|h|h|h<;>subst h<;>simp
 unfold two;rw[if_pos hc];simp only;split<;>simp
theorem makes_2{op:Int}(h:zqb op=2):op=22\/(12<=op/\op<=17):=by
 unfold zqb at h;split at h
 ·assumption
 ·omega
theorem makes_truth(op:Int):zqb op=if zqd op then 2 else 1:=by
 unfold zqb zqd;by_cases h:op=22\/(12<=op/\op<=17)
 ·rw[if_pos h,if_pos (by simpa using h)]
 ·rw[if_neg h,if_neg (by simpa using h)]
theorem meetK_ok{ty:List Int}{S:KS}(h:zva ty S.1){v:Int}{f:Fact}(hf:∀n,f=some n->at0 ty v=2->n=0\/n=1):zva ty (zPc S v f).1:=by
 have set:∀g:Fact,(∀n,g=some n->at0 ty v=2->n=0\/n=1)->zva ty (setA S.1 v g):=by
  intro g hg w n hw h2;rw[getA_setA]at hw;split at hw
  ·rename_i e;subst e;cases hw;exact hg n rfl h2
  ·exact h w n hw h2
 unfold zPc;split
 ·exact set f hf
 ·split
  ·exact h
  ·split
   ·exact h
   ·exact set none (fun n hn=>by cases hn)
theorem meetsK_ok{ty:List Int}{l fr:List Int}(hp:∀p∈l.zip fr,at0 ty p.1=at0 ty p.2):∀{S:KS},zva ty S.1->zva ty (zna S l fr).1:=by
 unfold zna;generalize l.zip fr=z at*
 induction z with
 |nil=>intro S h;exact h
 |cons p r ih=>
  intro S h;rw[yR];refine ih (fun q hq=>hp q (by simp[hq])) ?_;unfold stepK;split
  ·rename_i f hf;refine meetK_ok h (fun n hn h2=>?_);subst hn;exact h _ n hf (by rw[<-hp p (by simp)];exact h2)
  ·exact h
theorem foldl_none_ok{ty:List Int}:∀(us:List Int) (S:KS),zva ty S.1->zva ty (us.foldl (fun S v=>zPc S v none) S).1
 | [],S,h=>h
 |v::r,S,h=>by
  rw[yR];exact foldl_none_ok r _ (meetK_ok (f:=none) h (fun n hn=>by cases hn))
structure HT(ty:List Int)(w:Place)(h:Hd):Prop where
 y:w.inIf=true->inR ty.length h.y/\h.y.map (at0 ty)=w.yield
 x:w.inLoop=true->inR ty.length h.x/\h.x.map (at0 ty)=w.next
 l:w.inLoop=true->inR ty.length h.l/\h.l.map (at0 ty)=w.left
def TyOk(ty:List Int):Prop:=∀v:Int,0<=v->v<ty.length->at0 ty v=1\/at0 ty v=2
theorem pairs_ok{ty seen l args:List Int}(hT:TyOk ty)(hl:inR ty.length l)(h:zA ty seen args (l.map (at0 ty))=true):∀p∈l.zip args,at0 ty p.1=at0 ty p.2:=by
 intro p hp;obtain⟨i,hi⟩:=yW hp;obtain⟨h1,h2⟩:=zip_get (d:=l) (q:=i) (v:=p.1) (t:=p.2) hi;simp only[zA,ya,decide_eq_true_eq,yi]at h;have hm:=h.2 (p.2,at0 ty p.1) (yu (i:=i) (by rw[yQ];exact⟨h2,by rw[yf,h1];rfl⟩));simp only[useR,ya,yD,decide_eq_true_eq]at hm;obtain⟨r0,r1⟩:=hl p.1 (yu h1);have:=hT p.1 r0 r1;rcases hm.2.2.2 with e|e
 ·omega
 ·exact e.symm
theorem zxd{ty l:List Int}(h:inR ty.length l):typesM ty l=l.map (at0 ty):=by
 unfold typesM;rw[if_pos];rw[yi];intro v hv;obtain⟨h0,h1⟩:=h v hv;simp[valM,h0,h1]
theorem setsR_ty{ty:List Int}{Z:Set1}{v t:Int}(h:(zI ty Z [v] [t]).1=true)(ht:t≠0):at0 ty v=t:=by
 unfold zI eqM at h;simp[eqGo,zda]at h;by_cases hc:valM ty v t=true/\atB Z v=false
 ·have:=hc.1;simp only[valM,ya,yD,decide_eq_true_eq]at this;rcases this.2.2 with e|e
  ·exact absurd e ht
  ·exact e
 ·simp[hc]at h
theorem setsR_one{ty:List Int}{Z:Set1}{l:List Int}{t:Int}(h:(zI ty Z l [t]).1=true):∃v,l=[v]:=by
 have:=(zWa h).2
 match l,this with
 | [v],_=>exact⟨v,rfl⟩
theorem zHd{l:List Node}{q:Bool×Set1}(h:(zzb l q).1=true):q.1=true:=by
 unfold zzb at h;split at h
 ·assumption
 ·cases h
section
variable {u:Unt} {f:Flow}
mutual
theorem nodeK_ok(hT:TyOk f.types):∀(x:Node) (h:Hd) (S:KS) (seen:List Int) (w:Place) (deep:Int) (Z:Set1),(zaa u f x seen w deep Z).1=true->HT f.types w h->zva f.types S.1->zva f.types (zOc x h S).1.1
 |⟨k,o,n,s,a,us,ps,ks⟩,h,S,seen,w,deep,Z,hr,hh,hF=>by
  rw[zOc];rw[zaa]at hr;split at hr
  ·cases hr
  by_cases h10:k=10
  ·rw[if_pos h10]at hr;rw[if_neg (by omega),if_neg (by omega),if_pos h10];split at hr
   ·obtain⟨e1,e2⟩:=zxc hr;have hou:=(zWa e2).1;refine choiceK_ok hT ks _ _ _ S _ _ _ _ _ e1 ⟨fun _=>⟨hou,?_⟩,hh.x,hh.l⟩ hF;rw[zxd hou]
   ·cases hr
  rw[if_neg h10]at hr;by_cases h11:k=11
  ·rw[if_pos h11]at hr;rw[if_neg (by omega),if_neg (by omega),if_neg h10,if_pos h11];split at hr
   ·rename_i c1;split at hr
    ·rename_i c2;obtain⟨e1,e2⟩:=zxc hr;have hou:=(zWa e2).1;have hpr:=(zWa c2).1;rw[zxd hpr]at c1;refine loopK_ok hT ks _ _ _ _ _ _ e1 ⟨fun h=>(by cases h),fun _=>⟨hpr,?_⟩,fun _=>⟨hou,?_⟩⟩ (meetsK_ok (pairs_ok hT hpr c1) hF)
     ·rw[zxd hpr]
     ·rw[zxd hou]
    ·cases hr
   ·cases hr
  rw[if_neg h11]at hr;unfold zu at hr;dsimp only at hr;by_cases k1:k=1
  ·rw[if_pos k1]at hr;rw[if_pos (.inl k1)];split at hr
   ·obtain⟨v,rfl⟩:=setsR_one hr;have:=setsR_ty hr (by omega);exact meetK_ok hF (fun m _ h2=>by
     have e:at0 [v] 0=v:=rfl;rw[e,this]at h2;omega)
   ·cases hr
  rw[if_neg k1]at hr;by_cases k2:k=2
  ·rw[if_pos k2]at hr;rw[if_pos (.inr k2)];split at hr
   ·rename_i c;exact meetK_ok hF (fun m hm _=>by cases hm;exact c.1)
   ·cases hr
  rw[if_neg k2]at hr;rw[if_neg (by omega)];by_cases k3:k=3
  ·rw[if_pos k3]at hr;rw[if_pos (.inl k3)];split at hr
   ·rename_i c;obtain⟨v,rfl⟩:=setsR_one hr;have hmk:zqb o≠0:=by unfold zqb;split<;>omega
    have:=setsR_ty hr hmk;refine meetK_ok hF (fun m hm h2=>?_);have e:at0 [v] 0=v:=rfl;rw[e,this]at h2;simp only[ya]at c;have ho:o=22:=by
     have h1:=c.1;simp only[isOne,ya,decide_eq_true_eq]at h1;rcases makes_2 h2 with h|h<;>omega
    unfold madeK at hm;split at hm
    ·cases hm
    ·cases hm;rw[ho];exact one_22 _
   ·cases hr
  rw[if_neg k3]at hr;by_cases k4:k=4
  ·rw[if_pos k4]at hr;rw[if_pos (.inr k4)];split at hr
   ·rename_i c;obtain⟨v,rfl⟩:=setsR_one hr;have hmk:zqb o≠0:=by unfold zqb;split<;>omega
    have:=setsR_ty hr hmk;refine meetK_ok hF (fun m hm h2=>?_);have e:at0 [v] 0=v:=rfl;rw[e,this]at h2;have c1:=c.1;simp only[ya]at c1;have ho:12<=o/\o<=17:=by
     have h1:=c1.1;simp only[isTwo,ya,decide_eq_true_eq]at h1;rcases makes_2 h2 with h|h<;>omega
    unfold madeK at hm;split at hm
    ·cases hm
    ·split at hm
     ·cases hm
     ·split at hm
      ·cases hm;exact two_cmp _ _ _ ho
      ·cases hm
   ·cases hr
  rw[if_neg k4]at hr;rw[if_neg (by omega),if_neg h10,if_neg h11];by_cases k12:k=12
  ·subst k12;rw[if_pos rfl];simp at hr;obtain⟨q1,q2⟩:=hh.y hr.1;exact meetsK_ok (pairs_ok hT q1 (by rw[q2];exact hr.2.1)) hF
  rw[if_neg k12];by_cases k13:k=13
  ·subst k13;rw[if_pos rfl];simp at hr;obtain⟨q1,q2⟩:=hh.x hr.1;exact meetsK_ok (pairs_ok hT q1 (by rw[q2];exact hr.2.1)) hF
  rw[if_neg k13];by_cases k14:k=14
  ·subst k14;rw[if_pos rfl];simp at hr;obtain⟨q1,q2⟩:=hh.l hr.1;exact meetsK_ok (pairs_ok hT q1 (by rw[q2];exact hr.2.1)) hF
  rw[if_neg k14];exact foldl_none_ok us S hF
theorem listK_ok(hT:TyOk f.types):∀(l:List Node) (h:Hd) (S:KS) (seen:List Int) (w:Place) (deep:Int) (Z:Set1),(goR u f l seen w deep Z).1=true->HT f.types w h->zva f.types S.1->zva f.types (zdb l h S).1
 | [],h,S,seen,w,deep,Z,hr,hh,hF=>by rw[zdb];exact hF
 |x::r,h,S,seen,w,deep,Z,hr,hh,hF=>by
  rw[goR]at hr;rw[zdb];split at hr
  ·cases hr
  split at hr
  ·rename_i h1;have hn:=nodeK_ok hT x h S seen w deep Z h1 hh hF;split at hr
   ·split
    ·exact listK_ok hT r h _ _ w deep _ hr hh hn
    ·exact hn
   ·cases hr
  ·cases hr
theorem choiceK_ok(hT:TyOk f.types):∀(ks:List (List Node)) (h:Hd) (c:Int×Bool) (b:Bool) (S:KS) (g:Bool) (seen:List Int) (w:Place) (deep:Int) (Z:Set1),(zO u f ks seen w deep Z).1=true->HT f.types w h->zva f.types S.1->zva f.types (zfb ks h c b S g).1.1
 | [],h,c,b,S,g,seen,w,deep,Z,hr,hh,hF=>by rw[zfb];exact hF
 |l::r,h,c,b,S,g,seen,w,deep,Z,hr,hh,hF=>by
  rw[zO]at hr;rw[zfb];split at hr
  ·rename_i h1;have hl:=listK_ok hT l h S seen w deep Z (zHd h1) hh hF;by_cases hc:(if b then goes0 c else goes1 c)=true
   ·rw[if_pos hc];exact choiceK_ok hT r h c false _ _ seen w deep _ hr hh hl
   ·rw[if_neg hc];exact choiceK_ok hT r h c false S g seen w deep _ hr hh hF
  ·cases hr
theorem loopK_ok(hT:TyOk f.types):∀(ks:List (List Node)) (h:Hd) (S:KS) (seen:List Int) (w:Place) (deep:Int) (Z:Set1),(zO u f ks seen w deep Z).1=true->HT f.types w h->zva f.types S.1->zva f.types (zXd ks h S).1
 | [],h,S,seen,w,deep,Z,hr,hh,hF=>by rw[zXd];exact hF
 |l::r,h,S,seen,w,deep,Z,hr,hh,hF=>by
  rw[zO]at hr;rw[zXd];split at hr
  ·rename_i h1;exact listK_ok hT l h S seen w deep Z (zHd h1) hh hF
  ·cases hr
end
theorem roundsK_ok(hT:TyOk f.types){l:List Node}{seen:List Int}{deep:Int}{Z:Set1}(hr:(goR u f l seen zKa deep Z).1=true):∀(w:Nat) (F:zT),zva f.types F->zva f.types (roundsK l w F)
 |0,F,hF=>hF
 |w+1,F,hF=>by
  have h0:HT f.types zKa hd0:=⟨fun h=>(by cases h),fun h=>(by cases h),fun h=>(by cases h)⟩
  have:=listK_ok hT l hd0 (F,false) seen zKa deep Z hr h0 hF;rw[roundsK];split
  ·exact roundsK_ok hT hr w _ this
  ·exact this
theorem studyM_ok(hT:TyOk f.types){seen:List Int}{deep:Int}{Z:Set1}(hr:(goR u f f.body seen zKa deep Z).1=true):zva f.types (zsc f):=by
 refine roundsK_ok hT hr _ _ ?_;intro v n h;rw[getA_first]at h;split at h
 ·cases h
 ·cases h
end
def sg(T:Tos)(v:Int):Int:=(getA T v).getD v
def ZS(Z' Z:Set1):Prop:=∀v:Int,0<=v->atB Z' v=true->atB Z v=true
theorem ZS.refl(Z:Set1):ZS Z Z:=fun _ _ h=>h
theorem ZS.trans{A B C:Set1}(h:ZS A B)(h':ZS B C):ZS A C:=fun v h0 hv=>h' v h0 (h v h0 hv)
def Agr(Z:Set1)(T T1:Tos):Prop:=∀v:Int,0<=v->atB Z v=true->sg T1 v=sg T v
theorem Agr.refl(Z:Set1)(T:Tos):Agr Z T T:=fun _ _ _=>rfl
theorem Agr.trans{Z Z1:Set1}{T T1 T2:Tos}(h:Agr Z T T1)(hz:ZS Z Z1)(h':Agr Z1 T1 T2):Agr Z T T2:=fun v h0 hv=>(h' v h0 (hz v h0 hv)).trans (h v h0 hv)
def Keys(T:Tos)(Z:Set1):Prop:=∀v,getA T v≠none->0<=v/\atB Z v=true
theorem Keys.mono{T:Tos}{Z Z1:Set1}(h:Keys T Z)(hz:ZS Z Z1):Keys T Z1:=fun v hv=>⟨(h v hv).1,hz v (h v hv).1 (h v hv).2⟩
structure Iv(ty:List Int)(T:Tos)(seen seen':List Int)(Z Z':Set1):Prop where
 sl:∀v∈seen,0<=v/\atB Z v=true
 sub:∀v∈seen,sg T v∈seen'/\0<=sg T v/\sg T v<ty.length/\at0 ty (sg T v)=at0 ty v
 zl:Z.length=ty.length
 zl':Z'.length=ty.length
 zs:ZS Z' Z
 key:Keys T Z
theorem eqGo_facts{ty:List Int}:∀(l:List (Int×Int)) (Z:Set1),Z.length=ty.length->(eqGo (zda ty) Z l).1=true→
  ZS Z (eqGo (zda ty) Z l).2/\(∀p∈l,atB Z p.1=false/\atB (eqGo (zda ty) Z l).2 p.1=true)/\(l.map yTa).Nodup
 | [],Z,hl,h=>⟨ZS.refl Z,fun p hp=>(by cases hp),by simp⟩
 |p::r,Z,hl,h=>by
  simp only[eqGo]at h ⊢;by_cases hc:(zda ty Z p.1 p.2).1=true
  ·rw[if_pos hc]at h ⊢;by_cases hx:(valM ty p.1 p.2&& !atB Z p.1)=true
   ·have e:zda ty Z p.1 p.2=(true,Z.set p.1.toNat true):=if_pos hx;rw[e]at h ⊢;simp only at h ⊢;simp only[ya,yz]at hx;obtain⟨r0,r1⟩:=zja hx.1;have hl2:(Z.set p.1.toNat true).length=ty.length:=by simp[hl]
    obtain⟨h1,h2,h3⟩:=eqGo_facts r _ hl2 h;have z1:ZS Z (Z.set p.1.toNat true):=by
     intro v h0 hv;rw[atB_setI r0 (by rw[hl];exact r1) h0];split
     ·rfl
     ·exact hv
    have hset:atB (Z.set p.1.toNat true) p.1=true:=by rw[atB_setI r0 (by rw[hl];exact r1) r0,if_pos rfl]
    refine⟨z1.trans h1,fun q hq=>?_,?_⟩
    ·rcases yG.1 hq with rfl|hq
     ·exact⟨hx.2,h1 _ r0 hset⟩
     ·obtain⟨g1,g2⟩:=h2 q hq;refine⟨?_,g2⟩;cases hb:atB Z q.1 with
      |false=>rfl
      |true=>
       have hr:=eqGo_rng r _ h q hq;have:=z1 q.1 hr.1 hb;rw[g1]at this;cases this
    ·rw[yq,List.nodup_cons];refine⟨fun hm=>?_,h3⟩;obtain⟨q,hq,he⟩:=yja.1 hm;have:=(h2 q hq).1;rw[he,hset]at this;cases this
   ·rw[zda,if_neg hx]at hc;cases hc
  ·rw[if_neg hc]at h;cases h
theorem setsR_facts{ty:List Int}{Z:Set1}{l want:List Int}(hl:Z.length=ty.length)(h:(zI ty Z l want).1=true):
  ZS Z (zI ty Z l want).2/\(∀v∈l,atB Z v=false/\atB (zI ty Z l want).2 v=true)/\l.Nodup:=by
 unfold zI eqM at h ⊢;split at h
 ·rename_i hlen;rw[if_pos hlen];obtain⟨h1,h2,h3⟩:=eqGo_facts _ _ hl h;rw[zip_fst hlen]at h3;refine⟨h1,fun v hv=>?_,h3⟩;obtain⟨i,hi⟩:=yW hv;have hlt:i<want.length:=by rw[<-hlen];exact(yb.1 hi).1
  exact h2 (v,want[i]) (yu (i:=i) (by rw[yQ];exact⟨hi,yd hlt⟩))
 ·cases h
theorem eqGo_sub{ty:List Int}:∀(l:List (Int×Int)) (Z Z':Set1),Z.length=ty.length->Z'.length=ty.length->ZS Z' Z->(eqGo (zda ty) Z l).1=true→
  (eqGo (zda ty) Z' l).1=true/\ZS (eqGo (zda ty) Z' l).2 (eqGo (zda ty) Z l).2
 | [],Z,Z',hl,hl',hz,h=>⟨rfl,hz⟩
 |p::r,Z,Z',hl,hl',hz,h=>by
  simp only[eqGo]at h ⊢;by_cases hc:(zda ty Z p.1 p.2).1=true
  ·rw[if_pos hc]at h ⊢;by_cases hx:(valM ty p.1 p.2&& !atB Z p.1)=true
   ·have e:zda ty Z p.1 p.2=(true,Z.set p.1.toNat true):=if_pos hx;simp only[ya,yz]at hx;obtain⟨r0,r1⟩:=zja hx.1;have hx':(valM ty p.1 p.2&& !atB Z' p.1)=true:=by
     rw[hx.1];cases hb:atB Z' p.1 with
     |false=>rfl
     |true=>have:=hz p.1 r0 hb;rw[hx.2]at this;cases this
    have e':zda ty Z' p.1 p.2=(true,Z'.set p.1.toNat true):=if_pos hx';rw[e]at h ⊢;rw[e'];simp only[if_true]at h ⊢;refine eqGo_sub r _ _ (by simp[hl]) (by simp[hl']) ?_ h;intro v h0 hv;rw[atB_setI r0 (by rw[hl'];exact r1) h0]at hv;rw[atB_setI r0 (by rw[hl];exact r1) h0];by_cases hpv:p.1=v
    ·rw[if_pos hpv]
    ·rw[if_neg hpv]at hv ⊢;exact hz v h0 hv
   ·rw[zda,if_neg hx]at hc;cases hc
  ·rw[if_neg hc]at h;cases h
theorem setsR_sub{ty:List Int}{Z Z':Set1}{l want:List Int}(hl:Z.length=ty.length)(hl':Z'.length=ty.length)(hz:ZS Z' Z)(h:(zI ty Z l want).1=true):
  (zI ty Z' l want).1=true/\ZS (zI ty Z' l want).2 (zI ty Z l want).2:=by
 unfold zI eqM at h ⊢;split at h
 ·rename_i hlen;rw[if_pos hlen,if_pos hlen];exact eqGo_sub _ _ _ hl hl' hz h
 ·cases h
section
variable {u:Unt} {f:Flow}
theorem zDc{Z:Set1}{l want:List Int}(hl:Z.length=f.types.length)(h:(zI f.types Z l want).1=true):ZS Z (zI f.types Z l want).2:=(setsR_facts hl h).1
theorem simpleR_mono{seen:List Int}{w:Place}{Z:Set1}{x:Node}(hl:Z.length=f.types.length)(h:(zu u f seen w Z x).1=true):ZS Z (zu u f seen w Z x).2:=by
 unfold zu at h ⊢;dsimp only at h ⊢;have A:∀{c:Prop} [Decidable c] {want:List Int},(if c then zI f.types Z x.outs want else(false,Z)).1=true->ZS Z (if c then zI f.types Z x.outs want else(false,Z)).2:=by
  intro c _ want h;split at h
  ·rename_i hc;rw[if_pos hc];exact zDc hl h
  ·cases h
 by_cases k1:x.kind=1
 ·rw[if_pos k1]at h ⊢;exact A h
 rw[if_neg k1]at h ⊢;by_cases k2:x.kind=2
 ·rw[if_pos k2]at h ⊢;exact A h
 rw[if_neg k2]at h ⊢;by_cases k3:x.kind=3
 ·rw[if_pos k3]at h ⊢;exact A h
 rw[if_neg k3]at h ⊢;by_cases k4:x.kind=4
 ·rw[if_pos k4]at h ⊢;exact A h
 rw[if_neg k4]at h ⊢;by_cases k5:x.kind=5
 ·rw[if_pos k5]at h ⊢;exact A h
 rw[if_neg k5]at h ⊢;by_cases k6:x.kind=6
 ·rw[if_pos k6];exact ZS.refl Z
 rw[if_neg k6]at h ⊢;by_cases k7:x.kind=7
 ·rw[if_pos k7]at h ⊢;split at h
  ·rename_i g hg;exact A h
  ·cases h
 rw[if_neg k7]at h ⊢;by_cases k8:x.kind=8
 ·rw[if_pos k8]at h ⊢;exact A h
 rw[if_neg k8]at h ⊢
 repeat(first|exact ZS.refl Z|split)
mutual
theorem nodeR_mono:∀(x:Node) (seen:List Int) (w:Place) (deep:Int) (Z:Set1),Z.length=f.types.length->(zaa u f x seen w deep Z).1=true->ZS Z (zaa u f x seen w deep Z).2/\(zaa u f x seen w deep Z).2.length=f.types.length
 |⟨k,o,n,s,a,us,ps,ks⟩,seen,w,deep,Z,hl,h=>by
  rw[zaa]at h ⊢;split at h
  ·cases h
  rename_i c0;rw[if_neg c0];have fin:∀{q:Bool×Set1},ZS Z q.2->q.2.length=f.types.length->(endR f.types ⟨k,o,n,s,a,us,ps,ks⟩ q).1=true->ZS Z (endR f.types ⟨k,o,n,s,a,us,ps,ks⟩ q).2/\(endR f.types ⟨k,o,n,s,a,us,ps,ks⟩ q).2.length=f.types.length:=by
   intro q h1 h2 h3;refine⟨?_,by rw[endR_len];exact h2⟩;unfold endR at h3 ⊢;split at h3
   ·rename_i hc;rw[if_pos hc];exact h1.trans (zDc h2 h3)
   ·cases h3
  by_cases h10:k=10
  ·rw[if_pos h10]at h ⊢;split at h
   ·rename_i c1;rw[if_pos c1];obtain⟨e1,e2⟩:=zxc h;obtain⟨k1,k2⟩:=zac ks _ _ _ Z hl e1;exact fin k1 k2 h
   ·cases h
  rw[if_neg h10]at h ⊢;by_cases h11:k=11
  ·rw[if_pos h11]at h ⊢;split at h
   ·rename_i c1;rw[if_pos c1];split at h
    ·rename_i c2;rw[if_pos c2];obtain⟨e1,e2⟩:=zxc h;have m1:=zDc hl c2;obtain⟨k1,k2⟩:=zac ks _ _ _ _ (by rw[zHb];exact hl) e1;exact fin (m1.trans k1) k2 h
    ·cases h
   ·cases h
  rw[if_neg h11]at h ⊢;exact⟨simpleR_mono hl h,by rw[simpleR_len];exact hl⟩
theorem zac:∀(ks:List (List Node)) (seen:List Int) (w:Place) (deep:Int) (Z:Set1),Z.length=f.types.length->(zO u f ks seen w deep Z).1=true->ZS Z (zO u f ks seen w deep Z).2/\(zO u f ks seen w deep Z).2.length=f.types.length
 | [],seen,w,deep,Z,hl,h=>by rw[zO];exact⟨ZS.refl Z,hl⟩
 |l::r,seen,w,deep,Z,hl,h=>by
  rw[zO]at h ⊢;split at h
  ·rename_i c;rw[if_pos c];have c':=zHd c;obtain⟨h1,h2⟩:=goR_mono l seen w deep Z hl c';have e:(zzb l (goR u f l seen w deep Z)).2=(goR u f l seen w deep Z).2:=by unfold zzb;rw[if_pos c']
   rw[e]at h ⊢;obtain⟨h3,h4⟩:=zac r seen w deep _ h2 h;exact⟨h1.trans h3,h4⟩
  ·cases h
theorem goR_mono:∀(l:List Node) (seen:List Int) (w:Place) (deep:Int) (Z:Set1),Z.length=f.types.length->(goR u f l seen w deep Z).1=true->ZS Z (goR u f l seen w deep Z).2/\(goR u f l seen w deep Z).2.length=f.types.length
 | [],seen,w,deep,Z,hl,h=>by rw[goR];exact⟨ZS.refl Z,hl⟩
 |x::r,seen,w,deep,Z,hl,h=>by
  rw[goR]at h ⊢;split at h
  ·cases h
  rename_i c0;rw[if_neg c0];split at h
  ·rename_i c1;rw[if_pos c1];obtain⟨h1,h2⟩:=nodeR_mono x seen w deep Z hl c1;split at h
   ·rename_i c2;rw[if_pos c2];obtain⟨h3,h4⟩:=goR_mono r _ w deep _ h2 h;exact⟨h1.trans h3,h4⟩
   ·cases h
  ·cases h
end
theorem Iv.types{T:Tos}{seen seen':List Int}{Z Z':Set1}(h:Iv f.types T seen seen' Z Z'){l want:List Int}(hv:zA f.types seen l want=true):zA f.types seen' (valW T l) want=true:=by
 simp only[zA,ya,decide_eq_true_eq,yi]at hv ⊢;rw[valW_len];refine⟨hv.1,fun p hp=>?_⟩;obtain⟨i,hi⟩:=yW hp;obtain⟨h1,h2⟩:=zip_get (d:=l) (q:=i) (v:=p.1) (t:=p.2) hi;unfold valW at h1;rw[yf,yc]at h1;obtain⟨v,h3,h4⟩:=h1;have:=hv.2 (v,p.2) (yu (i:=i) (by rw[yQ];exact⟨h3,h2⟩));simp only[useR,ya,yD,decide_eq_true_eq,yra]at this ⊢;have h4:sg T v=p.1:=h4;obtain⟨q1,q2,q3,q4⟩:=h.sub v this.2.2.1;rw[<-h4,q4];exact⟨q2,q3,q1,this.2.2.2⟩
theorem Iv.out{T T1:Tos}{seen seen':List Int}{Z Z' Zk Zk':Set1}{us want:List Int}(h:Iv f.types T seen seen' Z Z')(ha:Agr Z T T1)(hz:ZS Z Zk)(hk:Keys T1 Zk)(hs:ZS Zk' Zk)(hl:Zk.length=f.types.length)(hl':Zk'.length=f.types.length)
  (h1:(zI f.types Zk us want).1=true):(zI f.types Zk' us want).1=true/\Iv f.types T1 (seen++us) (seen'++us) (zI f.types Zk us want).2 (zI f.types Zk' us want).2:=by
 obtain⟨m1,m2,m3⟩:=setsR_facts hl h1;obtain⟨n1,n2⟩:=setsR_sub hl hl' hs h1;have hr:=setsR_rng h1;refine⟨n1,?_,?_,by rw[zHb];exact hl,by rw[zHb];exact hl',n2,hk.mono m1⟩
 ·intro v hv;rcases yA.1 hv with hv|hv
  ·obtain⟨q1,q2⟩:=h.sl v hv;exact⟨q1,m1 v q1 (hz v q1 q2)⟩
  ·exact⟨(hr v hv).1,(m2 v hv).2⟩
 ·intro v hv;rcases yA.1 hv with hv|hv
  ·obtain⟨q1,q2⟩:=h.sl v hv;rw[ha v q1 q2];obtain⟨g1,g2,g3,g4⟩:=h.sub v hv;exact⟨List.mem_append_left _ g1,g2,g3,g4⟩
  ·have hn:getA T1 v=none:=by
    cases hg:getA T1 v with
    |none=>rfl
    |some z=>
     have:=(hk v (by rw[hg];simp)).2;rw[(m2 v hv).1]at this;cases this
   have e:sg T1 v=v:=by unfold sg;rw[hn];rfl
   rw[e];exact⟨List.mem_append_right _ hv,(hr v hv).1,(hr v hv).2,rfl⟩
end
end PE.U
