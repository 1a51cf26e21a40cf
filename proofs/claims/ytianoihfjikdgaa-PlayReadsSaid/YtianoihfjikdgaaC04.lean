/-
  Texts joined by program: AYU19, AYA2, AYA3, AYA4, AYA5, AYA6, AYA7, AYA8, PfHand, AYA9, AYC1, AYC2, AYD1, AYD2, AYH1, AYH2, AYH3, AYH4, AYH5, AYH6, AYD3, PfEnd, PfRead.
-/
import Derived.Test.YtianoihfjikdgaaC03
import Derived.WalkKit
import Derived.ProofKit
import Derived.OpenShut
import Derived.ShutString
import Derived.ChangeOld
import Derived.Below
set_option linter.unusedVariables false
set_option linter.unusedSectionVars false
set_option linter.unusedSimpArgs false
open Bool renaming and_eq_true→ya,false_eq_true→yD,false_or→ywa,or_eq_true→yL,true_and→yxa
open Eq renaming trans→yd
open Function renaming comp_def→yy
open Int renaming le_refl→ysa
open Go.IntKind renaming wrap→yN
open List renaming all_eq_true→yo,eq_nil_of_length_eq_zero→yE,findIdx?_eq_none_iff→yfa,getElem?_append_left→yj,getElem?_append_right→yp,getElem?_cons_succ→yM,getElem?_cons_zero→yJ,getElem?_eq_getElem→ye,getElem?_eq_some_iff→yb,getElem?_map→yk,getElem?_set_self→yh,getElem?_take→yx,length_append→ym,length_cons→yR,length_map→yY,length_nil→yV,map_cons→yaa,map_set→yka,mem_append→yG,mem_cons→yO,mem_cons_of_mem→yda,mem_map→yua,mem_of_getElem?→yI,mem_range→yia,range→yU,replicate→yg,set_append_right→yga,set_cons_zero→yCa,set_set→yEa,take_of_length_le→ypa
open Nat renaming le_refl→yl,le_trans→yea
open Option renaming bind_eq_some_iff→yB,getD_some→yS,map_eq_some_iff→yc,map_some→yH
open UInt8 renaming ofNat→yra
namespace PE.U
open Go PE
structure Rel(ty:List Int)(S:St1)(seen:List Int)(Z:Set1):Prop where
 s:S.length=ty.length
 z:Z.length=ty.length
 set:∀v,0<=v->v<(ty.length:Int)->(atB Z v=true<->at0 S v≠0)
 seen:∀v,0<=v->v<(ty.length:Int)->(v∈seen<->at0 S v=1)
theorem at0_set{S:St1}{v w c:Int}(hv:0<=v)(hv':v<S.length)(hw:0<=w)(hw':w<S.length):at0 (S.set v.toNat c) w=if w=v then c else at0 S w:=by
 unfold at0;rw[List.getElem?_set];by_cases h:w=v
 ·subst h;have:w.toNat<S.length:=by omega
  simp[this]
 ·have:v.toNat≠w.toNat:=by omega
  simp[h,this]
theorem atB_set{S:Set1}{v w:Int}{c:Bool}(hv:0<=v)(hv':v<S.length)(hw:0<=w)(hw':w<S.length):atB (S.set v.toNat c) w=if w=v then c else atB S w:=by
 unfold atB;rw[List.getElem?_set];by_cases h:w=v
 ·subst h;have:w.toNat<S.length:=by omega
  simp[this]
 ·have:v.toNat≠w.toNat:=by omega
  simp[h,this]
theorem eqGo_use{ty:List Int}{S:St1}:∀l,(eqGo (useG ty) S l).1=l.all fun p=>(useG ty S p.1 p.2).1
 | []=>rfl
 |p::r=>by
  simp only[eqGo,List.all_cons];split
  ·rename_i h;rw[h,yxa];exact eqGo_use r
  ·rename_i h;simp only[Bool.not_eq_true]at h;rw[h];rfl
theorem use_rel{ty:List Int}{S:St1}{seen:List Int}{Z:Set1}(h:Rel ty S seen Z)(l ts:List Int):zva ty S l ts=zEa ty seen l ts:=by
 have key:∀v t,(useG ty S v t).1=useR ty seen v t:=by
  intro v t;simp only[useG,useR,valM];by_cases h0:0<=v
  ·by_cases h1:v<(ty.length:Int)
   ·have:=h.seen v h0 h1;have e:seen.contains v=decide (at0 S v=1):=by rw[Bool.eq_iff_iff];simpa using this
    rw[e];simp[h0,h1];grind
   ·simp[h1]
  ·simp[h0]
 unfold zva eqM zEa;by_cases hl:l.length=ts.length
 ·rw[if_pos hl,eqGo_use];simp only[hl,decide_true,yxa];congr 1;funext p;exact key _ _
 ·rw[if_neg hl];simp[hl]
theorem setGo_rel{ty:List Int}:∀(zs:List (Int×Int)) (S:St1) (seen:List Int) (Z:Set1),Rel ty S seen Z→
  (eqGo (setG ty) S zs).1=(eqGo (setRG ty) Z zs).1/\((eqGo (setG ty) S zs).1=true->Rel ty (eqGo (setG ty) S zs).2 (seen++zs.map Prod.fst) (eqGo (setRG ty) Z zs).2/\∀v∈zs.map Prod.fst,0<=v/\v<ty.length/\at0 S v=0)
 | [],S,seen,Z,h=>⟨rfl,fun _=>⟨by simpa[eqGo]using h,fun v hv=>by simp at hv⟩⟩
 |(v,t)::r,S,seen,Z,h=>by
  have hc:(valM ty v t&&decide (at0 S v=0))=(valM ty v t&& !atB Z v):=by
   cases hv:valM ty v t
   ·rfl
   ·obtain⟨h0,h1⟩:=zKa hv;have:=h.set v h0 h1;cases hz:atB Z v<;>simp[hz]at this ⊢ <;>omega
  simp only[eqGo,setG,setRG,hc];by_cases hb:(valM ty v t&& !atB Z v)=true
  ·simp only[hb,if_true];have hb':=hb;rw[<-hc]at hb';simp only[ya,decide_eq_true_eq]at hb';obtain⟨h0,h1⟩:=zKa hb'.1;have hr:Rel ty (S.set v.toNat 1) (seen++[v]) (Z.set v.toNat true):=by
    refine⟨by simp[h.s],by simp[h.z],fun w hw hw'=>?_,fun w hw hw'=>?_⟩
    ·rw[at0_set h0 (by rw[h.s];exact h1) hw (by rw[h.s];exact hw'),atB_set h0 (by rw[h.z];exact h1) hw (by rw[h.z];exact hw')];by_cases e:w=v
     ·simp[e]
     ·simp only[e,if_false];exact h.set w hw hw'
    ·rw[at0_set h0 (by rw[h.s];exact h1) hw (by rw[h.s];exact hw')];by_cases e:w=v
     ·simp[e]
     ·simp only[yG,List.mem_singleton,e,or_false,if_false];exact h.seen w hw hw'
   obtain⟨q1,q2⟩:=setGo_rel r _ _ _ hr;refine⟨q1,fun hok=>?_⟩;obtain⟨q3,q4⟩:=q2 hok;refine⟨by simpa using q3,fun w hw=>?_⟩;simp only[yaa,yO]at hw;rcases hw with rfl|hw
   ·exact⟨h0,h1,hb'.2⟩
   ·obtain⟨p1,p2,p3⟩:=q4 w hw;rw[at0_set h0 (by rw[h.s];exact h1) p1 (by rw[h.s];exact p2)]at p3;split at p3
    ·omega
    ·exact⟨p1,p2,p3⟩
  ·simp only[Bool.not_eq_true]at hb;simp[hb]
theorem zip_fst{l ts:List Int}(h:l.length=ts.length):(l.zip ts).map Prod.fst=l:=by
 rw[List.map_fst_zip];omega
def zma(ty:List Int)(seen outs:List Int)(q:Bool×St1)(r:Bool×Set1):Prop:=
 q.1=r.1/\(q.1=true->Rel ty q.2 (seen++outs) r.2/\∀v∈outs,0<=v/\v<(ty.length:Int)/\v ∉ seen)
theorem ztc{ty:List Int}{S:St1}{seen:List Int}{Z:Set1}(h:Rel ty S seen Z)(l ts:List Int):zma ty seen l (setM ty S l ts) (setsR ty Z l ts):=by
 unfold setM setsR eqM;by_cases hl:l.length=ts.length
 ·rw[if_pos hl,if_pos hl];obtain⟨q1,q2⟩:=setGo_rel (l.zip ts) S seen Z h;refine⟨q1,fun hok=>?_⟩;obtain⟨q3,q4⟩:=q2 hok;rw[zip_fst hl]at q3 q4;refine⟨q3,fun v hv=>?_⟩;obtain⟨p1,p2,p3⟩:=q4 v hv;exact⟨p1,p2,fun hm=>by have:=(h.seen v p1 p2).1 hm;omega⟩
 ·rw[if_neg hl,if_neg hl];exact⟨rfl,fun h=>by cases h⟩
theorem zma.fail{ty:List Int}{seen outs:List Int}{S:St1}{Z:Set1}:zma ty seen outs (false,S) (false,Z):=⟨rfl,fun h=>by cases h⟩
theorem zma.nil{ty:List Int}{seen:List Int}{S:St1}{Z:Set1}{outs:List Int}{b:Bool}(h:Rel ty S seen Z)(ho:b=true->outs=[]):zma ty seen outs (b,S) (b,Z):=
 ⟨rfl,fun hb=>by simp only at hb;rw[ho hb];exact⟨by simpa using h,fun v hv=>by simp at hv⟩⟩
theorem setM_nil(ty:List Int)(S:St1)(l:List Int):setM ty S l []=(decide (l=[]),S):=by
 unfold setM eqM;cases l with
 |nil=>rfl
 |cons x r=>simp
theorem usesM_nil(ty:List Int)(S:St1)(l:List Int):zva ty S l []=decide (l=[]):=by
 unfold zva eqM;cases l with
 |nil=>rfl
 |cons x r=>simp
theorem zma.ite{ty:List Int}{seen outs:List Int}{q:Bool×St1}{r:Bool×Set1}{S:St1}{Z:Set1}{b c:Prop}[Decidable b][Decidable c](hbc:b<->c)(h:zma ty seen outs q r):zma ty seen outs (if b then q else(false,S)) (if c then r else(false,Z)):=by
 by_cases hb:b
 ·rw[if_pos hb,if_pos (hbc.1 hb)];exact h
 ·rw[if_neg hb,if_neg (fun hc=>hb (hbc.2 hc))];exact zma.fail
theorem simple_rel{u:Unt}{f:Flow}{S:St1}{seen:List Int}{Z:Set1}(h:Rel f.types S seen Z)(x:Node)(w:Place)(hk:endK x.kind=false):zma f.types seen x.outs (zHa u f S x) (simpleR u f seen w Z x):=by
 have hu:=use_rel h;have k12:¬x.kind=12:=by rintro e;simp[endK,e]at hk
 have k13:¬x.kind=13:=by rintro e;simp[endK,e]at hk
 have k14:¬x.kind=14:=by rintro e;simp[endK,e]at hk
 have k15:¬x.kind=15:=by rintro e;simp[endK,e]at hk
 unfold zHa simpleR;simp only[hu,k12,k13,k14,k15,if_false];by_cases k1:x.kind=1
 ·simp only[k1,if_true];exact zma.ite Iff.rfl (ztc h _ _)
 by_cases k2:x.kind=2
 ·simp only[k2,if_true];simp;exact zma.ite Iff.rfl (ztc h _ _)
 by_cases k3:x.kind=3
 ·simp[k3,sumM,hu];refine zma.ite ?_ (ztc h _ _);simp[isOne];grind
 by_cases k4:x.kind=4
 ·simp[k4,sumM,hu];refine zma.ite ?_ (ztc h _ _);simp[isTwo];grind
 by_cases k5:x.kind=5
 ·simp[k5];exact zma.ite Iff.rfl (ztc h _ _)
 by_cases k6:x.kind=6
 ·simp[k6,setM_nil];by_cases hc:zGb u.arrays x.name=true/\zEa f.types seen x.args [1,1]=true
  ·rw[if_pos hc];simp[hc.1,hc.2];exact zma.nil h (by simp)
  ·rw[if_neg hc];have:(zGb u.arrays x.name&&(zEa f.types seen x.args [1,1]&&decide (x.outs=[])))=false:=by
    cases h1:zGb u.arrays x.name<;>cases h2:zEa f.types seen x.args [1,1]<;>simp_all
   rw[this];exact zma.fail
 by_cases k7:x.kind=7
 ·simp[k7];cases hfl:u.flows[(zja u.flows x.name).toNat]? with
  |none=>exact zma.fail
  |some g=>exact zma.ite Iff.rfl (ztc h _ _)
 by_cases k8:x.kind=8
 ·simp[k8];have:(zEa f.types seen x.args []=true)<->x.args=[]:=by rw[<-hu,usesM_nil];simp
  exact zma.ite this (ztc h _ _)
 by_cases k9:x.kind=9
 ·simp[k9,setM_nil];cases hc:zEa f.types seen x.args [1]
  ·simp;exact zma.fail
  ·simp;exact zma.nil h (by simp)
 simp[k1,k2,k3,k4,k5,k6,k7,k8,k9];exact zma.fail
theorem end_rel{u:Unt}{f:Flow}{S:St1}{seen:List Int}{Z:Set1}(h:Rel f.types S seen Z)(x:Node)(w:Place)(hk:endK x.kind=true):zma f.types seen x.outs (endM f S x w,S) (simpleR u f seen w Z x):=by
 have hu:=use_rel h;have e:simpleR u f seen w Z x=(endM f S x w,Z):=by
  simp only[endK,ya,decide_eq_true_eq]at hk;have:x.kind=12\/x.kind=13\/x.kind=14\/x.kind=15:=by omega
  unfold simpleR endM;rcases this with k|k|k|k<;>simp[k,hu]<;>grind
 rw[e];refine zma.nil h (fun hb=>?_);simp only[endM,ya,decide_eq_true_eq]at hb;exact hb.1
theorem at0_hide(S:St1)(l:List Int):∀{n:Nat},S.length=n->(∀v∈l,0<=v/\v<(n:Int))->∀w,0<=w->w<(n:Int)->at0 (zCb S l) w=if w∈l then 2 else at0 S w:=by
 induction l generalizing S with
 |nil=>intro n hS hl w h0 h1;simp[zCb]
 |cons v r ih=>
  intro n hS hl w h0 h1;obtain⟨v0,v1⟩:=hl v (by simp);have e:zCb S (v::r)=zCb (S.set v.toNat 2) r:=rfl;rw[e,ih (S.set v.toNat 2) (by simpa using hS) (fun x hx=>hl x (yda _ hx)) w h0 h1];rw[at0_set v0 (by omega) h0 (by omega)];by_cases hw:w=v
  ·subst hw;by_cases hr:w∈r<;>simp[hr]
  ·by_cases hr:w∈r<;>simp[hr,hw]
theorem Rel.hide{ty:List Int}{S:St1}{seen:List Int}{Z:Set1}{l:List Int}(h:Rel ty S (seen++l) Z)(hl:∀v∈l,0<=v/\v<(ty.length:Int)/\v ∉ seen):Rel ty (zCb S l) seen Z:=by
 have hh:=at0_hide S l h.s (fun v hv=>⟨(hl v hv).1,(hl v hv).2.1⟩);refine⟨by rw[zGc];exact h.s,h.z,fun v h0 h1=>?_,fun v h0 h1=>?_⟩
 ·rw[hh v h0 h1,h.set v h0 h1];by_cases hv:v∈l
  ·have:=(h.seen v h0 h1).1 (List.mem_append_right _ hv);simp[hv,this]
  ·simp[hv]
 ·rw[hh v h0 h1];have hs:=h.seen v h0 h1;rw[yG]at hs;by_cases hv:v∈l
  ·simp[hv,(hl v hv).2.2]
  ·simp only[hv,or_false,if_false]at hs ⊢;exact hs
def Same1(ty:List Int)(seen:List Int)(q:Bool×St1)(r:Bool×Set1):Prop:=q.1=r.1/\(q.1=true->Rel ty q.2 seen r.2)
theorem list_rel{ty:List Int}{seen:List Int}{l:List Node}{q:Bool×St1}{r:Bool×Set1}(h:zma ty seen (louts l) q r):Same1 ty seen (listE l q) (lastE l r):=by
 obtain⟨h1,h2⟩:=h;unfold listE lastE;rw[<-h1];cases hq:q.1
 ·exact⟨rfl,fun h=>by cases h⟩
 ·simp only[if_true];refine⟨rfl,fun _=>?_⟩;obtain⟨h3,h4⟩:=h2 hq;exact h3.hide h4
theorem choice_rel{ty:List Int}{seen:List Int}{x:Node}{q:Bool×St1}{r:Bool×Set1}(h:Same1 ty seen q r):zma ty seen x.outs (zbc ty x q) (endR ty x r):=by
 obtain⟨h1,h2⟩:=h;unfold zbc endR;rw[<-h1];cases hq:q.1
 ·simp;exact zma.fail
 ·by_cases hb:(decide (x.outs=[])|| !zB x)=true
  ·simp only[hb,Bool.and_self,if_true];exact ztc (h2 hq) _ _
  ·simp only[hb,yxa];exact zma.fail
theorem loop_rel{ty:List Int}{seen:List Int}{x:Node}{q:Bool×St1}{r:Bool×Set1}(h:Same1 ty (seen++x.params) q r)(hp:∀v∈x.params,0<=v/\v<(ty.length:Int)/\v ∉ seen):zma ty seen x.outs (loopE ty x q) (endR ty x r):=by
 obtain⟨h1,h2⟩:=h;unfold loopE endR;rw[<-h1];cases hq:q.1
 ·simp;exact zma.fail
 ·by_cases hb:(decide (x.outs=[])|| !zB x)=true
  ·simp only[hb,Bool.and_self,if_true];exact ztc ((h2 hq).hide hp) _ _
  ·simp only[hb,yxa,if_true];exact zma.fail
mutual
theorem node_rel(u:Unt)(f:Flow):∀(x:Node) (w:Place) (deep:Int) (S:St1) (seen:List Int) (Z:Set1),Rel f.types S seen Z->zma f.types seen x.outs (nodeM u f x w deep S) (nodeR u f x seen w deep Z)
 |⟨k,o,n,s,a,us,ps,ks⟩,w,deep,S,seen,Z,h=>by
  have hu:=use_rel h;rw[nodeM,nodeR];cases hb:bareM ⟨k,o,n,s,a,us,ps,ks⟩
  ·simp;exact zma.fail
  simp only[Bool.not_true,yD,if_false];by_cases k10:k=10
  ·simp only[k10,if_true];refine zma.ite (by rw[hu]) ?_;exact choice_rel (kids_rel u f ks _ _ S seen Z h)
  simp only[k10,if_false];by_cases k11:k=11
  ·simp only[k11,if_true];rw[hu];cases hc:zEa f.types seen a (zU f.types ps)
   ·simp;exact zma.fail
   simp only[if_true];obtain⟨p1,p2⟩:=ztc h ps (zeros ps.length);have e:allM f.types S ps=setM f.types S ps (zeros ps.length):=rfl;rw[e,<-p1];cases hok:(setM f.types S ps (zeros ps.length)).1
   ·simp;exact zma.fail
   simp only[if_true];obtain⟨p3,p4⟩:=p2 hok;exact loop_rel (kids_rel u f ks _ _ _ _ _ p3) p4
  simp only[k11,if_false];cases hk:endK k
  ·simp only[yD,if_false];exact simple_rel h _ w hk
  ·simp only[if_true];exact end_rel h _ w hk
theorem kids_rel(u:Unt)(f:Flow):∀(ks:List (List Node)) (w:Place) (deep:Int) (S:St1) (seen:List Int) (Z:Set1),Rel f.types S seen Z->Same1 f.types seen (zVc u f ks w deep S) (kidsR u f ks seen w deep Z)
 | [],w,deep,S,seen,Z,h=>by rw[zVc,kidsR];exact⟨rfl,fun _=>h⟩
 |l::r,w,deep,S,seen,Z,h=>by
  rw[zVc,kidsR];obtain⟨h1,h2⟩:=list_rel (go_rel u f l w deep S seen Z h);rw[<-h1];cases hq:(listE l (goM u f l w deep S)).1
  ·simp only[yD,if_false];exact⟨rfl,fun h=>by cases h⟩
  ·simp only[if_true];exact kids_rel u f r w deep _ seen _ (h2 hq)
theorem go_rel(u:Unt)(f:Flow):∀(l:List Node) (w:Place) (deep:Int) (S:St1) (seen:List Int) (Z:Set1),Rel f.types S seen Z->zma f.types seen (louts l) (goM u f l w deep S) (goR u f l seen w deep Z)
 | [],w,deep,S,seen,Z,h=>by rw[goM,goR];exact zma.nil h (fun _=>rfl)
 |x::r,w,deep,S,seen,Z,h=>by
  rw[goM,goR];by_cases hd:100<deep
  ·rw[if_pos hd,if_pos hd];exact zma.fail
  rw[if_neg hd,if_neg hd];obtain⟨h1,h2⟩:=node_rel u f x w deep S seen Z h;rw[<-h1];cases hq:(nodeM u f x w deep S).1
  ·simp only[yD,if_false];exact zma.fail
  simp only[if_true];obtain⟨h3,h4⟩:=h2 hq;by_cases hc:zB x=r.isEmpty
  ·rw[if_pos hc,if_pos hc];obtain⟨q1,q2⟩:=go_rel u f r w deep _ _ _ h3;refine⟨q1,fun hok=>?_⟩;obtain⟨q3,q4⟩:=q2 hok;rw[louts_cons];refine⟨by simpa[List.append_assoc]using q3,fun v hv=>?_⟩;rcases yG.1 hv with hv|hv
   ·exact h4 v hv
   ·obtain⟨p1,p2,p3⟩:=q4 v hv;exact⟨p1,p2,fun hm=>p3 (List.mem_append_left _ hm)⟩
  ·rw[if_neg hc,if_neg hc];exact zma.fail
end
theorem init_rel(f:Flow)(hp:0<=f.params/\f.params<=f.types.length):Rel f.types (initM f f.params.toNat) (firsts f.params.toNat) (initR f f.params.toNat):=by
 have hk:f.params.toNat<=f.types.length:=by omega
 refine⟨initM_len f _ hk,initR_len f _ hk,fun v h0 h1=>?_,fun v h0 h1=>?_⟩
 ·have hv:v.toNat<f.types.length:=by omega
  unfold at0 atB initM initR;rw[List.getElem?_append,List.getElem?_append];by_cases h:v.toNat<f.params.toNat
  ·simp[h]
  ·have:v.toNat-f.params.toNat<f.types.length-f.params.toNat:=by omega
   simp[h,this]
 ·have hv:v.toNat<f.types.length:=by omega
  have hm:v∈firsts f.params.toNat<->v.toNat<f.params.toNat:=by
   simp only[firsts,yua,yia];constructor
   ·rintro⟨i,hi,rfl⟩;simpa using hi
   ·intro h;exact⟨v.toNat,h,by omega⟩
  rw[hm];unfold at0 initM;rw[List.getElem?_append];by_cases h:v.toNat<f.params.toNat
  ·simp[h]
  ·have:v.toNat-f.params.toNat<f.types.length-f.params.toNat:=by omega
   simp[h,this]
theorem flow_eq(u:Unt)(f:Flow)(hp:0<=f.params/\f.params<=f.types.length):flowM u f=flowR u f:=by
 have h:=list_rel (go_rel u f f.body place0 1 _ _ _ (init_rel f hp));have h1:¬f.params<0:=by omega
 have h2:¬(f.types.length:Int)<f.params:=by omega
 have h3:(zUa u f f.body place0 1 (initM f f.params.toNat)).1=(listR u f f.body (firsts f.params.toNat) place0 1 (initR f f.params.toNat)).1:=h.1;simp only[flowM,flowR,h1,h2,h3,decide_false,ywa,Bool.or_false]
theorem findIdx_congr{α:Type}{p q:α->Bool}:∀{l:List α},(∀x∈l,p x=q x)->l.findIdx? p=l.findIdx? q
 | [],_=>rfl
 |x::r,h=>by
  rw[List.findIdx?_cons,List.findIdx?_cons,h x (by simp),findIdx_congr (fun y hy=>h y (yda _ hy))]
theorem check_eq(u:Unt):zcc u=rcheckM u:=by
 unfold zcc rcheckM;rw[rhead_eq];cases hh:zvc u
 ·rfl
 ·have:u.flows.findIdx? (fun f=> !flowM u f)=u.flows.findIdx? (fun f=> !flowR u f):=by
   refine findIdx_congr (fun f hf=>?_);simp only[zvc,ya,yo]at hh;have:=hh.1.1.2 f hf;simp only[zHb,ya,decide_eq_true_eq]at this;rw[flow_eq u f ⟨this.1.2,this.2⟩]
  rw[this]<;>rfl
def inR(m:Nat)(l:List Int):Prop:=∀v∈l,0<=v/\v<(m:Int)
structure Pl where
 y:Option Nat
 x:Option Nat
 l:Option Nat
structure okH(u:Unt)(m:Nat)(p:Pl)(n:Node):Prop where
 args:inR m n.args
 outs:inR m n.outs
 prs:inR m n.params
 k12:(n.kind=1\/n.kind=2)->n.outs.length=1
 k3:n.kind=3->n.args.length=1/\n.outs.length=1
 k4:n.kind=4->n.args.length=2/\n.outs.length=1
 k5:n.kind=5->zGb u.arrays n.name=true/\n.args.length=1/\n.outs.length=1
 k6:n.kind=6->zGb u.arrays n.name=true/\n.args.length=2/\n.outs.length=0
 k7:n.kind=7->∃g,flowAt u n.name=some g/\0<=zja u.flows n.name/\n.args.length=(pars g).length/\n.outs.length=1
 k8:n.kind=8->n.outs.length=1
 k9:n.kind=9->n.args.length=1/\n.outs.length=0
 k10:n.kind=10->n.args.length=1/\n.kids.length=2
 k11:n.kind=11->n.args.length=n.params.length/\n.kids.length=1
 k12':n.kind=12->p.y=some n.args.length
 k13:n.kind=13->p.x=some n.args.length
 k14:n.kind=14->p.l=some n.args.length
 k15:n.kind=15->n.args.length=1
 k:1<=n.kind/\n.kind<=15
def plIn(p:Pl)(k:Int)(us ps:List Int):Pl:=if k=11 then⟨none,some ps.length,some us.length⟩else{p with y:=some us.length}
mutual
def okN(u:Unt)(m:Nat):Pl->Node->Prop
 |p,⟨k,o,n,s,a,us,ps,ks⟩=>okH u m p ⟨k,o,n,s,a,us,ps,ks⟩/\okK u m (plIn p k us ps) ks
def okK(u:Unt)(m:Nat):Pl->List (List Node)->Prop
 |p,[]=>True
 |p,l::r=>(l≠ []/\okL u m p l)/\okK u m p r
def okL(u:Unt)(m:Nat):Pl->List Node->Prop
 |p,[]=>True
 |p,x::r=>okN u m p x/\zB x=r.isEmpty/\okL u m p r
end
theorem okN_eq(u:Unt)(m:Nat)(p:Pl)(x:Node):okN u m p x=(okH u m p x/\okK u m (plIn p x.kind x.outs x.params) x.kids):=by
 cases x;rw[okN]
theorem okK_mem{u:Unt}{m:Nat}{p:Pl}:∀{ks:List (List Node)},okK u m p ks->∀l∈ks,l≠ []/\okL u m p l
 | [],_,l,h=>by cases h
 |k::r,h,l,hl=>by
  rw[okK]at h;rcases yO.1 hl with rfl|hl
  ·exact h.1
  ·exact okK_mem h.2 l hl
def plOf(w:Place):Pl:=⟨if w.inIf then some w.yield.length else none,if w.inLoop then some w.next.length else none,if w.inLoop then some w.left.length else none⟩
theorem zfa{ty seen l want:List Int}(h:zEa ty seen l want=true):inR ty.length l/\l.length=want.length:=by
 unfold zEa at h;rw[ya,decide_eq_true_eq,yo]at h;refine⟨fun v hv=>?_,h.1⟩;obtain⟨i,hi⟩:=List.getElem?_of_mem hv;have hlt:=(yb.1 hi).1;obtain⟨t,ht⟩:∃t,want[i]? =some t:=⟨_,ye (by omega)⟩
 have hm:(v,t)∈l.zip want:=yI (i:=i) (by rw[List.getElem?_zip_eq_some];exact⟨hi,ht⟩);have:=h.2 _ hm;simp only[useR,ya,decide_eq_true_eq]at this;exact⟨this.1,this.2.1⟩
theorem setRG_go{ty:List Int}:∀{l:List (Int×Int)} {S:Set1},(eqGo (setRG ty) S l).1=true->∀q∈l,0<=q.1/\q.1<ty.length
 | [],_,_,q,hq=>by cases hq
 |(v,t)::r,S,h,q,hq=>by
  simp only[eqGo,setRG]at h;by_cases hb:(valM ty v t&& !atB S v)=true
  ·simp only[hb,if_true]at h;rcases yO.1 hq with rfl|hq
   ·rw[ya]at hb;exact zKa hb.1
   ·exact setRG_go h q hq
  ·simp only[Bool.not_eq_true]at hb;simp[hb]at h
theorem zIb{ty:List Int}{Z:Set1}{l want:List Int}(h:(setsR ty Z l want).1=true):inR ty.length l/\l.length=want.length:=by
 unfold setsR eqM at h;split at h
 ·rename_i hl;refine⟨fun v hv=>?_,hl⟩;have:v∈(l.zip want).map Prod.fst:=by rw[zip_fst hl];exact hv
  obtain⟨q,hq,rfl⟩:=yua.1 this;exact setRG_go h q hq
 ·cases h
theorem typesM_len{ty l:List Int}(h:inR ty.length l):(zU ty l).length=l.length:=by
 unfold zU;rw[if_pos,yY];rw[yo];intro v hv;obtain⟨h0,h1⟩:=h v hv;simp[valM,h0,h1]
theorem zWc(m:Nat):inR m []:=fun v h=>by cases h
theorem endR_ok{ty:List Int}{x:Node}{q:Bool×Set1}(h:(endR ty x q).1=true):q.1=true/\inR ty.length x.outs:=by
 unfold endR at h;split at h
 ·rename_i hc;rw[ya]at hc;exact⟨hc.1,(zIb h).1⟩
 ·cases h
theorem bareM_ok{x:Node}(h:bareM x=true):(x.kids.length:Int)=kidsN x.kind/\(x.kind=11\/x.params=[]):=by
 simp only[bareM,ya,yL,decide_eq_true_eq]at h;exact⟨h.2,h.1.2⟩
theorem simpleR_ok{u:Unt}{f:Flow}{seen:List Int}{w:Place}{Z:Set1}{x:Node}(hb:bareM x=true)(h10:x.kind≠10)(h11:x.kind≠11)(h:(simpleR u f seen w Z x).1=true):okH u f.types.length (plOf w) x:=by
 obtain⟨_,hp⟩:=bareM_ok hb;have hp:x.params=[]:=hp.resolve_left h11;have hpar:inR f.types.length x.params:=by rw[hp];exact zWc _
 unfold simpleR at h;dsimp only at h;by_cases k1:x.kind=1
 ·rw[if_pos k1]at h;split at h
  ·rename_i ha;have a:=zfa ha;have o:=zIb h;refine⟨a.1,o.1,hpar,?_,?_,?_,?_,?_,?_,?_,?_,?_,?_,?_,?_,?_,?_,?_⟩<;>intros<;>first|omega|(simp_all;done)|skip
  ·cases h
 rw[if_neg k1]at h;by_cases k2:x.kind=2
 ·rw[if_pos k2]at h;split at h
  ·rename_i ha;have a:=zfa ha.2;have o:=zIb h;refine⟨a.1,o.1,hpar,?_,?_,?_,?_,?_,?_,?_,?_,?_,?_,?_,?_,?_,?_,?_⟩<;>intros<;>first|omega|(simp_all;done)|skip
  ·cases h
 rw[if_neg k2]at h;by_cases k3:x.kind=3
 ·rw[if_pos k3]at h;split at h
  ·rename_i ha;rw[ya]at ha;have a:=zfa ha.2;have o:=zIb h;refine⟨a.1,o.1,hpar,?_,?_,?_,?_,?_,?_,?_,?_,?_,?_,?_,?_,?_,?_,?_⟩<;>intros<;>first|omega|(simp_all;done)|skip
  ·cases h
 rw[if_neg k3]at h;by_cases k4:x.kind=4
 ·rw[if_pos k4]at h;split at h
  ·rename_i ha;have ha:=ha.1;rw[ya]at ha;have a:=zfa ha.2;have o:=zIb h;refine⟨a.1,o.1,hpar,?_,?_,?_,?_,?_,?_,?_,?_,?_,?_,?_,?_,?_,?_,?_⟩<;>intros<;>first|omega|(simp_all;done)|skip
  ·cases h
 rw[if_neg k4]at h;by_cases k5:x.kind=5
 ·rw[if_pos k5]at h;split at h
  ·rename_i ha;rw[ya]at ha;have a:=zfa ha.2;have o:=zIb h;refine⟨a.1,o.1,hpar,?_,?_,?_,?_,?_,?_,?_,?_,?_,?_,?_,?_,?_,?_,?_⟩<;>intros<;>first|omega|(simp_all;done)|skip
  ·cases h
 rw[if_neg k5]at h;by_cases k6:x.kind=6
 ·rw[if_pos k6]at h;simp only[ya,decide_eq_true_eq]at h;have a:=zfa h.2.1;have o:inR f.types.length x.outs:=by rw[h.2.2];exact zWc _
  have o2:x.outs.length=0:=by rw[h.2.2];rfl
  refine⟨a.1,o,hpar,?_,?_,?_,?_,?_,?_,?_,?_,?_,?_,?_,?_,?_,?_,?_⟩<;>intros<;>first|omega|(simp_all;done)|skip
 rw[if_neg k6]at h;by_cases k7:x.kind=7
 ·rw[if_pos k7]at h;split at h
  ·rename_i g hg;split at h
   ·rename_i ha;have a:=zfa ha.2;have o:=zIb h;have hk:∃g,flowAt u x.name=some g/\0<=zja u.flows x.name/\x.args.length=(pars g).length/\x.outs.length=1:=⟨g,hg,ha.1,a.2,o.2⟩
    refine⟨a.1,o.1,hpar,?_,?_,?_,?_,?_,fun _=>hk,?_,?_,?_,?_,?_,?_,?_,?_,?_⟩<;>intros<;>omega
   ·cases h
  ·cases h
 rw[if_neg k7]at h;by_cases k8:x.kind=8
 ·rw[if_pos k8]at h;split at h
  ·rename_i ha;have o:=zIb h;have a:inR f.types.length x.args:=by rw[ha];exact zWc _
   refine⟨a,o.1,hpar,?_,?_,?_,?_,?_,?_,?_,?_,?_,?_,?_,?_,?_,?_,?_⟩<;>intros<;>first|omega|(simp_all;done)|skip
  ·cases h
 rw[if_neg k8]at h;by_cases k9:x.kind=9
 ·rw[if_pos k9]at h;simp only[ya,decide_eq_true_eq]at h;have a:=zfa h.1;have o:inR f.types.length x.outs:=by rw[h.2];exact zWc _
  have o2:x.outs.length=0:=by rw[h.2];rfl
  refine⟨a.1,o,hpar,?_,?_,?_,?_,?_,?_,?_,?_,?_,?_,?_,?_,?_,?_,?_⟩<;>intros<;>first|omega|(simp_all;done)|skip
 rw[if_neg k9]at h;by_cases k12:x.kind=12
 ·rw[if_pos k12]at h;simp only[ya,decide_eq_true_eq]at h;have a:=zfa h.2.1;have o:inR f.types.length x.outs:=by rw[h.2.2];exact zWc _
  have hy:(plOf w).y=some x.args.length:=by simp only[plOf,h.1,if_true,a.2]
  refine⟨a.1,o,hpar,?_,?_,?_,?_,?_,?_,?_,?_,?_,?_,?_,?_,?_,?_,?_⟩<;>intros<;>first|omega|(simp_all;done)|skip
 rw[if_neg k12]at h;by_cases k13:x.kind=13
 ·rw[if_pos k13]at h;simp only[ya,decide_eq_true_eq]at h;have a:=zfa h.2.1;have o:inR f.types.length x.outs:=by rw[h.2.2];exact zWc _
  have hy:(plOf w).x=some x.args.length:=by simp only[plOf,h.1,if_true,a.2]
  refine⟨a.1,o,hpar,?_,?_,?_,?_,?_,?_,?_,?_,?_,?_,?_,?_,?_,?_,?_⟩<;>intros<;>first|omega|(simp_all;done)|skip
 rw[if_neg k13]at h;by_cases k14:x.kind=14
 ·rw[if_pos k14]at h;simp only[ya,decide_eq_true_eq]at h;have a:=zfa h.2.1;have o:inR f.types.length x.outs:=by rw[h.2.2];exact zWc _
  have hy:(plOf w).l=some x.args.length:=by simp only[plOf,h.1,if_true,a.2]
  refine⟨a.1,o,hpar,?_,?_,?_,?_,?_,?_,?_,?_,?_,?_,?_,?_,?_,?_,?_⟩<;>intros<;>first|omega|(simp_all;done)|skip
 rw[if_neg k14]at h;by_cases k15:x.kind=15
 ·rw[if_pos k15]at h;simp only[ya,decide_eq_true_eq]at h;have a:=zfa h.1;have o:inR f.types.length x.outs:=by rw[h.2];exact zWc _
  refine⟨a.1,o,hpar,?_,?_,?_,?_,?_,?_,?_,?_,?_,?_,?_,?_,?_,?_,?_⟩<;>intros<;>first|omega|(simp_all;done)|skip
 rw[if_neg k15]at h;cases h
theorem plOf_if{w:Place}{ty us ps:List Int}(h:inR ty.length us):plOf {w with inIf:=true,yield:=zU ty us}=plIn (plOf w) 10 us ps:=by
 simp[plOf,plIn,typesM_len h]
theorem plOf_loop{p:Pl}{ty us ps:List Int}(h:inR ty.length us)(h':inR ty.length ps):plOf ⟨false,true,[],zU ty ps,zU ty us⟩=plIn p 11 us ps:=by
 simp[plOf,plIn,typesM_len h,typesM_len h']
mutual
theorem nodeR_ok(u:Unt)(f:Flow):∀(x:Node) (seen:List Int) (w:Place) (deep:Int) (Z:Set1),(nodeR u f x seen w deep Z).1=true->okN u f.types.length (plOf w) x
 |⟨k,o,n,s,a,us,ps,ks⟩,seen,w,deep,Z,h=>by
  rw[okN];rw[nodeR]at h;by_cases hb:bareM ⟨k,o,n,s,a,us,ps,ks⟩=true
  ·rw[hb]at h;simp only[Bool.not_true,yD,if_false]at h;obtain⟨hk,hp⟩:=bareM_ok hb;simp only at hk hp;by_cases k10:k=10
   ·rw[if_pos k10]at h;split at h
    ·rename_i ha;have a1:=zfa ha;obtain⟨q1,q2⟩:=endR_ok h;simp only at q2;have hp0:ps=[]:=hp.resolve_left (by omega);have hk2:ks.length=2:=by rw[k10]at hk;simp[kidsN]at hk;omega
     have hkid:=kidsR_ok u f ks _ _ _ _ q1;rw[plOf_if (ps:=ps) q2]at hkid;rw[k10];refine⟨⟨a1.1,q2,by simp only[hp0];exact zWc _,?_,?_,?_,?_,?_,?_,?_,?_,?_,?_,?_,?_,?_,?_,?_⟩,hkid⟩<;>intros<;>(try dsimp only at*)<;>first|omega|exact⟨a1.2,hk2⟩|exact⟨by simpa using a1.2,hk2⟩
    ·cases h
   ·rw[if_neg k10]at h;by_cases k11:k=11
    ·rw[if_pos k11]at h;split at h
     ·rename_i ha;split at h
      ·rename_i hs;have s1:=zIb hs;have a1:=zfa ha;rw[typesM_len s1.1]at a1;obtain⟨q1,q2⟩:=endR_ok h;simp only at q2;have hk2:ks.length=1:=by rw[k11]at hk;simp[kidsN]at hk;omega
       have hkid:=kidsR_ok u f ks _ _ _ _ q1;rw[plOf_loop (p:=plOf w) q2 s1.1]at hkid;rw[k11];refine⟨⟨a1.1,q2,s1.1,?_,?_,?_,?_,?_,?_,?_,?_,?_,?_,?_,?_,?_,?_,?_⟩,hkid⟩<;>intros<;>(try dsimp only at*)<;>first|omega|exact⟨a1.2,hk2⟩|exact⟨by simpa using a1.2,hk2⟩
      ·cases h
     ·cases h
    ·rw[if_neg k11]at h;have hh:=simpleR_ok hb k10 k11 h;have hk0:ks=[]:=by
      simp[kidsN,k10,k11]at hk;exact hk
     exact⟨hh,by rw[hk0,okK];trivial⟩
  ·simp only[Bool.not_eq_true]at hb;rw[hb]at h;simp at h
theorem kidsR_ok(u:Unt)(f:Flow):∀(ks:List (List Node)) (seen:List Int) (w:Place) (deep:Int) (Z:Set1),(kidsR u f ks seen w deep Z).1=true->okK u f.types.length (plOf w) ks
 | [],seen,w,deep,Z,h=>by rw[okK];trivial
 |l::r,seen,w,deep,Z,h=>by
  rw[okK];rw[kidsR]at h;split at h
  ·rename_i hl;refine⟨?_,kidsR_ok u f r _ _ _ _ h⟩;unfold lastE at hl;split at hl
   ·rename_i hg;refine⟨?_,goR_ok u f l _ _ _ _ hg⟩
    rintro rfl
    simp at hl
   ·cases hl
  ·cases h
theorem goR_ok(u:Unt)(f:Flow):∀(l:List Node) (seen:List Int) (w:Place) (deep:Int) (Z:Set1),(goR u f l seen w deep Z).1=true->okL u f.types.length (plOf w) l
 | [],seen,w,deep,Z,h=>by rw[okL];trivial
 |x::r,seen,w,deep,Z,h=>by
  rw[okL];rw[goR]at h;split at h
  ·cases h
  ·split at h
   ·rename_i hn;split at h
    ·rename_i hc;exact⟨nodeR_ok u f x _ _ _ _ hn,hc,goR_ok u f r _ _ _ _ h⟩
    ·cases h
   ·cases h
end
structure OkU(u:Unt):Prop where
 sz:USz u
 body:∀f∈u.flows,f.body≠ []/\okL u f.types.length ⟨none,none,none⟩ f.body
 pars:∀f∈u.flows,0<=f.params/\f.params<=f.types.length
 arrs:∀a∈u.arrays,1<=a.size/\a.size<=1000
 names:(u.arrays.map Arr.name).Nodup
 main:∃f,flowAt u zC=some f/\f∈u.flows/\0<=zja u.flows zC/\f.params=0
theorem checkM_ok{u:Unt}(hz:USz u)(h:(zcc u).1=0):OkU u:=by
 have h2:=h;rw[check_eq]at h2;unfold rcheckM at h2;rw[rhead_eq]at h2;cases hh:zvc u
 ·rw[hh]at h2;simp at h2
 ·rw[hh]at h2;simp only[if_true]at h2;have hfl:∀f∈u.flows,flowR u f=true:=by
   cases hx:u.flows.findIdx? (fun f=> !flowR u f)with
   |some i=>rw[hx]at h2;simp at h2
   |none=>rw[yfa]at hx;simpa using hx
  simp only[zvc,ya,yo,decide_eq_true_eq]at hh;obtain⟨⟨⟨ha,hf⟩,hn⟩,hm⟩:=hh;refine⟨hz,fun f hf'=>?_,fun f hf'=>?_,fun a ha'=>?_,?_,?_⟩
  ·have h3:=hfl f hf';unfold flowR at h3;rw[ya]at h3;have h4:=h3.2;unfold listR lastE at h4;split at h4
   ·rename_i hg;refine⟨?_,goR_ok u f f.body _ _ _ _ hg⟩;intro e;rw[e]at h4;simp at h4
   ·cases h4
  ·have:=hf f hf';simp only[zHb,ya,decide_eq_true_eq]at this;exact⟨this.1.2,this.2⟩
  ·have:=ha a ha';simp only[arrOk,ya,decide_eq_true_eq]at this;exact⟨this.1.2,this.2⟩
  ·unfold unames at hn;rw[List.nodup_append]at hn;exact hn.1
  ·unfold mainOk at hm;unfold flowAt;split at hm
   ·rename_i f hf';simp only[ya,decide_eq_true_eq]at hm;exact⟨f,hf',yI hf',by grind,by grind⟩
   ·cases hm
structure Mono(S S1:RS):Prop where
 fuel:S1.fuel<=S.fuel
 out:S1.out.length+S1.fuel<=S.out.length+S.fuel
 arrs:S1.arrs.map List.length=S.arrs.map List.length
theorem Mono.refl(S:RS):Mono S S:=⟨yl _,yl _,rfl⟩
theorem Mono.trans{a b c:RS}(h:Mono a b)(k:Mono b c):Mono a c:=⟨yea k.1 h.1,yea k.2 h.2,k.3.trans h.3⟩
structure Mono1(S S1:RS):Prop where
 fuel:S1.fuel<=S.fuel
 out:S1.out.length+S1.fuel<=S.out.length+S.fuel+1
 arrs:S1.arrs.map List.length=S.arrs.map List.length
theorem Mono.one{a b:RS}(h:Mono a b):Mono1 a b:=⟨h.1,by have:=h.2;omega,h.3⟩
theorem zxb:∀(v o n:List Int),(setW v o n).length=v.length
 |v,[],n=>by simp[setW]
 |v,_::_,[]=>by simp[setW]
 |v,o::os,n::ns=>by rw[setW,zxb];simp
theorem zWb(v l:List Int):(ofW v l).length=l.length:=by simp[ofW]
def Ended(p:Pl)(r:Wy):Prop:=
 (r.kind=12/\p.y=some r.l.length)\/(r.kind=13/\p.x=some r.l.length)\/(r.kind=14/\p.l=some r.l.length)\/(r.kind=15/\r.l.length=1)
theorem Ended.ne{p:Pl}{r:Wy}(h:Ended p r):r.kind≠0:=by
 rcases h with h|h|h|h<;>omega
def NodeOk(m:Nat)(p:Pl)(x:Node)(S:RS)(q:Rt Wy×List Int×RS):Prop:=
 Mono S q.2.2/\q.2.1.length=m/\∀r,q.1= .ok r->q.2.2.fuel<S.fuel/\((r.kind=0/\zB x=false)\/(Ended p r/\(r.kind=12->x.kind=12)/\(r.kind=14->x.leaves=true)))
def ListRun(m:Nat)(p:Pl)(l:List Node)(S:RS)(q:Rt Wy×List Int×RS):Prop:=
 Mono S q.2.2/\q.2.1.length=m/\∀r,q.1= .ok r->q.2.2.fuel<S.fuel/\Ended p r/\(r.kind=12->zab l=true)/\(r.kind=14->zBa l=true)
def EvOk(u:Unt)(ev:NEv):Prop:=∀m p x v S,okN u m p x->v.length=m->NodeOk m p x S (ev x v S)
theorem closed_ends{x:Node}(h:12<=x.kind/\x.kind<=15):zB x=true:=by
 unfold zB;rw[if_neg (by omega),if_neg (by omega)];simp[Node.ends,h.1,h.2]
theorem yields_cons{x:Node}{r:List Node}(h:r≠ []):zab (x::r)=zab r:=by
 unfold zab;cases r with
 |nil=>exact absurd rfl h
 |cons y r=>rw[List.getLast?_cons_cons]
section
variable {u:Unt} {ev:NEv} (H:EvOk u ev)
include H
theorem zlc{m:Nat}{p:Pl}:∀(l:List Node) (v:List Int) (S:RS),l≠ []->okL u m p l->v.length=m->ListRun m p l S (zga ev l v S)
 | [],v,S,hne,_,_=>absurd rfl hne
 |x::r,v,S,_,ho,hv=>by
  rw[okL]at ho;obtain⟨o1,o2,o3⟩:=ho;obtain⟨h1,f2,h2⟩:=H m p x v S o1 hv;unfold zga;generalize ev x v S=q at*;obtain⟨a,v1,S1⟩:=q;simp only at f2 h1;cases a with
  |stop k=>exact⟨h1,f2,fun r e=>by cases e⟩
  |ok w=>
   obtain⟨f1,f3⟩:=h2 w rfl;simp only;by_cases hk:w.kind=0
   ·rw[if_pos hk];have hc:zB x=false:=by
     rcases f3 with f3|f3
     ·exact f3.2
     ·exact absurd hk f3.1.ne
    have hne:r≠ []:=by rintro rfl;rw[hc]at o2;cases o2
    obtain⟨i1,i0,i2⟩:=zlc r v1 S1 hne o3 f2;refine⟨h1.trans i1,i0,fun r' e=>?_⟩;obtain⟨j1,j3,j4,j5⟩:=i2 r' e;refine⟨by simp only at f1;omega,j3,fun e=>?_,fun e=>?_⟩
    ·rw[yields_cons hne];exact j4 e
    ·rw[zrb,List.any_cons,<-zrb,j5 e,Bool.or_true]
   ·rw[if_neg hk];refine⟨h1,f2,fun r' e=>?_⟩;cases e;rcases f3 with f3|⟨f3,f4,f5⟩
    ·exact absurd f3.1 hk
    ·refine⟨f1,f3,fun e=>?_,fun e=>?_⟩
     ·have hx:=f4 e;have hc:=closed_ends (x:=x) (by omega);rw[hc]at o2;have:r=[]:=by simpa using o2.symm
      subst this;simp[zab,hx]
     ·rw[zrb,List.any_cons,f5 e,Bool.true_or]
theorem callW_ok{f:Flow}(hb:f.body≠ []/\okL u f.types.length ⟨none,none,none⟩ f.body){l:List Int}(hl:l.length<=f.types.length)(S:RS):
  Mono S (zIa ev f l S).2/\(∀n,(zIa ev f l S).1= .ok n->(zIa ev f l S).2.fuel<S.fuel):=by
 have h:=zlc H f.body (l++yg (f.types.length-l.length) 0) S hb.1 hb.2 (by simp;omega);unfold zIa;generalize zga ev f.body (l++yg (f.types.length-l.length) 0) S=q at*;obtain⟨a,v1,S1⟩:=q;obtain⟨h1,_,h2⟩:=h;cases a with
 |stop k=>exact⟨h1,fun n e=>by cases e⟩
 |ok w=>exact⟨h1,fun n e=>(h2 w rfl).1⟩
theorem plainW_ok(hU:OkU u){m:Nat}{p:Pl}{x:Node}(ho:okH u m p x)(hk:3<=x.kind/\x.kind<=9){l:List Int}(hl:l.length=x.args.length)(S:RS):
  Mono1 S (zcb u ev x l S).2/\∀n,(zcb u ev x l S).1= .ok n->n.length=x.outs.length:=by
 unfold zcb;by_cases k3:x.kind=3
 ·rw[if_pos k3];exact⟨(Mono.refl _).one,fun n e=>by cases e;rw[(ho.k3 k3).2];rfl⟩
 rw[if_neg k3];by_cases k4:x.kind=4
 ·rw[if_pos k4];split
  ·exact⟨(Mono.refl _).one,fun n e=>by cases e;rw[(ho.k4 k4).2];rfl⟩
  ·exact⟨(Mono.refl _).one,fun n e=>by cases e⟩
 rw[if_neg k4];by_cases k5:x.kind=5
 ·rw[if_pos k5];split
  ·exact⟨(Mono.refl _).one,fun n e=>by cases e;rw[(ho.k5 k5).2.2];rfl⟩
  ·exact⟨(Mono.refl _).one,fun n e=>by cases e⟩
 rw[if_neg k5];by_cases k6:x.kind=6
 ·rw[if_pos k6];split
  ·rename_i S1 hp;refine⟨?_,fun n e=>by cases e;rw[(ho.k6 k6).2.2];rfl⟩;unfold putAt at hp;split at hp
   ·cases hp
   ·rw[yB]at hp;obtain⟨row,hr,hp⟩:=hp;split at hp
    ·cases hp;refine Mono.one ⟨yl _,yl _,?_⟩;simp only[yka,List.length_set];have hlt:=(yb.1 hr).1;have e:row.length=(S.arrs.map List.length)[(arrAt u.arrays x.name).toNat]'(by simpa using hlt):=by
      rw[List.getElem_map,(yb.1 hr).2]
     rw[e,List.set_getElem_self]
    ·cases hp
  ·exact⟨(Mono.refl _).one,fun n e=>by cases e⟩
 rw[if_neg k6];by_cases k7:x.kind=7
 ·rw[if_pos k7];obtain⟨g,hg,_,ha,hs⟩:=ho.k7 k7;rw[hg];simp only;have hgm:g∈u.flows:=yI hg;have hc:=callW_ok H (hU.body g hgm) (l:=l) (by rw[hl,ha];simp[pars];omega) S;generalize zIa ev g l S=q at*;obtain⟨a,S1⟩:=q;cases a with
  |stop k=>exact⟨hc.1.one,fun n e=>by cases e⟩
  |ok k=>exact⟨hc.1.one,fun n e=>by cases e;rw[hs];rfl⟩
 rw[if_neg k7];by_cases k8:x.kind=8
 ·rw[if_pos k8];split
  ·exact⟨(Mono.refl _).one,fun n e=>by cases e⟩
  ·exact⟨Mono.one ⟨yl _,yl _,rfl⟩,fun n e=>by cases e;rw[ho.k8 k8];rfl⟩
 rw[if_neg k8];by_cases k9:x.kind=9
 ·rw[if_pos k9];exact⟨⟨yl _,by simp;omega,rfl⟩,fun n e=>by cases e;rw[(ho.k9 k9).2];rfl⟩
 omega
omit H in
theorem kids_two{x:Node}(h:x.kids.length=2):x.kids=[kid0 x,kid1 x]:=by
 unfold kid0 kid1
 match hk:x.kids with
 | [a,b]=>rfl
 | []=>rw[hk]at h;cases h
 | [_]=>rw[hk]at h;cases h
 |_::_::_::_=>rw[hk]at h;simp at h
omit H in
theorem kids_one{x:Node}(h:x.kids.length=1):x.kids=[kid0 x]:=by
 unfold kid0
 match hk:x.kids with
 | [a]=>rfl
 | []=>rw[hk]at h;cases h
 |_::_::_=>rw[hk]at h;simp at h
omit H in
theorem Mono.less{k:Nat}{S:RS}{q:RS}(hf:S.fuel=k+1)(h:Mono {S with fuel:=k} q):Mono S q/\q.fuel<S.fuel:=by
 obtain⟨h1,h2,h3⟩:=h;simp only at h1 h2 h3;exact⟨⟨by omega,by omega,h3⟩,by omega⟩
theorem choiceW_ok{m:Nat}{p:Pl}{x:Node}(ho:okN u m p x)(hk:x.kind=10)(c:Int){v:List Int}(hv:v.length=m)(S:RS):
  Mono S (zCa ev x c v S).2.2/\(zCa ev x c v S).2.1.length=m/\∀r,(zCa ev x c v S).1= .ok r->((r.kind=0/\zB x=false)\/(Ended p r/\(r.kind=12->x.kind=12)/\(r.kind=14->x.leaves=true))):=by
 rw[okN_eq]at ho;obtain⟨o1,o2⟩:=ho;have hkid:=kids_two (o1.k10 hk).2;have hp:plIn p x.kind x.outs x.params={p with y:=some x.outs.length}:=by rw[hk];rfl
 rw[hp]at o2;have hmem:(if c=0 then kid1 x else kid0 x)∈x.kids:=by rw[hkid];split<;>simp
 obtain⟨h1,h2⟩:=okK_mem o2 _ hmem;have h:=zlc H _ v S h1 h2 hv;unfold zCa;generalize(if c=0 then kid1 x else kid0 x)=l at*;generalize zga ev l v S=q at*;obtain⟨a,v1,S1⟩:=q;obtain⟨h3,g2,h4⟩:=h;simp only at g2 h3;cases a with
 |stop k=>exact⟨h3,g2,fun r e=>by cases e⟩
 |ok w=>
  obtain⟨g1,g3,g4,g5⟩:=h4 w rfl;simp only;by_cases hw:w.kind=12
  ·rw[if_pos hw];refine⟨h3,by simp only[zxb];exact g2,fun r e=>?_⟩;cases e;refine .inl ⟨rfl,?_⟩;have hy:=g4 hw;unfold zB;rw[if_pos ⟨hk,(o1.k10 hk).2⟩];rw[<-Bool.not_eq_true,yo];intro hall;have:=hall l hmem;rw[hy]at this;cases this
  ·rw[if_neg hw];refine⟨h3,g2,fun r e=>?_⟩;cases e;refine .inr ⟨?_,fun e=>absurd e hw,fun e=>?_⟩
   ·rcases g3 with g3|g3
    ·exact absurd g3.1 hw
    ·exact .inr g3
   ·rw[leaves_eq,hk];simp only[decide_true,yxa];rw[yL,List.any_eq_true];exact .inr ⟨l,hmem,g5 e⟩
theorem loopW_ok{m:Nat}{p:Pl}{x:Node}(ho:okN u m p x)(hk:x.kind=11):∀(k:Nat) {l v:List Int} (hl:l.length=x.params.length) (hv:v.length=m) (S:RS),
  Mono S (zec ev x k l v S).2.2/\(zec ev x k l v S).2.1.length=m/\∀r,(zec ev x k l v S).1= .ok r->((r.kind=0/\zB x=false)\/(Ended p r/\(r.kind=12->x.kind=12)/\(r.kind=14->x.leaves=true)))
 |0,l,v,hl,hv,S=>⟨Mono.refl _,hv,fun r e=>by cases e⟩
 |k+1,l,v,hl,hv,S=>by
  have ho':=ho;rw[okN_eq]at ho';obtain⟨o1,o2⟩:=ho';have hkid:=kids_one (o1.k11 hk).2;have hp:plIn p x.kind x.outs x.params=⟨none,some x.params.length,some x.outs.length⟩:=by rw[hk];rfl
  rw[hp]at o2;have hmem:kid0 x∈x.kids:=by rw[hkid];simp
  obtain⟨h1,h2⟩:=okK_mem o2 _ hmem;have h:=zlc H _ (setW v x.params l) S h1 h2 (by rw[zxb];exact hv);have ih:=fun l v hl hv S=>loopW_ok ho hk k (l:=l) (v:=v) hl hv S
  unfold zec;generalize zga ev (kid0 x) (setW v x.params l) S=q at*;obtain⟨a,v1,S1⟩:=q;obtain⟨h3,g2,h4⟩:=h;simp only at g2 h3;cases a with
  |stop k=>exact⟨h3,g2,fun r e=>by cases e⟩
  |ok w=>
   obtain⟨g1,g3,g4,g5⟩:=h4 w rfl;simp only;by_cases hw:w.kind=15
   ·rw[if_pos hw];refine⟨h3,g2,fun r e=>?_⟩;cases e;refine .inr ⟨?_,fun e=>by omega,fun e=>by omega⟩;rcases g3 with g3|g3|g3|g3
    ·omega
    ·omega
    ·omega
    ·exact .inr (.inr (.inr g3))
   ·rw[if_neg hw];by_cases hw4:w.kind=14
    ·rw[if_pos hw4];refine⟨h3,by simp only[zxb];exact g2,fun r e=>?_⟩;cases e;refine .inl ⟨rfl,?_⟩;have hy:=g5 hw4;unfold zB;rw[if_neg (by omega),if_pos ⟨hk,(o1.k11 hk).2⟩,hkid];simp[hy]
    ·rw[if_neg hw4];have hlen:w.l.length=x.params.length:=by
      rcases g3 with g3|g3|g3|g3
      ·cases g3.2
      ·have:=g3.2;simp at this;omega
      ·omega
      ·omega
     obtain⟨i1,i0,i2⟩:=ih w.l v1 hlen g2 S1;exact⟨h3.trans i1,i0,i2⟩
theorem nodeW_ok(hU:OkU u){m:Nat}{p:Pl}{x:Node}(ho:okN u m p x){v:List Int}(hv:v.length=m)(w:Nat){k:Nat}{S:RS}(hf:S.fuel=k+1):
  NodeOk m p x S (nodeW u ev w x v {S with fuel:=k}):=by
 have ho':=ho;rw[okN_eq]at ho';obtain⟨o1,o2⟩:=ho';unfold nodeW;by_cases k1:x.kind=1\/x.kind=2
 ·rw[if_pos k1];obtain⟨q1,q2⟩:=Mono.less hf (Mono.refl _);refine⟨q1,by simp only[zxb];exact hv,fun r e=>?_⟩;cases e;refine⟨q2,.inl ⟨rfl,?_⟩⟩;unfold zB;rw[if_neg (by omega),if_neg (by omega)];simp only[Node.ends,Bool.and_eq_false_iff,decide_eq_false_iff_not];omega
 rw[if_neg k1];by_cases k2:12<=x.kind/\x.kind<=15
 ·rw[if_pos k2];obtain⟨q1,q2⟩:=Mono.less hf (Mono.refl _);refine⟨q1,hv,fun r e=>?_⟩;cases e;refine⟨q2,.inr ⟨?_,fun e=>e,fun e=>?_⟩⟩
  ·unfold Ended;simp only[zWb];have h12:=o1.k12';have h13:=o1.k13;have h14:=o1.k14;have h15:=o1.k15;rcases(show x.kind=12\/x.kind=13\/x.kind=14\/x.kind=15 from by omega)with e|e|e|e
   ·exact .inl ⟨e,h12 e⟩
   ·exact .inr (.inl ⟨e,h13 e⟩)
   ·exact .inr (.inr (.inl ⟨e,h14 e⟩))
   ·exact .inr (.inr (.inr ⟨e,h15 e⟩))
  ·simp only at e;rw[leaves_eq,e];rfl
 rw[if_neg k2];by_cases k10:x.kind=10
 ·rw[if_pos k10];obtain⟨h1,h0,h2⟩:=choiceW_ok H ho k10 (atA (ofW v x.args) 0) hv {S with fuel:=k};obtain⟨q1,q2⟩:=Mono.less hf h1;exact⟨q1,h0,fun r e=>⟨q2,h2 r e⟩⟩
 rw[if_neg k10];by_cases k11:x.kind=11
 ·rw[if_pos k11];obtain⟨h1,h0,h2⟩:=loopW_ok H ho k11 (w+1) (l:=ofW v x.args) (by rw[zWb];exact(o1.k11 k11).1) hv {S with fuel:=k};obtain⟨q1,q2⟩:=Mono.less hf h1;exact⟨q1,h0,fun r e=>⟨q2,h2 r e⟩⟩
 rw[if_neg k11];have hkk:3<=x.kind/\x.kind<=9:=by have:=o1.k;omega
 have h:=plainW_ok H hU o1 hkk (zWb v x.args) (zz {S with fuel:=k});have hc:zB x=false:=by
  unfold zB;rw[if_neg (by omega),if_neg (by omega)];simp only[Node.ends,Bool.and_eq_false_iff,decide_eq_false_iff_not];omega
 generalize zcb u ev x (ofW v x.args) (zz {S with fuel:=k})=q at*;obtain⟨a,S1⟩:=q;obtain⟨⟨h1,h2,h3⟩,h4⟩:=h;simp only[zz]at h1 h2 h3;have q1:Mono S S1:=⟨by omega,by omega,h3⟩
 cases a with
 |stop j=>exact⟨q1,hv,fun r e=>by cases e⟩
 |ok l=>
  refine⟨q1,by simp only[zxb];exact hv,fun r e=>?_⟩;cases e;exact⟨by simp only;omega,.inl ⟨rfl,hc⟩⟩
end
theorem evN_ok{u:Unt}(hU:OkU u):∀w,EvOk u (evN u w)
 |0=>fun m p x v S ho hv=>⟨Mono.refl _,hv,fun r e=>by cases e⟩
 |w+1=>fun m p x v S ho hv=>by
  have ih:=evN_ok hU w;simp only[evN];cases hf:S.fuel with
  |zero=>exact⟨Mono.refl _,hv,fun r e=>by cases e⟩
  |succ k=>exact nodeW_ok ih hU ho hv w hf
def zDa(k:Nat):List Arr->List (PV×PV)
 | []=>[]
 |a::r=>(.str a.name,.mslice k 0 a.size.toNat 1)::zDa (k+1) r
def intO(l:List Int):Obj:= .arr 1 (l.map (PV.int .i64))
def zSc(l:List (List Int)):zb:=l.map intO
def runCells(u:Unt)(S:RS):List PV:=[arrs u.arrays,flows u.flows,ints S.inp,.mp 0,.int .i64 0,.int .i64 0,acc 1 (S.out.map (PV.int .i64)),.int .i64 S.cost,.int .i64 S.fuel]
def runO(u:Unt)(S:RS):Obj:= .arr 9 [.agg (runCells u S)]
def sto(u:Unt)(S:RS)(T:List (List Int)):zb:= .mp (zDa 2 u.arrays)::runO u S::(zSc S.arrs++zSc T)
def endV(k:Int):PV:= .iface 101 (.agg [.int .i64 k])
def nb(u:Unt):Nat:=u.arrays.length+2
def frV(u:Unt)(j n:Nat):PV:= .agg [.ptr 1 0 0,.mslice (nb u+j) 0 n 1]
section
variable (u:Unt) (S:RS) (T:List (List Int))
@[simp] theorem sto_0:(sto u S T)[0]? =some (.mp (zDa 2 u.arrays)):=rfl
@[simp] theorem sto_1:(sto u S T)[1]? =some (.arr 9 [.agg [arrs u.arrays,flows u.flows,ints S.inp,.mp 0,.int .i64 0,.int .i64 0,acc 1 (S.out.map (PV.int .i64)),.int .i64 S.cost,.int .i64 S.fuel]]):=rfl
@[simp] theorem set_fuel(k:Nat):(sto u S T).set 1 (.arr 9 [.agg [arrs u.arrays,flows u.flows,ints S.inp,.mp 0,.int .i64 0,.int .i64 0,acc 1 (S.out.map (PV.int .i64)),.int .i64 S.cost,.int .i64 k]])=sto u {S with fuel:=k} T:=rfl
@[simp] theorem set_fuel'(k:Nat):(sto u S T).set 1 (.arr 9 [.agg [arrs u.arrays,flows u.flows,.slice .plain 1 (S.inp.map (PV.int .i64)),.mp 0,.int .i64 0,.int .i64 0,acc 1 (S.out.map (PV.int .i64)),.int .i64 S.cost,.int .i64 k]])=sto u {S with fuel:=k} T:=rfl
@[simp] theorem set_cost':(sto u S T).set 1 (.arr 9 [.agg [arrs u.arrays,flows u.flows,.slice .plain 1 (S.inp.map (PV.int .i64)),.mp 0,.int .i64 0,.int .i64 0,acc 1 (S.out.map (PV.int .i64)),.int .i64 (zM .i64 (S.cost+1)),.int .i64 S.fuel]])=sto u (zz S) T:=by
 rw[zL];rfl
@[simp] theorem set_inp(l:List Int):(sto u S T).set 1 (.arr 9 [.agg [arrs u.arrays,flows u.flows,.slice .plain 1 (l.map (PV.int .i64)),.mp 0,.int .i64 0,.int .i64 0,acc 1 (S.out.map (PV.int .i64)),.int .i64 S.cost,.int .i64 S.fuel]])=sto u {S with inp:=l} T:=rfl
theorem set_out(l:List Int):(sto u S T).set 1 (.arr 9 [.agg [arrs u.arrays,flows u.flows,ints S.inp,.mp 0,.int .i64 0,.int .i64 0,acc 1 (l.map (PV.int .i64)),.int .i64 S.cost,.int .i64 S.fuel]])=sto u {S with out:=l} T:=rfl
end
@[simp] theorem rebuild_agg(a l:List PV):zO (.agg a) l= .agg l:=yd rfl rfl
@[simp] theorem rebuild_int(k:IntKind)(n:Int)(cs:List PV):zO (.int k n) cs=cs.headD .undef:=yd rfl rfl
theorem stop_spec(k:Int)(σ:zb):zh E 104 [.ptr 1 0 0,.int .i64 k] σ=some (.pan (endV k),σ):=by
 refine zc rfl rfl rfl (by simp) ?_;simp[F104,endV]
def FitS(u:Unt)(S:RS):Prop:=S.arrs.map List.length=u.arrays.map (fun a=>a.size.toNat)/\S.out.length+S.fuel<=1000000000000
theorem FitS.mono{u:Unt}{S S1:RS}(h:FitS u S)(m:Mono S S1):FitS u S1:=⟨m.arrs.trans h.1,yea m.out h.2⟩
theorem FitS.len{u:Unt}{S:RS}(h:FitS u S):S.arrs.length=u.arrays.length:=by
 have:=congrArg List.length h.1;simpa using this
theorem FitS.cost{u:Unt}{S:RS}(h:FitS u S):FitS u (zz S):=h
theorem arrFrom_find(nm:List UInt8):∀(l:List Arr) (k:Nat),zZ true (.str nm) (zDa k l)=some (match l.findIdx? (fun a=>decide (a.name=nm))with
  |some i=>match l[i]? with
   |some a=>some (.mslice (k+i) 0 a.size.toNat 1)
   |none=>none
  |none=>none)
 | [],k=>rfl
 |a::r,k=>by
  have ih:=arrFrom_find nm r (k+1);rw[zDa,List.findIdx?_cons];by_cases h:a.name=nm
  ·simp[h]
  ·have h':¬nm=a.name:=fun e=>h e.symm
   simp only[zZ,keyEq,if_true,h',decide_false,h];rw[ih];cases r.findIdx? (fun a=>decide (a.name=nm))with
   |none=>simp
   |some i=>
    simp only[yH,yM,yD,if_false];cases r[i]? with
    |none=>rfl
    |some b=>simp only;congr 3;omega
theorem arr_at{u:Unt}{S:RS}{nm:List UInt8}(hS:FitS u S)(h:zGb u.arrays nm=true):∃(i:Nat) (l:List Int),arrAt u.arrays nm=i/\i<S.arrs.length/\S.arrs[i]? =some l/\zZ true (.str nm) (zDa 2 u.arrays)=some (some (.mslice (i+2) 0 l.length 1)):=by
 rw[<-arrAt_has,decide_eq_true_eq]at h;unfold arrAt idx at h;cases hq:u.arrays.findIdx? (fun a=>decide (a.name=nm))with
 |none=>rw[hq]at h;simp at h
 |some i=>
  have hlt0:i<u.arrays.length:=by
   rw[List.findIdx?_eq_some_iff_getElem]at hq;exact hq.1
  have hlt:i<S.arrs.length:=by rw[hS.len];exact hlt0
  refine⟨i,S.arrs[i],by unfold arrAt idx;rw[hq],hlt,ye hlt,?_⟩;have a2:u.arrays[i]? =some u.arrays[i]:=ye hlt0;rw[arrFrom_find,hq];simp only[a2];have hl:(S.arrs[i]).length=(u.arrays[i]).size.toNat:=by
   have e:=congrArg (fun l:List Nat=>l[i]?) hS.1;simp only[yk,a2,ye hlt,yH,Option.some.injEq]at e;exact e
  rw[hl,Nat.add_comm 2 i]
section
variable {u:Unt} {S:RS} {T:List (List Int)}
theorem sto_row{i:Nat}{l:List Int}(h:S.arrs[i]? =some l):(sto u S T)[i+2]? =some (.arr 1 (l.map (PV.int .i64))):=by
 have hlt:=(yb.1 h).1;simp only[sto,yM];rw[yj (by simpa[zSc]using hlt)];simp[zSc,h,intO]
theorem sto_setrow{i:Nat}{l:List Int}(h:S.arrs[i]? =some l)(l':List Int):(sto u S T).set (i+2) (.arr 1 (l'.map (PV.int .i64)))=sto u {S with arrs:=S.arrs.set i l'} T:=by
 have hlt:=(yb.1 h).1;simp only[sto,List.set_cons_succ];rw[List.set_append_left _ _ (by simpa[zSc]using hlt)];have:(zSc S.arrs).set i (.arr 1 (l'.map (PV.int .i64)))=zSc (S.arrs.set i l'):=by simp[zSc,yka,intO]
 rw[this];rfl
theorem sto_len(hS:FitS u S):(sto u S T).length=nb u+T.length:=by
 simp[sto,zSc,hS.len,nb];omega
theorem sto_get(hS:FitS u S){j:Nat}{v:List Int}(h:T[j]? =some v):(sto u S T)[nb u+j]? =some (.arr 1 (v.map (PV.int .i64))):=by
 have:nb u+j=u.arrays.length+j+2:=by unfold nb;omega
 rw[this];simp only[sto,yM];rw[yp (by simp[zSc,hS.len])];simp[zSc,hS.len,h,intO]
theorem sto_set(hS:FitS u S)(j:Nat)(v:List Int):(sto u S T).set (nb u+j) (.arr 1 (v.map (PV.int .i64)))=sto u S (T.set j v):=by
 have:nb u+j=u.arrays.length+j+2:=by unfold nb;omega
 rw[this];simp only[sto,List.set_cons_succ];rw[yga _ _ (by simp[zSc,hS.len])];simp[zSc,hS.len,yka,intO]
theorem sto_app{v:List Int}:sto u S T++[.arr 1 (v.map (PV.int .i64))]=sto u S (T++[v]):=by simp[sto,zSc,intO]
theorem sto_take(hS:FitS u S)(j:Nat):(sto u S T).take (nb u+j)=sto u S (T.take j):=by
 have:nb u+j=u.arrays.length+j+2:=by unfold nb;omega
 rw[this];simp only[sto,List.take_succ_cons];rw[List.take_append,ypa (by simp[zSc,hS.len])];simp[zSc,hS.len,List.map_take]
theorem arrFrom_below(n:Nat):∀(l:List Arr) (k:Nat),k+l.length<=n->belowP n (zDa k l)=true
 | [],_,_=>rfl
 |a::r,k,h=>by
  simp only[yR]at h;simp only[zDa,belowP,below_str,below_mslice,yxa,ya,decide_eq_true_eq];exact⟨by omega,arrFrom_below n r (k+1) (by omega)⟩
theorem belowL_acc(n:Nat)(l:List Int):zo n (acc 1 (l.map (PV.int .i64)))=true:=by
 cases l with
 |nil=>rfl
 |cons x r=>simp
theorem rowsO_wf(n:Nat)(l:List (List Int)):(zSc l).all (fun o=>o.below n)=true:=by
 rw[yo];intro o ho;simp only[zSc,yua]at ho;obtain⟨l,_,rfl⟩:=ho;simp[intO,Obj.below]
theorem sto_wf{n:Nat}(hn:nb u<=n):zb.wf n (sto u S T)=true:=by
 unfold zb.wf;simp only[sto,List.all_cons,List.all_append,ya];refine⟨?_,?_,rowsO_wf n _,rowsO_wf n _⟩
 ·exact arrFrom_below n u.arrays 2 (by unfold nb at hn;omega)
 ·have h0:0<n:=by unfold nb at hn;omega
  simp[runO,runCells,Obj.below,belowL_acc,ints,h0]
theorem endV_below(n:Nat)(k:Int):zo n (endV k)=true:=by simp[endV]
end
theorem cell_spec{u:Unt}{S:RS}{T:List (List Int)}{nm:List UInt8}{i:Nat}{l:List Int}(n:Int)(hl:S.arrs[i]? =some l)(hm:zZ true (.str nm) (zDa 2 u.arrays)=some (some (.mslice (i+2) 0 l.length 1))):
  zh E 120 [.ptr 1 0 0,.str nm,.int .i64 n] (sto u S T)=some (if 0<=n/\n<l.length then(.ret (.ptr (i+2) n.toNat 0),sto u S T)else(.pan (endV 3),sto u S T)):=by
 refine zc rfl rfl rfl (by simp) ?_;have h3:=stop_spec 3 (sto u S T);by_cases h0:n<0
 ·have hn:¬(0<=n/\n<l.length):=by omega
  rw[if_neg hn];replace h0:=eqp h0;simp[*,F120]
 ·by_cases h1:(l.length:Int)<=n
  ·have hn:¬(0<=n/\n<l.length):=by omega
   rw[if_neg hn];replace h0:=eqn h0;replace h1:=eqp h1;simp[*,F120]
  ·rw[if_pos (by omega)];have h4:0<=n:=by omega
   have h5:n.toNat<l.length:=by omega
   replace h0:=eqn h0;replace h1:=eqn h1;clear h3;simp[*,F120]
theorem read_spec(u:Unt)(S:RS)(T:List (List Int)):zh E 121 [.ptr 1 0 0] (sto u S T)=some (match S.inp with
  | []=>(.pan (endV 4),sto u S T)
  |n::r=>(.ret (.int .i64 n),sto u {S with inp:=r} T)):=by
 refine zc rfl rfl rfl (by simp) ?_;have h4:=stop_spec 4 (sto u S T);cases h:S.inp with
 |nil=>simp[*,F121,ints]
 |cons n r=>
  have hne:¬((r.length:Int)+1=0):=by omega
  have hs:(sto u S T).set 1 (.arr 9 [.agg [arrs u.arrays,flows u.flows,.slice .plain 1 (r.map (PV.int .i64)),.mp 0,.int .i64 0,.int .i64 0,acc 1 (S.out.map (PV.int .i64)),.int .i64 S.cost,.int .i64 S.fuel]])=sto u {S with inp:=r} T:=rfl;have ht:List.take r.length (r.map (PV.int .i64))=r.map (PV.int .i64):=by rw[ypa];simp
  clear h4;simp[*,F121,ints]
theorem ptwo_spec(op a b:Int)(σ:zb):zh E 119 [.ptr 1 0 0,.int .i64 op,.int .i64 a,.int .i64 b] σ=some (if(twoC op a b).2=true then(.ret (.int .i64 (twoC op a b).1),σ)else(.pan (endV 2),σ)):=by
 refine zc rfl rfl rfl (by simp) ?_;have htwo:=two_spec op a b [];rw[two_eqC]at htwo;have hst:=stop_spec 2 σ;generalize twoC op a b=q at*;obtain⟨n,ok⟩:=q;simp only at htwo ⊢;cases ok<;>simp[*,F119]
theorem setW_snoc:∀(v d:List Int) (x:Int) (ns:List Int) (n:Int),ns.length=d.length->setW v (d++[x]) (ns++[n])=(setW v d ns).set x.toNat n
 |v,[],x,[],n,_=>by simp[setW]
 |v,o::d,x,m::ns,n,h=>by
  simp only[List.cons_append,setW];exact setW_snoc _ d x ns n (by simpa using h)
 |v,[],x,_::_,n,h=>by simp at h
 |v,_::_,x,[],n,h=>by simp at h
theorem set_self{α:Type}{l:List α}{k:Nat}{x:α}(h:l[k]? =some x):l.set k x=l:=by
 have:=yb.1 h;rw[<-this.2];exact List.set_getElem_self this.1
theorem take_snoc{α:Type}{l:List α}{k:Nat}{x:α}(h:l[k]? =some x):l.take (k+1)=l.take k++[x]:=by
 rw[List.take_add_one,h];rfl
theorem set_spec1{u:Unt}{S:RS}{T:List (List Int)}{j n:Nat}{v:List Int}(hS:FitS u S)(hj:T[j]? =some v)(hv:v.length=n){o ns:List Int}(ho:inR n o)(hl:o.length=ns.length)(hz:o.length<1099511627776):
  zh E 106 [frV u j n,ints o,ints ns] (sto u S T)=some (.ret (.tup []),sto u S (T.set j (setW v o ns))):=by
 refine zc rfl rfl rfl (by simp[frV,ints]) ?_;have hjl:=(yb.1 hj).1;simp[F106,frV,ints];refine zaa o K106_0 B106_0 (fun d=>[(10,.int .i64 d.length)]) (fun d=>sto u S (T.set j (setW v d (ns.take d.length)))) (fun _=>True) (by omega) (by simp[setW,set_self hj]) ?_ ?_
 ·intros d x r s1 hl' hlt hget hget' hwr hp g1 g2 g3 g4;simp at g1 g3;obtain⟨x0,x1⟩:=ho x hl'.mem;have hn:ns[d.length]? =some ns[d.length]:=ye (by omega);generalize ns[d.length]=m at hn;have hcur:(T.set j (setW v d (ns.take d.length)))[j]? =some (setW v d (ns.take d.length)):=yh hjl;have hgt:=sto_get (u:=u) hS hcur;have hsn:setW v (d++[x]) (ns.take (d.length+1))=(setW v d (ns.take d.length)).set x.toNat m:=by
   rw[take_snoc hn,setW_snoc _ _ _ _ _ (by simp;omega)]
  have hst:=sto_set (u:=u) (S:=S) (T:=T.set j (setW v d (ns.take d.length))) hS j (setW v (d++[x]) (ns.take (d.length+1)));have hlen:=zxb v d (ns.take d.length);have hx:x.toNat<n:=by omega
  have hsl:(setW v d (ns.take d.length)).length=n:=by rw[hlen,hv]
  rw[yEa]at hst;rw[hsn,yka,<-hsn]at hst;have hgo:(sto u S (T.set j (setW v d (ns.take d.length)))).set (nb u+j) (.arr 1 (((setW v d (ns.take d.length)).map (PV.int .i64)).set x.toNat (.int .i64 m)))=sto u S (T.set j (setW v (d++[x]) (ns.take (d.length+1)))):=hst;clear hst;generalize setW v d (ns.take d.length)=c at*;have hdec:decide (d.length<o.length)=true:=decide_eq_true hlt;clear hl' hget' hp hj ho hlen hsn hcur hl hlt;simp[*]
 ·intros s1 hp g1 g2 g3 g4;simp at g1 g3;have:ns.take o.length=ns:=by rw[hl];exact List.take_length
  rw[this]at g4;simp[*]
set_option maxHeartbeats 1000000 in
theorem numbers_spec{u:Unt}{S:RS}{T:List (List Int)}{j n:Nat}{v:List Int}(hS:FitS u S)(hj:T[j]? =some v)(hv:v.length=n){l:List Int}(ho:inR n l)(hz:l.length<1099511627776):
  zh E 105 [frV u j n,ints l] (sto u S T)=some (.ret (ints (ofW v l)),sto u S T):=by
 refine zc rfl rfl rfl (by simp[frV,ints]) ?_;have hjl:=(yb.1 hj).1;have hlen:=sto_len (T:=T) hS;have hap:=sto_app (u:=u) (S:=S) (T:=T) (v:=yg l.length 0);simp only[List.map_replicate]at hap;have l1:(0:Int)<=(l.length:Int):=by omega
 have l2:(l.length:Int)<=9223372036854775807:=by omega
 have l3:8*(l.length:Int)<=281474976710656:=by omega
 have htk:∀r,(sto u S (T++[r])).take (nb u+T.length)=sto u S T:=by
  intro r;rw[sto_take hS];simp
 have hwf:zb.wf (nb u+T.length) (sto u S T)=true:=sto_wf (by omega);have hln:∀r,(sto u S (T++[r])).length=nb u+(T.length+1):=by
  intro r;rw[sto_len hS];simp
 simp[F105,frV,ints,hlen,hap,l1,l2,l3];refine zaa l K105_0 B105_0 (fun d=>[(13,.int .i64 d.length)]) (fun d=>sto u S (T++[ofW v d++yg (l.length-d.length) 0])) (fun _=>True) (by omega) (by simp[ofW]) ?_ ?_
 ·intros d x r s1 hl' hlt hget hget' hwr hp g1 g2 g3 g4;simp at g1 g3;obtain⟨x0,x1⟩:=ho x hl'.mem;have hx:=at0_get (l:=v) x0 (by omega);have hxn:x.toNat<n:=by omega
  have hcur:(T++[ofW v d++yg (l.length-d.length) 0])[j]? =some v:=by rw[yj hjl];exact hj
  have hgt:=sto_get (u:=u) hS hcur;have hcur2:(T++[ofW v d++yg (l.length-d.length) 0])[T.length]? =some (ofW v d++yg (l.length-d.length) 0):=by simp
  have hgt2:=sto_get (u:=u) hS hcur2;have hrep:l.length-d.length=(l.length-(d.length+1))+1:=by omega
  have hsn:(ofW v d++yg (l.length-d.length) 0).set d.length (at0 v x)=ofW v (d++[x])++yg (l.length-(d.length+1)) 0:=by
   have e:d.length=(ofW v d).length:=by rw[zWb]
   rw[hrep,List.replicate_succ,yga _ _ (by rw[zWb];exact yl _),zWb,Nat.sub_self,yCa];simp[ofW]
  have hst:=sto_set (u:=u) (S:=S) (T:=T++[ofW v d++yg (l.length-d.length) 0]) hS T.length ((ofW v d++yg (l.length-d.length) 0).set d.length (at0 v x));rw[hsn,<-hsn,yka,hsn,yga _ _ (yl _),Nat.sub_self,yCa]at hst;have hsl:(ofW v d++yg (l.length-d.length) 0).length=l.length:=by rw[ym,zWb,List.length_replicate];omega
  have hdl:d.length<l.length:=hlt;obtain⟨y,hy⟩:∃y,(ofW v d++yg (l.length-d.length) 0)[d.length]? =some y:=⟨_,ye (by omega)⟩
  have hdec:decide (d.length<l.length)=true:=decide_eq_true hlt;generalize(ofW v d++yg (l.length-d.length) 0)=c at*;clear hl' hget' hp hj ho hcur hcur2 hrep hsn hlt htk hwf hln hap l1 l2 l3;simp[*,-getElem?_pos,yJ]
 ·intros s1 hp g1 g2 g3 g4;simp at g1 g3;have e:ofW v l++yg (l.length-l.length) 0=ofW v l:=by simp
  rw[e]at g4;have hcur2:(T++[ofW v l])[T.length]? =some (ofW v l):=by simp
  have hgt2:=sto_get (u:=u) hS hcur2;have hol:=zWb v l;have h1:=htk (ofW v l);have h2:=hln (ofW v l);clear htk hln hcur2 hap hj ho;simp[*,fin,frA_mslice,fr1_mslice,-getElem?_pos,ypa,yy]
def encW(w:Wy):PV:= .agg [.int .i64 w.kind,ints w.l]
def outX(q:Rt Wy):CRes:=match q with
 | .ok w=> .ret (encW w)
 | .stop k=> .pan (endV k)
@[simp] theorem outX_ok(w:Wy):outX (.ok w)= .ret (.agg [.int .i64 w.kind,ints w.l]):=rfl
@[simp] theorem outX_stop(n:Int):outX (.stop n)= .pan (endV n):=rfl
def capE:Nat:=1099511627776
def SpecN(u:Unt)(w:Nat):Prop:=∀m p x v S T j,FitS u S->S.fuel<=w->okN u m p x->wtN x<capE->T[j]? =some v->v.length=m→
 zh E 93 [frV u j m,zJ x] (sto u S T)=some (outX (evN u w x v S).1,sto u (evN u w x v S).2.2 (T.set j (evN u w x v S).2.1))
def SpecL(u:Unt)(w:Nat):Prop:=∀m p l v S T j,FitS u S->S.fuel<=w->okL u m p l->wtL l<capE->T[j]? =some v->v.length=m→
 zh E 75 [frV u j m,zn l] (sto u S T)=some (outX (zga (evN u w) l v S).1,sto u (zga (evN u w) l v S).2.2 (T.set j (zga (evN u w) l v S).2.1))
structure LSt where
 rest:List Node
 v:List Int
 S:RS
set_option maxHeartbeats 2000000 in
theorem list_of{u:Unt}(hU:OkU u){w:Nat}(hN:SpecN u w):SpecL u w:=by
 intro m p l v S T j hS hf ho hw hj hv;have hlen:=len_wtL l;have hjl:=(yb.1 hj).1;have hE:=evN_ok hU w;have hin:∀x∈l,∀v1 S1,FitS u S1->S1.fuel<=w->okN u m p x->v1.length=m->zh E 93 [frV u j m,zJ x] (sto u S1 (T.set j v1))=some (outX (evN u w x v1 S1).1,sto u (evN u w x v1 S1).2.2 (T.set j (evN u w x v1 S1).2.1)):=by
  intro x hx v1 S1 h1 h2 h3 h4;have:=hN m p x v1 S1 (T.set j v1) j h1 h2 h3 (by have:=wt_mem hx;omega) (yh hjl) h4;rw[yEa]at this;exact this
 clear hN;unfold capE at hw;have hset:=set_self hj;refine zc rfl rfl rfl (by simp[frV,zn]) ?_;simp[F75,frV,zn];refine zLc K75_0 B75_0 (fun c:LSt=>c.rest.length) (fun c=>[(10,.int .i64 ((l.length-c.rest.length:Nat):Int))]) (fun c=>[(4,.cells [.int .i64 0,.slice .fit 1 []])]) (fun c=>sto u c.S (T.set j c.v))
  (fun c=>(∃d,l=d++c.rest)/\zga (evN u w) l v S=zga (evN u w) c.rest c.v c.S/\FitS u c.S/\c.S.fuel<=w/\c.v.length=m/\okL u m p c.rest) ⟨l,v,S⟩ ?_ ?_
 ·simp[*]
 ·rintro⟨rest,v1,S1⟩ s1 ⟨⟨d,d1⟩,d2,d3,d4,d5,d6⟩ g1 g2 g3 g4 g5
  simp at d1 d2 d3 d4 d5 d6 g1 g2 g3 g4 g5;rw[d2];cases rest with
  |nil=>
   have hi:((l.length-0:Nat):Int)=l.length:=by simp
   simp only[zga];clear hin hE d1 d2 d3 d4 d5 d6 hS hf ho hw hj hv hset;simp[*,ints]
  |cons x rest=>
   have hdl:l.length-(rest.length+1)=d.length:=by rw[d1];simp
   have hdl2:l.length-rest.length=d.length+1:=by rw[d1];simp;omega
   have hx:l[d.length]? =some x:=by rw[d1];simp
   have hlt:(d.length:Int)<l.length:=by rw[d1];simp;omega
   rw[okL]at d6;have hc:=hin x (by rw[d1];simp) v1 S1 d3 d4 d6.1 d5;obtain⟨m1,m2,m3⟩:=hE m p x v1 S1 d6.1 d5;have hwr:zM .i64 ((d.length:Int)+1)=(d.length:Int)+1:=zj (by omega) (by omega);have hdd:∃d',l=d'++rest:=⟨d++[x],by rw[d1];simp⟩
   have d62:=d6.2.2;simp only[zga];simp only[zga]at d2;generalize evN u w x v1 S1=q at*;obtain⟨y,v2,S2⟩:=q;simp only at m1 m2 m3 d2;have f1:=d3.mono m1;have f2:S2.fuel<=w:=yea m1.fuel d4;simp[frV,za]at hc;clear hin hE d1 d3 d4 d5 d6 hS hf ho hw hj hv hset m1 m3;cases y with
   |stop k=>
    simp at hc;clear d2;simp[*,za]
   |ok y=>
    simp at hc;by_cases hk:y.kind=0
    ·simp only[hk,if_true]at d2 ⊢;rw[hk]at hc;simp[*,za];refine⟨⟨rest,v2,S2⟩,?_⟩;simp[*]
    ·simp only[hk,if_false]at d2 ⊢;replace hk:=eqn hk;clear d2;simp[*,za]
def outE(q:Rt Int):CRes:=match q with
 | .ok n=> .ret (.int .i64 n)
 | .stop k=> .pan (endV k)
@[simp] theorem outE_ok(n:Int):outE (.ok n)= .ret (.int .i64 n):=rfl
@[simp] theorem outE_stop(n:Int):outE (.stop n)= .pan (endV n):=rfl
set_option maxHeartbeats 2000000 in
theorem call_of{u:Unt}(hU:OkU u){w:Nat}(hL:SpecL u w){f:Flow}{nm:List UInt8}(hf:flowAt u nm=some f)(hp:0<=zja u.flows nm){l:List Int}{S:RS}{T:List (List Int)}(hS:FitS u S)(hw:S.fuel<=w)(hl:l.length<=f.types.length):
  zh E 53 [.ptr 1 0 0,.str nm,ints l] (sto u S T)=some (outE (zIa (evN u w) f l S).1,sto u (zIa (evN u w) f l S).2 T):=by
 have hfm:f∈u.flows:=yI hf;have hpl:=place_spec u nm [] hU.sz.flows;have hty:=hU.sz.types f hfm;have hb:=hU.body f hfm;have hlen:=sto_len (T:=T) hS;have hap:=sto_app (u:=u) (S:=S) (T:=T) (v:=yg f.types.length 0);simp only[List.map_replicate]at hap;have l1:(0:Int)<=(f.types.length:Int):=by omega
 have l2:(f.types.length:Int)<=9223372036854775807:=by omega
 have l3:8*(f.types.length:Int)<=281474976710656:=by omega
 have hcur:(T++[yg f.types.length 0])[T.length]? =some (yg f.types.length 0):=by simp
 have hgt:=sto_get (u:=u) hS hcur;have hgl:(l++yg (f.types.length-l.length) 0).length=f.types.length:=by simp;omega
 have hst:=sto_set (u:=u) (S:=S) (T:=T++[yg f.types.length 0]) hS T.length (l++yg (f.types.length-l.length) 0);rw[yga _ _ (yl _),Nat.sub_self,yCa]at hst;have hc:=hL f.types.length ⟨none,none,none⟩ f.body (l++yg (f.types.length-l.length) 0) S (T++[l++yg (f.types.length-l.length) 0]) T.length hS hw hb.2 (hU.sz.body f hfm) (by simp) hgl;rw[yga _ _ (yl _),Nat.sub_self,yCa]at hc;obtain⟨m1,m2,m3⟩:=zlc (evN_ok hU w) f.body (l++yg (f.types.length-l.length) 0) S hb.1 hb.2 hgl;unfold zIa;generalize zga (evN u w) f.body (l++yg (f.types.length-l.length) 0) S=q at*;obtain⟨y,v1,S1⟩:=q;simp only at m1 m2 m3 hc ⊢;have hS1:=hS.mono m1;have htk:(sto u S1 (T++[v1])).take (nb u+T.length)=sto u S1 T:=by
  rw[sto_take hS1];simp
 have hwf:zb.wf (nb u+T.length) (sto u S1 T)=true:=sto_wf (by omega);have hln:(sto u S1 (T++[v1])).length=nb u+(T.length+1):=by
  rw[sto_len hS1];simp
 have hfl:u.flows[(zja u.flows nm).toNat]? =some f:=hf;refine zc rfl rfl rfl (by simp[ints]) ?_;simp[zE,arrs,flows]at hpl;simp[frV,zn]at hc;rw[List.map_append,List.map_replicate]at hst;clear hU hL hb hty hS hw m1 hcur hgl hf hfm hS1;cases y with
 |stop k=>
  simp at hc;clear m3;simp[*,F53,zE,zi,arrs,flows,ints,zn,-getElem?_pos,yJ,finPan,endV_below]
 |ok y=>
  obtain⟨_,m4,_⟩:=m3 y rfl;have hy:∃x,y.l=[x]:=by
   rcases m4 with m4|m4|m4|m4
   ·cases m4.2
   ·cases m4.2
   ·cases m4.2
   ·exact List.length_eq_one_iff.1 m4.2
  obtain⟨x,hy⟩:=hy;clear m3 m4;simp at hc;rw[hy]at hc;simp[*,F53,zE,zi,arrs,flows,ints,zn,-getElem?_pos,yJ,fin,atA]
theorem len1{l:List Int}(h:l.length=1):∃a,l=[a]:=List.length_eq_one_iff.1 h
theorem len2{l:List Int}(h:l.length=2):∃a b,l=[a,b]:=by
 match l,h with
 | [a,b],_=>exact⟨a,b,rfl⟩
def outP(u:Unt)(T:List (List Int))(j:Nat)(v outs:List Int):Rt (List Int)×RS->CRes×zb
 |(.ok n,S)=>(.ret (.tup []),sto u S (T.set j (setW v outs n)))
 |(.stop k,S)=>(.pan (endV k),sto u S T)
set_option maxHeartbeats 4000000 in
theorem plain_of{u:Unt}(hU:OkU u){w:Nat}(hL:SpecL u w){m:Nat}{p:Pl}{x:Node}(ho:okH u m p x)(hk:3<=x.kind/\x.kind<=9){v:List Int}{S:RS}{T:List (List Int)}{j:Nat}(hS:FitS u S)(hwt:wtN x<capE)
  (hj:T[j]? =some v) (hv:v.length=m) (hw:S.fuel<=w) (hfu:S.out.length+S.fuel<1000000000000) {l:List Int} (hl:l.length=x.args.length):
  zh E 109 [frV u j m,zJ x,ints l] (sto u S T)=some (outP u T j v x.outs (zcb u (evN u w) x l (zz S))):=by
 have hws:=zFb x;have hjl:=(yb.1 hj).1;have hself:=set_self hj;unfold capE at hwt;have hset:∀S1,FitS u S1->∀n,x.outs=[n]->inR m [n]->∀z,zh E 106 [frV u j m,ints [n],ints [z]] (sto u S1 T)=some (.ret (.tup []),sto u S1 (T.set j (setW v [n] [z]))):=by
  intro S1 h1 n hn hr z;exact set_spec1 h1 hj hv hr rfl (by simp)
 obtain⟨args,outs,prs,k12,k3,k4,k5,k6,k7,k8,k9,-,-,-,-,-,-,-⟩:=ho;refine zc rfl rfl rfl (by simp[frV,za,ints]) ?_;unfold zcb;by_cases e3:x.kind=3
 ·rw[if_pos e3];obtain⟨a1,a2⟩:=k3 e3;obtain⟨o,hou⟩:=len1 a2;obtain⟨a,ha⟩:=len1 (hl.trans a1);have h1:=hset (zz S) hS.cost o hou (by rw[<-hou];exact outs) (oneC x.op a);have hone:=one_spec x.op a [];rw[one_eqC]at hone;subst ha;simp[frV,ints]at h1;replace e3:=eqp e3;clear hset args outs prs k12 k3 k4 k5 k6 k7 k8 k9 hk hl hL hU;simp[*,F109,frV,za,ints,outP,atA]
 rw[if_neg e3];by_cases e4:x.kind=4
 ·rw[if_pos e4];obtain⟨a1,a2⟩:=k4 e4;obtain⟨o,hou⟩:=len1 a2;obtain⟨a,b,ha⟩:=len2 (hl.trans a1);subst ha;have htwo:=ptwo_spec x.op a b (sto u (zz S) T);have e0:atA [a,b] 0=a:=rfl;have e1:atA [a,b] 1=b:=rfl;rw[e0,e1];by_cases hz:(twoC x.op a b).2=true
  ·rw[if_pos hz]at htwo ⊢;have h1:=hset (zz S) hS.cost o hou (by rw[<-hou];exact outs) (twoC x.op a b).1;simp[frV,ints]at h1;replace e3:=eqn e3;replace e4:=eqp e4;clear hset args outs prs k12 k3 k4 k5 k6 k7 k8 k9 hk hl hL hU hz;simp[*,F109,frV,za,ints,outP]
  ·rw[if_neg hz]at htwo ⊢;replace e3:=eqn e3;replace e4:=eqp e4;clear hset args outs prs k12 k3 k4 k5 k6 k7 k8 k9 hk hl hL hU hz;simp[*,F109,frV,za,ints,outP]
 rw[if_neg e4];by_cases e5:x.kind=5
 ·rw[if_pos e5];obtain⟨a0,a1,a2⟩:=k5 e5;obtain⟨o,hou⟩:=len1 a2;obtain⟨a,ha⟩:=len1 (hl.trans a1);subst ha;have e0:atA [a] 0=a:=rfl;rw[e0];obtain⟨i,row,b1,b2,b3,b4⟩:=arr_at hS.cost a0;have hc:=cell_spec (T:=T) a b3 b4;have hr:=sto_row (T:=T) (u:=u) b3;unfold cellAt;rw[b1];simp only[Int.toNat_natCast,b3,Option.bind_some];replace e3:=eqn e3;replace e4:=eqn e4;by_cases hx:0<=a/\a<row.length
  ·rw[if_pos hx]at hc;have hn:¬a<0:=by omega
   have hlt:a.toNat<row.length:=by omega
   rw[if_neg hn];obtain⟨y,hy⟩:∃y,row[a.toNat]? =some y:=⟨_,ye hlt⟩
   rw[hy];have h1:=hset (zz S) hS.cost o hou (by rw[<-hou];exact outs) y;simp[frV,ints]at h1;replace e5:=eqp e5;clear hset args outs prs k12 k3 k4 k5 k6 k7 k8 k9 hk hl hL hU hx hn hlt b1 b2 b3 b4 a0 a1 a2;simp[*,F109,frV,za,ints,outP]
  ·rw[if_neg hx]at hc;have hnone:(if a<0 then none else row[a.toNat]?)=none:=by
    split
    ·rfl
    ·rw[List.getElem?_eq_none];omega
   rw[hnone];replace e5:=eqp e5;clear hset args outs prs k12 k3 k4 k5 k6 k7 k8 k9 hk hl hL hU hx hnone b1 b2 b3 b4 a0 a1 a2;simp[*,F109,frV,za,ints,outP]
 rw[if_neg e5];by_cases e6:x.kind=6
 ·rw[if_pos e6];obtain⟨a0,a1,a2⟩:=k6 e6;have hou:x.outs=[]:=yE a2;obtain⟨a,b,ha⟩:=len2 (hl.trans a1);subst ha;have e0:atA [a,b] 0=a:=rfl;have e1:atA [a,b] 1=b:=rfl;rw[e0,e1];obtain⟨i,row,b1,b2,b3,b4⟩:=arr_at hS.cost a0;have hc:=cell_spec (T:=T) a b3 b4;have hr:=sto_row (T:=T) (u:=u) b3;unfold putAt;rw[b1];simp only[Int.toNat_natCast,b3,Option.bind_some];replace e3:=eqn e3;replace e4:=eqn e4;replace e5:=eqn e5;by_cases hx:0<=a/\a<row.length
  ·rw[if_pos hx]at hc;have hn:¬a<0:=by omega
   have hlt:a.toNat<row.length:=by omega
   rw[if_neg hn,if_pos hlt];obtain⟨y,hy⟩:∃y,row[a.toNat]? =some y:=⟨_,ye hlt⟩
   have hput:=sto_setrow (T:=T) (u:=u) b3 (row.set a.toNat b);rw[yka]at hput;replace e6:=eqp e6;clear hset args outs prs k12 k3 k4 k5 k6 k7 k8 k9 hk hl hL hU hx hn hlt b1 b2 b3 b4 a0 a1 a2;simp[*,F109,frV,za,ints,outP,setW]
  ·rw[if_neg hx]at hc;have hnone:(if a<0 then none else if a.toNat<row.length then some {zz S with arrs:=(zz S).arrs.set i (row.set a.toNat b)}else none:Option RS)=none:=by
    split
    ·rfl
    ·rw[if_neg (by omega)]
   rw[hnone];replace e6:=eqp e6;clear hset args outs prs k12 k3 k4 k5 k6 k7 k8 k9 hk hl hL hU hx hnone b1 b2 b3 b4 a0 a1 a2;simp[*,F109,frV,za,ints,outP]
 rw[if_neg e6];by_cases e7:x.kind=7
 ·rw[if_pos e7];obtain⟨g,a0,a1,a2,a3⟩:=k7 e7;obtain⟨o,hou⟩:=len1 a3;rw[a0];simp only;have hgm:g∈u.flows:=yI a0;have hlg:l.length<=g.types.length:=by rw[hl,a2];simp[pars];omega
  have hcall:=call_of hU hL a0 a1 (l:=l) (T:=T) hS.cost hw hlg;have hcm:=(callW_ok (evN_ok hU w) (hU.body g hgm) hlg (zz S)).1;generalize zIa (evN u w) g l (zz S)=q at*;obtain⟨y,S1⟩:=q;simp only at hcall hcm;have hS1:=hS.cost.mono hcm;replace e3:=eqn e3;replace e4:=eqn e4;replace e5:=eqn e5;replace e6:=eqn e6;replace e7:=eqp e7;cases y with
  |stop k=>
   simp[ints]at hcall;clear hset args outs prs k12 k3 k4 k5 k6 k7 k8 k9 hk hl hL hU a0 a1 a2 a3;simp[*,F109,frV,za,ints,outP]
  |ok y=>
   have h1:=hset S1 hS1 o hou (by rw[<-hou];exact outs) y;simp[frV,ints]at h1;simp[ints]at hcall;clear hset args outs prs k12 k3 k4 k5 k6 k7 k8 k9 hk hl hL hU a0 a1 a2 a3;simp[*,F109,frV,za,ints,outP]
 rw[if_neg e7];replace e3:=eqn e3;replace e4:=eqn e4;replace e5:=eqn e5;replace e6:=eqn e6;replace e7:=eqn e7;by_cases e8:x.kind=8
 ·rw[if_pos e8];obtain⟨o,hou⟩:=len1 (k8 e8);have hr:=read_spec u (zz S) T;replace e8:=eqp e8;cases hi:(zz S).inp with
  |nil=>
   rw[hi]at hr;clear hset args outs prs k12 k3 k4 k5 k6 k7 k8 k9 hk hl hL hU;simp[*,F109,frV,za,ints,outP]
  |cons n r=>
   rw[hi]at hr;have h1:=hset {zz S with inp:=r} hS.cost o hou (by rw[<-hou];exact outs) n;simp[frV,ints]at h1;clear hset args outs prs k12 k3 k4 k5 k6 k7 k8 k9 hk hl hL hU;simp[*,F109,frV,za,ints,outP]
 rw[if_neg e8];replace e8:=eqn e8;by_cases e9:x.kind=9
 ·rw[if_pos e9];obtain⟨a1,a2⟩:=k9 e9;have hou:x.outs=[]:=yE a2;obtain⟨a,ha⟩:=len1 (hl.trans a1);subst ha;have e0:atA [a] 0=a:=rfl;rw[e0];have hso:=set_out (u:=u) (S:=zz S) (T:=T) (S.out++[a]);have hroom:(S.out.length+1)*8<=zq:=by have:=hS.2;simp only[zq];omega
  have hr4:∀X,((sto u (zz S) T).set 1 X)[1]? =some X:=by
   intro X;rw[yh (by rw[sto_len hS.cost];unfold nb;omega)]
  have hao:acc 1 ((S.out++[a]).map (PV.int .i64))= .slice .own 1 (S.out.map (PV.int .i64)++[.int .i64 a]):=by
   rw[acc_ne (by simp)];simp
  have hio:isOwn (acc 1 (S.out.map (PV.int .i64)++[.int .i64 a]))=some (1,S.out.map (PV.int .i64)++[.int .i64 a]):=by
   rw[acc_ne (by simp)];rfl
  rw[hao]at hso;simp only[ints]at hso;have hco:(zz S).out=S.out:=rfl;replace e9:=eqp e9;clear hset args outs prs k12 k3 k4 k5 k6 k7 k8 k9 hk hl hL hU hao;simp[*,F109,frV,za,ints,outP,setW]
 exact absurd hk (by simp only[eq_iff_iff,iff_false]at e3 e4 e5 e6 e7 e8;omega)
set_option maxHeartbeats 4000000 in
theorem choice_of{u:Unt}(hU:OkU u){w:Nat}(hL:SpecL u w){m:Nat}{p:Pl}{x:Node}(ho:okN u m p x)(hk:x.kind=10){v:List Int}{S:RS}{T:List (List Int)}{j:Nat}(hS:FitS u S)(hwt:wtN x<capE)
  (hj:T[j]? =some v) (hv:v.length=m) (hw:S.fuel<=w) (c:Int):
  zh E 107 [frV u j m,zJ x,.int .i64 c] (sto u S T)=some (outX (zCa (evN u w) x c v S).1,sto u (zCa (evN u w) x c v S).2.2 (T.set j (zCa (evN u w) x c v S).2.1)):=by
 have hws:=zFb x;have hjl:=(yb.1 hj).1;rw[okN_eq]at ho;obtain⟨o1,o2⟩:=ho;have hkid:=kids_two (o1.k10 hk).2;have hp:plIn p x.kind x.outs x.params={p with y:=some x.outs.length}:=by rw[hk];rfl
 rw[hp]at o2;have hmem:(if c=0 then kid1 x else kid0 x)∈x.kids:=by rw[hkid];split<;>simp
 obtain⟨h1,h2⟩:=okK_mem o2 _ hmem;have hwk:=wt_kid hmem;unfold capE at hwt;have hc:=hL m _ _ v S T j hS hw h2 (by unfold capE;omega) hj hv;have hr:=zlc (evN_ok hU w) _ v S h1 h2 hv;unfold zCa;refine zc rfl rfl rfl (by simp[frV,za]) ?_;have hcc:(c=0)=True\/(c=0)=False:=by by_cases h:c=0<;>simp[h]
 have hif:∀(a b:List Node),(c=0)=True/\(if c=0 then a else b)=a\/(c=0)=False/\(if c=0 then a else b)=b:=by
  intro a b;rcases hcc with h|h<;>simp[h]
 have hif:=hif (kid1 x) (kid0 x);generalize(if c=0 then kid1 x else kid0 x)=l at*;generalize zga (evN u w) l v S=q at*;obtain⟨y,v1,S1⟩:=q;obtain⟨r1,r2,r3⟩:=hr;simp only at r1 r2 r3 hc ⊢;have hS1:=hS.mono r1;have ou:=o1.outs;have hol:x.outs.length<1099511627776:=by omega
 clear hcc hmem h1 h2 hws hwk hL hU o1 o2 hp;cases y with
 |stop k=>
  simp[frV,zn]at hc;rcases hif with⟨hc0,hl⟩|⟨hc0,hl⟩<;>subst hl<;>clear r3<;>simp[*,F107,frV,za,kids,zn]
 |ok y=>
  simp[frV,zn]at hc;simp only;by_cases hy:y.kind=12
  ·rw[if_pos hy];obtain⟨_,r4,_⟩:=r3 y rfl;have hyl:x.outs.length=y.l.length:=by
    rcases r4 with r4|r4|r4|r4
    ·have:=r4.2;simp at this;exact this
    ·omega
    ·omega
    ·omega
   have hset:=set_spec1 (j:=j) (T:=T.set j v1) hS1 (yh hjl) r2 ou hyl hol;rw[yEa]at hset;simp[frV,ints]at hset;replace hy:=eqp hy;clear r3 r4 hyl hwt;rcases hif with⟨hc0,hl⟩|⟨hc0,hl⟩<;>subst hl<;>simp[*,F107,frV,za,kids,zn,ints]
  ·rw[if_neg hy];replace hy:=eqn hy;clear r3 hwt;rcases hif with⟨hc0,hl⟩|⟨hc0,hl⟩<;>subst hl<;>simp[*,F107,frV,za,kids,zn,ints]
structure RSt where
 k:Nat
 l:List Int
 v:List Int
 S:RS
set_option maxHeartbeats 4000000 in
theorem loop_of{u:Unt}(hU:OkU u){w:Nat}(hL:SpecL u w){m:Nat}{p:Pl}{x:Node}(ho:okN u m p x)(hk:x.kind=11){v:List Int}{S:RS}{T:List (List Int)}{j:Nat}(hS:FitS u S)(hwt:wtN x<capE)
  (hj:T[j]? =some v) (hv:v.length=m) (hw:S.fuel<=w) {l:List Int} (hl:l.length=x.params.length):
  zh E 108 [frV u j m,zJ x,ints l] (sto u S T)=some (outX (zec (evN u w) x (w+1) l v S).1,sto u (zec (evN u w) x (w+1) l v S).2.2 (T.set j (zec (evN u w) x (w+1) l v S).2.1)):=by
 have hws:=zFb x;have hjl:=(yb.1 hj).1;rw[okN_eq]at ho;obtain⟨o1,o2⟩:=ho;have hkid:=kids_one (o1.k11 hk).2;have hp:plIn p x.kind x.outs x.params=⟨none,some x.params.length,some x.outs.length⟩:=by rw[hk];rfl
 rw[hp]at o2;have hmem:kid0 x∈x.kids:=by rw[hkid];simp
 obtain⟨h1,h2⟩:=okK_mem o2 _ hmem;have hwk:=wt_kid hmem;unfold capE at hwt;have ou:=o1.outs;have op:=o1.prs;have hset1:∀l1 v1 S1,FitS u S1->v1.length=m->l1.length=x.params.length->zh E 106 [frV u j m,ints x.params,ints l1] (sto u S1 (T.set j v1))=some (.ret (.tup []),sto u S1 (T.set j (setW v1 x.params l1))):=by
  intro l1 v1 S1 q1 q2 q3;have:=set_spec1 (j:=j) (T:=T.set j v1) q1 (yh hjl) q2 op q3.symm (by omega);rwa[yEa]at this
 have hset2:∀l1 v1 S1,FitS u S1->v1.length=m->l1.length=x.outs.length->zh E 106 [frV u j m,ints x.outs,ints l1] (sto u S1 (T.set j v1))=some (.ret (.tup []),sto u S1 (T.set j (setW v1 x.outs l1))):=by
  intro l1 v1 S1 q1 q2 q3;have:=set_spec1 (j:=j) (T:=T.set j v1) q1 (yh hjl) q2 ou q3.symm (by omega);rwa[yEa]at this
 have hlist:∀v1 S1,FitS u S1->S1.fuel<=w->v1.length=m->zh E 75 [frV u j m,zn (kid0 x)] (sto u S1 (T.set j v1))=some (outX (zga (evN u w) (kid0 x) v1 S1).1,sto u (zga (evN u w) (kid0 x) v1 S1).2.2 (T.set j (zga (evN u w) (kid0 x) v1 S1).2.1)):=by
  intro v1 S1 q1 q2 q3;have:=hL m _ _ v1 S1 (T.set j v1) j q1 q2 h2 (by unfold capE;omega) (yh hjl) q3;rwa[yEa]at this
 have hrun:∀v1 S1,v1.length=m->ListRun m ⟨none,some x.params.length,some x.outs.length⟩ (kid0 x) S1 (zga (evN u w) (kid0 x) v1 S1):=fun v1 S1 q=>zlc (evN_ok hU w) _ v1 S1 h1 h2 q
 have hself:=set_self hj;refine zc rfl rfl rfl (by simp[frV,za,ints]) ?_;clear hL hU o1 o2 hp hmem h1 h2 hwk hws ou op hj;simp[F108,frV,za,ints];refine zLc K108_0 B108_0 (fun c:RSt=>c.S.fuel) (fun c=>[(2,ints c.l)]) (fun c=>[(6,.cells [.int .i64 0,.slice .fit 1 []])]) (fun c=>sto u c.S (T.set j c.v))
  (fun c=>zec (evN u w) x (w+1) l v S=zec (evN u w) x c.k c.l c.v c.S/\FitS u c.S/\c.S.fuel<=w/\c.S.fuel<c.k/\c.v.length=m/\c.l.length=x.params.length) ⟨w+1,l,v,S⟩ ?_ ?_
 ·simp[*,ints];omega
 ·rintro⟨k,l1,v1,S1⟩ s1 ⟨d2,d3,d4,d5,d6,d7⟩ g1 g2 g3 g4 g5
  simp at d2 d3 d4 d5 d6 d7 g1 g2 g3 g4 g5;rw[d2];cases k with
  |zero=>omega
  |succ k=>
   have hs1:=hset1 l1 v1 S1 d3 d6 d7;have hvl:(setW v1 x.params l1).length=m:=by rw[zxb];exact d6
   have hc:=hlist (setW v1 x.params l1) S1 d3 d4 hvl;obtain⟨r1,r2,r3⟩:=hrun (setW v1 x.params l1) S1 hvl;simp only[zec];simp only[zec]at d2;generalize zga (evN u w) (kid0 x) (setW v1 x.params l1) S1=q at*;obtain⟨y,v2,S2⟩:=q;simp only at r1 r2 r3 hc d2;have hS2:=d3.mono r1;have hset2:=fun z hz=>hset2 z v2 S2 hS2 r2 hz
   clear hlist hrun hset1;simp[frV,ints]at hs1;cases y with
   |stop q=>
    simp[frV,zn]at hc;clear d2 hset2 r3 d7;simp[*,za,kids,zn,ints]
   |ok y=>
    obtain⟨r4,r5,_⟩:=r3 y rfl;clear r3;simp[frV,zn]at hc;simp only at d2 ⊢;by_cases h15:y.kind=15
    ·rw[if_pos h15];rw[h15]at hc;clear d2 hset2 d7 r5;simp[*,za,kids,zn,ints]
    ·by_cases h14:y.kind=14
     ·rw[if_neg h15,if_pos h14];have hyl:y.l.length=x.outs.length:=by
       rcases r5 with r5|r5|r5|r5
       ·omega
       ·omega
       ·have:=r5.2;simp at this;exact this.symm
       ·omega
      have hs2:=hset2 y.l hyl;simp[frV,ints]at hs2;rw[h14]at hc;clear d2 hset2 r5 d7 hyl;simp[*,za,kids,zn,ints]
     ·rw[if_neg h15,if_neg h14];rw[if_neg h15,if_neg h14]at d2;have hyl:y.l.length=x.params.length:=by
       rcases r5 with r5|r5|r5|r5
       ·cases r5.2
       ·have:=r5.2;simp at this;exact this.symm
       ·omega
       ·omega
      have h13:y.kind=13:=by
       rcases r5 with r5|r5|r5|r5
       ·cases r5.2
       ·exact r5.1
       ·omega
       ·omega
      rw[h13]at hc;have hfu:S2.fuel<S1.fuel:=r4;have hm:FitS u S2/\S2.fuel<=w/\S2.fuel<k:=⟨hS2,by omega,by omega⟩
      clear hset2 r5 d7 h15 h14 h13;simp[*,za,kids,zn,ints];refine⟨⟨k,y.l,v2,S2⟩,?_⟩;simp[*,ints]
set_option maxHeartbeats 4000000 in
theorem node_of{u:Unt}(hU:OkU u){w:Nat}(hL:SpecL u w):SpecN u (w+1):=by
 intro m p x v S T j hS hf ho hwt hj hv;have ho':=ho;rw[okN_eq]at ho';obtain⟨o1,o2⟩:=ho';have hjl:=(yb.1 hj).1;have hself:=set_self hj;have hws:=zFb x;have hwt':=hwt;unfold capE at hwt;refine zc rfl rfl rfl (by simp[frV,za]) ?_;simp only[evN];have hst:=stop_spec 0 (sto u S T);cases hfu:S.fuel with
 |zero=>
  have hz:((0:Nat):Int)=0:=rfl;clear o1 o2 ho hws;simp[*,F93,frV,za]
 |succ k=>
  dsimp only;have hS0:FitS u {S with fuel:=k}:=⟨hS.1,by have:=hS.2;simp only;omega⟩
  have hf0:({S with fuel:=k}:RS).fuel<=w:=by simp only;omega
  have hlt0:({S with fuel:=k}:RS).out.length+({S with fuel:=k}:RS).fuel<1000000000000:=by have:=hS.2;simp only;omega
  have hsf:(sto u S T).set 1 (.arr 9 [.agg [arrs u.arrays,flows u.flows,ints S.inp,.mp 0,.int .i64 0,.int .i64 0,acc 1 (S.out.map (PV.int .i64)),.int .i64 S.cost,.int .i64 k]])=sto u {S with fuel:=k} T:=rfl;have hnum:=numbers_spec (u:=u) hS0 hj hv o1.args (by omega);have hol:=zWb v x.args;have hws':zM .i64 (((k+1:Nat):Int)-1)=(k:Int):=by rw[zj]<;>(have:=hS.2;omega)
  have hne:(((k+1:Nat):Int)=0)=False:=eqn (by omega);have hpl:=fun(h:3<=x.kind/\x.kind<=9)=>plain_of hU hL o1 h hS0 hwt' hj hv hf0 hlt0 hol
  have hch:=fun(h:x.kind=10)=>choice_of hU hL ho h hS0 hwt' hj hv hf0 (atA (ofW v x.args) 0)
  have hlo:=fun(h:x.kind=11)=>loop_of hU hL ho h hS0 hwt' hj hv hf0 (l:=ofW v x.args) (by rw[hol];exact(o1.k11 h).1)
  have hs1:∀z,(x.kind=1\/x.kind=2)->zh E 106 [frV u j m,ints x.outs,ints [z]] (sto u {S with fuel:=k} T)=some (.ret (.tup []),sto u {S with fuel:=k} (T.set j (setW v x.outs [z]))):=
   fun z h=>set_spec1 hS0 hj hv o1.outs (by rw[o1.k12 h];rfl) (by omega)
  have hk10:x.kind=10->∃a,ofW v x.args=[a]:=fun h=>len1 (by rw[hol];exact(o1.k10 h).1)
  have hkk:=o1.k;simp[frV,ints]at hnum;generalize hSS:({S with fuel:=k}:RS)=S0 at*;generalize hoo:ofW v x.args=l at*;generalize hc:((k+1:Nat):Int)=c at*;clear hf hS o2 o1 ho hst hsf;unfold nodeW;rw[hoo];by_cases k1:x.kind=1
  ·rw[if_pos (.inl k1)];have hs1:=hs1 x.n (.inl k1);replace k1:=eqp k1;simp[frV,ints]at hs1;clear hpl hch hlo hk10 hkk;simp[*,F93,frV,za,ints]
  by_cases k2:x.kind=2
  ·rw[if_pos (.inr k2)];have hs1:=hs1 x.n (.inr k2);replace k1:=eqn k1;replace k2:=eqp k2;simp[frV,ints]at hs1;clear hpl hch hlo hk10 hkk;simp[*,F93,frV,za,ints]
  rw[if_neg (by omega)];clear hs1;by_cases kE:12<=x.kind/\x.kind<=15
  ·rw[if_pos kE];replace k1:=eqn k1;replace k2:=eqn k2;have h4:x.kind=12\/x.kind=13\/x.kind=14\/x.kind=15:=by omega
   clear hpl hch hlo hk10 hkk kE;rcases h4 with h4|h4|h4|h4<;>simp[*,F93,frV,za,ints]
  rw[if_neg kE];have e12:(x.kind=12)=False:=eqn (by omega);have e13:(x.kind=13)=False:=eqn (by omega);have e14:(x.kind=14)=False:=eqn (by omega);have e15:(x.kind=15)=False:=eqn (by omega);by_cases k10:x.kind=10
  ·rw[if_pos k10];have hch:=hch k10;obtain⟨a,ha⟩:=hk10 k10;subst ha;have e0:atA [a] 0=a:=rfl;rw[e0]at hch ⊢;generalize zCa (evN u w) x a v S0=q at*;obtain⟨y,v1,S1⟩:=q;simp[frV,za,ints]at hch;replace k1:=eqn k1;replace k2:=eqn k2;replace k10:=eqp k10;clear hpl hlo hk10 hkk kE;cases y<;>simp[ints]at hch<;>simp[*,F93,frV,za,ints]
  rw[if_neg k10];by_cases k11:x.kind=11
  ·rw[if_pos k11];have hlo:=hlo k11;generalize zec (evN u w) x (w+1) l v S0=q at*;obtain⟨y,v1,S1⟩:=q;simp[frV,za,ints]at hlo;replace k1:=eqn k1;replace k2:=eqn k2;replace k10:=eqn k10;replace k11:=eqp k11;clear hpl hch hk10 hkk kE;cases y<;>simp[ints]at hlo<;>simp[*,F93,frV,za,ints]
  rw[if_neg k11];have hpl:=hpl (by omega);generalize zcb u (evN u w) x l (zz S0)=q at*;obtain⟨y,S1⟩:=q;replace k1:=eqn k1;replace k2:=eqn k2;replace k10:=eqn k10;replace k11:=eqn k11;clear hch hlo hk10 hkk kE;cases y<;>simp[frV,za,outP,ints]at hpl<;>simp[*,F93,frV,za,ints]
theorem node0(u:Unt):SpecN u 0:=by
 intro m p x v S T j hS hf ho hwt hj hv;have hself:=set_self hj;have h0:S.fuel=0:=by omega
 have hst:=stop_spec 0 (sto u S T);refine zc rfl rfl rfl (by simp[frV,za]) ?_;simp only[evN];clear ho;simp[*,F93,frV,za]
theorem specs{u:Unt}(hU:OkU u):∀w,SpecN u w
 |0=>node0 u
 |w+1=>node_of hU (list_of hU (specs hU w))
end PE.U

namespace PE
open Go
def hendQ(H:HFn)(n:Nat)(fr:Fr)(R:CRes->zb->Prop):Ex->St->Prop
 | .normal,s=>PC (zsb H n fr s.st) R
 | .ret,s=>PC (zsb H n fr s.st) R
 |_,_=>False
def hrestQ(K:PV×zb->Prop):Ex->St->Prop
 | .normal,s=>K (.nilif,s.st)
 | .ret,s=>K (.nilif,s.st)
 | .pan (.iface t v),s=>K (.iface t v,s.st)
 |_,_=>False
noncomputable def hpreQ(E:Env)(H:HFn)(n:Nat)(R:CRes->zb->Prop):Ex->St->Prop
 | .normal,s1=>(zg s1.fr H.caps).all zp=true/\zP (exec (zh E) H.rest {s1 with fr:=upd s1.fr H.d (.fn H.k [] (zg s1.fr H.caps))}) (hrestQ fun q=>zP (exec (zh E) H.code (handSt H (zg s1.fr H.caps) q)) (hendQ H n s1.fr R))
 | .ret,s1=>PC (zsb H n s1.fr s1.st) R
 |_,_=>False
section
variable (n:Nat) (R:CRes->zb->Prop) (s:St) (K:PV×zb->Prop) (E:Env) (H:HFn) (fr:Fr)
@[simp] theorem hendQ_normal:hendQ H n fr R .normal s=PC (zsb H n fr s.st) R:=yd rfl rfl
@[simp] theorem hrestQ_normal:hrestQ K .normal s=K (.nilif,s.st):=yd rfl rfl
@[simp] theorem hrestQ_pan(t:Nat)(v:PV):hrestQ K (.pan (.iface t v)) s=K (.iface t v,s.st):=yd rfl rfl
@[simp] theorem hpreQ_normal:hpreQ E H n R .normal s=((zg s.fr H.caps).all zp=true/\zP (exec (zh E) H.rest {s with fr:=upd s.fr H.d (.fn H.k [] (zg s.fr H.caps))}) (hrestQ fun q=>zP (exec (zh E) H.code (handSt H (zg s.fr H.caps) q)) (hendQ H n s.fr R))):=yd rfl rfl
@[simp] theorem hpreQ_ret:hpreQ E H n R .ret s=PC (zsb H n s.fr s.st) R:=yd rfl rfl
@[simp] theorem handSt_eq(cv:List PV)(q:PV×zb):handSt H cv q={fr:=upd (upd (frOf cv 0) H.r1 q.1) H.r2 q.1,bx:=fun _=> .no,st:=q.2}:=yd rfl rfl
end
theorem hand_wp{E:Env}{f:Nat}{H:HFn}{args:List PV}{st:zb}{R:CRes->zb->Prop}(hx:E.ext f=none)(hh:E.hand f=some H)(hl:args.length=H.nargs)(hv:args.all zp=true)
  (h:zP (exec (zh E) H.pre {fr:=frOf args 0,bx:=fun _=> .no,st:=st}) (hpreQ E H st.length R)):PC (zh E f args st) R:=by
 rw[holds_iff]at h;obtain⟨e1,s1,h1,h2⟩:=h;cases e1<;>try exact h2.elim
 case ret=>
  rw[hpreQ_ret,PC_iff]at h2;obtain⟨r,st',q1,q2⟩:=h2;have:zh E f args st=some (r,st'):=by
   refine pcall_hand hx hh ?_;unfold handF;rw[if_pos ⟨hl,hv⟩,h1];exact q1
  rw[this];exact q2
 rw[hpreQ_normal]at h2;obtain⟨h3,h4⟩:=h2;rw[holds_iff]at h4;obtain⟨e2,s2,h5,h6⟩:=h4;have hq:∃q,thrown (some (e2,s2))=some q/\zP (exec (zh E) H.code (handSt H (zg s1.fr H.caps) q)) (hendQ H st.length s1.fr R):=by
  cases e2 with
  |normal=>exact⟨_,rfl,h6⟩
  |ret=>exact⟨_,rfl,h6⟩
  |exit i=>exact h6.elim
  |pan v=>cases v<;>first|exact⟨_,rfl,h6⟩|exact h6.elim
 obtain⟨q,hq1,hq2⟩:=hq;rw[holds_iff]at hq2;obtain⟨e3,s3,h7,h8⟩:=hq2;have hr:PC (handEnd H st.length s1.fr (some (e3,s3))) R:=by
  cases e3 with
  |normal=>exact h8
  |ret=>exact h8
  |exit i=>exact h8.elim
  |pan v=>exact h8.elim
 rw[PC_iff]at hr;obtain⟨r,st',hr1,hr2⟩:=hr;have:zh E f args st=some (r,st'):=by
  refine pcall_hand hx hh ?_;unfold handF;rw[if_pos ⟨hl,hv⟩,h1];simp only;rw[if_pos h3,h5,hq1];simp only;rw[h7,hr1]
 rw[this];exact hr2
end PE

namespace PE.U
open Go PE
def encRn(r:Rn):PV:= .agg [.int .i64 r.status,.int .i64 r.code,ints r.out,.int .i64 r.cost,.int .i64 r.fuel]
def endO(u:Unt)(q:Rt Int×RS):Obj:= .arr 9 [.agg [arrs u.arrays,flows u.flows,ints q.2.inp,.mp 0,.int .i64 (zBc q).status,.int .i64 (zBc q).code,acc 1 (q.2.out.map (PV.int .i64)),.int .i64 q.2.cost,.int .i64 q.2.fuel]]
theorem wf_set{n j:Nat}{T:zb}{o:Obj}(hT:zb.wf n T=true)(ho:o.below n=true):zb.wf n (T.set j o)=true:=by
 unfold zb.wf at hT ⊢;rw[yo]at hT ⊢;intro x hx;rcases List.mem_or_eq_of_mem_set hx with h|rfl
 ·exact hT x h
 ·exact ho
theorem isR_get{x:Option (CRes×zb)}{r:CRes×zb}(h:PC x (isR r)):x=some r:=by
 obtain⟨a,b,e,h1,h2⟩:=PC_iff.1 h;rw[e,h1,h2]
theorem main_spec{u:Unt}(hU:OkU u)(S:RS)(hS:FitS u S):zh E 31 [.ptr 1 0 0] (sto u S [])=some (.ret (.tup []),(sto u (mainW u S).2 []).set 1 (endO u (mainW u S))):=by
 obtain⟨f,hf,hfm,hp,hfp⟩:=hU.main;have hc:=call_of hU (list_of hU (specs hU S.fuel)) hf hp (l:=[]) (T:=[]) hS (yl _) (by simp);have hm:=(callW_ok (evN_ok hU S.fuel) (hU.body f hfm) (l:=[]) (by simp) S).1;have hmw:mainW u S=zIa (evN u S.fuel) f [] S:=by unfold mainW;rw[hf]
 rw[hmw];generalize zIa (evN u S.fuel) f [] S=q at*;obtain⟨a,S1⟩:=q;simp only at hc hm;have hS1:=hS.mono hm;have hlen0:=sto_len (T:=[]) hS;have hlen1:=sto_len (T:=[]) hS1;have htake:∀X,((sto u S1 []).set 1 X).take (nb u)=(sto u S1 []).set 1 X:=by
  intro X;rw[ypa];rw[List.length_set,hlen1];simp
 have hwf0:zb.wf (nb u) (sto u S1 [])=true:=sto_wf (yl _);have hwf:∀c d,zb.wf (nb u) ((sto u S1 []).set 1 (.arr 9 [.agg [arrs u.arrays,flows u.flows,ints S1.inp,.mp 0,.int .i64 c,.int .i64 d,acc 1 (S1.out.map (PV.int .i64)),.int .i64 S1.cost,.int .i64 S1.fuel]]))=true:=by
  intro c d;refine wf_set hwf0 ?_;have h0:0<nb u:=by unfold nb;omega
  simp[Obj.below,belowL_acc,h0]
 have hr4:∀X,((sto u S1 []).set 1 X)[1]? =some X:=by
  intro X;rw[yh (by rw[hlen1];unfold nb;omega)]
 simp[ints,zC]at hc hlen0 hlen1;simp[ints]at hwf;refine isR_get (hand_wp rfl rfl rfl rfl ?_);clear hU hm hmw hS hwf0 hfp hf hfm hp;cases a with
 |stop j=>
  simp at hc;simp[*,H31,endV,endO,zBc,ints,zsb,pinFr]
 |ok n=>
  simp at hc;simp[*,H31,endV,endO,zBc,ints,zsb,pinFr]
theorem mapSet_arr(nm:List UInt8)(v:PV):∀(d:List Arr) (b:Nat),nm ∉ d.map (·.name)->zAb true (.str nm) v (zDa b d)=some (zDa b d++[(.str nm,v)])
 | [],b,_=>rfl
 |y::d,b,h=>by
  simp only[yaa,yO,not_or]at h;have ih:=mapSet_arr nm v d (b+1) h.2;simp only[zDa,zAb,keyEq,if_true,h.1,decide_false];rw[ih];rfl
theorem arrFrom_snoc(x:Arr):∀(d:List Arr) (b:Nat),zDa b (d++[x])=zDa b d++[(.str x.name,.mslice (b+d.length) 0 x.size.toNat 1)]
 | [],b=>by simp[zDa]
 |y::d,b=>by
  simp only[List.cons_append,zDa,arrFrom_snoc x d,yR];rw[show b+1+d.length=b+(d.length+1)from by omega]
set_option maxHeartbeats 4000000 in
theorem zbb(u:Unt)(hz:USz u)(inp:List Int)(fu:Int)(hf:fu<=100000000000):zh E 16 [zE u,ints inp,.int .i64 fu] []=some (.ret (encRn (zTa u inp fu)),[]):=by
 have hck:=check_spec u hz;refine zc rfl rfl rfl (by simp[zE,ints]) ?_;unfold zTa;by_cases h0:(zcc u).1=0
 ·rw[if_pos h0];have hU:=checkM_ok hz h0;have hS0:FitS u (run0 u inp fu):=by
   refine⟨?_,?_⟩
   ·simp[run0,List.map_map,yy]
   ·simp[run0];omega
  have hm:=main_spec hU (run0 u inp fu) hS0;obtain⟨f,hf',hfm,hp',hfp⟩:=hU.main;have hmn:=(callW_ok (evN_ok hU (run0 u inp fu).fuel) (hU.body f hfm) (l:=[]) (by simp) (run0 u inp fu)).1;have hmw:mainW u (run0 u inp fu)=zIa (evN u (run0 u inp fu).fuel) f [] (run0 u inp fu):=by unfold mainW;rw[hf']
  rw[<-hmw]at hmn;clear hmw;generalize mainW u (run0 u inp fu)=q at*;obtain⟨a,S1⟩:=q;have hS1:=hS0.mono hmn;have hr4:∀X,((sto u S1 []).set 1 X)[1]? =some X:=by
   intro X;rw[yh (by rw[sto_len hS1];unfold nb;omega)]
  have hmx:(if fu<0 then 0 else fu)=max fu 0:=by split<;>omega
  generalize zcc u=ck at*;obtain⟨c0,c1⟩:=ck;simp only at h0;subst h0;simp[zE,arrs]at hck;simp only[sto]at hm;simp[runO,runCells,run0,zSc,arrs,ints,endO]at hm;simp[*,F16,zE,arrs,ints];refine zaa u.arrays K16_0 B16_0 (fun d=>[(31,.int .i64 d.length)]) (fun d=> .mp (zDa 2 d):: .arr 9 [.agg [.slice .plain 2 (u.arrays.map zY),flows u.flows,.slice .plain 1 (inp.map (PV.int .i64)),.mp 0,.int .i64 0,.int .i64 0,.slice .fit 1 [],.int .i64 0,.int .i64 (max fu 0)]]::d.map (fun x=>intO (yg x.size.toNat 0))) (fun d=>(d.map (·.name)).Nodup) (by have:=hz.arrs;omega) (by simp[zDa]) ?_ ?_
  ·intros d x r s1 hl' hlt hget hget' hwr hp g1 g2 g3 g4;simp at g1 g3;have hx:x.name ∉ d.map (·.name)/\((d++[x]).map (·.name)).Nodup:=by
    have h:=hU.names;rw[hl'.eq]at h;simp only[List.map_append,yaa]at h ⊢;rw[List.nodup_append]at h;obtain⟨h1,h2,h3⟩:=h;have hx:x.name ∉ d.map (·.name):=fun hm=>h3 _ hm _ (by simp) rfl
    refine⟨hx,?_⟩;rw[List.nodup_append];exact⟨h1,by simp,fun a ha b hb=>by simp at hb;rintro rfl;exact hx (hb ▸ ha)⟩
   have hsz:=hU.arrs x hl'.mem;have hms2:=mapSet_arr x.name (.mslice (2+d.length) 0 x.size.toNat 1) d 2 hx.1;rw[<-arrFrom_snoc]at hms2;rw[show 2+d.length=d.length+1+1 from by omega]at hms2;have hx2:=hx.2;simp only[List.map_append,yaa,List.map_nil]at hx2;have hdec:decide (d.length<u.arrays.length)=true:=decide_eq_true hlt;have hs1:(x.size<0)=False:=eqn (by omega);have hs2:(0<=x.size)=True:=eqp (by omega);have hs3:(x.size<=9223372036854775807)=True:=eqp (by omega);have hs4:(8*x.size<=281474976710656)=True:=eqp (by omega);have hrow:Obj.arr 1 (yg x.size.toNat (PV.int .i64 0))=intO (yg x.size.toNat 0):=by simp[intO]
   clear hx hl' hget' hlt hp hsz hU hS0 hm hmn hr4 hck hS1 hf' hfm hp' hfp;simp[*,zY]
  ·intros s1 hp g1 g2 g3 g4;simp at g1 g3;have hdec:(u.arrays.map (fun x=>intO (yg x.size.toNat 0)))=List.map (intO ∘ fun a=>yg a.size.toNat 0) u.arrays:=rfl;rw[hdec]at g4;clear hdec hU hS0 hp hck hmn hf' hfm hp' hfp;have hre:(zBc (a,S1)).out=S1.out/\(zBc (a,S1)).cost=S1.cost/\(zBc (a,S1)).fuel=S1.fuel:=by cases a<;>exact⟨rfl,rfl,rfl⟩
   simp[*,encRn,ints]
 ·rw[if_neg h0];generalize zcc u=ck at*;obtain⟨c0,c1⟩:=ck;simp only at h0;simp[zE]at hck;replace h0:=eqn h0;simp[*,F16,zE,encRn,ints]
def awL:Node:=⟨11,0,0,[],[0,1],[4],[2,3],[[⟨4,14,0,[],[2,3],[5],[],[]⟩,⟨10,0,0,[],[5],[],[],[[⟨14,0,0,[],[2],[],[],[]⟩],[⟨4,1,0,[],[2,3],[6],[],[]⟩,⟨13,0,0,[],[3,6],[],[],[]⟩]]⟩]]⟩
def awU:Unt:=⟨[],[⟨zC,1,0,[1,1,1,1,1,2,1],[⟨1,0,8,[],[],[0],[],[]⟩,⟨1,0,7,[],[],[1],[],[]⟩,awL,⟨9,0,0,[],[4],[],[],[]⟩,⟨15,0,0,[],[4],[],[],[]⟩]⟩]⟩
theorem awU_1:(zTa awU [] 100).status=1/\(zTa awU [] 100).code=8/\(zTa awU [] 100).out=[8]/\(zTa awU [] 100).cost=2:=by decide+kernel
theorem awU_2:(zTa awU [] 3).status=0/\(zTa awU [] 3).fuel=0:=by decide+kernel
theorem awU_sz:USz awU:=⟨by decide,by decide,by decide+kernel,by decide+kernel⟩
theorem mainU_spec(types:List Int)(k n:Nat)(σ:zb):zh E 15 [ints types,.mslice k 0 n 8] σ=some (.ret (.agg [.slice .plain 2 [],.mslice σ.length 0 1 5]),σ++[.arr 5 [.agg [.str zC,.int .i64 1,.int .i64 0,ints types,.mslice k 0 n 8]]]):=by
 refine zc rfl rfl rfl (by simp[ints]) ?_;simp[F15,ints,zC]
set_option maxHeartbeats 4000000 in
theorem awake10_spec:zh E 18 [] []=some (.ret (.bool true),[]):=by
 refine zc rfl rfl rfl (by simp) ?_;have r1:=zbb awU awU_sz [] 100 (by omega);have r2:=zbb awU awU_sz [] 3 (by omega);obtain⟨a1,a2,a3,a4⟩:=awU_1;obtain⟨b1,b2⟩:=awU_2;generalize zTa awU [] 100=m1 at*;generalize zTa awU [] 3=m2 at*;obtain⟨s1,c1,o1,k1,f1⟩:=m1;obtain⟨s2,c2,o2,k2,f2⟩:=m2;simp only at a1 a2 a3 a4 b1 b2;subst a1 a2 a3 a4 b1 b2;simp[encRn,ints,zE,awU,awL,arrs,flows,zi,zn,za,kids,zC]at r1 r2;have hm:=mainU_spec [1,1,1,1,1,2,1] 0 5;simp[ints,zC]at hm;simp[*,F18,ints,sealSt,sealBx,zba,killAll]
def outSame(a b:List Int):Bool:=decide (a=b)
theorem sameOut_spec(a b:List Int)(ha:a.length<1099511627776)(hb:b.length<1099511627776):zh E 33 [ints a,ints b] []=some (.ret (.bool (outSame a b)),[]):=by
 refine zc rfl rfl rfl (by simp[ints]) ?_;unfold outSame;by_cases hl:a.length=b.length
 ·have hl':((a.length:Int)=b.length)=True:=eqp (by omega);simp[*,F33,ints];refine zaa a K33_0 B33_0 (fun d=>[(5,.int .i64 d.length)]) (fun _=>[]) (fun d=>b.take d.length=d) (by omega) (by simp) ?_ ?_
  ·intros d x r s1 hs hlt hget hget' hwr hp g1 g2 g3 g4;simp at g1 g3;obtain⟨y,hy⟩:∃y,b[d.length]? =some y:=⟨_,ye (by omega)⟩
   have hdec:decide (d.length<a.length)=true:=decide_eq_true (by omega);have htk:b.take (d.length+1)=d++[y]:=by rw[List.take_add_one,hy,hp];rfl
   by_cases hxy:x=y
   ·subst hxy;clear hs hlt hget' hl hl' hp;simp[*]
   ·have hne:¬a=b:=by
     rintro rfl
     rw[hget]at hy;exact hxy (Option.some.inj hy)
    have h1:(x=y)=False:=eqn hxy;clear hs hlt hget' hl hl' hp htk;simp[*]
  ·intros s1 hp g1 g2 g3 g4;simp at g1 g3;have:a=b:=by rw[<-hp,hl,List.take_length]
   subst this;clear hp;simp[*]
 ·have hne:¬a=b:=by rintro rfl;exact hl rfl
  have hl':((a.length:Int)=b.length)=False:=eqn (by omega);clear hl;simp[*,F33,ints]
def sameRn(a b:Rn):Bool:=decide (a.status=b.status)&&(decide (a.code=b.code)&&(outSame a.out b.out&&(decide (a.cost=b.cost)&&decide (a.fuel=b.fuel))))
theorem sameRn_self(a:Rn):sameRn a a=true:=by simp[sameRn,outSame]
set_option maxHeartbeats 1000000 in
theorem sameR_spec(a b:Rn)(ha:a.out.length<1099511627776)(hb:b.out.length<1099511627776):zh E 21 [encRn a,encRn b] []=some (.ret (.bool (sameRn a b)),[]):=by
 have ho:=sameOut_spec a.out b.out ha hb;refine zc rfl rfl rfl (by simp[encRn]) ?_;unfold sameRn;generalize outSame a.out b.out=so at*;clear ha hb
 (simp[*,F21,encRn])<;>(repeat' (first|((first|refine sP _ ?_ ?_|refine gP _ ?_ ?_|refine sN _ ?_ ?_|refine gN _ ?_ ?_)<;>intro hc<;>(first|replace hc:=eqn hc|replace hc:=eqp hc)<;>simp[*,F21,encRn])|((first|refine sM _ ?_ ?_|refine gM _ ?_ ?_|refine sB _ ?_ ?_|refine gB _ ?_ ?_)<;>intro hc<;>simp[*,F21,encRn])))
 all_goals exact Int.ofNat_inj
theorem ins_spec(l:List Int)(hl:l.length<=9223372036854775807):zh E 19 [ints l] []=some (.ret (ints (l.take 10)),[]):=by
 refine zc rfl rfl rfl (by simp) ?_;by_cases h:10<l.length
 ·have h1:((10:Int)<l.length)=True:=eqp (by omega);have h2:(10<=l.length)=True:=eqp (by omega);clear hl h;simp[*,F19,ints]
 ·have h1:((10:Int)<l.length)=False:=eqn (by omega);have h2:l.take 10=l:=ypa (by omega);rw[h2];clear hl h h2;simp[*,F19,ints]
theorem playM_out(u:Unt)(inp:List Int)(fu:Int)(h:fu<=100000000000)(hz:USz u):(zTa u inp fu).out.length<1099511627776:=by
 unfold zTa;split
 ·rename_i h0;have hU:=checkM_ok hz h0;obtain⟨f,hf',hfm,hp',hfp⟩:=hU.main;have hmn:=(callW_ok (evN_ok hU (run0 u inp fu).fuel) (hU.body f hfm) (l:=[]) (by simp) (run0 u inp fu)).1;have hmw:mainW u (run0 u inp fu)=zIa (evN u (run0 u inp fu).fuel) f [] (run0 u inp fu):=by unfold mainW;rw[hf']
  rw[hmw];generalize zIa (evN u (run0 u inp fu).fuel) f [] (run0 u inp fu)=q at*;have h2:=hmn.out;have e1:(run0 u inp fu).out.length=0:=rfl;have e2:(run0 u inp fu).fuel=fu.toNat:=rfl;obtain⟨a,S1⟩:=q;simp only at h2;rw[e1,e2]at h2;cases a<;>simp only[zBc]<;>omega
 ·simp
def inpP(x:List Int)(S:RS):RS:={S with inp:=S.inp++x}
def RelI{α:Type}(x:List Int)(q q':Rt α×List Int×RS):Prop:=q.1≠ .stop 4->q'=(q.1,q.2.1,inpP x q.2.2)
def RelJ{α:Type}(x:List Int)(q q':Rt α×RS):Prop:=q.1≠ .stop 4->q'=(q.1,inpP x q.2)
def EvI(x:List Int)(ev:NEv):Prop:=∀n v S,RelI x (ev n v S) (ev n v (inpP x S))
section
variable {x:List Int} {ev:NEv} (H:EvI x ev)
include H
theorem listW_I:∀(l:List Node) (v:List Int) (S:RS),RelI x (zga ev l v S) (zga ev l v (inpP x S))
 | [],v,S=>fun _=>rfl
 |n::r,v,S=>by
  have h:=H n v S;have ih:=fun v S=>listW_I r v S
  unfold zga;generalize ev n v S=q at*;obtain⟨a,v1,S1⟩:=q;cases a with
  |stop k=>
   intro hk;simp only at hk;rw[h hk]
  |ok w=>
   rw[h (by simp)];simp only;split
   ·exact ih v1 S1
   ·intro _;rfl
theorem callW_I(f:Flow)(l:List Int)(S:RS):RelJ x (zIa ev f l S) (zIa ev f l (inpP x S)):=by
 have h:=listW_I H f.body (l++yg (f.types.length-l.length) 0) S;unfold zIa;generalize zga ev f.body (l++yg (f.types.length-l.length) 0) S=q at*;obtain⟨a,v1,S1⟩:=q;cases a with
 |stop k=>
  intro hk;simp only at hk;rw[h (by simpa using hk)]
 |ok w=>rw[h (by simp)];intro _;rfl
theorem plainW_I(u:Unt)(n:Node)(l:List Int)(S:RS):RelJ x (zcb u ev n l S) (zcb u ev n l (inpP x S)):=by
 unfold zcb;by_cases k3:n.kind=3
 ·rw[if_pos k3,if_pos k3];intro _;rfl
 rw[if_neg k3,if_neg k3];by_cases k4:n.kind=4
 ·rw[if_pos k4,if_pos k4];intro hq;split<;>rfl
 rw[if_neg k4,if_neg k4];by_cases k5:n.kind=5
 ·rw[if_pos k5,if_pos k5];have:cellAt u (inpP x S) n.name (atA l 0)=cellAt u S n.name (atA l 0):=rfl;rw[this];intro hq;split<;>rfl
 rw[if_neg k5,if_neg k5];by_cases k6:n.kind=6
 ·rw[if_pos k6,if_pos k6];have:putAt u (inpP x S) n.name (atA l 0) (atA l 1)=(putAt u S n.name (atA l 0) (atA l 1)).map (inpP x):=by
   unfold putAt;split
   ·rfl
   ·cases hr:S.arrs[(arrAt u.arrays n.name).toNat]? with
    |none=>simp[inpP,hr]
    |some row=>
     simp only[inpP,hr,Option.bind_some];split<;>rfl
  rw[this];intro hq;cases putAt u S n.name (atA l 0) (atA l 1)<;>rfl
 rw[if_neg k6,if_neg k6];by_cases k7:n.kind=7
 ·rw[if_pos k7,if_pos k7];cases flowAt u n.name with
  |none=>intro _;rfl
  |some f=>
   simp only;have h:=callW_I H f l S;generalize zIa ev f l S=q at*;obtain⟨a,S1⟩:=q;cases a with
   |stop k=>
    intro hk;simp only at hk;rw[h (by simpa using hk)]
   |ok m=>rw[h (by simp)];intro _;rfl
 rw[if_neg k7,if_neg k7];by_cases k8:n.kind=8
 ·rw[if_pos k8,if_pos k8];cases hs:S.inp with
  |nil=>intro hq;simp at hq
  |cons m r=>intro _;simp[inpP,hs]
 rw[if_neg k8,if_neg k8];by_cases k9:n.kind=9
 ·rw[if_pos k9,if_pos k9];intro _;rfl
 rw[if_neg k9,if_neg k9];intro _;rfl
theorem choiceW_I(n:Node)(c:Int)(v:List Int)(S:RS):RelI x (zCa ev n c v S) (zCa ev n c v (inpP x S)):=by
 have h:=listW_I H (if c=0 then kid1 n else kid0 n) v S;unfold zCa;generalize zga ev (if c=0 then kid1 n else kid0 n) v S=q at*;obtain⟨a,v1,S1⟩:=q;cases a with
 |stop k=>
  intro hk;simp only at hk;rw[h hk]
 |ok w=>
  rw[h (by simp)];simp only;intro _;split<;>rfl
theorem loopW_I(n:Node):∀(k:Nat) (l v:List Int) (S:RS),RelI x (zec ev n k l v S) (zec ev n k l v (inpP x S))
 |0,l,v,S=>fun _=>rfl
 |k+1,l,v,S=>by
  have h:=listW_I H (kid0 n) (setW v n.params l) S;have ih:=fun l v S=>loopW_I n k l v S
  unfold zec;generalize zga ev (kid0 n) (setW v n.params l) S=q at*;obtain⟨a,v1,S1⟩:=q;cases a with
  |stop k=>
   intro hk;simp only at hk;rw[h hk]
  |ok w=>
   rw[h (by simp)];simp only;split
   ·intro _;rfl
   ·split
    ·intro _;rfl
    ·exact ih _ _ _
theorem nodeW_I(u:Unt)(w:Nat)(n:Node)(v:List Int)(S:RS):RelI x (nodeW u ev w n v S) (nodeW u ev w n v (inpP x S)):=by
 unfold nodeW;by_cases k1:n.kind=1\/n.kind=2
 ·rw[if_pos k1,if_pos k1];intro _;rfl
 rw[if_neg k1,if_neg k1];by_cases k2:12<=n.kind/\n.kind<=15
 ·rw[if_pos k2,if_pos k2];intro _;rfl
 rw[if_neg k2,if_neg k2];by_cases k10:n.kind=10
 ·rw[if_pos k10,if_pos k10];exact choiceW_I H n _ v S
 rw[if_neg k10,if_neg k10];by_cases k11:n.kind=11
 ·rw[if_pos k11,if_pos k11];exact loopW_I H n _ _ v S
 rw[if_neg k11,if_neg k11];have h:=plainW_I H u n (ofW v n.args) (zz S);have he:zz (inpP x S)=inpP x (zz S):=rfl;rw[he];generalize zcb u ev n (ofW v n.args) (zz S)=q at*;obtain⟨a,S1⟩:=q;cases a with
 |stop k=>
  intro hk;simp only at hk;rw[h (by simpa using hk)]
 |ok m=>rw[h (by simp)];intro _;rfl
end
theorem evN_I(x:List Int)(u:Unt):∀w,EvI x (evN u w)
 |0=>fun n v S _=>rfl
 |w+1=>fun n v S=>by
  simp only[evN];have:(inpP x S).fuel=S.fuel:=rfl;rw[this];cases S.fuel with
  |zero=>intro _;rfl
  |succ k=>exact nodeW_I (evN_I x u w) u w n v {S with fuel:=k}
theorem playM_reads(u:Unt)(inp x:List Int)(fu:Int)(h:(zTa u inp fu).status≠4):zTa u (inp++x) fu=zTa u inp fu:=by
 unfold zTa at h ⊢;split
 ·rename_i hc;rw[if_pos hc]at h;unfold mainW at h ⊢;cases hf:flowAt u zC with
  |none=>simp only[hf];rfl
  |some f=>
   rw[hf]at h;simp only at h ⊢;have hr:run0 u (inp++x) fu=inpP x (run0 u inp fu):=rfl;have hff:(run0 u (inp++x) fu).fuel=(run0 u inp fu).fuel:=rfl;rw[hff,hr];have hc:=callW_I (evN_I x u (run0 u inp fu).fuel) f [] (run0 u inp fu);generalize zIa (evN u (run0 u inp fu).fuel) f [] (run0 u inp fu)=q at*;obtain⟨a,S1⟩:=q;cases a with
   |stop k=>
    have hk:k≠4:=by simpa[zBc]using h
    rw[hc (by simpa using hk)];rfl
   |ok n=>rw[hc (by simp)];rfl
 ·rfl
structure Gw(S S1:RS):Prop where
 out:∃x,S1.out=S.out++x
 cost:S.cost<=S1.cost
 sum:S1.cost+S1.fuel<=S.cost+S.fuel
def Low(S:RS):Prop:=0<=S.cost/\S.cost+S.fuel<=1000000000000
theorem Gw.refl(S:RS):Gw S S:=⟨⟨[],by simp⟩,ysa _,ysa _⟩
theorem Gw.trans{a b c:RS}(h:Gw a b)(k:Gw b c):Gw a c:=by
 obtain⟨⟨x,h1⟩,h2,h3⟩:=h;obtain⟨⟨y,k1⟩,k2,k3⟩:=k;exact⟨⟨x++y,by rw[k1,h1];simp⟩,by omega,by omega⟩
theorem Gw.low{a b:RS}(h:Gw a b)(hl:Low a):Low b:=by
 obtain⟨h1,h2⟩:=hl;have h3:=h.2;have h4:=h.3;exact⟨by omega,by omega⟩
def EvG(ev:NEv):Prop:=∀n v S,Low S->Gw S (ev n v S).2.2
section
variable {ev:NEv} (H:EvG ev)
include H
theorem listW_G:∀(l:List Node) (v:List Int) (S:RS),Low S->Gw S (zga ev l v S).2.2
 | [],v,S,hl=>Gw.refl _
 |n::r,v,S,hl=>by
  have h:=H n v S hl;have ih:=fun v S=>listW_G r v S
  unfold zga;generalize ev n v S=q at*;obtain⟨a,v1,S1⟩:=q;cases a with
  |stop k=>exact h
  |ok w=>
   simp only;split
   ·exact h.trans (ih v1 S1 (h.low hl))
   ·exact h
theorem callW_G(f:Flow)(l:List Int)(S:RS)(hl:Low S):Gw S (zIa ev f l S).2:=by
 have h:=listW_G H f.body (l++yg (f.types.length-l.length) 0) S hl;unfold zIa;generalize zga ev f.body (l++yg (f.types.length-l.length) 0) S=q at*;obtain⟨a,v1,S1⟩:=q;cases a<;>exact h
theorem plainW_G(u:Unt)(n:Node)(l:List Int)(S:RS)(hl:Low S):Gw S (zcb u ev n l S).2:=by
 unfold zcb;by_cases k3:n.kind=3
 ·rw[if_pos k3];exact Gw.refl _
 rw[if_neg k3];by_cases k4:n.kind=4
 ·rw[if_pos k4];split<;>exact Gw.refl _
 rw[if_neg k4];by_cases k5:n.kind=5
 ·rw[if_pos k5];split<;>exact Gw.refl _
 rw[if_neg k5];by_cases k6:n.kind=6
 ·rw[if_pos k6];split
  ·rename_i S1 hp;unfold putAt at hp;split at hp
   ·cases hp
   ·rw[yB]at hp;obtain⟨row,hr,hp⟩:=hp;split at hp
    ·cases hp;exact⟨⟨[],by simp⟩,ysa _,ysa _⟩
    ·cases hp
  ·exact Gw.refl _
 rw[if_neg k6];by_cases k7:n.kind=7
 ·rw[if_pos k7];cases flowAt u n.name with
  |none=>exact Gw.refl _
  |some f=>
   simp only;have h:=callW_G H f l S hl;generalize zIa ev f l S=q at*;obtain⟨a,S1⟩:=q;cases a<;>exact h
 rw[if_neg k7];by_cases k8:n.kind=8
 ·rw[if_pos k8];cases hs:S.inp with
  |nil=>exact Gw.refl _
  |cons m r=>exact⟨⟨[],by simp⟩,ysa _,ysa _⟩
 rw[if_neg k8];by_cases k9:n.kind=9
 ·rw[if_pos k9];exact⟨⟨_,rfl⟩,ysa _,ysa _⟩
 rw[if_neg k9];exact Gw.refl _
theorem choiceW_G(n:Node)(c:Int)(v:List Int)(S:RS)(hl:Low S):Gw S (zCa ev n c v S).2.2:=by
 have h:=listW_G H (if c=0 then kid1 n else kid0 n) v S hl;unfold zCa;generalize zga ev (if c=0 then kid1 n else kid0 n) v S=q at*;obtain⟨a,v1,S1⟩:=q;cases a with
 |stop k=>exact h
 |ok w=>simp only;split<;>exact h
theorem loopW_G(n:Node):∀(k:Nat) (l v:List Int) (S:RS),Low S->Gw S (zec ev n k l v S).2.2
 |0,l,v,S,hl=>Gw.refl _
 |k+1,l,v,S,hl=>by
  have h:=listW_G H (kid0 n) (setW v n.params l) S hl;have ih:=fun l v S=>loopW_G n k l v S
  unfold zec;generalize zga ev (kid0 n) (setW v n.params l) S=q at*;obtain⟨a,v1,S1⟩:=q;cases a with
  |stop k=>exact h
  |ok w=>
   simp only;split
   ·exact h
   ·split
    ·exact h
    ·exact h.trans (ih _ _ _ (h.low hl))
theorem nodeW_G(u:Unt)(w:Nat)(n:Node)(v:List Int){S:RS}{k:Nat}(hf:S.fuel=k+1)(hl:Low S):Gw S (nodeW u ev w n v {S with fuel:=k}).2.2:=by
 have hl1:Low {S with fuel:=k}:=⟨hl.1,by have:=hl.2;simp only;omega⟩
 have g1:Gw S {S with fuel:=k}:=⟨⟨[],by simp⟩,ysa _,by simp only;omega⟩
 unfold nodeW;by_cases k1:n.kind=1\/n.kind=2
 ·rw[if_pos k1];exact g1
 rw[if_neg k1];by_cases k2:12<=n.kind/\n.kind<=15
 ·rw[if_pos k2];exact g1
 rw[if_neg k2];by_cases k10:n.kind=10
 ·rw[if_pos k10];exact g1.trans (choiceW_G H n _ v _ hl1)
 rw[if_neg k10];by_cases k11:n.kind=11
 ·rw[if_pos k11];exact g1.trans (loopW_G H n _ _ v _ hl1)
 rw[if_neg k11];have hw:yN .i64 (S.cost+1)=S.cost+1:=by
  have h1:=hl.1;have h2:=hl.2;rw[<-zL];exact zj (by omega) (by omega)
 have g2:Gw S (zz {S with fuel:=k}):=⟨⟨[],by simp[zz]⟩,by simp only[zz,hw];omega,by simp only[zz,hw];omega⟩
 have h:=plainW_G H u n (ofW v n.args) (zz {S with fuel:=k}) (g2.low hl);generalize zcb u ev n (ofW v n.args) (zz {S with fuel:=k})=q at*;obtain⟨a,S1⟩:=q;cases a<;>exact g2.trans h
end
theorem evN_G(u:Unt):∀w,EvG (evN u w)
 |0=>fun n v S _=>Gw.refl _
 |w+1=>fun n v S hl=>by
  simp only[evN];cases hf:S.fuel with
  |zero=>exact Gw.refl _
  |succ k=>exact nodeW_G (evN_G u w) u w n v hf hl
def plus(m:Nat)(S:RS):RS:={S with fuel:=S.fuel+m}
def Fol(S S1:RS):Prop:=(∃x,S1.out=S.out++x)/\S.cost<=S1.cost
theorem Fol.gw{a b c:RS}(h:Fol a b)(k:Gw b c):Fol a c:=by
 obtain⟨⟨x,h1⟩,h2⟩:=h;obtain⟨⟨y,k1⟩,k2,k3⟩:=k;exact⟨⟨x++y,by rw[k1,h1];simp⟩,by omega⟩
structure RelM{α:Type}(m:Nat)(q q':Rt α×List Int×RS):Prop where
 go:q.1= .stop 0->q.2.2.fuel=0/\Fol q.2.2 q'.2.2/\Low q'.2.2
 same:q.1≠ .stop 0->q'=(q.1,q.2.1,plus m q.2.2)
structure RelN{α:Type}(m:Nat)(q q':Rt α×RS):Prop where
 go:q.1= .stop 0->q.2.fuel=0/\Fol q.2 q'.2/\Low q'.2
 same:q.1≠ .stop 0->q'=(q.1,plus m q.2)
def EvM(u:Unt)(m B:Nat)(ev ev':NEv):Prop:=∀mm p x v S,okN u mm p x->v.length=mm->S.fuel<=B->Low (plus m S)->RelM m (ev x v S) (ev' x v (plus m S))
theorem RelM.rfl'{α:Type}{m:Nat}{a:Rt α}{v:List Int}{S:RS}(ha:a≠ .stop 0):RelM m (a,v,S) (a,v,plus m S):=⟨fun h=>absurd h ha,fun _=>rfl⟩
theorem RelN.rfl'{α:Type}{m:Nat}{a:Rt α}{S:RS}(ha:a≠ .stop 0):RelN m (a,S) (a,plus m S):=⟨fun h=>absurd h ha,fun _=>rfl⟩
theorem low_of{m:Nat}{S:RS}{q:RS}(h:Mono S q)(g:Gw S q)(hl:Low (plus m S)):Low (plus m q):=by
 obtain⟨h1,h2⟩:=hl;have h3:=g.2;have h4:=g.3;simp only[plus]at h1 h2;exact⟨by simp only[plus];omega,by simp only[plus];omega⟩
theorem low_un{m:Nat}{S:RS}(hl:Low (plus m S)):Low S:=⟨hl.1,by have:=hl.2;simp only[plus]at this;omega⟩
section
variable {u:Unt} {m B:Nat} {ev ev':NEv} (H:EvM u m B ev ev') (HO:EvOk u ev) (HG:EvG ev) (HG':EvG ev')
include H HO HG HG'
theorem listW_M{mm:Nat}{p:Pl}:∀(l:List Node) (v:List Int) (S:RS),okL u mm p l->v.length=mm->S.fuel<=B->Low (plus m S)->RelM m (zga ev l v S) (zga ev' l v (plus m S))
 | [],v,S,ho,hv,hb,hl=>RelM.rfl' (by simp)
 |n::r,v,S,ho,hv,hb,hl=>by
  rw[okL]at ho;have h:=H mm p n v S ho.1 hv hb hl;have h0:=HO mm p n v S ho.1 hv;have hg:=HG n v S (low_un hl);have ih:=fun v S=>listW_M r v S ho.2.2
  have gl:=fun v S=>listW_G HG' r v S
  unfold zga;generalize ev n v S=q at*;generalize ev' n v (plus m S)=q' at*;obtain⟨a,v1,S1⟩:=q;by_cases ha:a= .stop 0
  ·subst ha;obtain⟨g1,g2,g3⟩:=h.go rfl;obtain⟨a',v1',S1'⟩:=q';simp only at g1 g2 g3;refine⟨fun _=>⟨g1,?_,?_⟩,fun e=>absurd rfl e⟩
   ·cases a' with
    |stop k=>exact g2
    |ok w=>
     simp only;split
     ·exact g2.gw (gl _ _ g3)
     ·exact g2
   ·cases a' with
    |stop k=>exact g3
    |ok w=>
     simp only;split
     ·exact(gl _ _ g3).low g3
     ·exact g3
  ·rw[h.same ha];cases a with
   |stop k=>exact RelM.rfl' ha
   |ok w=>
    simp only;split
    ·exact ih v1 S1 h0.2.1 (by have:=h0.1.1;simp only at this;omega) (low_of h0.1 hg hl)
    ·exact RelM.rfl' (by simp)
theorem callW_M{f:Flow}(hb:okL u f.types.length ⟨none,none,none⟩ f.body){l:List Int}(hl:l.length<=f.types.length)(S:RS)(hB:S.fuel<=B)(hlo:Low (plus m S)):RelN m (zIa ev f l S) (zIa ev' f l (plus m S)):=by
 have h:=listW_M H HO HG HG' f.body (l++yg (f.types.length-l.length) 0) S hb (by simp;omega) hB hlo;unfold zIa;generalize zga ev f.body (l++yg (f.types.length-l.length) 0) S=q at*;generalize zga ev' f.body (l++yg (f.types.length-l.length) 0) (plus m S)=q' at*;obtain⟨a,v1,S1⟩:=q;by_cases ha:a= .stop 0
 ·subst ha;obtain⟨g1,g2,g3⟩:=h.go rfl;obtain⟨a',v1',S1'⟩:=q';exact⟨fun _=>⟨g1,by cases a'<;>exact g2,by cases a'<;>exact g3⟩,fun e=>absurd rfl e⟩
 ·rw[h.same ha];cases a with
  |stop k=>exact RelN.rfl' (by intro e;cases e;exact ha rfl)
  |ok w=>exact RelN.rfl' (by simp)
theorem plainW_M(hU:OkU u){mm:Nat}{p:Pl}{n:Node}(ho:okH u mm p n){l:List Int}(hl:l.length=n.args.length)(S:RS)(hB:S.fuel<=B)(hlo:Low (plus m S)):RelN m (zcb u ev n l S) (zcb u ev' n l (plus m S)):=by
 unfold zcb;by_cases k3:n.kind=3
 ·rw[if_pos k3,if_pos k3];exact RelN.rfl' (by simp)
 rw[if_neg k3,if_neg k3];by_cases k4:n.kind=4
 ·rw[if_pos k4,if_pos k4];split<;>exact RelN.rfl' (by simp)
 rw[if_neg k4,if_neg k4];by_cases k5:n.kind=5
 ·rw[if_pos k5,if_pos k5];have:cellAt u (plus m S) n.name (atA l 0)=cellAt u S n.name (atA l 0):=rfl;rw[this];split<;>exact RelN.rfl' (by simp)
 rw[if_neg k5,if_neg k5];by_cases k6:n.kind=6
 ·rw[if_pos k6,if_pos k6];have:putAt u (plus m S) n.name (atA l 0) (atA l 1)=(putAt u S n.name (atA l 0) (atA l 1)).map (plus m):=by
   unfold putAt;split
   ·rfl
   ·cases hr:S.arrs[(arrAt u.arrays n.name).toNat]? with
    |none=>simp[plus,hr]
    |some row=>
     simp only[plus,hr,Option.bind_some];split<;>rfl
  rw[this];cases putAt u S n.name (atA l 0) (atA l 1)<;>exact RelN.rfl' (by simp)
 rw[if_neg k6,if_neg k6];by_cases k7:n.kind=7
 ·rw[if_pos k7,if_pos k7];obtain⟨g,hg,_,ha,hs⟩:=ho.k7 k7;rw[hg];simp only;have hgm:g∈u.flows:=yI hg;have h:=callW_M H HO HG HG' (hU.body g hgm).2 (l:=l) (by rw[hl,ha];simp[pars];omega) S hB hlo;generalize zIa ev g l S=q at*;generalize zIa ev' g l (plus m S)=q' at*;obtain⟨a,S1⟩:=q;by_cases ha:a= .stop 0
  ·subst ha;obtain⟨g1,g2,g3⟩:=h.go rfl;obtain⟨a',S1'⟩:=q';exact⟨fun _=>⟨g1,by cases a'<;>exact g2,by cases a'<;>exact g3⟩,fun e=>absurd rfl e⟩
  ·rw[h.same ha];cases a with
   |stop k=>exact RelN.rfl' (by intro e;cases e;exact ha rfl)
   |ok w=>exact RelN.rfl' (by simp)
 rw[if_neg k7,if_neg k7];by_cases k8:n.kind=8
 ·rw[if_pos k8,if_pos k8];have:(plus m S).inp=S.inp:=rfl;rw[this];cases S.inp<;>exact RelN.rfl' (by simp)
 rw[if_neg k8,if_neg k8];by_cases k9:n.kind=9
 ·rw[if_pos k9,if_pos k9];exact RelN.rfl' (by simp)
 rw[if_neg k9,if_neg k9];exact RelN.rfl' (by simp)
theorem choiceW_M{mm:Nat}{p:Pl}{n:Node}(ho:okN u mm p n)(hk:n.kind=10)(c:Int){v:List Int}(hv:v.length=mm)(S:RS)(hB:S.fuel<=B)(hlo:Low (plus m S)):RelM m (zCa ev n c v S) (zCa ev' n c v (plus m S)):=by
 rw[okN_eq]at ho;obtain⟨o1,o2⟩:=ho;have hkid:=kids_two (o1.k10 hk).2;have hmem:(if c=0 then kid1 n else kid0 n)∈n.kids:=by rw[hkid];split<;>simp
 obtain⟨h1,h2⟩:=okK_mem o2 _ hmem;have h:=listW_M H HO HG HG' _ v S h2 hv hB hlo;unfold zCa;generalize(if c=0 then kid1 n else kid0 n)=l at*;generalize zga ev l v S=q at*;generalize zga ev' l v (plus m S)=q' at*;obtain⟨a,v1,S1⟩:=q;by_cases ha:a= .stop 0
 ·subst ha;obtain⟨g1,g2,g3⟩:=h.go rfl;obtain⟨a',v1',S1'⟩:=q';refine⟨fun _=>⟨g1,?_,?_⟩,fun e=>absurd rfl e⟩
  ·cases a' with
   |stop k=>exact g2
   |ok w=>simp only;split<;>exact g2
  ·cases a' with
   |stop k=>exact g3
   |ok w=>simp only;split<;>exact g3
 ·rw[h.same ha];cases a with
  |stop k=>exact RelM.rfl' ha
  |ok w=>simp only;split<;>exact RelM.rfl' (by simp)
theorem loopW_M{mm:Nat}{p:Pl}{n:Node}(ho:okN u mm p n)(hk:n.kind=11):∀(k:Nat) {l v:List Int} (hl:l.length=n.params.length) (hv:v.length=mm) (S:RS) (hB:S.fuel<=B) (hlo:Low (plus m S)) (hK:S.fuel<k),RelM m (zec ev n k l v S) (zec ev' n (k+m) l v (plus m S))
 |0,l,v,hl,hv,S,hB,hlo,hK=>by omega
 |k+1,l,v,hl,hv,S,hB,hlo,hK=>by
  have ho':=ho;rw[okN_eq]at ho';obtain⟨o1,o2⟩:=ho';have hkid:=kids_one (o1.k11 hk).2;have hp:plIn p n.kind n.outs n.params=⟨none,some n.params.length,some n.outs.length⟩:=by rw[hk];rfl
  rw[hp]at o2;have hmem:kid0 n∈n.kids:=by rw[hkid];simp
  obtain⟨h1,h2⟩:=okK_mem o2 _ hmem;have hok:=zlc HO _ (setW v n.params l) S h1 h2 (by rw[zxb];exact hv);have hg:=listW_G HG (kid0 n) (setW v n.params l) S (low_un hlo);have h:=listW_M H HO HG HG' _ (setW v n.params l) S h2 (by rw[zxb];exact hv) hB hlo;have ih:=fun l v hl hv S=>loopW_M ho hk k (l:=l) (v:=v) hl hv S
  have gl:=fun l v S=>loopW_G HG' n (k+m) l v S
  rw[show k+1+m=(k+m)+1 by omega];unfold zec;generalize zga ev (kid0 n) (setW v n.params l) S=q at*;generalize zga ev' (kid0 n) (setW v n.params l) (plus m S)=q' at*;obtain⟨a,v1,S1⟩:=q;obtain⟨m1,m2,m3⟩:=hok;simp only at m1 m2 hg;by_cases ha:a= .stop 0
  ·subst ha;obtain⟨g1,g2,g3⟩:=h.go rfl;obtain⟨a',v1',S1'⟩:=q';simp only at g1 g2 g3;refine⟨fun _=>⟨g1,?_,?_⟩,fun e=>absurd rfl e⟩
   ·cases a' with
    |stop k=>exact g2
    |ok w=>
     simp only;split
     ·exact g2
     ·split
      ·exact g2
      ·exact g2.gw (gl _ _ _ g3)
   ·cases a' with
    |stop k=>exact g3
    |ok w=>
     simp only;split
     ·exact g3
     ·split
      ·exact g3
      ·exact(gl _ _ _ g3).low g3
  ·rw[h.same ha];cases a with
   |stop k=>exact RelM.rfl' ha
   |ok w=>
    obtain⟨g1,g3,g4,g5⟩:=m3 w rfl;simp only;simp only at g1;split
    ·exact RelM.rfl' (by simp)
    ·split
     ·exact RelM.rfl' (by simp)
     ·rename_i w5 w4;have hlen:w.l.length=n.params.length:=by
       rcases g3 with g3|g3|g3|g3
       ·cases g3.2
       ·have:=g3.2;simp at this;omega
       ·omega
       ·omega
      exact ih w.l v1 hlen m2 S1 (by omega) (low_of m1 hg hlo) (by omega)
theorem nodeW_M(hU:OkU u){mm:Nat}{p:Pl}{n:Node}(ho:okN u mm p n){v:List Int}(hv:v.length=mm)(w:Nat){S:RS}(hB:S.fuel<=B)(hw:S.fuel<=w)(hlo:Low (plus m S))(hlo1:Low (plus m (zz S))):
  RelM m (nodeW u ev w n v S) (nodeW u ev' (w+m) n v (plus m S)):=by
 have ho':=ho;rw[okN_eq]at ho';obtain⟨o1,o2⟩:=ho';unfold nodeW;by_cases k1:n.kind=1\/n.kind=2
 ·rw[if_pos k1,if_pos k1];exact RelM.rfl' (by simp)
 rw[if_neg k1,if_neg k1];by_cases k2:12<=n.kind/\n.kind<=15
 ·rw[if_pos k2,if_pos k2];exact RelM.rfl' (by simp)
 rw[if_neg k2,if_neg k2];by_cases k10:n.kind=10
 ·rw[if_pos k10,if_pos k10];exact choiceW_M H HO HG HG' ho k10 _ hv S hB hlo
 rw[if_neg k10,if_neg k10];by_cases k11:n.kind=11
 ·rw[if_pos k11,if_pos k11];have:=loopW_M H HO HG HG' ho k11 (w+1) (l:=ofW v n.args) (by rw[zWb];exact(o1.k11 k11).1) hv S hB hlo (by omega);rw[show w+1+m=w+m+1 by omega]at this;exact this
 rw[if_neg k11,if_neg k11];have h:=plainW_M H HO HG HG' hU o1 (zWb v n.args) (zz S) hB hlo1;have he:zz (plus m S)=plus m (zz S):=rfl;rw[he];generalize zcb u ev n (ofW v n.args) (zz S)=q at*;generalize zcb u ev' n (ofW v n.args) (plus m (zz S))=q' at*;obtain⟨a,S1⟩:=q;by_cases ha:a= .stop 0
 ·subst ha;obtain⟨g1,g2,g3⟩:=h.go rfl;obtain⟨a',S1'⟩:=q';exact⟨fun _=>⟨g1,by cases a'<;>exact g2,by cases a'<;>exact g3⟩,fun e=>absurd rfl e⟩
 ·rw[h.same ha];cases a with
  |stop k=>exact RelM.rfl' (by intro e;cases e;exact ha rfl)
  |ok w=>exact RelM.rfl' (by simp)
end
theorem evN_M{u:Unt}(hU:OkU u)(m:Nat):∀w,EvM u m w (evN u w) (evN u (w+m))
 |0=>fun mm p x v S ho hv hB hl=>by
  have hg:=evN_G u (0+m) x v (plus m S) hl;refine⟨fun _=>⟨by simp only[evN];omega,⟨hg.1,hg.2⟩,hg.low hl⟩,fun e=>absurd rfl e⟩
 |w+1=>fun mm p x v S ho hv hB hl=>by
  rw[show w+1+m=(w+m)+1 by omega];have hg:=evN_G u (w+m+1) x v (plus m S) hl;cases hf:S.fuel with
  |zero=>
   refine⟨fun _=>⟨by simp only[evN,hf],?_,hg.low hl⟩,fun e=>?_⟩
   ·have:(evN u (w+1) x v S).2.2=S:=by simp only[evN,hf]
    rw[this];exact⟨hg.1,hg.2⟩
   ·simp only[evN,hf]at e;exact absurd rfl e
  |succ k=>
   have e1:evN u (w+1) x v S=nodeW u (evN u w) w x v {S with fuel:=k}:=by simp only[evN,hf]
   have e2:evN u (w+m+1) x v (plus m S)=nodeW u (evN u (w+m)) (w+m) x v (plus m {S with fuel:=k}):=by
    have:(plus m S).fuel=(k+m)+1:=by simp only[plus];omega
    simp only[evN,this];rfl
   rw[e1,e2];have hl1:Low (plus m {S with fuel:=k}):=⟨hl.1,by have:=hl.2;simp only[plus]at this ⊢;omega⟩
   have hw:yN .i64 (S.cost+1)=S.cost+1:=by
    have h1:=hl.1;have h2:=hl.2;simp only[plus]at h1 h2;rw[<-zL];exact zj (by omega) (by omega)
   refine nodeW_M (evN_M hU m w) (evN_ok hU w) (evN_G u w) (evN_G u (w+m)) hU ho hv w (by simp only;omega) (by simp only;omega) hl1 ?_;have h1:=hl.1;have h2:=hl.2;simp only[plus]at h1 h2;exact⟨by simp only[plus,zz,hw];omega,by simp only[plus,zz,hw];omega⟩
structure HPl where
 iff:Bool
 loop:Bool
 yield:List Int
 next:List Int
 left:List Int
structure Md(α:Type) where
 n:α
 i:Nat
 ts:List Int
 left:Nat
section
variable (L:List UInt8)
def pk(i n:Nat):Nat:=if L.length<i+1\/150<i+1 then 0 else(L[i]?.getD 0).toNat%n
def some1(ts:List Int)(t:Int):List Int->Bool->Int->Int->Int
 | [],_,_,v=>v
 |x::r,f,k,v=>if atA ts x.toNat=t/\(f=true\/0<k)then some1 ts t r false (k-1) x else some1 ts t r false k v
def some2(ts:List Int)(t:Int):List Int->Int->Int
 | [],v=>v
 |x::r,v=>if atA ts v.toNat=t then v else some2 ts t r (if atA ts x.toNat=t then x else v)
def someV(ts seen:List Int)(t k:Int):Int:=some2 ts t seen (some1 ts t seen true k 0)
def zfb(ts seen:List Int):List Int->Nat->List Int
 | [],_=>[]
 |t::r,i=>someV ts seen t (pk L i 8)::zfb ts seen r (i+1)
def newV(n:Nat):Nat->List Int
 |0=>[]
 |k+1=>newV n k++[((n+k:Nat):Int)]
def tyV(i:Nat):Nat->List Int
 |0=>[]
 |k+1=>tyV i k++[1+(pk L (i+k) 2:Int)]
def zya(i:Nat):List Int:=tyV L (i+1) (pk L i 3)
def zSa(i:Nat):Nat:=i+1+pk L i 3
abbrev nd(kind op n:Int)(name:List UInt8)(args outs:List Int):Node:=⟨kind,op,n,name,args,outs,[],[]⟩
def zW(seen ts:List Int)(i:Nat):Node×Nat×List Int:=
 match pk L i 12 with
 |0=>(nd 1 0 (atA [0,1,2,3,-1,100] (pk L (i+1) 6)) [] [] [ts.length],i+2,[1])
 |1=>(nd 2 0 (pk L (i+1) 2) [] [] [ts.length],i+2,[2])
 |2=>(nd 3 (atA [20,21,23,27] (pk L (i+1) 4)) 0 [] (zfb L ts seen [1] (i+2)) [ts.length],i+3,[1])
 |3=>(nd 3 22 0 [] (zfb L ts seen [2] (i+1)) [ts.length],i+2,[2])
 |4|5|6=>(nd 4 (1+pk L (i+1) 11) 0 [] (zfb L ts seen [1,1] (i+2)) [ts.length],i+4,[1])
 |7|8=>(nd 4 (12+pk L (i+1) 6) 0 [] (zfb L ts seen [1,1] (i+2)) [ts.length],i+4,[2])
 |9=>(nd 5 0 0 [97] (zfb L ts seen [1] (i+1)) [ts.length],i+2,[1])
 |10=>(nd 6 0 0 [97] (zfb L ts seen [1,1] (i+1)) [],i+3,[])
 |_=>match pk L (i+1) 4 with
  |0=>(nd 7 0 0 [102] (zfb L ts seen [1,2] (i+2)) [ts.length],i+4,[1])
  |1=>(nd 8 0 0 [] [] [ts.length],i+2,[1])
  |_=>(nd 9 0 0 [] (zfb L ts seen [1] (i+2)) [],i+3,[])
def endL(p:HPl)(k:Nat):Int×List Int:=if p.iff=true/\k<4 then(12,p.yield)else if p.loop=true/\k%2=0 then(13,p.next)else if p.loop=true then(14,p.left)else(15,[1])
def endG(seen ts:List Int)(p:HPl)(i:Nat):Node:=nd (endL p (pk L i 6)).1 0 0 [] (zfb L ts seen (endL p (pk L i 6)).2 (i+1)) []
def endN(p:HPl)(i:Nat):Nat:=i+1+(endL p (pk L i 6)).2.length
abbrev LG:=List Int->HPl->Nat->List Int->Nat->Md (List Node)
def outed(n:Node)(i:Nat)(ts:List Int)(left:Nat)(t:List Int):Md Node:=
 if zB n=true then⟨n,i,ts,left⟩else⟨{n with outs:=newV ts.length t.length},i,ts++t,left⟩
def ifG(f:LG)(all:List Int)(p:HPl)(i:Nat)(ts:List Int)(left:Nat):Md Node:=
 let t:=zya L i
 let x:HPl:=⟨true,p.loop,t,p.next,p.left⟩
 let a:=f all x (zSa L i+1) ts left
 let b:=f all x a.i a.ts a.left
 outed ⟨10,0,0,[],zfb L ts all [2] (zSa L i),[],[],[a.n,b.n]⟩ b.i b.ts b.left t
def loopG(f:LG)(all:List Int)(i:Nat)(ts:List Int)(left:Nat):Md Node:=
 let t:=zya L i
 let o:=zya L (zSa L i)
 let j:=zSa L (zSa L i)
 let ps:=newV ts.length t.length
 let a:=f (all++ps) ⟨false,true,[],t,o⟩ (j+t.length) (ts++t) left
 outed ⟨11,0,0,[],zfb L ts all t j,[],ps,[a.n]⟩ a.i a.ts a.left o
def nodeG(rc:Option LG)(all:List Int)(p:HPl)(i:Nat)(ts:List Int)(left:Nat):Md Node:=
 let s:=zW L all ts i
 match rc with
 |none=>⟨s.1,s.2.1+1,ts++s.2.2,left⟩
 |some f=>
  if pk L s.2.1 6=0 then ifG L f all p (s.2.1+1) (ts++s.2.2) left
  else if pk L s.2.1 6=1 then loopG L f all (s.2.1+1) (ts++s.2.2) left
  else⟨s.1,s.2.1+1,ts++s.2.2,left⟩
def finG(p:HPl)(out:List Node)(all:List Int)(i:Nat)(ts:List Int)(left:Nat):Md (List Node):=⟨out++[endG L all ts p i],endN L p i,ts,left⟩
def runG(rc:Option LG)(p:HPl):Nat->List Node->List Int->Nat->List Int->Nat->Md (List Node)
 |0,out,all,i,ts,left=>finG L p out all i ts left
 |c+1,out,all,i,ts,left=>
  if left=0 then finG L p out all i ts left
  else
   let r:=nodeG L rc all p i ts (left-1)
   if zB r.n=true then⟨out++[r.n],r.i,r.ts,r.left⟩else runG rc p c (out++[r.n]) (all++r.n.outs) r.i r.ts r.left
def zuc:Nat->LG
 |0=>fun seen p i ts left=>runG L none p (pk L i 6) [] seen (i+1) ts left
 |d+1=>fun seen p i ts left=>runG L (some (zuc d)) p (pk L i 6) [] seen (i+1) ts left
def flowG(name:List UInt8)(params:List Int)(i:Nat):Md Flow:=
 let a:=zuc L 3 (newV 0 params.length++[(params.length:Int),(params.length+1:Nat)]) ⟨false,false,[],[],[]⟩ i (params++[1,2]) 30
 ⟨⟨name,1,params.length,a.ts,nd 1 0 3 [] [] [(params.length:Int)]::nd 2 0 1 [] [] [((params.length+1:Nat):Int)]::a.n⟩,a.i,a.ts,a.left⟩
def zXb:Unt:=⟨[⟨[97],4⟩],[(flowG L zC [] 0).n,(flowG L [102] [1,2] (flowG L zC [] 0).i).n]⟩
end
theorem pk_lt(L:List UInt8)(i n:Nat)(h:0<n):pk L i n<n:=by
 unfold pk;split
 ·exact h
 ·exact Nat.mod_lt _ h
theorem zra(L:List UInt8)(ts seen:List Int):∀(l:List Int) (i:Nat),(zfb L ts seen l i).length=l.length
 | [],_=>rfl
 |t::r,i=>by simp[zfb,zra L ts seen r (i+1)]
theorem zZa(n:Nat):∀k,(newV n k).length=k
 |0=>rfl
 |k+1=>by simp[newV,zZa n k]
theorem newV_mem(n:Nat):∀k,∀x∈newV n k,(n:Int)<=x/\x<(n+k:Nat)
 |0,x,h=>by simp[newV]at h
 |k+1,x,h=>by
  simp only[newV,yG,List.mem_singleton]at h;rcases h with h|h
  ·have:=newV_mem n k x h;omega
  ·omega
theorem tyV_len(L:List UInt8)(i:Nat):∀k,(tyV L i k).length=k
 |0=>rfl
 |k+1=>by simp[tyV,tyV_len L i k]
theorem typesV_len(L:List UInt8)(i:Nat):(zya L i).length=pk L i 3:=tyV_len L _ _
theorem zyc(L:List UInt8)(i:Nat):(zya L i).length<=2:=by have:=pk_lt L i 3 (by omega);rw[typesV_len];omega
theorem zzc(L:List UInt8)(i:Nat):zSa L i<=i+3:=by have:=pk_lt L i 3 (by omega);unfold zSa;omega
structure PlOk(p:HPl):Prop where
 y:p.yield.length<=2
 n:p.next.length<=2
 l:p.left.length<=2
theorem endL_le{p:HPl}(h:PlOk p)(k:Nat):(endL p k).2.length<=2:=by
 unfold endL;split
 ·exact h.y
 ·split
  ·exact h.n
  ·split
   ·exact h.l
   ·simp
theorem endN_le(L:List UInt8){p:HPl}(h:PlOk p)(i:Nat):endN L p i<=i+3:=by have:=endL_le h (pk L i 6);unfold endN;omega
theorem endG_wt(L:List UInt8)(seen ts:List Int){p:HPl}(h:PlOk p)(i:Nat):wtN (endG L seen ts p i)<=3:=by
 have:=endL_le h (pk L i 6);simp[endG,wtN,wtK,zra];omega
structure SimOk(s:Node×Nat×List Int)(i n:Nat):Prop where
 i:s.2.1<=i+4
 t:s.2.2.length<=1
 o:∀x∈s.1.outs,0<=x/\x<(n+s.2.2.length:Nat)
 ol:s.1.outs.length<=2
 w:wtN s.1<=6
theorem simple_ok(L:List UInt8)(seen ts:List Int)(i:Nat):SimOk (zW L seen ts i) i ts.length:=by
 unfold zW;split<;>try(refine⟨by simp;try omega,by simp,?_,by simp,by simp[wtN,wtK,zra]⟩;intro x hx;simp at hx;simp;omega)
 all_goals try(refine⟨by simp,by simp,by simp,by simp,by simp[wtN,wtK,zra]⟩)
 split<;>try(refine⟨by simp;try omega,by simp,?_,by simp,by simp[wtN,wtK,zra]⟩;intro x hx;simp at hx;simp;omega)
 all_goals refine⟨by simp,by simp,by simp,by simp,by simp[wtN,wtK,zra]⟩
structure MdL(k:Nat)(m:Md (List Node))(i:Nat)(ts:List Int)(left w:Nat):Prop where
 i:m.i+100*m.left<=i+100*left+k
 t:∃x,m.ts=ts++x
 tl:m.ts.length+10*m.left<=ts.length+10*left
 w:wtL m.n+100*m.left<=w+100*left+10
structure MdN(m:Md Node)(i:Nat)(ts:List Int)(left:Nat):Prop where
 i:m.i+100*m.left<=i+100*left+60
 t:∃x,m.ts=ts++x
 tl:m.ts.length+10*m.left<=ts.length+10*left+8
 w:wtN m.n+100*m.left<=100*left+60
 o:∀x∈m.n.outs,0<=x/\x<m.ts.length
 ol:m.n.outs.length<=2
def LGok(f:LG):Prop:=∀seen p i ts left,PlOk p->MdL 10 (f seen p i ts left) i ts left 0
theorem outed_ok{n:Node}{i:Nat}{ts:List Int}{left:Nat}{t:List Int}(ht:t.length<=2)(ho:n.outs=[]){i0:Nat}{ts0:List Int}{left0:Nat}(hi:i+100*left<=i0+100*left0+60)(hx:∃x,ts=ts0++x)
  (hl:ts.length+10*left<=ts0.length+10*left0+6) (hw:wtN n+100*left<=100*left0+58):MdN (outed n i ts left t) i0 ts0 left0:=by
 unfold outed;split
 ·exact⟨hi,hx,by simp only;omega,by simp only;omega,by simp[ho],by simp[ho]⟩
 ·obtain⟨x,hx⟩:=hx;refine⟨hi,⟨x++t,by simp[hx]⟩,by simp only[ym];omega,?_,?_,by simp only[zZa];exact ht⟩
  ·simp only;rw[zFb]at hw ⊢;simp only[zZa,ho,yV]at hw ⊢;omega
  ·intro y hy;have:=newV_mem _ _ _ hy;simp only[ym];omega
theorem nodeG_ok(L:List UInt8)(rc:Option LG)(hrc:∀f,rc=some f->LGok f)(all:List Int)(p:HPl)(hp:PlOk p)(i:Nat)(ts:List Int)(left:Nat):MdN (nodeG L rc all p i ts left) i ts left:=by
 have hs:=simple_ok L all ts i;have key:MdN ⟨(zW L all ts i).1,(zW L all ts i).2.1+1,ts++(zW L all ts i).2.2,left⟩ i ts left:=by
  have h1:=hs.i;have h2:=hs.t;have h3:=hs.w;refine⟨by simp only;omega,⟨_,rfl⟩,by simp only[ym];omega,by simp only;omega,?_,hs.ol⟩;intro x hx;have:=hs.o x hx;simp only[ym];omega
 unfold nodeG;cases rc with
 |none=>exact key
 |some f=>
  have hf:=hrc f rfl;generalize zW L all ts i=s at*;have h1:=hs.i;have h2:=hs.t;simp only;split
  ·unfold ifG;have t1:=zzc L (s.2.1+1);have t2:=zyc L (s.2.1+1);have a:=hf all ⟨true,p.loop,zya L (s.2.1+1),p.next,p.left⟩ (zSa L (s.2.1+1)+1) (ts++s.2.2) left ⟨t2,hp.n,hp.l⟩;simp only;generalize f all ⟨true,p.loop,zya L (s.2.1+1),p.next,p.left⟩ (zSa L (s.2.1+1)+1) (ts++s.2.2) left=A at*;have b:=hf all ⟨true,p.loop,zya L (s.2.1+1),p.next,p.left⟩ A.i A.ts A.left ⟨t2,hp.n,hp.l⟩;generalize f all ⟨true,p.loop,zya L (s.2.1+1),p.next,p.left⟩ A.i A.ts A.left=B at*;obtain⟨a1,⟨x,a2⟩,a3,a4⟩:=a;obtain⟨b1,⟨y,b2⟩,b3,b4⟩:=b;refine outed_ok t2 rfl (by omega) ⟨s.2.2++x++y,by rw[b2,a2];simp⟩ (by simp only[ym]at a3;omega) ?_;simp[wtN,wtK,zra];omega
  ·split
   ·unfold loopG;have t1:=zzc L (s.2.1+1);have t2:=zyc L (s.2.1+1);have t3:=zzc L (zSa L (s.2.1+1));have t4:=zyc L (zSa L (s.2.1+1));simp only;have a:=hf (all++newV (ts++s.2.2).length (zya L (s.2.1+1)).length) ⟨false,true,[],zya L (s.2.1+1),zya L (zSa L (s.2.1+1))⟩ (zSa L (zSa L (s.2.1+1))+(zya L (s.2.1+1)).length) (ts++s.2.2++zya L (s.2.1+1)) left ⟨by simp,t2,t4⟩;generalize f (all++newV (ts++s.2.2).length (zya L (s.2.1+1)).length) ⟨false,true,[],zya L (s.2.1+1),zya L (zSa L (s.2.1+1))⟩ (zSa L (zSa L (s.2.1+1))+(zya L (s.2.1+1)).length) (ts++s.2.2++zya L (s.2.1+1)) left=A at*;obtain⟨a1,⟨x,a2⟩,a3,a4⟩:=a;refine outed_ok t4 rfl (by omega) ⟨s.2.2++zya L (s.2.1+1)++x,by rw[a2];simp⟩ (by simp only[ym]at a3;omega) ?_;simp[wtN,wtK,zra,zZa];omega
   ·exact key
theorem finG_ok(L:List UInt8){p:HPl}(hp:PlOk p)(out:List Node)(all:List Int)(i:Nat)(ts:List Int)(left:Nat):MdL 5 (finG L p out all i ts left) i ts left (wtL out):=by
 have h1:=endN_le L hp i;have h2:=endG_wt L all ts hp i;refine⟨by simp only[finG];omega,⟨[],by simp[finG]⟩,by simp only[finG];omega,?_⟩;simp only[finG,wtL_append,wtL];omega
theorem runG_ok(L:List UInt8)(rc:Option LG)(hrc:∀f,rc=some f->LGok f)(p:HPl)(hp:PlOk p):∀c out all i ts left,MdL 5 (runG L rc p c out all i ts left) i ts left (wtL out):=by
 intro c
 induction c with
 |zero=>intro out all i ts left;exact finG_ok L hp out all i ts left
 |succ c ih=>
  intro out all i ts left;unfold runG;split
  ·exact finG_ok L hp out all i ts left
  ·rename_i h0;have hn:=nodeG_ok L rc hrc all p hp i ts (left-1);simp only;generalize nodeG L rc all p i ts (left-1)=r at*;obtain⟨n1,⟨x,n2⟩,n3,n4,n5,n6⟩:=hn;split
   ·refine⟨by simp only;omega,⟨x,n2⟩,by simp only;omega,?_⟩;simp only[wtL_append,wtL];omega
   ·have hr:=ih (out++[r.n]) (all++r.n.outs) r.i r.ts r.left;obtain⟨m1,⟨y,m2⟩,m3,m4⟩:=hr;refine⟨by omega,⟨x++y,by rw[m2,n2];simp⟩,by omega,?_⟩;simp only[wtL_append,wtL]at m4;omega
theorem listG_ok(L:List UInt8):∀d,LGok (zuc L d):=by
 intro d
 induction d with
 |zero=>
  intro seen p i ts left hp;have:=runG_ok L none (by simp) p hp (pk L i 6) [] seen (i+1) ts left;exact⟨by have:=this.i;simp only[zuc];omega,this.t,this.tl,this.w⟩
 |succ d ih=>
  intro seen p i ts left hp;have:=runG_ok L (some (zuc L d)) (by intro f hf;cases hf;exact ih) p hp (pk L i 6) [] seen (i+1) ts left;exact⟨by have:=this.i;simp only[zuc];omega,this.t,this.tl,this.w⟩
def u8s(l:List UInt8):PV:= .slice .plain 1 (l.map fun b=> .int .u8 b.toNat)
theorem remNat(a b:Nat):remK (a:Int) (b:Int)=((a%b:Nat):Int):=by rw[remK_eq];exact Int.ofNat_tmod a b
@[simp] theorem rebuild_agg2(a b:List PV):zO (.agg a) b= .agg b:=rfl
def gst(L:List UInt8)(i:Nat)(ts:List Int)(left:Nat):zb:=[.arr 4 [.agg [u8s L,.int .i64 i,acc 1 (ts.map (PV.int .i64)),.int .i64 left]]]
structure SoS where
 d:List Int
 r:List Int
 k:Int
 v:Int
theorem atA_get{l:List Int}{v:Int}(h0:0<=v)(h1:v<l.length):l[v.toNat]? =some (atA l v.toNat):=at0_get h0 h1
section
variable (L:List UInt8) (hL:L.length<=9223372036854775807)
include hL
theorem zpa(i n:Nat)(ts:List Int)(left:Nat)(hn:0<n/\n<=1000)(hi:i<=1000000000000):
  zh E 54 [.ptr 0 0 0,.int .i64 n] (gst L i ts left)=some (.ret (.int .i64 (pk L i n)),gst L (i+1) ts left):=by
 refine zc rfl rfl rfl (by simp) ?_;have hw:zM .i64 ((i:Int)+1)=(i:Int)+1:=zj (by omega) (by omega);by_cases h1:L.length<i+1
 ·have k1:((L.length:Int)<(i:Int)+1)=True:=eqp (by omega);have h2:pk L i n=0:=by simp[pk,h1]
  clear h1;simp[*,F54,gst,u8s]
 ·have k1:((L.length:Int)<(i:Int)+1)=False:=eqn (by omega);by_cases h3:150<i+1
  ·have k3:((150:Int)<(i:Int)+1)=True:=eqp (by omega);have h2:pk L i n=0:=by simp only[pk,h3,or_true,if_true]
   clear h1 h3;simp[*,F54,gst,u8s]
  ·have k3:((150:Int)<(i:Int)+1)=False:=eqn (by omega);obtain⟨b,hb⟩:∃b,L[i]? =some b:=⟨_,ye (by omega)⟩
   have h2:pk L i n=b.toNat%n:=by simp only[pk,h1,h3,or_self,if_false,hb,yS]
   have hr:remK (b.toNat:Int) (n:Int)=((b.toNat%n:Nat):Int):=remNat _ _;have hw2:zM .i64 (i:Int)=(i:Int):=zj (by omega) (by omega);have hn0:(n=0)=False:=eqn (by omega);clear h1 h3 hL;simp[*,F54,gst,u8s]
omit hL in
theorem fresh_spec(i:Nat)(ts:List Int)(left:Nat)(t:Int)(ht:ts.length<=1000000):
  zh E 36 [.ptr 0 0 0,.int .i64 t] (gst L i ts left)=some (.ret (.int .i64 ts.length),gst L i (ts++[t]) left):=by
 refine zc rfl rfl rfl (by simp) ?_;have q4:(ts.length+1)*8<=zq:=by simp only[zq];omega
 have hw:zM .i64 (ts.length:Int)=ts.length:=zj (by omega) (by omega);have hw0:zM .i64 0=0:=zj (by omega) (by omega);cases ts with
 |nil=>simp[zq]at q4;simp[*,F36,gst,zq]
 |cons x r=>
  simp at q4 hw;simp[*,F36,gst]
theorem gsome_spec(i:Nat)(ts:List Int)(left:Nat)(seen:List Int)(t:Int)(hs:seen.length<=1000000)(hi:i<=1000000000000)(ht:ts.length<=1000000)(hr:∀x∈seen,0<=x/\x<ts.length):
  zh E 76 [.ptr 0 0 0,ints seen,.int .i64 t] (gst L i ts left)=some (.ret (.int .i64 (someV ts seen t (pk L i 8))),gst L (i+1) ts left):=by
 refine zc rfl rfl rfl (by simp) ?_;have hp:=zpa L hL i 8 ts left (by omega) hi;have hk:=pk_lt L i 8 (by omega);have hsv:someV ts seen t (pk L i 8)=some2 ts t seen (some1 ts t seen true (pk L i 8) 0):=rfl;generalize pk L i 8=k at*;simp at hp;simp[hp,F76,ints];clear hp hL;refine zLc K76_0 B76_0 (fun c:SoS=>c.r.length) (fun c=>[(7,.int .i64 c.k),(8,.int .i64 c.v),(9,.int .i64 c.d.length)]) (fun _=>[]) (fun _=>gst L (i+1) ts left)
  (fun c=>seen=c.d++c.r/\some1 ts t c.r c.d.isEmpty c.k c.v=some1 ts t seen true k 0/\ -(c.d.length:Int)<=c.k/\c.k<=8/\(c.v∈seen\/c.v=0)) ⟨[],seen,k,0⟩ ⟨by simp,by simp,by simp,by simp;omega⟩ ?_
 rintro⟨d,r,k1,v⟩ s1 ⟨hd,hm,hk1,hk2,hv⟩ h1 h2 h3 h4 h5
 simp only at hd hm hk1 hk2 hv h3 h5;simp at h1 h3;clear h2 h4;cases r with
 |nil=>
  simp at hd;subst hd;simp only[some1]at hm;rw[<-hm]at hsv;clear hm;have hw1:zM .i64 (seen.length:Int)=(seen.length:Int):=zj (by omega) (by omega);simp[h1,h3,h5];clear hk1 hk2 hk h1 h3 h5;refine zLc K76_1 B76_1 (fun c:SoS=>c.r.length) (fun c=>[(8,.int .i64 c.v),(10,.int .i64 c.d.length)]) (fun _=>[]) (fun _=>gst L (i+1) ts left)
   (fun c=>seen=c.d++c.r/\some2 ts t c.r c.v=some2 ts t seen v/\(c.v∈seen\/c.v=0)) ⟨[],seen,k,v⟩ ⟨by simp,by simp,by simp,rfl,rfl,hv⟩ ?_
  rintro⟨d,r,k2,v1⟩ s2 ⟨hd,hm,hv1⟩ h1 h2 h3 h4 h5
  simp only at hd hm hv1 h3 h5;simp at h1 h3;clear h2 h4 hv;cases r with
  |nil=>
   simp at hd;subst hd;rw[<-hm]at hsv;simp only[some2]at hsv;simp[h1,h3,h5,hsv,gst]
  |cons x r=>
   have g0:seen[d.length]? =some x:=by rw[hd];simp
   have g1:d.length<seen.length:=by rw[hd];simp
   have hx:=hr x (by rw[hd];simp);have g0':seen[d.length]'g1=x:=(yb.1 g0).2;have g2:=atA_get hx.1 hx.2;have g3:x.toNat<ts.length:=by omega
   have g2':ts[x.toNat]'g3=atA ts x.toNat:=(yb.1 g2).2;have hv2:0<=v1/\v1<ts.length:=by
    rcases hv1 with h|h
    ·exact hr _ h
    ·omega
   have f0:=hv2.1;have f2:=atA_get hv2.1 hv2.2;have f3:v1.toNat<ts.length:=by omega
   have f2':ts[v1.toNat]'f3=atA ts v1.toNat:=(yb.1 f2).2;have hw:zM .i64 ((d.length:Int)+1)=(d.length:Int)+1:=zj (by omega) (by omega);have hx0:=hx.1;have hxm:x∈seen:=by rw[hd];simp
   rw[some2]at hm;by_cases e0:atA ts v1.toNat=t
   ·rw[if_pos e0]at hm;rw[<-hm]at hsv;simp[h1,h3,h5,g0,g0',g1,g2,g2',g3,f0,f2,f2',f3,hx0,e0,hsv,gst]
   ·rw[if_neg e0]at hm;by_cases e1:atA ts x.toNat=t
    ·rw[if_pos e1]at hm;simp[h1,h3,h5,g0,g0',g1,g2,g2',g3,f0,f2,f2',f3,hw,hx0,e0,e1,gst];refine⟨⟨d++[x],r,0,x⟩,by simp,?_⟩;simp[h1,h3,h5,hw,gst]
     and_intros<;>first|exact hd|exact hm|exact .inl hxm
    ·rw[if_neg e1]at hm;simp[h1,h3,h5,g0,g0',g1,g2,g2',g3,f0,f2,f2',f3,hw,hx0,e0,e1,gst];refine⟨⟨d++[x],r,0,v1⟩,by simp,?_⟩;simp[h1,h3,h5,hw,gst]
     and_intros<;>first|exact hd|exact hm|exact hv1
 |cons x r=>
  have g0:seen[d.length]? =some x:=by rw[hd];simp
  have g1:d.length<seen.length:=by rw[hd];simp
  have hx:=hr x (by rw[hd];simp);have g0':seen[d.length]'g1=x:=(yb.1 g0).2;have g2:=atA_get hx.1 hx.2;have g3:x.toNat<ts.length:=by omega
  have g2':ts[x.toNat]'g3=atA ts x.toNat:=(yb.1 g2).2;have hw:zM .i64 ((d.length:Int)+1)=(d.length:Int)+1:=zj (by omega) (by omega);have hw2:zM .i64 (k1-1)=k1-1:=zj (by omega) (by omega);rw[some1]at hm;clear hsv;have hx0:=hx.1;have hxm:x∈seen:=by rw[hd];simp
  have h9:(d.length:Int)+1=((d++[x]).length:Int):=by simp
  have hne:(d++[x]).isEmpty=false:=by simp
  by_cases e1:atA ts x.toNat=t
  ·by_cases e0:d=[]
   ·subst e0;rw[if_pos ⟨e1,.inl rfl⟩]at hm;simp at h3 g0 g0' g1 hk1 hw hne;simp[h1,h3,h5,g0,g0',g1,g2,g2',g3,hw2,hx0,e1,gst];refine⟨⟨[x],r,k1-1,x⟩,by simp,?_⟩;simp[h1,h3,h5,hne,hw,hw2,gst]
    and_intros<;>first|exact hd|exact hm|exact hv|exact .inl hxm|(simp;omega)|omega
   ·by_cases e2:0<k1
    ·rw[if_pos ⟨e1,.inr e2⟩]at hm;simp[h1,h3,h5,g0,g0',g1,g2,g2',g3,hw,hw2,hx0,e1,e2,e0,gst];refine⟨⟨d++[x],r,k1-1,x⟩,by simp,?_⟩;simp[h1,h3,h5,hne,hw,hw2,gst]
     and_intros<;>first|exact hd|exact hm|exact hv|exact .inl hxm|(simp;omega)|omega
    ·rw[if_neg (by simp[e0,e2])]at hm;simp[h1,h3,h5,g0,g0',g1,g2,g2',g3,hw,hw2,hx0,e1,e2,e0,gst];refine⟨⟨d++[x],r,k1,v⟩,by simp,?_⟩;simp[h1,h3,h5,hne,hw,hw2,gst]
     and_intros<;>first|exact hd|exact hm|exact hv|exact .inl hxm|(simp;omega)|omega
  ·rw[if_neg (fun h=>e1 h.1)]at hm;simp[h1,h3,h5,g0,g0',g1,g2,g2',g3,hw,hw2,hx0,e1,gst];refine⟨⟨d++[x],r,k1,v⟩,by simp,?_⟩;simp[h1,h3,h5,hne,hw,hw2,gst]
   and_intros<;>first|exact hd|exact hm|exact hv|exact .inl hxm|(simp;omega)|omega
end
theorem eachV_append(L:List UInt8)(ts seen:List Int)(t:Int):∀(d:List Int) (i:Nat),zfb L ts seen (d++[t]) i=zfb L ts seen d i++[someV ts seen t (pk L (i+d.length) 8)]
 | [],i=>by simp[zfb]
 |x::r,i=>by
  have:=eachV_append L ts seen t r (i+1);simp only[List.cons_append,zfb,this,yR];rw[show i+1+r.length=i+(r.length+1) by omega]
def zF(l:List Int):List PV:=l.map (PV.int .i64)
section
variable (L:List UInt8) (hL:L.length<=9223372036854775807)
include hL
theorem zca(i:Nat)(ts:List Int)(left:Nat)(seen types:List Int)(hs:seen.length<=1000000)(hi:i+types.length<=1000000000000)(ht:ts.length<=1000000)(hr:∀x∈seen,0<=x/\x<ts.length)(hy:types.length<=1000000):
  zh E 57 [.ptr 0 0 0,ints seen,ints types] (gst L i ts left)=some (.ret (ints (zfb L ts seen types i)),gst L (i+types.length) ts left):=by
 refine zc rfl rfl rfl (by simp) ?_;simp[F57,ints];refine zaa types K57_0 B57_0 (fun d=>[(7,acc 1 (zF (zfb L ts seen d i))),(8,.int .i64 d.length)]) (fun d=>gst L (i+d.length) ts left) (fun _=>True) (by omega) (by simp[zfb,zF]) ?_ ?_
 ·intros d x r s hl' hlt hget hget' hw hp h1 h2 h3 h4;simp at h1 h3;clear h2;have hsm:=gsome_spec L hL (i+d.length) ts left seen x hs (by omega) ht hr;have he:=eachV_append L ts seen x d i;have hi2:i+d.length+1=i+(d.length+1):=by omega
  rw[hi2]at hsm;simp[ints]at hsm;have q4:((zfb L ts seen d i).length+1)*8<=zq:=by rw[zra];simp only[zq];omega
  have q5:(zF (zfb L ts seen d i)).length=d.length:=by simp[zF,zra]
  have q6:(d.length+1)*8<=zq:=by rwa[zra]at q4
  have q7:zF (zfb L ts seen (d++[x]) i)=zF (zfb L ts seen d i)++[.int .i64 (someV ts seen x (pk L (i+d.length) 8))]:=by rw[he];simp[zF]
  clear hl' hs hi hr hL he;simp[*]
 ·intro s hp h1 h2 h3 h4;simp at h1 h3;clear h2 hL hr;simp[*,zF]
omit hL in
theorem zPb(i:Nat)(ts:List Int)(left:Nat)(types:List Int)(ht:ts.length+types.length<=1000000):
  zh E 35 [.ptr 0 0 0,ints types] (gst L i ts left)=some (.ret (acc 1 (zF (newV ts.length types.length))),gst L i (ts++types) left):=by
 refine pcall_wpO 4 rfl rfl rfl (by simp) ?_;simp[F35,ints];refine zaa types K35_0 B35_0 (fun d=>[(5,acc 1 (zF (newV ts.length d.length))),(6,.int .i64 d.length)]) (fun d=>gst L i (ts++d) left) (fun _=>True) (by omega) (by simp[newV,zF]) ?_ ?_
 ·intros d x r s hl' hlt hget hget' hw hp h1 h2 h3 h4;simp at h1 h3;clear h2;have hf:=fresh_spec L i (ts++d) left x (by simp;omega);simp at hf;have q5:(zF (newV ts.length d.length)).length=d.length:=by simp[zF,zZa]
  have q6:(d.length+1)*8<=zq:=by simp only[zq];omega
  have q7:zF (newV ts.length (d.length+1))=zF (newV ts.length d.length)++[.int .i64 ((ts.length:Int)+d.length)]:=by simp[zF,newV]
  clear hl';simp[*]
 ·intro s hp h1 h2 h3 h4;simp at h1 h3;clear h2;simp[*,zF]
structure TyS where
 j:Nat
 m:Nat
theorem gtypes_spec(i:Nat)(ts:List Int)(left:Nat)(hi:i<=100000000000):
  zh E 56 [.ptr 0 0 0] (gst L i ts left)=some (.ret (ints (zya L i)),gst L (zSa L i) ts left):=by
 refine zc rfl rfl rfl (by simp) ?_;have hp:=zpa L hL i 3 ts left (by omega) (by omega);have hk:=pk_lt L i 3 (by omega);have h0:zya L i=tyV L (i+1) (pk L i 3):=rfl;have h0':zSa L i=i+1+pk L i 3:=rfl;generalize pk L i 3=k at*;simp at hp;simp[hp,F56];refine zLc K56_0 B56_0 (fun c:TyS=>c.m) (fun c=>[(3,acc 1 (zF (tyV L (i+1) c.j))),(4,.int .i64 c.m)]) (fun _=>[]) (fun c=>gst L (i+1+c.j) ts left)
  (fun c=>c.j+c.m=k) ⟨0,k⟩ ⟨by simp[tyV,zF],by simp,by simp,by simp⟩ ?_
 rintro⟨j,m⟩ s1 hj h1 h2 h3 h4 h5
 simp only at hj h3 h5;simp at h1 h3;clear h2 h4 hp;cases m with
 |zero=>
  simp at hj h3;subst hj;rw[h0,h0'];simp[h1,h3,h5,ints,zF]
 |succ m=>
  have hq:=zpa L hL (i+1+j) 2 ts left (by omega) (by omega);have hq2:=pk_lt L (i+1+j) 2 (by omega);have q5:(zF (tyV L (i+1) j)).length=j:=by simp[zF,tyV_len]
  have q6:(j+1)*8<=zq:=by simp only[zq];omega
  have q7:zF (tyV L (i+1) (j+1))=zF (tyV L (i+1) j)++[.int .i64 (1+(pk L (i+1+j) 2:Int))]:=by simp[zF,tyV]
  have hw:zM .i64 (1+(pk L (i+1+j) 2:Int))=1+(pk L (i+1+j) 2:Int):=zj (by omega) (by omega);have hw2:zM .i64 (m:Int)=m:=zj (by omega) (by omega);have e1:((0:Int)<(m:Int)+1)=True:=eqp (by omega);simp at hq h3;simp[h1,h3,h5,hq,q5,q6,hw,hw2,e1];refine⟨⟨j+1,m⟩,by simp,?_⟩;simp[h1,h3,h5,q7,hw,hw2]
  and_intros<;>first|omega|rfl|(congr 1)|skip
end
def zfc(p:HPl):PV:= .agg [.bool p.iff,.bool p.loop,ints p.yield,ints p.next,ints p.left]
theorem newV1(n:Nat):newV n 1=[(n:Int)]:=by simp[newV]
section
variable (L:List UInt8) (hL:L.length<=9223372036854775807)
include hL
set_option maxHeartbeats 4000000 in
theorem gsimple_spec(i:Nat)(ts:List Int)(left:Nat)(seen:List Int)(hs:seen.length<=1000000)(hi:i<=100000000000)(ht:ts.length<=999990)(hr:∀x∈seen,0<=x/\x<ts.length):
  zh E 55 [.ptr 0 0 0,ints seen] (gst L i ts left)=some (.ret (zJ (zW L seen ts i).1),gst L (zW L seen ts i).2.1 (ts++(zW L seen ts i).2.2) left):=by
 refine zc rfl rfl rfl (by simp) ?_;have p0:=zpa L hL i 12 ts left (by omega) (by omega);have p1:=zpa L hL (i+1) 6 ts left (by omega) (by omega);have p2:=zpa L hL (i+1) 2 ts left (by omega) (by omega);have p3:=zpa L hL (i+1) 4 ts left (by omega) (by omega);have p4:=zpa L hL (i+1) 11 ts left (by omega) (by omega);have a1:=zca L hL (i+1) ts left seen [1] hs (by simp;omega) (by omega) hr (by simp);have a2:=zca L hL (i+2) ts left seen [1] hs (by simp;omega) (by omega) hr (by simp);have a3:=zca L hL (i+1) ts left seen [2] hs (by simp;omega) (by omega) hr (by simp);have a4:=zca L hL (i+1) ts left seen [1,1] hs (by simp;omega) (by omega) hr (by simp);have a5:=zca L hL (i+2) ts left seen [1,1] hs (by simp;omega) (by omega) hr (by simp);have a6:=zca L hL (i+2) ts left seen [1,2] hs (by simp;omega) (by omega) hr (by simp);have o1:=fun i=>zPb L i ts left [1] (by simp;omega)
 have o2:=fun i=>zPb L i ts left [2] (by simp;omega)
 have h12:=pk_lt L i 12 (by omega);have h6:=pk_lt L (i+1) 6 (by omega);have h4:=pk_lt L (i+1) 4 (by omega);have h11:=pk_lt L (i+1) 11 (by omega);have w1:zM .i64 (1+(pk L (i+1) 11:Int))=1+(pk L (i+1) 11:Int):=zj (by omega) (by omega);have w2:zM .i64 (12+(pk L (i+1) 6:Int))=12+(pk L (i+1) 6:Int):=zj (by omega) (by omega);simp[ints,zF,newV1]at p0 p1 p2 p3 p4 a1 a2 a3 a4 a5 a6 o1 o2;have hc:pk L i 12=0\/pk L i 12=1\/pk L i 12=2\/pk L i 12=3\/pk L i 12=4\/pk L i 12=5\/pk L i 12=6\/pk L i 12=7\/pk L i 12=8\/pk L i 12=9\/pk L i 12=10\/pk L i 12=11:=by omega
 have hc6:pk L (i+1) 6=0\/pk L (i+1) 6=1\/pk L (i+1) 6=2\/pk L (i+1) 6=3\/pk L (i+1) 6=4\/pk L (i+1) 6=5:=by omega
 have hc4:pk L (i+1) 4=0\/pk L (i+1) 4=1\/pk L (i+1) 4=2\/pk L (i+1) 4=3:=by omega
 clear hL hs hi ht hr h12 h6 h4 h11;rcases hc with h|h|h|h|h|h|h|h|h|h|h|h
 ·rcases hc6 with k|k|k|k|k|k<;>simp[h,k]at p0 p1<;>simp[*,zW,F55,za,ints,kids,atA]
 ·simp[h]at p0;simp[*,zW,F55,za,ints,kids,atA]
 ·rcases hc4 with k|k|k|k<;>simp[h,k]at p0 p3<;>simp[*,zW,F55,za,ints,kids,atA]
 ·simp[h]at p0;simp[*,zW,F55,za,ints,kids,atA]
 ·simp[h]at p0;simp[*,zW,F55,za,ints,kids,atA]
 ·simp[h]at p0;simp[*,zW,F55,za,ints,kids,atA]
 ·simp[h]at p0;simp[*,zW,F55,za,ints,kids,atA]
 ·simp[h]at p0;simp[*,zW,F55,za,ints,kids,atA]
 ·simp[h]at p0;simp[*,zW,F55,za,ints,kids,atA]
 ·simp[h]at p0;simp[*,zW,F55,za,ints,kids,atA]
 ·simp[h]at p0;simp[*,zW,F55,za,ints,kids,atA]
 ·rcases hc4 with k|k|k|k<;>simp[h,k]at p0 p3<;>simp[*,zW,F55,za,ints,kids,atA]
theorem gend_spec(i:Nat)(ts:List Int)(left:Nat)(seen:List Int)(p:HPl)(hp:PlOk p)(hs:seen.length<=1000000)(hi:i<=100000000000)(ht:ts.length<=999990)(hr:∀x∈seen,0<=x/\x<ts.length):
  zh E 59 [.ptr 0 0 0,ints seen,zfc p] (gst L i ts left)=some (.ret (zJ (endG L seen ts p i)),gst L (endN L p i) ts left):=by
 refine zc rfl rfl rfl (by simp[zfc]) ?_;have p0:=zpa L hL i 6 ts left (by omega) (by omega);have a1:=zca L hL (i+1) ts left seen p.yield hs (by have:=hp.y;omega) (by omega) hr (by have:=hp.y;omega);have a2:=zca L hL (i+1) ts left seen p.next hs (by have:=hp.n;omega) (by omega) hr (by have:=hp.n;omega);have a3:=zca L hL (i+1) ts left seen p.left hs (by have:=hp.l;omega) (by omega) hr (by have:=hp.l;omega);have a4:=zca L hL (i+1) ts left seen [1] hs (by simp;omega) (by omega) hr (by simp);have hr2:remK (pk L i 6:Int) 2=((pk L i 6%2:Nat):Int):=by have:=remNat (pk L i 6) 2;simpa using this
 simp[ints]at p0 a1 a2 a3 a4;have e1:endG L seen ts p i=nd (endL p (pk L i 6)).1 0 0 [] (zfb L ts seen (endL p (pk L i 6)).2 (i+1)) []:=rfl;have e2:endN L p i=i+1+(endL p (pk L i 6)).2.length:=rfl;rw[e1,e2];generalize pk L i 6=k at*;have hk4:((k:Int)<4)=(k<4):=by apply propext;omega
 have hk2:((k:Int)%2=0)=(k%2=0):=by apply propext;omega
 clear hL hs hi ht hr e1 e2 hp;obtain⟨iff,loop,yield,next,lft⟩:=p;simp only at a1 a2 a3;by_cases c1:k<4<;>by_cases c2:k%2=0<;>cases iff<;>cases loop<;>simp[*,endL,F59,za,ints,kids,zfc]
end
structure LsS where
 m:Nat
 out:List Node
 all:List Int
 i:Nat
 ts:List Int
 left:Nat
def rcOf(L:List UInt8):Nat->Option LG
 |0=>none
 |d+1=>some (zuc L d)
theorem listG_eq(L:List UInt8)(d:Nat)(seen:List Int)(p:HPl)(i:Nat)(ts:List Int)(left:Nat):zuc L d seen p i ts left=runG L (rcOf L d) p (pk L i 6) [] seen (i+1) ts left:=by
 cases d<;>rfl
theorem rcOf_ok(L:List UInt8)(d:Nat):∀f,rcOf L d=some f->LGok f:=by
 intro f h;cases d with
 |zero=>simp[rcOf]at h
 |succ d=>simp[rcOf]at h;subst h;exact listG_ok L d
structure LsPre(d i:Nat)(ts:List Int)(left:Nat)(seen:List Int)(p:HPl):Prop where
 p:PlOk p
 s:seen.length+100*d<=1000
 i:i+100*left<=10000000
 t:ts.length+10*left<=100000
 r:∀x∈seen,0<=x/\x<ts.length
def LsOk(L:List UInt8)(d:Nat):Prop:=∀i ts left seen p,LsPre d i ts left seen p→
 zh E 37 [.ptr 0 0 0,ints seen,zfc p,.int .i64 d] (gst L i ts left)=some (.ret (zn (zuc L d seen p i ts left).n),gst L (zuc L d seen p i ts left).i (zuc L d seen p i ts left).ts (zuc L d seen p i ts left).left)
structure LsInv(L:List UInt8)(d:Nat)(p:HPl)(M:Md (List Node))(k:Nat)(c:LsS):Prop where
 run:runG L (rcOf L d) p c.m c.out c.all c.i c.ts c.left=M
 m:c.m<=5
 o:c.out.length+c.m<=5
 a:c.all.length+100*d+2*c.m<=1010
 i:c.i+100*c.left<=10000001
 t:c.ts.length+10*c.left<=100000
 r:∀x∈c.all,0<=x/\x<c.ts.length
theorem LsInv.step{L:List UInt8}{d:Nat}{p:HPl}{M:Md (List Node)}{k m:Nat}{out:List Node}{all:List Int}{i:Nat}{ts:List Int}{left:Nat}(hp:PlOk p)(h:LsInv L d p M k ⟨m+1,out,all,i,ts,left+1⟩){r:Md Node}(hr:nodeG L (rcOf L d) all p i ts left=r):
  if zB r.n=true then M=⟨out++[r.n],r.i,r.ts,r.left⟩else LsInv L d p M k ⟨m,out++[r.n],all++r.n.outs,r.i,r.ts,r.left⟩:=by
 obtain⟨h1,h2,h3,h4,h5,h6,h7⟩:=h;simp only at h1 h2 h3 h4 h5 h6 h7;have hn:=nodeG_ok L (rcOf L d) (rcOf_ok L d) all p hp i ts left;rw[hr]at hn;rw[runG]at h1;simp only[Nat.add_one_ne_zero,if_false,Nat.add_sub_cancel,hr]at h1;split
 ·rename_i hc;rw[if_pos hc]at h1;exact h1.symm
 ·rename_i hc;rw[if_neg hc]at h1;obtain⟨n1,⟨x,n2⟩,n3,n4,n5,n6⟩:=hn;refine⟨h1,by simp only;omega,by simp only[ym,List.length_singleton];omega,by simp only[ym];omega,by simp only;omega,by simp only;omega,?_⟩;intro y hy;simp only[yG]at hy;rcases hy with hy|hy
  ·have:=h7 y hy;simp only[n2,ym];omega
  ·exact n5 y hy
section
variable (L:List UInt8) (hL:L.length<=9223372036854775807)
include hL
set_option maxRecDepth 20000 in
set_option maxHeartbeats 8000000 in
theorem glist_of(d:Nat)(hd:d<=3)(hrec:∀e,d=e+1->LsOk L e):LsOk L d:=by
 intro i ts left seen p hpre;obtain⟨hp,hs,hi,ht,hr⟩:=hpre;refine zc rfl rfl rfl (by simp[zfc]) ?_;have p0:=zpa L hL i 6 ts left (by omega) (by omega);have hk:=pk_lt L i 6 (by omega);have hM:=listG_eq L d seen p i ts left;generalize zuc L d seen p i ts left=M at*;generalize pk L i 6=k at*;have hsz:seen.length*8<=zq:=by simp only[zq];omega
 simp at p0;simp[p0,hsz,F37,ints,zfc];refine zLc K37_0 B37_0 (fun c:LsS=>c.m) (fun c=>[(9,acc 8 (c.out.map zJ)),(10,acc 1 (zF c.all)),(11,.int .i64 c.m)]) (fun _=>[]) (fun c=>gst L c.i c.ts c.left)
  (LsInv L d p M k) ⟨k,[],seen,i+1,ts,left⟩ ⟨by simp[zF],by simp,by simp,⟨hM.symm,by simp only;omega,by simp only[yV];omega,by simp only;omega,by simp only;omega,by simp only;omega,hr⟩⟩ ?_
 rintro⟨m,out,all,i',ts',left'⟩ s1 hinv h1 h2 h3 h4 h5
 simp only at h3 h5;simp at h1 h2 h3;clear h4 p0 hM hs hi ht hr hsz;have hoo:(out.map zJ).length=out.length:=by simp
 have hol:=hinv.o;simp only at hol;have hob:(out.length+1)*136<=zq:=by simp only[zq];omega
 have hend:=gend_spec L hL i' ts' left' all p hp (by have:=hinv.a;simp only at this;omega) (by have:=hinv.i;simp only at this;omega) (by have:=hinv.t;simp only at this;omega) hinv.r;simp[ints,zfc,za,gst]at hend;have hfin:m=0\/left'=0->M=finG L p out all i' ts' left':=by
  intro h;have hrun:=hinv.run;simp only at hrun;rcases h with h|h
  ·subst h;exact hrun.symm
  ·subst h;cases m with
   |zero=>exact hrun.symm
   |succ m=>simp[runG]at hrun;exact hrun.symm
 cases m with
 |zero=>
  have hf:=hfin (.inl rfl);rw[hf];simp at h3;clear hinv hfin hf;simp[*,finG,gst,zn,za,ints,zF]
 |succ m=>
  have e1:((0:Int)<(m:Int)+1)=True:=eqp (by omega);cases left' with
  |zero=>
   have hf:=hfin (.inr rfl);rw[hf];simp at h3;clear hinv hfin hf;simp at hend;simp[*,finG,gst,zn,za,ints,zF]
  |succ lf=>
   have hst:=fun r hr=>hinv.step hp (r:=r) hr
   have hS:=simple_ok L all ts' i';have hsim:=gsimple_spec L hL i' ts' lf all (by have:=hinv.a;simp only at this;omega) (by have:=hinv.i;simp only at this;omega) (by have:=hinv.t;simp only at this;omega) hinv.r;have hpk:=zpa L hL (zW L all ts' i').2.1 6 (ts'++(zW L all ts' i').2.2) lf (by omega) (by have:=hinv.i;have:=hS.i;simp only at*;omega);have hnd:∀rc,nodeG L rc all p i' ts' lf=nodeG L rc all p i' ts' lf:=fun _=>rfl
   have ha:=hinv.a;have hii:=hinv.i;have htt:=hinv.t;have hrr:=hinv.r;simp only at ha hii htt hrr;have hw1:zM .i64 (m:Int)=m:=zj (by omega) (by omega);have hw2:zM .i64 (lf:Int)=lf:=zj (by omega) (by omega);have e2:((0:Int)<(lf:Int)+1)=True:=eqp (by omega)
   conv at hnd=>intro rc;rhs;unfold nodeG
   clear hend hfin hinv;generalize zW L all ts' i'=S at*;obtain⟨n,j,x⟩:=S;simp only at hsim hpk hnd;have hj:=hS.i;have hx:=hS.t;have hw:=hS.w;have hol:=hS.ol;simp only at hj hx hw hol;clear hS;have hrT:∀y∈all,0<=y/\y<(ts'++x).length:=fun y hy=>by have:=hrr y hy;simp only[ym];omega
   have hTl:(ts'++x).length<=ts'.length+1:=by simp only[ym];omega
   generalize hT:ts'++x=T at*;clear hT;have hk6:=pk_lt L j 6 (by omega);generalize pk L j 6=k6 at*;simp[ints,za,kids,gst]at hsim hpk;have hcl:=zzb n [] (by omega);simp[za,ints,kids]at hcl;have hab:(all.length+n.outs.length)*8<=zq:=by simp only[zq];omega
   have hal:(zF all).length=all.length:=by simp[zF]
   have key:∀r:Md Node,r=⟨n,j+1,T,lf⟩->nodeG L (rcOf L d) all p i' ts' lf=r->(if zB n=true then M=⟨out++[n],j+1,T,lf⟩else LsInv L d p M k ⟨m,out++[n],all++n.outs,j+1,T,lf⟩):=by
    intro r hr hn;have:=hst r hn;rw[hr]at this;exact this
   have hq:(((k6:Int)=0)=True/\((k6:Int)=1)=False/\(k6=0)=True/\(k6=1)=False)\/(((k6:Int)=0)=False/\((k6:Int)=1)=True/\(k6=0)=False/\(k6=1)=True)\/(((k6:Int)=0)=False/\((k6:Int)=1)=False/\(k6=0)=False/\(k6=1)=False):=by
    by_cases h:k6=0
    ·subst h;simp
    ·by_cases h':k6=1
     ·subst h';simp
     ·refine .inr (.inr ⟨eqn (by omega),eqn (by omega),eqn h,eqn h'⟩)
   cases d with
   |zero=>
    have hk:=key _ rfl (hnd none);clear hst hnd key hrT hTl;rcases hq with⟨q1,q2,q3,q4⟩|⟨q1,q2,q3,q4⟩|⟨q1,q2,q3,q4⟩
    all_goals
     cases hc:zB n
     ·simp[hc]at hk hcl;simp[*,gst,zn,za,ints,zF,zfc,kids];refine⟨⟨m,out++[n],all++n.outs,j+1,T,lf⟩,by simp,?_⟩;simp[*,gst,zn,za,ints,zF,zfc,kids]
     ·simp[hc]at hk hcl;rw[hk];clear hk;simp[*,gst,zn,za,ints,zF,zfc,kids]
   |succ d=>
    have e3:((0:Int)<(d:Int)+1)=True:=eqp (by omega);have hw3:zM .i64 (d:Int)=d:=zj (by omega) (by omega);have hrec:=hrec d rfl;rcases hq with⟨q1,q2,q3,q4⟩|⟨q1,q2,q3,q4⟩|⟨q1,q2,q3,q4⟩
    ·have hnd:=hnd (some (zuc L d));simp only[q3,if_true,ifG]at hnd;clear key hcl hw hol hab;have hty:=gtypes_spec L hL (j+1) T lf (by omega);have t1:=zzc L (j+1);have t2:=zyc L (j+1);generalize zya L (j+1)=t at*;generalize zSa L (j+1)=jn at*;have hea:=zca L hL jn T lf all [2] (by omega) (by simp;omega) (by omega) hrT (by simp);have hX:PlOk ⟨true,p.loop,t,p.next,p.left⟩:=⟨t2,hp.n,hp.l⟩
     have hel:(zfb L T all [2] jn).length=1:=zra _ _ _ _ _;generalize zfb L T all [2] jn=ar at*;have hA:=hrec (jn+1) T lf all ⟨true,p.loop,t,p.next,p.left⟩ ⟨hX,by omega,by omega,by omega,hrT⟩;have hAo:=listG_ok L d all ⟨true,p.loop,t,p.next,p.left⟩ (jn+1) T lf hX;generalize zuc L d all ⟨true,p.loop,t,p.next,p.left⟩ (jn+1) T lf=A at*;obtain⟨a1,⟨y,a2⟩,a3,a4⟩:=hAo;have hB:=hrec A.i A.ts A.left all ⟨true,p.loop,t,p.next,p.left⟩ ⟨hX,by omega,by omega,by omega,fun y hy=>by have:=hrT y hy;rw[a2];simp only[ym];omega⟩;have hBo:=listG_ok L d all ⟨true,p.loop,t,p.next,p.left⟩ A.i A.ts A.left hX;generalize zuc L d all ⟨true,p.loop,t,p.next,p.left⟩ A.i A.ts A.left=B at*;obtain⟨b1,⟨z,b2⟩,b3,b4⟩:=hBo;have hou:=zPb L B.i B.ts B.left t (by omega);have hk:=hst _ hnd;have hcl:=zzb ⟨10,0,0,[],ar,[],[],[A.n,B.n]⟩ [] (by simp[wtN,wtK];omega);have hcl2:=zzb ⟨10,0,0,[],ar,newV B.ts.length t.length,[],[A.n,B.n]⟩ [] (by simp[wtN,wtK,zZa];omega);have hcc:zB ⟨10,0,0,[],ar,newV B.ts.length t.length,[],[A.n,B.n]⟩=zB ⟨10,0,0,[],ar,[],[],[A.n,B.n]⟩:=rfl;have hab:(all.length+(newV B.ts.length t.length).length)*8<=zq:=by rw[zZa];simp only[zq];omega
     simp[ints,zF,zfc,za,kids,zn,gst]at hty hea hA hB hcl hcl2 hou;clear a1 a2 a3 a4 b1 b2 b3 b4 hst hnd hrT hTl hrec hX t1 t2 hrr ha hii htt hel hx hj;cases hc:zB ⟨10,0,0,[],ar,[],[],[A.n,B.n]⟩
     ·rw[hc]at hcc;simp[outed,hc,hcc]at hk hcl hcl2;generalize newV B.ts.length t.length=nw at*;simp[*,gst,zn,za,ints,zF,zfc,kids];refine⟨⟨m,out++[⟨10,0,0,[],ar,nw,[],[A.n,B.n]⟩],all++nw,B.i,B.ts++t,B.left⟩,by simp,?_⟩;simp[*,gst,zn,za,ints,zF,zfc,kids]
     ·simp[outed,hc]at hk hcl;rw[hk];clear hk;simp[*,gst,zn,za,ints,zF,zfc,kids]
    ·have hnd:=hnd (some (zuc L d));simp only[q3,q4,if_true,if_false,loopG]at hnd;clear key hcl hw hol hab;have hty:=gtypes_spec L hL (j+1) T lf (by omega);have t1:=zzc L (j+1);have t2:=zyc L (j+1);generalize zya L (j+1)=t at*;generalize zSa L (j+1)=jn at*;have hty2:=gtypes_spec L hL jn T lf (by omega);have t3:=zzc L jn;have t4:=zyc L jn;generalize zya L jn=o at*;generalize zSa L jn=jm at*;have hea:=zca L hL jm T lf all t (by omega) (by omega) (by omega) hrT (by omega);have hX:PlOk ⟨false,true,[],t,o⟩:=⟨by simp,t2,t4⟩
     have hel:(zfb L T all t jm).length=t.length:=zra _ _ _ _ _;generalize zfb L T all t jm=ar at*;have hop:=zPb L (jm+t.length) T lf t (by omega);have hpl:(newV T.length t.length).length=t.length:=zZa _ _;have hpm:=newV_mem T.length t.length;generalize newV T.length t.length=ps at*;have hrTT:∀y∈all++ps,0<=y/\y<(T++t).length:=by
      intro y hy;simp only[yG]at hy;simp only[ym];rcases hy with hy|hy
      ·have:=hrT y hy;omega
      ·have:=hpm y hy;omega
     have hTT:(T++t).length<=T.length+2:=by simp only[ym];omega
     have hapl:(all++ps).length<=all.length+2:=by simp only[ym];omega
     have hap:(all.length+ps.length)*8<=zq:=by simp only[zq];omega
     have hap0:all.length*8<=zq:=by simp only[zq];omega
     have hA:=hrec (jm+t.length) (T++t) lf (all++ps) ⟨false,true,[],t,o⟩ ⟨hX,by omega,by omega,by omega,hrTT⟩;have hAo:=listG_ok L d (all++ps) ⟨false,true,[],t,o⟩ (jm+t.length) (T++t) lf hX;generalize zuc L d (all++ps) ⟨false,true,[],t,o⟩ (jm+t.length) (T++t) lf=A at*;obtain⟨a1,⟨y,a2⟩,a3,a4⟩:=hAo;have hou:=zPb L A.i A.ts A.left o (by omega);have hk:=hst _ hnd;have hcl:=zzb ⟨11,0,0,[],ar,[],ps,[A.n]⟩ [] (by simp[wtN,wtK];omega);have hcl2:=zzb ⟨11,0,0,[],ar,newV A.ts.length o.length,ps,[A.n]⟩ [] (by simp[wtN,wtK,zZa];omega);have hcc:zB ⟨11,0,0,[],ar,newV A.ts.length o.length,ps,[A.n]⟩=zB ⟨11,0,0,[],ar,[],ps,[A.n]⟩:=rfl;have hab:(all.length+(newV A.ts.length o.length).length)*8<=zq:=by rw[zZa];simp only[zq];omega
     simp[ints,zF,zfc,za,kids,zn,gst]at hty hty2 hea hop hA hcl hcl2 hou;clear a1 a2 a3 a4 hst hnd hrT hTl hrec hX t1 t2 t3 t4 hrr ha hii htt hel hx hj hrTT hTT hapl hpm hpl;cases hc:zB ⟨11,0,0,[],ar,[],ps,[A.n]⟩
     ·rw[hc]at hcc;simp[outed,hc,hcc]at hk hcl hcl2;generalize newV A.ts.length o.length=nw at*;simp[*,gst,zn,za,ints,zF,zfc,kids];refine⟨⟨m,out++[⟨11,0,0,[],ar,nw,ps,[A.n]⟩],all++nw,A.i,A.ts++o,A.left⟩,by simp,?_⟩;simp[*,gst,zn,za,ints,zF,zfc,kids]
     ·simp[outed,hc]at hk hcl;rw[hk];clear hk;simp[*,gst,zn,za,ints,zF,zfc,kids]
    ·have hk:=key ⟨n,j+1,T,lf⟩ rfl (by have:=hnd (some (zuc L d));simp only[q3,q4,if_false]at this;exact this);clear hst hnd key hrec hrT hTl;cases hc:zB n
     ·simp[hc]at hk hcl;simp[*,gst,zn,za,ints,zF,zfc,kids];refine⟨⟨m,out++[n],all++n.outs,j+1,T,lf⟩,by simp,?_⟩;simp[*,gst,zn,za,ints,zF,zfc,kids]
     ·simp[hc]at hk hcl;rw[hk];clear hk;simp[*,gst,zn,za,ints,zF,zfc,kids]
theorem glist_spec:∀d,d<=3->LsOk L d:=by
 intro d
 induction d with
 |zero=>intro h;exact glist_of L hL 0 h (by intro e he;cases he)
 |succ d ih=>intro h;exact glist_of L hL (d+1) h (by intro e he;cases he;exact ih (by omega))
end
theorem runG_ne(L:List UInt8)(rc:Option LG)(p:HPl):∀c out all i ts left,(runG L rc p c out all i ts left).n≠ []:=by
 intro c
 induction c with
 |zero=>intro out all i ts left;simp[runG,finG]
 |succ c ih=>
  intro out all i ts left;rw[runG];split
  ·simp[finG]
  ·simp only;split
   ·simp
   ·exact ih _ _ _ _ _
theorem listG_ne(L:List UInt8)(d:Nat)(seen:List Int)(p:HPl)(i:Nat)(ts:List Int)(left:Nat):(zuc L d seen p i ts left).n≠ []:=by
 rw[listG_eq];exact runG_ne L _ _ _ _ _ _ _ _
def noPl:HPl:=⟨false,false,[],[],[]⟩
theorem noPl_ok:PlOk noPl:=⟨by simp[noPl],by simp[noPl],by simp[noPl]⟩
def flowL(L:List UInt8)(params:List Int)(i:Nat):Md (List Node):=zuc L 3 (newV 0 params.length++[(params.length:Int),((params.length+1:Nat):Int)]) noPl i (params++[1,2]) 30
theorem flowG_eq(L:List UInt8)(name:List UInt8)(params:List Int)(i:Nat):flowG L name params i=
  ⟨⟨name,1,params.length,(flowL L params i).ts,nd 1 0 3 [] [] [(params.length:Int)]::nd 2 0 1 [] [] [((params.length+1:Nat):Int)]::(flowL L params i).n⟩,(flowL L params i).i,(flowL L params i).ts,(flowL L params i).left⟩:=rfl
theorem flowL_ok(L:List UInt8)(params:List Int)(i:Nat):MdL 10 (flowL L params i) i (params++[1,2]) 30 0:=listG_ok L 3 _ _ _ _ _ noPl_ok
section
variable (L:List UInt8) (hL:L.length<=9223372036854775807)
include hL
theorem gflow_spec(i:Nat)(ts:List Int)(left:Nat)(name:List UInt8)(params:List Int)(hp:params.length<=10)(hi:i<=1000000):
  zh E 22 [.ptr 0 0 0,.str name,ints params] (gst L i ts left)=some (.ret (zi (flowG L name params i).n),gst L (flowG L name params i).i (flowG L name params i).ts (flowG L name params i).left):=by
 refine zc rfl rfl rfl (by simp) ?_;have o1:=zPb L i [] 30 params (by simp;omega);have f1:=fresh_spec L i params 30 1 (by omega);have f2:=fresh_spec L i (params++[1]) 30 2 (by simp;omega);have hr:∀y∈newV 0 params.length++[(params.length:Int),((params.length+1:Nat):Int)],0<=y/\y<(params++[1,2]).length:=by
  intro y hy;simp only[yG,yO,List.not_mem_nil,or_false]at hy;simp only[ym,yR,yV];rcases hy with hy|hy|hy
  ·have:=newV_mem 0 _ y hy;omega
  ·omega
  ·omega
 have hls:=glist_spec L hL 3 (by omega) i (params++[1,2]) 30 (newV 0 params.length++[(params.length:Int),((params.length+1:Nat):Int)]) noPl ⟨noPl_ok,by simp[zZa];omega,by omega,by simp;omega,hr⟩;have hne:=listG_ne L 3 (newV 0 params.length++[(params.length:Int),((params.length+1:Nat):Int)]) noPl i (params++[1,2]) 30;have hok:=flowL_ok L params i;rw[flowG_eq];change zh E _ _ _=some (.ret (zn (flowL L params i).n),gst L (flowL L params i).i (flowL L params i).ts (flowL L params i).left)at hls;change (flowL L params i).n≠ []at hne;generalize flowL L params i=A at*;obtain⟨a1,a2,a3,a4⟩:=hok;have hal:=len_wtL A.n;have q1:(params.length+2)*8<=zq:=by simp only[zq];omega
 have q2:(2+A.n.length)*136<=zq:=by simp only[zq];omega
 have q3:(newV 0 params.length).length=params.length:=zZa _ _;clear a1 a2 a3 a4 hr hal;simp[ints,zF,gst,zn,zfc,noPl]at o1 f1 f2 hls;generalize newV 0 params.length=nv at*;simp[*,F22,ints,gst,zn,zi,za,kids]
theorem made_spec:zh E 8 [u8s L] []=some (.ret (zE (zXb L)),[]):=by
 refine zc rfl rfl rfl (by simp[u8s]) ?_;have f1:=gflow_spec L hL 0 [] 0 zC [] (by simp) (by omega);have hi1:(flowG L zC [] 0).i<=10000:=by have:=(flowL_ok L [] 0).i;rw[flowG_eq];simp only;omega
 have f2:=gflow_spec L hL (flowG L zC [] 0).i (flowG L zC [] 0).ts (flowG L zC [] 0).left [102] [1,2] (by simp) (by omega);have hm:zXb L=⟨[⟨[97],4⟩],[(flowG L zC [] 0).n,(flowG L [102] [1,2] (flowG L zC [] 0).i).n]⟩:=rfl;rw[hm];generalize flowG L zC [] 0=A at*;generalize flowG L [102] [1,2] A.i=B at*;clear hm;have e1:zC=[109,97,105,110]:=rfl;simp[ints,gst,zi,e1,u8s]at f1 f2;simp[*,F8,zE,arrs,flows,zY,zi,u8s,zq,ints]
end
theorem madeM_sz(L:List UInt8):USz (zXb L):=by
 have h1:=flowL_ok L [] 0;have h2:=flowL_ok L [1,2] (flowL L [] 0).i;obtain⟨a1,a2,a3,a4⟩:=h1;obtain⟨b1,b2,b3,b4⟩:=h2;simp only[ym,yR,yV]at a3 b3;refine⟨?_,?_,?_,?_⟩
 ·simp[zXb]
 ·simp[zXb]
 ·intro f hf;simp only[zXb,yO,List.not_mem_nil,or_false]at hf;rcases hf with rfl|rfl<;>simp[flowG_eq]<;>omega
 ·intro f hf;simp only[zXb,yO,List.not_mem_nil,or_false]at hf;rcases hf with rfl|rfl<;>simp[flowG_eq,wtL,wtN,wtK]<;>omega
theorem playM_fuel(u:Unt)(inp:List Int)(fu:Int)(hz:USz u):(zTa u inp fu).fuel<=fu.toNat:=by
 unfold zTa;split
 ·rename_i h0;have hU:=checkM_ok hz h0;obtain⟨f,hf',hfm,hp',hfp⟩:=hU.main;have hmn:=(callW_ok (evN_ok hU (run0 u inp fu).fuel) (hU.body f hfm) (l:=[]) (by simp) (run0 u inp fu)).1;have hmw:mainW u (run0 u inp fu)=zIa (evN u (run0 u inp fu).fuel) f [] (run0 u inp fu):=by unfold mainW;rw[hf']
  rw[hmw];generalize zIa (evN u (run0 u inp fu).fuel) f [] (run0 u inp fu)=q at*;have h2:=hmn.fuel;have e2:(run0 u inp fu).fuel=fu.toNat:=rfl;obtain⟨a,S1⟩:=q;simp only at h2;rw[e2]at h2;cases a<;>simp only[zBc]<;>omega
 ·simp
theorem playM_more(u:Unt)(hz:USz u)(inp:List Int)(fu m:Int)(hf:0<=fu)(hm:0<=m)(hs:fu+m<=1000000000):
  ((zTa u inp fu).status=0->(zTa u inp fu).fuel=0/\(∃x,(zTa u inp (fu+m)).out=(zTa u inp fu).out++x)/\(zTa u inp fu).cost<=(zTa u inp (fu+m)).cost)∧
  ((zTa u inp fu).status≠0->zTa u inp (fu+m)={zTa u inp fu with fuel:=(zTa u inp fu).fuel+m.toNat}):=by
 unfold zTa;split
 ·rename_i h0;have hU:=checkM_ok hz h0;obtain⟨f,hf',hfm,hp',hfp⟩:=hU.main;have e1:(run0 u inp fu).fuel=fu.toNat:=rfl;have e2:(run0 u inp (fu+m)).fuel=fu.toNat+m.toNat:=by show(fu+m).toNat=_;omega
  have e3:run0 u inp (fu+m)=plus m.toNat (run0 u inp fu):=by
   simp only[run0,plus,RS.mk.injEq,true_and];omega
  have hlow:Low (plus m.toNat (run0 u inp fu)):=⟨ysa _,by simp only[plus,run0];omega⟩
  have hc:=callW_M (evN_M hU m.toNat fu.toNat) (evN_ok hU _) (evN_G u _) (evN_G u _) (hU.body f hfm).2 (l:=[]) (by simp) (run0 u inp fu) (by rw[e1];omega) hlow;have hmw:mainW u (run0 u inp fu)=zIa (evN u fu.toNat) f [] (run0 u inp fu):=by unfold mainW;rw[hf',e1]
  have hmw2:mainW u (run0 u inp (fu+m))=zIa (evN u (fu.toNat+m.toNat)) f [] (plus m.toNat (run0 u inp fu)):=by unfold mainW;rw[hf',e2,e3]
  rw[hmw,hmw2];generalize zIa (evN u fu.toNat) f [] (run0 u inp fu)=q at*;generalize zIa (evN u (fu.toNat+m.toNat)) f [] (plus m.toNat (run0 u inp fu))=q' at*;obtain⟨a,S1⟩:=q;obtain⟨a',S1'⟩:=q';by_cases ha:a= .stop 0
  ·subst ha;obtain⟨g1,⟨g2,g3⟩,g4⟩:=hc.go rfl;refine⟨fun _=>⟨g1,?_,?_⟩,fun e=>absurd rfl e⟩
   ·cases a'<;>exact g2
   ·cases a'<;>exact g3
  ·have hsame:=hc.same ha;cases hsame;cases a with
   |stop k=>
    refine⟨fun e=>?_,fun _=>rfl⟩;simp only[zBc]at e;subst e;exact absurd rfl ha
   |ok n=>
    refine⟨fun e=>?_,fun _=>rfl⟩;simp[zBc]at e
 ·exact⟨fun _=>⟨rfl,⟨[],rfl⟩,ysa _⟩,fun e=>absurd rfl e⟩
theorem follows_spec(a b:Rn)(hs:a.status=0)(x:List Int)(hx:b.out=a.out++x)(hb:b.out.length<1099511627776):zh E 20 [encRn a,encRn b] []=some (.ret (.bool true),[]):=by
 have hl:a.out.length<=b.out.length:=by rw[hx];simp
 have ho:=sameOut_spec a.out a.out (by omega) (by omega);have ht:(b.out.map (PV.int .i64)).take a.out.length=a.out.map (PV.int .i64):=by rw[<-List.map_take,hx];simp
 have e:outSame a.out a.out=true:=by simp[outSame]
 have hl':((a.out.length:Int)<=b.out.length)=True:=eqp (by omega);have hl2:(a.out.length<=b.out.length)=True:=eqp hl;rw[e]at ho;simp[ints]at ho;refine zc rfl rfl rfl (by simp[encRn]) ?_;clear hx hb hl;simp[*,F20,encRn,ints]
theorem playMore_spec(L:List UInt8)(inp:List Int)(fu m:Int)(hL:L.length<=9223372036854775807)(hi:inp.length<=9223372036854775807)(hf:0<=fu/\fu<=255)(hm:0<=m/\m<=255):
  zh E 6 [u8s L,ints inp,.int .u8 fu,.int .u8 m] []=some (.ret (.bool true),[]):=by
 refine zc rfl rfl rfl (by simp[u8s]) ?_;have ha:=awake10_spec;have hmd:=made_spec L hL;have hz:=madeM_sz L;have hin:=ins_spec inp hi;have h1:zM .i64 fu=fu:=zj (by omega) (by omega);have h2:zM .i64 m=m:=zj (by omega) (by omega);have h3:zM .i64 (fu+m)=fu+m:=zj (by omega) (by omega);have hp:=zbb (zXb L) hz (inp.take 10) fu (by omega);have hq:=zbb (zXb L) hz (inp.take 10) (fu+m) (by omega);have hob:=playM_out (zXb L) (inp.take 10) (fu+m) (by omega) hz;have hfu:=playM_fuel (zXb L) (inp.take 10) fu hz;obtain⟨hmo,hms⟩:=playM_more (zXb L) hz (inp.take 10) fu m hf.1 hm.1 (by omega);generalize zTa (zXb L) (inp.take 10) fu=A at*;generalize zTa (zXb L) (inp.take 10) (fu+m)=B at*;by_cases hst:A.status=0
 ·obtain⟨g1,⟨x,g2⟩,g3⟩:=hmo hst;have hfo:=follows_spec A B hst x g2 hob;have hst':(A.status=0)=True:=eqp hst;have g3':(A.cost<=B.cost)=True:=eqp g3;generalize zXb L=u at*;generalize inp.take 10=z at*;clear hz hf hm hi hL hmo hms hob hst g2 g3 hfu;simp[zE,ints,u8s,encRn,g1]at hmd hin hp hq hfo;simp[*,F6,u8s,ints]
 ·have hB:=hms hst;have hs:=sameR_spec B B hob hob;rw[sameRn_self]at hs;have hst':(A.status=0)=False:=eqn hst;have hff:zM .i64 ((A.fuel:Int)+m)=(A.fuel:Int)+m:=zj (by omega) (by omega);have hmn:(m.toNat:Int)=m:=by omega
  generalize zXb L=u at*;generalize inp.take 10=z at*;subst hB;clear hz hf hm hi hL hmo hms hob hst hfu;simp[zE,ints,u8s,encRn,hmn]at hmd hin hp hq hs;simp[*,F6,u8s,ints]
theorem playReads_spec(L:List UInt8)(inp more:List Int)(fu:Int)(hL:L.length<=9223372036854775807)(hi:inp.length<=9223372036854775807)(hi2:more.length<=9223372036854775807)(hf:0<=fu/\fu<=255):
  zh E 7 [u8s L,ints inp,ints more,.int .u8 fu] []=some (.ret (.bool true),[]):=by
 refine zc rfl rfl rfl (by simp[u8s]) ?_;have ha:=awake10_spec;have hmd:=made_spec L hL;have hz:=madeM_sz L;have hin:=ins_spec inp hi;have hin2:=ins_spec more hi2;have h1:zM .i64 fu=fu:=zj (by omega) (by omega);have hp:=zbb (zXb L) hz (inp.take 10) fu (by omega);have hq:=zbb (zXb L) hz (inp.take 10++more.take 10) fu (by omega);have hoa:=playM_out (zXb L) (inp.take 10) fu (by omega) hz;have hrd:=playM_reads (zXb L) (inp.take 10) (more.take 10) fu;have l1:(inp.take 10).length<=10:=by simp;omega
 have l2:(more.take 10).length<=10:=by simp;omega
 generalize zTa (zXb L) (inp.take 10) fu=A at*;generalize zTa (zXb L) (inp.take 10++more.take 10) fu=B at*;generalize zXb L=u at*;generalize inp.take 10=z at*;generalize more.take 10=y at*;have q1:z.length*8<=zq:=by simp only[zq];omega
 have q2:(z.length+y.length)*8<=zq:=by simp only[zq];omega
 by_cases hst:A.status=4
 ·have hst':(A.status=4)=True:=eqp hst;clear hz hf hi hi2 hL hrd hoa hst l1 l2;simp[zE,ints,u8s,encRn]at hmd hin hin2 hp hq;simp[*,F7,u8s,ints]
 ·have hB:=hrd hst;subst hB;have hs:=sameR_spec _ _ hoa hoa;rw[sameRn_self]at hs;have hst':(B.status=4)=False:=eqn hst;clear hz hf hi hi2 hL hrd hoa hst l1 l2;simp[zE,ints,u8s,encRn]at hmd hin hin2 hp hq hs;simp[*,F7,u8s,ints]
end PE.U

namespace PE
open Go Go.RowKit
def Kept(w w':World):Prop:=w.keptBut w' (fun _=>False)/\∀k,k<w.heap.size->w'.heap[k]? =w.heap[k]?
theorem Kept.frame{w w':World}(h:Kept w w')(X:MemPlace->Prop):w.keptBut w' X:=World.keptBut_mono (fun p hp=>hp.elim) h.1
theorem kept_of_ext{w w':World}{G':Gh}{st':zb}(h:Ext (gh0 w) [] w G' st' w'):Kept w w':=
 ⟨by
  refine⟨h.os,h.output,fun i hi=>?_⟩;have hb:=(h.prot i (by simp[gh0,hi])).2.2;rw[hb];cases w.heap[i]? with
  |none=>rfl
  |some o=>cases o<;>first|exact⟨rfl,rfl,rfl,fun _ _=>rfl⟩|exact .inr ⟨rfl,rfl⟩|rfl,fun k hk=>(h.prot k (by simp[gh0,hk])).2.2⟩
theorem Kept.same{W w':World}(h:Kept W w'){p:MemPlace}(hp:p.block<W.heap.size):W.sameAt w' p:=by
 cases p with
 |cell b o=>exact World.cell?_of_block (w:=W) (h.2 b hp)
 |map b=>exact h.2 b hp
theorem Kept.trod{H:Type}{enc:TypeId×Value->H}{P:Program}{t:TypeId}(hl:laidOutB P=true)(hr:P.readableRec t=true)(hrow:t<P.types.size){W W':World}{v:Value}{d:DataW H}{ps:List MemPlace}
  (h:DataW.Trod enc P W 0 (fun _=>true) true t v d ps) (hb:Kept W W') (hlt:∀x∈ps,x.block<W.heap.size):
  DataW.Trod enc P W' 0 (fun b=>decide (b<W.heap.size)) true t v d ps:=
 WideElems.Trod_stays hl hr hrow h (fun x hx=>hb.same (hlt x hx)) (fun x hx=>by simpa using hlt x hx)
theorem walk_kept{P:Program}{T:Tabs}{E:Env}(hE:EnvOk P T E){f:Nat}{args:List PV}{margs:Array Value}{w:World}{st':zb}(hT:T.In (gh0 w) w)
  (h:zh E f args []=some (.ret (.bool true),st')) (hsz:margs.size=args.length)
  (hv:∀(j:Nat) c x,args[j]? =some c->margs[j]? =some x->VR ((gh0 w).im w) (fun _=>none) c x):
  Calls P f margs w fun e w'=>e= .returned (.bool true)/\Kept w w':=by
 obtain⟨n,hn⟩:=zSb.1 h;have hloc:zd (gh0 w).lc []=fun _=>none:=by funext l;simp[zd]
 refine((callF_good hE n _ _ _ _ _ hn (gh0 w) w margs rfl hT (gh0_sim w) hsz (by rw[hloc];exact hv)).2).mono ?_;intro e w' he;cases e with
 |returned mv=>
  obtain⟨G',q1,q2,q3⟩:=he;exact⟨by rw[VR.bool_inv q3],kept_of_ext q2⟩
 |panicked ch=>exact he.elim
 |outgrown=>exact he.elim
def IsRow(k:IntKind)(w:World)(a:Option Addr)(len cap:Nat)(zs:List Int):Prop:=
 (a=none/\len=0/\cap=0/\zs=[])∨
 ∃x,a=some x/\len<=cap/\cap<=maxLen/\zs.length=cap/\(∀i,i<zs.length->w.cell? (x.add i)=some (.int k (zs.getD i 0)))/\∀n∈zs,(Lit.int k n).wf=true
theorem row_vr{k:IntKind}{w:World}{a:Option Addr}{len cap:Nat}{zs:List Int}(h:IsRow k w a len cap zs):VR ((gh0 w).im w) (fun _=>none) (.slice .plain 1 ((zs.take len).map (PV.int k))) (.slice a len cap):=by
 rcases h with⟨rfl,rfl,rfl,rfl⟩|⟨x,rfl,hl,hm,hz,hcell,hwz⟩
 ·exact .slice0 _ _ _ _ (by simp) (by simp)
 ·by_cases h0:len=0
  ·subst h0;exact .slice0 _ _ _ _ (by simp) (by simp)
  ·obtain⟨b,off,spot⟩:=x;have hc:=hcell 0 (by omega);have hspot:spot=none:=by simpa[Addr.add]using World.cell?_spot hc
   subst hspot;have hlen:((zs.take len).map (PV.int k)).length=len:=by simp;omega
   have hget:∀(i:Nat) e,((zs.take len).map (PV.int k))[i]? =some e->i<len/\e= .int k (zs.getD i 0):=by
    intro i e he;rw[yk,yc]at he;obtain⟨n,hn,rfl⟩:=he;rw[yx]at hn;split at hn
    ·rename_i hi;refine⟨hi,?_⟩;rw[List.getD_eq_getElem?_getD,hn];rfl
    ·cases hn
   have:=VR.slice (I:=(gh0 w).im w) (L:=fun _=>none) (k:= .plain) (sz:=1) (l:=(zs.take len).map (PV.int k)) (b:=b) (o:=off) (cap:=cap)
    (by simp) (by simp) (by rw[hlen];exact hl) (fun i _=> .int k (zs.getD i 0)) ?_ ?_ ?_
   ·rw[hlen]at this;exact this
   ·intro i e he;obtain⟨_,rfl⟩:=hget i e he;exact⟨rfl,rfl⟩
   ·intro i e j c he hc;obtain⟨hi,rfl⟩:=hget i e he;cases j with
    |zero=>
     refine⟨gh0_im ?_,rfl⟩;have:=hcell i (by omega);have e:(⟨b,off,none⟩:Addr).add i=⟨b,off+i*1+0,none⟩:=by
      unfold Addr.add;by_cases hi0:i=0<;>simp[hi0]
     rw[<-e];exact this
    |succ j=>simp[cellsOf]at hc
   ·intro i e j c he hc;obtain⟨hi,rfl⟩:=hget i e he;cases j with
    |zero=>simp[cellsOf]at hc;subst hc;exact .int _ _
    |succ j=>simp[cellsOf]at hc
theorem row_len{k:IntKind}{w:World}{a:Option Addr}{len cap:Nat}{zs:List Int}(h:IsRow k w a len cap zs):(zs.take len).length<=maxLen:=by
 rcases h with⟨rfl,rfl,rfl,rfl⟩|⟨x,rfl,hl,hm,hz,hcell,hwz⟩
 ·simp
 ·rw[List.length_take];omega
def bytesOf(zs:List Int):List UInt8:=zs.map fun n=>yra n.toNat
theorem row_u8{w:World}{a:Option Addr}{len cap:Nat}{zs:List Int}(h:IsRow .u8 w a len cap zs):VR ((gh0 w).im w) (fun _=>none) (.slice .plain 1 ((bytesOf (zs.take len)).map fun b=> .int .u8 b.toNat)) (.slice a len cap):=by
 have hv:=row_vr h;have:(bytesOf (zs.take len)).map (fun b=>PV.int .u8 b.toNat)=(zs.take len).map (PV.int .u8):=by
  unfold bytesOf;rw[List.map_map];apply List.map_congr_left;intro n hn;have hwf:(Lit.int .u8 n).wf=true:=by
   rcases h with⟨rfl,rfl,rfl,rfl⟩|⟨x,rfl,hl,hm,hz,hcell,hwz⟩
   ·simp at hn
   ·exact hwz n (List.mem_of_mem_take hn)
  have hb:0<=n/\n<=255:=by
   simp only[Lit.wf,ya,decide_eq_true_eq]at hwf;exact hwf
  simp only[Function.comp_apply,PV.int.injEq,true_and];have:(yra n.toNat).toNat=n.toNat:=by
   rw[UInt8.toNat_ofNat'];omega
  omega
 rw[this];exact hv
theorem bytes_len{w:World}{a:Option Addr}{len cap:Nat}{zs:List Int}(h:IsRow .u8 w a len cap zs):(bytesOf (zs.take len)).length<=maxLen:=by
 unfold bytesOf;rw[yY];exact row_len h
theorem str_vr(I:Im)(L:Loc){b:ByteArray}:VR I L (.str b.data.toList) (.string b):=VR.str b.data.toList
theorem str_len{b:ByteArray}(h:b.size<=maxLen):b.data.toList.length<=maxLen:=by
 rw[Array.length_toList];exact h
theorem maxLen_eq:maxLen=9223372036854775807:=by decide
def packT(P:Program)(e:TypeId)(l:List PV):PV:=match P.underlying e with
 |some (.struct _)=> .agg l
 |_=>l.headD .undef
def CellsT(P:Program):Nat->TypeId->List PV->Prop
 |0,_,_=>False
 |n+1,t,l=>match P.underlying t with
  |some (.int k)=>∃z,l=[.int k z]/\(Lit.int k z).wf=true
  |some .bool=>∃b,l=[.bool b]
  |some .string=>∃s:List UInt8,l=[.str s]/\s.length<=maxLen
  |some (.struct fs)=>l.length=P.cellsOf t/\∀f∈fs.toList,CellsT P n f.type ((l.drop f.offset).take (P.cellsOf f.type))
  |some (.slice e)=>∃es:List (List PV),l=[.slice .plain (P.cellsOf e) (es.map (packT P e))]/\es.length<=maxLen/\∀c∈es,CellsT P n e c
  |_=>False
def layB(P:Program):List Field->Nat->Nat->Bool
 | [],o,total=>o==total
 |f::r,o,total=>f.offset==o&&layB P r (o+P.cellsOf f.type) total
def plainB(P:Program)(S:List TypeId):Bool:=S.all fun t=>match P.underlying t with
 |some (.int _)=>P.cellsOf t==1
 |some .bool=>P.cellsOf t==1
 |some .string=>P.cellsOf t==1
 |some (.struct fs)=>fs.toList.all (fun f=>S.contains f.type)&&layB P fs.toList 0 (P.cellsOf t)
 |some (.slice e)=>S.contains e&&decide (0<P.cellsOf e)&&(P.cellsOf t==1)
 |_=>false
def R1(w:World)(c:PV)(v:Value):Prop:=VR ((gh0 w).im w) (fun _=>none) c v/\zmc c=true/\v.oneCell'=true
def Rs(w:World)(l:List PV)(cs:List Value):Prop:=l.length=cs.length/\∀(j:Nat) c v,l[j]? =some c->cs[j]? =some v->R1 w c v
theorem Rs.one{w:World}{c:PV}{v:Value}(h:R1 w c v):Rs w [c] [v]:=by
 refine⟨rfl,fun j c' v' hc hv=>?_⟩;cases j with
 |zero=>cases hc;cases hv;exact h
 |succ j=>simp at hc
theorem Rs.append{w:World}{l l':List PV}{cs cs':List Value}(h:Rs w l cs)(h':Rs w l' cs'):Rs w (l++l') (cs++cs'):=by
 refine⟨by simp[h.1,h'.1],fun j c v hc hv=>?_⟩;by_cases hj:j<l.length
 ·rw[yj hj]at hc;rw[yj (by rw[<-h.1];exact hj)]at hv;exact h.2 j c v hc hv
 ·rw[yp (by omega)]at hc;rw[yp (by rw[<-h.1];omega)]at hv;rw[<-h.1]at hv;exact h'.2 _ c v hc hv
theorem lay_join{P:Program}{w:World}{n:Nat}{cs:List Value}:∀(fs:List Field) (o total:Nat),layB P fs o total=true->total=cs.length→
  (∀f∈fs,∃l,Rs w l ((cs.drop f.offset).take (P.cellsOf f.type))/\CellsT P n f.type l)→
  ∃l,Rs w l (cs.drop o)/\∀f∈fs,o<=f.offset/\CellsT P n f.type ((l.drop (f.offset-o)).take (P.cellsOf f.type)):=by
 intro fs
 induction fs with
 |nil=>
  intro o total hl ht _;simp only[layB,beq_iff_eq]at hl;refine⟨[],⟨?_,fun j c v hc=>by simp at hc⟩,fun f hf=>by simp at hf⟩;simp;omega
 |cons f r ih=>
  intro o total hl ht hf;simp only[layB,ya,beq_iff_eq]at hl;obtain⟨ho,hl⟩:=hl;obtain⟨l1,h1,c1⟩:=hf f (by simp);obtain⟨l2,h2,c2⟩:=ih _ _ hl ht (fun g hg=>hf g (by simp[hg]));have hle:∀(fs:List Field) (o total:Nat),layB P fs o total=true->o<=total:=by
   intro fs
   induction fs with
   |nil=>intro o total h;simp only[layB,beq_iff_eq]at h;omega
   |cons g s ihs=>
    intro o total h;simp only[layB,ya,beq_iff_eq]at h;have:=ihs _ _ h.2;omega
  have hn:=hle _ _ _ hl;have hlen1:l1.length=P.cellsOf f.type:=by
   rw[h1.1,List.length_take,List.length_drop,ho];omega
  refine⟨l1++l2,?_,?_⟩
  ·have:cs.drop o=(cs.drop f.offset).take (P.cellsOf f.type)++cs.drop (o+P.cellsOf f.type):=by
    rw[ho,<-List.drop_drop,List.take_append_drop]
   rw[this];exact h1.append h2
  ·intro g hg;rcases yO.1 hg with rfl|hg
   ·refine⟨by omega,?_⟩;rw[ho,Nat.sub_self,List.drop_zero,List.take_append_of_le_length (by omega),<-hlen1,List.take_length];exact c1
   ·obtain⟨h3,h4⟩:=c2 g hg;refine⟨by omega,?_⟩;have:(l1++l2).drop (g.offset-o)=l2.drop (g.offset-(o+P.cellsOf f.type)):=by
     rw[List.drop_append,List.drop_of_length_le (by omega),List.nil_append];congr 1;omega
    rw[this];exact h4
theorem cells_packed{P:Program}{n:Nat}{e:TypeId}{l:List PV}{w:World}{cs:List Value}(hr:Rs w l cs)(h:CellsT P n e l)(hsz:cs.length=P.cellsOf e):cellsOf (packT P e l)=l/\zp (packT P e l)=true:=by
 cases n with
 |zero=>exact h.elim
 |succ n=>
  unfold CellsT at h;unfold packT;split at h
  ·rename_i hu;rw[hu];obtain⟨z,rfl,_⟩:=h;exact⟨rfl,rfl⟩
  ·rename_i hu;rw[hu];obtain⟨z,rfl⟩:=h;exact⟨rfl,rfl⟩
  ·rename_i hu;rw[hu];obtain⟨z,rfl,_⟩:=h;exact⟨rfl,rfl⟩
  ·rename_i hu;rw[hu];exact⟨rfl,rfl⟩
  ·rename_i hu;rw[hu];obtain⟨z,rfl,_⟩:=h;exact⟨rfl,rfl⟩
  ·exact h.elim
theorem cells?_get{w:World}{a:Addr}{n:Nat}{cs:List Value}(h:w.cells? 0 a n=some cs):cs.length=n/\∀(j:Nat) v,cs[j]? =some v->w.cell? (a.add j)=some v:=by
 unfold World.cells? at h;rw[if_pos (Nat.zero_le _)]at h;have hl:=mapM_some_length h;rw[List.length_range]at hl;refine⟨hl,fun j v hv=>?_⟩;have hj:j<n:=by rw[<-hl];exact(yb.1 hv).1
 have:=mapM_some_get h j j (by rw[List.getElem?_range hj]);rw[this,hv]
theorem add_add(a:Addr)(ha:a.spot=none)(x:Nat):a.add x=⟨a.block,a.off+x,none⟩:=by
 obtain⟨b,o,s⟩:=a;simp only at ha;subst ha;unfold Addr.add;by_cases h:x=0<;>simp[h]
theorem read_cells{P:Program}{S:List TypeId}(hp:plainB P S=true){H:Type}{enc:TypeId×Value->H}{w:World}{sp:Nat->Bool}:∀(n:Nat) (t:TypeId) (cs:List Value) (x:DataW H×List MemPlace),t∈S→
  DataW.trod enc P w 0 sp true n t cs=some x->∃l,Rs w l cs/\CellsT P n t l/\cs.length=P.cellsOf t:=by
 intro n
 induction n with
 |zero=>intro t cs x _ h;simp[DataW.trod]at h
 |succ n ih=>
  intro t cs x ht h;have hp':=yo.1 hp t ht;split at hp'
  ·rename_i k hu;obtain⟨z,rfl,_,hw⟩:=DataW.trod_int hu h;simp only[beq_iff_eq]at hp';exact⟨[.int k z],Rs.one ⟨.int _ _,rfl,rfl⟩,by unfold CellsT;rw[hu];exact⟨z,rfl,hw⟩,by simp[hp']⟩
  ·rename_i hu;obtain⟨z,rfl,_⟩:=DataW.trod_bool hu h;simp only[beq_iff_eq]at hp';exact⟨[.bool z],Rs.one ⟨.bool _,rfl,rfl⟩,by unfold CellsT;rw[hu];exact⟨z,rfl⟩,by simp[hp']⟩
  ·rename_i hu;obtain⟨s,rfl,_,hm⟩:=DataW.trod_string hu h;simp only[beq_iff_eq]at hp';exact⟨[.str s.data.toList],Rs.one ⟨str_vr _ _,rfl,rfl⟩,by unfold CellsT;rw[hu];exact⟨_,rfl,str_len hm⟩,by simp[hp']⟩
  ·rename_i fs hu;simp only[ya,yo,List.contains_iff_mem]at hp';obtain⟨hS,hlay⟩:=hp';obtain⟨xs,m,hm,_,hlen,hxs,hget⟩:=DataW.trod_struct hu h;cases hm;obtain⟨l,hl,hc⟩:=lay_join (w:=w) (n:=n) (cs:=cs) fs.toList 0 _ hlay hlen.symm (by
    intro f hf;obtain⟨i,hi⟩:=List.getElem?_of_mem hf;have hi':fs[i]? =some f:=by simpa using hi
    have hg:=hget i f hi';have hlt:i<xs.length:=by rw[hxs];simpa using(yb.1 hi).1
    rw[ye hlt]at hg;obtain⟨l,h1,h2,_⟩:=ih _ _ _ (hS f hf) hg;exact⟨l,h1,h2⟩)
   rw[List.drop_zero]at hl;refine⟨l,hl,?_,hlen⟩;unfold CellsT;rw[hu];exact⟨by rw[hl.1,hlen],fun f hf=>by have:=(hc f hf).2;rwa[Nat.sub_zero]at this⟩
  ·rename_i e hu;simp only[ya,List.contains_iff_mem,decide_eq_true_eq,beq_iff_eq]at hp';obtain⟨⟨hS,hpos⟩,h1⟩:=hp';rcases DataW.trod_slice hu h with⟨rfl,_⟩|⟨a,len,cap,elems,rest,m,hm,rfl,_,_,hle,hcap,hel,hget,_,_⟩
   ·exact⟨[.slice .plain (P.cellsOf e) []],Rs.one ⟨.slice0 _ _ _ _ (by simp) (by simp),rfl,rfl⟩,by unfold CellsT;rw[hu];exact⟨[],rfl,by simp,by simp⟩,by simp[h1]⟩
   ·cases hm;have key:∀i,i<len->∃l:List PV,l.length=P.cellsOf e/\CellsT P n e l/\cellsOf (packT P e l)=l/\zp (packT P e l)=true/\∀(j:Nat) c,l[j]? =some c->∃v,w.cell? ((a.add (i*P.cellsOf e)).add j)=some v/\R1 w c v:=by
     intro i hi;have hg:=hget i hi;have hlt:i<elems.length:=by omega
     rw[ye hlt,yB]at hg;obtain⟨cs',h2,h3⟩:=hg;obtain⟨l,h4,h5,h6⟩:=ih _ _ _ hS h3;obtain⟨h7,h8⟩:=cells?_get h2;obtain⟨h9,h10⟩:=cells_packed h4 h5 h6;refine⟨l,by rw[h4.1,h6],h5,h9,h10,fun j c hc=>?_⟩;have hj:j<cs'.length:=by rw[<-h4.1];exact(yb.1 hc).1
     exact⟨cs'[j],h8 j _ (ye hj),h4.2 j c _ hc (ye hj)⟩
    let g:Nat->List PV:=fun i=>if hi:i<len then(key i hi).choose else[]
    have hg:∀i,i<len->(g i).length=P.cellsOf e/\CellsT P n e (g i)/\cellsOf (packT P e (g i))=g i/\zp (packT P e (g i))=true/\∀(j:Nat) c,(g i)[j]? =some c->∃v,w.cell? ((a.add (i*P.cellsOf e)).add j)=some v/\R1 w c v:=by
     intro i hi;have:=(key i hi).choose_spec;simp only[g,dif_pos hi];exact this
    have hel':∀(i:Nat) x,(((yU len).map g).map (packT P e))[i]? =some x->i<len/\x=packT P e (g i):=by
     intro i x hx;rw[List.map_map,yk,yc]at hx;obtain⟨k,hk,rfl⟩:=hx;obtain⟨hk1,hk2⟩:=yb.1 hk;rw[List.length_range]at hk1;rw[List.getElem_range]at hk2;subst hk2;exact⟨hk1,rfl⟩
    refine⟨[.slice .plain (P.cellsOf e) (((yU len).map g).map (packT P e))],Rs.one ⟨?_,rfl,rfl⟩,?_,by simp[h1]⟩
    ·by_cases h0:len=0
     ·subst h0;exact .slice0 _ _ _ _ (by simp) (by simp)
     ·obtain⟨q1,q2,q3,q4,q5⟩:=hg 0 (by omega);have hspot:a.spot=none:=by
       have hlt:0<(g 0).length:=by omega
       obtain⟨v,hv,_⟩:=q5 0 _ (ye hlt);have hsp:=World.cell?_spot hv;obtain⟨b,o,s⟩:=a;simpa[Addr.add]using hsp
      obtain⟨b,o,s⟩:=a;simp only at hspot;subst hspot;have hcell:∀(i:Nat) x (j:Nat) c,(((yU len).map g).map (packT P e))[i]? =some x->(cellsOf x)[j]? =some c->∃v,(gh0 w).im w b (o+i*P.cellsOf e+j)=some v/\R1 w c v:=by
       intro i x j c hx hc;obtain⟨hi,rfl⟩:=hel' i x hx;obtain⟨r1,r2,r3,r4,r5⟩:=hg i hi;rw[r3]at hc;obtain⟨v,hv,hr⟩:=r5 j c hc;refine⟨v,gh0_im ?_,hr⟩;rw[add_add ⟨b,o,none⟩ rfl,add_add ⟨b,o+i*P.cellsOf e,none⟩ rfl]at hv;exact hv
      have hlen:(((yU len).map g).map (packT P e)).length=len:=by simp
      have:=VR.slice (I:=(gh0 w).im w) (L:=fun _=>none) (k:= .plain) (sz:=P.cellsOf e) (l:=((yU len).map g).map (packT P e)) (b:=b) (o:=o) (cap:=cap)
       (by simp) (by simp) (by rw[hlen];exact hle) (fun i j=>((gh0 w).im w b (o+i*P.cellsOf e+j)).getD (.bool false)) ?_ ?_ ?_
      ·rw[hlen]at this;exact this
      ·intro i x hx;obtain⟨hi,rfl⟩:=hel' i x hx;obtain⟨r1,r2,r3,r4,r5⟩:=hg i hi;exact⟨by rw[r3,r1],r4⟩
      ·intro i x j c hx hc;obtain⟨v,hv,hr⟩:=hcell i x j c hx hc;simp only[hv,yS];exact⟨trivial,hr.2.2⟩
      ·intro i x j c hx hc;obtain⟨v,hv,hr⟩:=hcell i x j c hx hc;simp only[hv,yS];exact hr.1
    ·unfold CellsT;rw[hu];refine⟨(yU len).map g,rfl,by simp;omega,?_⟩;intro c hc;rw[yua]at hc;obtain⟨i,hi,rfl⟩:=hc;exact(hg i (yia.1 hi)).2.1
  ·cases hp'
theorem packT_struct{P:Program}{e:TypeId}{fs:Array Field}(hu:P.underlying e=some (.struct fs))(l:List PV):packT P e l= .agg l:=by
 unfold packT;rw[hu]
theorem le_max{n:Nat}(h:n<=maxLen):n<=9223372036854775807:=by rw[maxLen_eq]at h;exact h
theorem read_row{P:Program}{S:List TypeId}(hp:plainB P S=true){H:Type}{enc:TypeId×Value->H}{w:World}{sp:Nat->Bool}{t e:TypeId}(hu:P.underlying t=some (.slice e))(ht:t∈S){v:Value}{d:DataW H}{ps:List MemPlace}(h:DataW.Trod enc P w 0 sp true t v d ps){a:Option Addr}{len cap:Nat}(hv:v= .slice a len cap):
  ∃(n:Nat) (es:List (List PV)),VR ((gh0 w).im w) (fun _=>none) (.slice .plain (P.cellsOf e) (es.map (packT P e))) v/\es.length<=maxLen/\∀c∈es,CellsT P n e c:=by
 subst hv;obtain⟨n,hf⟩:=h;obtain⟨l,h1,h2,h3⟩:=read_cells hp n t _ _ ht hf;cases n with
 |zero=>exact h2.elim
 |succ n=>
  unfold CellsT at h2;rw[hu]at h2;obtain⟨es,rfl,hm,hc⟩:=h2;exact⟨n,es,(h1.2 0 _ _ rfl (by simp[Value.cells])).1,hm,hc⟩
end PE
