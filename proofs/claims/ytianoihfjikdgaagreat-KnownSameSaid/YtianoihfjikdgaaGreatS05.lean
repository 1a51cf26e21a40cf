/-
  Texts joined by program: AZE12, AZE13, AZE14, AZE15, AZE16, AZE17, AZE18, AZE19, AZA4, AZA5, AZA6, AZA7, AZA8, PfHand, AZA9, AZB1, AZB2, AZB3, AZB4, AZB5, AZC1, AZE20, AZC2, AZH1, AZH2, AZH3, AZH4, AZH5, AZH6, AZH7, AZC4, AZG1, AZG2, AZG3, AZG4, AZG5, AZG6, AZE21, PfEnd, PfRead.
-/
import Derived.Test.YtianoihfjikdgaaGreatS04
import Derived.WalkKit
import Derived.ProofKit
import Derived.OpenShut
import Derived.ShutString
import Derived.ChangeOld
import Derived.Below
set_option linter.unusedVariables false
set_option linter.unusedSectionVars false
set_option linter.unusedSimpArgs false
open Bool renaming and_eq_false_iff→yba,and_eq_true→ya,false_eq_true→yF,not_eq_true'→yC,or_eq_false_iff→yw,or_eq_true→yy
open Eq renaming trans→yd
open Function renaming comp_def→yH
open List renaming all_eq_true→yh,append_assoc→yfa,append_nil→ywa,concat_eq_append→yca,cons_append→yV,contains_iff_mem→yBa,dropLast_concat→yDa,eq_nil_of_length_eq_zero→yW,eq_nil_or_concat→yU,findIdx?_eq_none_iff→yaa,foldl_cons→yS,getElem?_append_left→yk,getElem?_append_right→yp,getElem?_cons_succ→yP,getElem?_cons_zero→yE,getElem?_eq_getElem→ye,getElem?_eq_some_iff→yb,getElem?_map→yi,getElem?_of_mem→yla,getElem?_set_ne→yv,getElem?_set_self→yn,getElem?_take→yG,getElem?_zip_eq_some→yQ,length_append→yj,length_cons→yX,length_map→yL,length_nil→yZ,map_append→yxa,map_congr_left→yya,map_cons→yO,map_set→yqa,mem_append→yr,mem_cons→yA,mem_cons_of_mem→yda,mem_map→yja,mem_of_getElem?→yx,mem_range→yua,not_mem_nil→yPa,range→yR,range_succ→yMa,replicate→yo,set_append_right→yAa,set_set→yRa
open Nat renaming add_assoc→yza,le_refl→yg,le_trans→ysa,strongRecOn→yna
open Option renaming bind_eq_some_iff→yN,getD_some→yga,map_eq_some_iff→yc,map_some→yK
open UInt8 renaming ofNat→yLa
namespace PE.U
open Go PE
def zza(ty:List Int)(F:zV):Prop:=∀v n,getA F v=some (some n)->at0 ty v=2->n=0\/n=1
theorem one_22(a:Int):one 22 a=0\/one 22 a=1:=by
 unfold one;simp;by_cases h:a=0<;>simp[h]
theorem two_cmp(op a b:Int)(h:12<=op/\op<=17):(two op a b).1=0\/(two op a b).1=1:=by
 have hc:(cmp op a b).2=true:=by
  unfold cmp;rcases(by omega:op=12\/op=13\/op=14\/op=15\/op=16\/op=17)with h|h|h|h|h|h<;>subst h<;>simp
 unfold two;rw[if_pos hc];simp only;split<;>simp
theorem makes_2{op:Int}(h:zQa op=2):op=22\/(12<=op/\op<=17):=by
 unfold zQa at h;split at h
 ·assumption
 ·omega
theorem makes_truth(op:Int):zQa op=if zMd op then 2 else 1:=by
 unfold zQa zMd;by_cases h:op=22\/(12<=op/\op<=17)
 ·rw[if_pos h,if_pos (by simpa using h)]
 ·rw[if_neg h,if_neg (by simpa using h)]
theorem meetK_ok{ty:List Int}{S:KS}(h:zza ty S.1){v:Int}{f:Fact}(hf:∀n,f=some n->at0 ty v=2->n=0\/n=1):zza ty (zkd S v f).1:=by
 have set:∀g:Fact,(∀n,g=some n->at0 ty v=2->n=0\/n=1)->zza ty (setA S.1 v g):=by
  intro g hg w n hw h2;rw[getA_setA]at hw;split at hw
  ·rename_i e;subst e;cases hw;exact hg n rfl h2
  ·exact h w n hw h2
 unfold zkd;split
 ·exact set f hf
 ·split
  ·exact h
  ·split
   ·exact h
   ·exact set none (fun n hn=>by cases hn)
theorem meetsK_ok{ty:List Int}{l fr:List Int}(hp:∀p∈l.zip fr,at0 ty p.1=at0 ty p.2):∀{S:KS},zza ty S.1->zza ty (zsa S l fr).1:=by
 unfold zsa;generalize l.zip fr=z at*
 induction z with
 |nil=>intro S h;exact h
 |cons p r ih=>
  intro S h;rw[yS];refine ih (fun q hq=>hp q (by simp[hq])) ?_;unfold stepK;split
  ·rename_i f hf;refine meetK_ok h (fun n hn h2=>?_);subst hn;exact h _ n hf (by rw[<-hp p (by simp)];exact h2)
  ·exact h
theorem foldl_none_ok{ty:List Int}:∀(us:List Int) (S:KS),zza ty S.1->zza ty (us.foldl (fun S v=>zkd S v none) S).1
 | [],S,h=>h
 |v::r,S,h=>by
  rw[yS];exact foldl_none_ok r _ (meetK_ok (f:=none) h (fun n hn=>by cases hn))
structure HT(ty:List Int)(w:Place)(h:Hd):Prop where
 y:w.inIf=true->inR ty.length h.y/\h.y.map (at0 ty)=w.yield
 x:w.inLoop=true->inR ty.length h.x/\h.x.map (at0 ty)=w.next
 l:w.inLoop=true->inR ty.length h.l/\h.l.map (at0 ty)=w.left
def TyOk(ty:List Int):Prop:=∀v:Int,0<=v->v<ty.length->at0 ty v=1\/at0 ty v=2
theorem pairs_ok{ty seen l args:List Int}(hT:TyOk ty)(hl:inR ty.length l)(h:zx ty seen args (l.map (at0 ty))=true):∀p∈l.zip args,at0 ty p.1=at0 ty p.2:=by
 intro p hp;obtain⟨i,hi⟩:=yla hp;obtain⟨h1,h2⟩:=zip_get (d:=l) (q:=i) (v:=p.1) (t:=p.2) hi;simp only[zx,ya,decide_eq_true_eq,yh]at h;have hm:=h.2 (p.2,at0 ty p.1) (yx (i:=i) (by rw[yQ];exact⟨h2,by rw[yi,h1];rfl⟩));simp only[useR,ya,yy,decide_eq_true_eq]at hm;obtain⟨r0,r1⟩:=hl p.1 (yx h1);have:=hT p.1 r0 r1;rcases hm.2.2.2 with e|e
 ·omega
 ·exact e.symm
theorem zXd{ty l:List Int}(h:inR ty.length l):typesM ty l=l.map (at0 ty):=by
 unfold typesM;rw[if_pos];rw[yh];intro v hv;obtain⟨h0,h1⟩:=h v hv;simp[valM,h0,h1]
theorem setsR_ty{ty:List Int}{Z:Set1}{v t:Int}(h:(zz ty Z [v] [t]).1=true)(ht:t≠0):at0 ty v=t:=by
 unfold zz eqM at h;simp[eqGo,zca]at h;by_cases hc:valM ty v t=true/\atB Z v=false
 ·have:=hc.1;simp only[valM,ya,yy,decide_eq_true_eq]at this;rcases this.2.2 with e|e
  ·exact absurd e ht
  ·exact e
 ·simp[hc]at h
theorem setsR_one{ty:List Int}{Z:Set1}{l:List Int}{t:Int}(h:(zz ty Z l [t]).1=true):∃v,l=[v]:=by
 have:=(zmb h).2
 match l,this with
 | [v],_=>exact⟨v,rfl⟩
theorem zge{l:List Node}{q:Bool×Set1}(h:(zeb l q).1=true):q.1=true:=by
 unfold zeb at h;split at h
 ·assumption
 ·cases h
section
variable {u:Unt} {f:Flow}
mutual
theorem nodeK_ok(hT:TyOk f.types):∀(x:Node) (h:Hd) (S:KS) (seen:List Int) (w:Place) (deep:Int) (Z:Set1),(zJ u f x seen w deep Z).1=true->HT f.types w h->zza f.types S.1->zza f.types (zjd x h S).1.1
 |⟨k,o,n,s,a,us,ps,ks⟩,h,S,seen,w,deep,Z,hr,hh,hF=>by
  rw[zjd];rw[zJ]at hr;split at hr
  ·cases hr
  by_cases h10:k=10
  ·rw[if_pos h10]at hr;rw[if_neg (by omega),if_neg (by omega),if_pos h10];split at hr
   ·obtain⟨e1,e2⟩:=zSc hr;have hou:=(zmb e2).1;refine choiceK_ok hT ks _ _ _ S _ _ _ _ _ e1 ⟨fun _=>⟨hou,?_⟩,hh.x,hh.l⟩ hF;rw[zXd hou]
   ·cases hr
  rw[if_neg h10]at hr;by_cases h11:k=11
  ·rw[if_pos h11]at hr;rw[if_neg (by omega),if_neg (by omega),if_neg h10,if_pos h11];split at hr
   ·rename_i c1;split at hr
    ·rename_i c2;obtain⟨e1,e2⟩:=zSc hr;have hou:=(zmb e2).1;have hpr:=(zmb c2).1;rw[zXd hpr]at c1;refine loopK_ok hT ks _ _ _ _ _ _ e1 ⟨fun h=>(by cases h),fun _=>⟨hpr,?_⟩,fun _=>⟨hou,?_⟩⟩ (meetsK_ok (pairs_ok hT hpr c1) hF)
     ·rw[zXd hpr]
     ·rw[zXd hou]
    ·cases hr
   ·cases hr
  rw[if_neg h11]at hr;unfold zo at hr;dsimp only at hr;by_cases k1:k=1
  ·rw[if_pos k1]at hr;rw[if_pos (.inl k1)];split at hr
   ·obtain⟨v,rfl⟩:=setsR_one hr;have:=setsR_ty hr (by omega);exact meetK_ok hF (fun m _ h2=>by
     have e:at0 [v] 0=v:=rfl;rw[e,this]at h2;omega)
   ·cases hr
  rw[if_neg k1]at hr;by_cases k2:k=2
  ·rw[if_pos k2]at hr;rw[if_pos (.inr k2)];split at hr
   ·rename_i c;exact meetK_ok hF (fun m hm _=>by cases hm;exact c.1)
   ·cases hr
  rw[if_neg k2]at hr;rw[if_neg (by omega)];by_cases k3:k=3
  ·rw[if_pos k3]at hr;rw[if_pos (.inl k3)];split at hr
   ·rename_i c;obtain⟨v,rfl⟩:=setsR_one hr;have hmk:zQa o≠0:=by unfold zQa;split<;>omega
    have:=setsR_ty hr hmk;refine meetK_ok hF (fun m hm h2=>?_);have e:at0 [v] 0=v:=rfl;rw[e,this]at h2;simp only[ya]at c;have ho:o=22:=by
     have h1:=c.1;simp only[isOne,ya,decide_eq_true_eq]at h1;rcases makes_2 h2 with h|h<;>omega
    unfold madeK at hm;split at hm
    ·cases hm
    ·cases hm;rw[ho];exact one_22 _
   ·cases hr
  rw[if_neg k3]at hr;by_cases k4:k=4
  ·rw[if_pos k4]at hr;rw[if_pos (.inr k4)];split at hr
   ·rename_i c;obtain⟨v,rfl⟩:=setsR_one hr;have hmk:zQa o≠0:=by unfold zQa;split<;>omega
    have:=setsR_ty hr hmk;refine meetK_ok hF (fun m hm h2=>?_);have e:at0 [v] 0=v:=rfl;rw[e,this]at h2;have c1:=c.1;simp only[ya]at c1;have ho:12<=o/\o<=17:=by
     have h1:=c1.1;simp only[isTwo,ya,decide_eq_true_eq]at h1;rcases makes_2 h2 with h|h<;>omega
    unfold madeK at hm;split at hm
    ·cases hm
    ·split at hm
     ·cases hm
     ·split at hm
      ·cases hm;exact two_cmp _ _ _ ho
      ·cases hm
   ·cases hr
  rw[if_neg k4]at hr;rw[if_neg (by omega),if_neg h10,if_neg h11];by_cases k12:k=12
  ·subst k12;rw[if_pos rfl];simp at hr;obtain⟨q1,q2⟩:=hh.y hr.1;exact meetsK_ok (pairs_ok hT q1 (by rw[q2];exact hr.2.1)) hF
  rw[if_neg k12];by_cases k13:k=13
  ·subst k13;rw[if_pos rfl];simp at hr;obtain⟨q1,q2⟩:=hh.x hr.1;exact meetsK_ok (pairs_ok hT q1 (by rw[q2];exact hr.2.1)) hF
  rw[if_neg k13];by_cases k14:k=14
  ·subst k14;rw[if_pos rfl];simp at hr;obtain⟨q1,q2⟩:=hh.l hr.1;exact meetsK_ok (pairs_ok hT q1 (by rw[q2];exact hr.2.1)) hF
  rw[if_neg k14];exact foldl_none_ok us S hF
theorem listK_ok(hT:TyOk f.types):∀(l:List Node) (h:Hd) (S:KS) (seen:List Int) (w:Place) (deep:Int) (Z:Set1),(goR u f l seen w deep Z).1=true->HT f.types w h->zza f.types S.1->zza f.types (zsb l h S).1
 | [],h,S,seen,w,deep,Z,hr,hh,hF=>by rw[zsb];exact hF
 |x::r,h,S,seen,w,deep,Z,hr,hh,hF=>by
  rw[goR]at hr;rw[zsb];split at hr
  ·cases hr
  split at hr
  ·rename_i h1;have hn:=nodeK_ok hT x h S seen w deep Z h1 hh hF;split at hr
   ·split
    ·exact listK_ok hT r h _ _ w deep _ hr hh hn
    ·exact hn
   ·cases hr
  ·cases hr
theorem choiceK_ok(hT:TyOk f.types):∀(ks:List (List Node)) (h:Hd) (c:Int×Bool) (b:Bool) (S:KS) (g:Bool) (seen:List Int) (w:Place) (deep:Int) (Z:Set1),(zN u f ks seen w deep Z).1=true->HT f.types w h->zza f.types S.1->zza f.types (zub ks h c b S g).1.1
 | [],h,c,b,S,g,seen,w,deep,Z,hr,hh,hF=>by rw[zub];exact hF
 |l::r,h,c,b,S,g,seen,w,deep,Z,hr,hh,hF=>by
  rw[zN]at hr;rw[zub];split at hr
  ·rename_i h1;have hl:=listK_ok hT l h S seen w deep Z (zge h1) hh hF;by_cases hc:(if b then goes0 c else goes1 c)=true
   ·rw[if_pos hc];exact choiceK_ok hT r h c false _ _ seen w deep _ hr hh hl
   ·rw[if_neg hc];exact choiceK_ok hT r h c false S g seen w deep _ hr hh hF
  ·cases hr
theorem loopK_ok(hT:TyOk f.types):∀(ks:List (List Node)) (h:Hd) (S:KS) (seen:List Int) (w:Place) (deep:Int) (Z:Set1),(zN u f ks seen w deep Z).1=true->HT f.types w h->zza f.types S.1->zza f.types (zye ks h S).1
 | [],h,S,seen,w,deep,Z,hr,hh,hF=>by rw[zye];exact hF
 |l::r,h,S,seen,w,deep,Z,hr,hh,hF=>by
  rw[zN]at hr;rw[zye];split at hr
  ·rename_i h1;exact listK_ok hT l h S seen w deep Z (zge h1) hh hF
  ·cases hr
end
theorem roundsK_ok(hT:TyOk f.types){l:List Node}{seen:List Int}{deep:Int}{Z:Set1}(hr:(goR u f l seen zBa deep Z).1=true):∀(w:Nat) (F:zV),zza f.types F->zza f.types (roundsK l w F)
 |0,F,hF=>hF
 |w+1,F,hF=>by
  have h0:HT f.types zBa hd0:=⟨fun h=>(by cases h),fun h=>(by cases h),fun h=>(by cases h)⟩
  have:=listK_ok hT l hd0 (F,false) seen zBa deep Z hr h0 hF;rw[roundsK];split
  ·exact roundsK_ok hT hr w _ this
  ·exact this
theorem studyM_ok(hT:TyOk f.types){seen:List Int}{deep:Int}{Z:Set1}(hr:(goR u f f.body seen zBa deep Z).1=true):zza f.types (zMc f):=by
 refine roundsK_ok hT hr _ _ ?_;intro v n h;rw[getA_first]at h;split at h
 ·cases h
 ·cases h
end
def sg(T:Tos)(v:Int):Int:=(getA T v).getD v
def ZS(Z' Z:Set1):Prop:=∀v:Int,0<=v->atB Z' v=true->atB Z v=true
theorem ZS.refl(Z:Set1):ZS Z Z:=fun _ _ h=>h
theorem ZS.trans{A B C:Set1}(h:ZS A B)(h':ZS B C):ZS A C:=fun v h0 hv=>h' v h0 (h v h0 hv)
def Agr(Z:Set1)(T T1:Tos):Prop:=∀v:Int,0<=v->atB Z v=true->sg T1 v=sg T v
theorem Agr.refl(Z:Set1)(T:Tos):Agr Z T T:=fun _ _ _=>rfl
theorem Agr.trans{Z Z1:Set1}{T T1 T2:Tos}(h:Agr Z T T1)(hz:ZS Z Z1)(h':Agr Z1 T1 T2):Agr Z T T2:=fun v h0 hv=>(h' v h0 (hz v h0 hv)).trans (h v h0 hv)
def Keys(T:Tos)(Z:Set1):Prop:=∀v,getA T v≠none->0<=v/\atB Z v=true
theorem Keys.mono{T:Tos}{Z Z1:Set1}(h:Keys T Z)(hz:ZS Z Z1):Keys T Z1:=fun v hv=>⟨(h v hv).1,hz v (h v hv).1 (h v hv).2⟩
structure Iv(ty:List Int)(T:Tos)(seen seen':List Int)(Z Z':Set1):Prop where
 sl:∀v∈seen,0<=v/\atB Z v=true
 sub:∀v∈seen,sg T v∈seen'/\0<=sg T v/\sg T v<ty.length/\at0 ty (sg T v)=at0 ty v
 zl:Z.length=ty.length
 zl':Z'.length=ty.length
 zs:ZS Z' Z
 key:Keys T Z
theorem eqGo_facts{ty:List Int}:∀(l:List (Int×Int)) (Z:Set1),Z.length=ty.length->(eqGo (zca ty) Z l).1=true→
  ZS Z (eqGo (zca ty) Z l).2/\(∀p∈l,atB Z p.1=false/\atB (eqGo (zca ty) Z l).2 p.1=true)/\(l.map Prod.fst).Nodup
 | [],Z,hl,h=>⟨ZS.refl Z,fun p hp=>(by cases hp),by simp⟩
 |p::r,Z,hl,h=>by
  simp only[eqGo]at h ⊢;by_cases hc:(zca ty Z p.1 p.2).1=true
  ·rw[if_pos hc]at h ⊢;by_cases hx:(valM ty p.1 p.2&& !atB Z p.1)=true
   ·have e:zca ty Z p.1 p.2=(true,Z.set p.1.toNat true):=if_pos hx;rw[e]at h ⊢;simp only at h ⊢;simp only[ya,yC]at hx;obtain⟨r0,r1⟩:=zna hx.1;have hl2:(Z.set p.1.toNat true).length=ty.length:=by simp[hl]
    obtain⟨h1,h2,h3⟩:=eqGo_facts r _ hl2 h;have z1:ZS Z (Z.set p.1.toNat true):=by
     intro v h0 hv;rw[atB_setI r0 (by rw[hl];exact r1) h0];split
     ·rfl
     ·exact hv
    have hset:atB (Z.set p.1.toNat true) p.1=true:=by rw[atB_setI r0 (by rw[hl];exact r1) r0,if_pos rfl]
    refine⟨z1.trans h1,fun q hq=>?_,?_⟩
    ·rcases yA.1 hq with rfl|hq
     ·exact⟨hx.2,h1 _ r0 hset⟩
     ·obtain⟨g1,g2⟩:=h2 q hq;refine⟨?_,g2⟩;cases hb:atB Z q.1 with
      |false=>rfl
      |true=>
       have hr:=eqGo_rng r _ h q hq;have:=z1 q.1 hr.1 hb;rw[g1]at this;cases this
    ·rw[yO,List.nodup_cons];refine⟨fun hm=>?_,h3⟩;obtain⟨q,hq,he⟩:=yja.1 hm;have:=(h2 q hq).1;rw[he,hset]at this;cases this
   ·rw[zca,if_neg hx]at hc;cases hc
  ·rw[if_neg hc]at h;cases h
theorem setsR_facts{ty:List Int}{Z:Set1}{l want:List Int}(hl:Z.length=ty.length)(h:(zz ty Z l want).1=true):
  ZS Z (zz ty Z l want).2/\(∀v∈l,atB Z v=false/\atB (zz ty Z l want).2 v=true)/\l.Nodup:=by
 unfold zz eqM at h ⊢;split at h
 ·rename_i hlen;rw[if_pos hlen];obtain⟨h1,h2,h3⟩:=eqGo_facts _ _ hl h;rw[zip_fst hlen]at h3;refine⟨h1,fun v hv=>?_,h3⟩;obtain⟨i,hi⟩:=yla hv;have hlt:i<want.length:=by rw[<-hlen];exact(yb.1 hi).1
  exact h2 (v,want[i]) (yx (i:=i) (by rw[yQ];exact⟨hi,ye hlt⟩))
 ·cases h
theorem eqGo_sub{ty:List Int}:∀(l:List (Int×Int)) (Z Z':Set1),Z.length=ty.length->Z'.length=ty.length->ZS Z' Z->(eqGo (zca ty) Z l).1=true→
  (eqGo (zca ty) Z' l).1=true/\ZS (eqGo (zca ty) Z' l).2 (eqGo (zca ty) Z l).2
 | [],Z,Z',hl,hl',hz,h=>⟨rfl,hz⟩
 |p::r,Z,Z',hl,hl',hz,h=>by
  simp only[eqGo]at h ⊢;by_cases hc:(zca ty Z p.1 p.2).1=true
  ·rw[if_pos hc]at h ⊢;by_cases hx:(valM ty p.1 p.2&& !atB Z p.1)=true
   ·have e:zca ty Z p.1 p.2=(true,Z.set p.1.toNat true):=if_pos hx;simp only[ya,yC]at hx;obtain⟨r0,r1⟩:=zna hx.1;have hx':(valM ty p.1 p.2&& !atB Z' p.1)=true:=by
     rw[hx.1];cases hb:atB Z' p.1 with
     |false=>rfl
     |true=>have:=hz p.1 r0 hb;rw[hx.2]at this;cases this
    have e':zca ty Z' p.1 p.2=(true,Z'.set p.1.toNat true):=if_pos hx';rw[e]at h ⊢;rw[e'];simp only[if_true]at h ⊢;refine eqGo_sub r _ _ (by simp[hl]) (by simp[hl']) ?_ h;intro v h0 hv;rw[atB_setI r0 (by rw[hl'];exact r1) h0]at hv;rw[atB_setI r0 (by rw[hl];exact r1) h0];by_cases hpv:p.1=v
    ·rw[if_pos hpv]
    ·rw[if_neg hpv]at hv ⊢;exact hz v h0 hv
   ·rw[zca,if_neg hx]at hc;cases hc
  ·rw[if_neg hc]at h;cases h
theorem setsR_sub{ty:List Int}{Z Z':Set1}{l want:List Int}(hl:Z.length=ty.length)(hl':Z'.length=ty.length)(hz:ZS Z' Z)(h:(zz ty Z l want).1=true):
  (zz ty Z' l want).1=true/\ZS (zz ty Z' l want).2 (zz ty Z l want).2:=by
 unfold zz eqM at h ⊢;split at h
 ·rename_i hlen;rw[if_pos hlen,if_pos hlen];exact eqGo_sub _ _ _ hl hl' hz h
 ·cases h
section
variable {u:Unt} {f:Flow}
theorem zYc{Z:Set1}{l want:List Int}(hl:Z.length=f.types.length)(h:(zz f.types Z l want).1=true):ZS Z (zz f.types Z l want).2:=(setsR_facts hl h).1
theorem simpleR_mono{seen:List Int}{w:Place}{Z:Set1}{x:Node}(hl:Z.length=f.types.length)(h:(zo u f seen w Z x).1=true):ZS Z (zo u f seen w Z x).2:=by
 unfold zo at h ⊢;dsimp only at h ⊢;have A:∀{c:Prop} [Decidable c] {want:List Int},(if c then zz f.types Z x.outs want else(false,Z)).1=true->ZS Z (if c then zz f.types Z x.outs want else(false,Z)).2:=by
  intro c _ want h;split at h
  ·rename_i hc;rw[if_pos hc];exact zYc hl h
  ·cases h
 by_cases k1:x.kind=1
 ·rw[if_pos k1]at h ⊢;exact A h
 rw[if_neg k1]at h ⊢;by_cases k2:x.kind=2
 ·rw[if_pos k2]at h ⊢;exact A h
 rw[if_neg k2]at h ⊢;by_cases k3:x.kind=3
 ·rw[if_pos k3]at h ⊢;exact A h
 rw[if_neg k3]at h ⊢;by_cases k4:x.kind=4
 ·rw[if_pos k4]at h ⊢;exact A h
 rw[if_neg k4]at h ⊢;by_cases k5:x.kind=5
 ·rw[if_pos k5]at h ⊢;exact A h
 rw[if_neg k5]at h ⊢;by_cases k6:x.kind=6
 ·rw[if_pos k6];exact ZS.refl Z
 rw[if_neg k6]at h ⊢;by_cases k7:x.kind=7
 ·rw[if_pos k7]at h ⊢;split at h
  ·rename_i g hg;exact A h
  ·cases h
 rw[if_neg k7]at h ⊢;by_cases k8:x.kind=8
 ·rw[if_pos k8]at h ⊢;exact A h
 rw[if_neg k8]at h ⊢
 repeat(first|exact ZS.refl Z|split)
mutual
theorem nodeR_mono:∀(x:Node) (seen:List Int) (w:Place) (deep:Int) (Z:Set1),Z.length=f.types.length->(zJ u f x seen w deep Z).1=true->ZS Z (zJ u f x seen w deep Z).2/\(zJ u f x seen w deep Z).2.length=f.types.length
 |⟨k,o,n,s,a,us,ps,ks⟩,seen,w,deep,Z,hl,h=>by
  rw[zJ]at h ⊢;split at h
  ·cases h
  rename_i c0;rw[if_neg c0];have fin:∀{q:Bool×Set1},ZS Z q.2->q.2.length=f.types.length->(endR f.types ⟨k,o,n,s,a,us,ps,ks⟩ q).1=true->ZS Z (endR f.types ⟨k,o,n,s,a,us,ps,ks⟩ q).2/\(endR f.types ⟨k,o,n,s,a,us,ps,ks⟩ q).2.length=f.types.length:=by
   intro q h1 h2 h3;refine⟨?_,by rw[endR_len];exact h2⟩;unfold endR at h3 ⊢;split at h3
   ·rename_i hc;rw[if_pos hc];exact h1.trans (zYc h2 h3)
   ·cases h3
  by_cases h10:k=10
  ·rw[if_pos h10]at h ⊢;split at h
   ·rename_i c1;rw[if_pos c1];obtain⟨e1,e2⟩:=zSc h;obtain⟨k1,k2⟩:=zrc ks _ _ _ Z hl e1;exact fin k1 k2 h
   ·cases h
  rw[if_neg h10]at h ⊢;by_cases h11:k=11
  ·rw[if_pos h11]at h ⊢;split at h
   ·rename_i c1;rw[if_pos c1];split at h
    ·rename_i c2;rw[if_pos c2];obtain⟨e1,e2⟩:=zSc h;have m1:=zYc hl c2;obtain⟨k1,k2⟩:=zrc ks _ _ _ _ (by rw[zXb];exact hl) e1;exact fin (m1.trans k1) k2 h
    ·cases h
   ·cases h
  rw[if_neg h11]at h ⊢;exact⟨simpleR_mono hl h,by rw[simpleR_len];exact hl⟩
theorem zrc:∀(ks:List (List Node)) (seen:List Int) (w:Place) (deep:Int) (Z:Set1),Z.length=f.types.length->(zN u f ks seen w deep Z).1=true->ZS Z (zN u f ks seen w deep Z).2/\(zN u f ks seen w deep Z).2.length=f.types.length
 | [],seen,w,deep,Z,hl,h=>by rw[zN];exact⟨ZS.refl Z,hl⟩
 |l::r,seen,w,deep,Z,hl,h=>by
  rw[zN]at h ⊢;split at h
  ·rename_i c;rw[if_pos c];have c':=zge c;obtain⟨h1,h2⟩:=goR_mono l seen w deep Z hl c';have e:(zeb l (goR u f l seen w deep Z)).2=(goR u f l seen w deep Z).2:=by unfold zeb;rw[if_pos c']
   rw[e]at h ⊢;obtain⟨h3,h4⟩:=zrc r seen w deep _ h2 h;exact⟨h1.trans h3,h4⟩
  ·cases h
theorem goR_mono:∀(l:List Node) (seen:List Int) (w:Place) (deep:Int) (Z:Set1),Z.length=f.types.length->(goR u f l seen w deep Z).1=true->ZS Z (goR u f l seen w deep Z).2/\(goR u f l seen w deep Z).2.length=f.types.length
 | [],seen,w,deep,Z,hl,h=>by rw[goR];exact⟨ZS.refl Z,hl⟩
 |x::r,seen,w,deep,Z,hl,h=>by
  rw[goR]at h ⊢;split at h
  ·cases h
  rename_i c0;rw[if_neg c0];split at h
  ·rename_i c1;rw[if_pos c1];obtain⟨h1,h2⟩:=nodeR_mono x seen w deep Z hl c1;split at h
   ·rename_i c2;rw[if_pos c2];obtain⟨h3,h4⟩:=goR_mono r _ w deep _ h2 h;exact⟨h1.trans h3,h4⟩
   ·cases h
  ·cases h
end
theorem Iv.types{T:Tos}{seen seen':List Int}{Z Z':Set1}(h:Iv f.types T seen seen' Z Z'){l want:List Int}(hv:zx f.types seen l want=true):zx f.types seen' (valW T l) want=true:=by
 simp only[zx,ya,decide_eq_true_eq,yh]at hv ⊢;rw[valW_len];refine⟨hv.1,fun p hp=>?_⟩;obtain⟨i,hi⟩:=yla hp;obtain⟨h1,h2⟩:=zip_get (d:=l) (q:=i) (v:=p.1) (t:=p.2) hi;unfold valW at h1;rw[yi,yc]at h1;obtain⟨v,h3,h4⟩:=h1;have:=hv.2 (v,p.2) (yx (i:=i) (by rw[yQ];exact⟨h3,h2⟩));simp only[useR,ya,yy,decide_eq_true_eq,yBa]at this ⊢;have h4:sg T v=p.1:=h4;obtain⟨q1,q2,q3,q4⟩:=h.sub v this.2.2.1;rw[<-h4,q4];exact⟨q2,q3,q1,this.2.2.2⟩
theorem Iv.out{T T1:Tos}{seen seen':List Int}{Z Z' Zk Zk':Set1}{us want:List Int}(h:Iv f.types T seen seen' Z Z')(ha:Agr Z T T1)(hz:ZS Z Zk)(hk:Keys T1 Zk)(hs:ZS Zk' Zk)(hl:Zk.length=f.types.length)(hl':Zk'.length=f.types.length)
  (h1:(zz f.types Zk us want).1=true):(zz f.types Zk' us want).1=true/\Iv f.types T1 (seen++us) (seen'++us) (zz f.types Zk us want).2 (zz f.types Zk' us want).2:=by
 obtain⟨m1,m2,m3⟩:=setsR_facts hl h1;obtain⟨n1,n2⟩:=setsR_sub hl hl' hs h1;have hr:=setsR_rng h1;refine⟨n1,?_,?_,by rw[zXb];exact hl,by rw[zXb];exact hl',n2,hk.mono m1⟩
 ·intro v hv;rcases yr.1 hv with hv|hv
  ·obtain⟨q1,q2⟩:=h.sl v hv;exact⟨q1,m1 v q1 (hz v q1 q2)⟩
  ·exact⟨(hr v hv).1,(m2 v hv).2⟩
 ·intro v hv;rcases yr.1 hv with hv|hv
  ·obtain⟨q1,q2⟩:=h.sl v hv;rw[ha v q1 q2];obtain⟨g1,g2,g3,g4⟩:=h.sub v hv;exact⟨List.mem_append_left _ g1,g2,g3,g4⟩
  ·have hn:getA T1 v=none:=by
    cases hg:getA T1 v with
    |none=>rfl
    |some z=>
     have:=(hk v (by rw[hg];simp)).2;rw[(m2 v hv).1]at this;cases this
   have e:sg T1 v=v:=by unfold sg;rw[hn];rfl
   rw[e];exact⟨List.mem_append_right _ hv,(hr v hv).1,(hr v hv).2,rfl⟩
end
mutual
theorem tidyN_leaves:∀x:Node,x.leaves=false->(zjb x).leaves=false
 |⟨k,o,n,s,a,us,ps,ks⟩,h=>by
  rw[Node.leaves,yw,yba]at h;have hk:=tidyKs_leaves ks;rw[zjb];split<;>(rw[Node.leaves,yw,yba];exact⟨h.1,h.2.imp id hk⟩)
theorem zwd:∀l:List Node,zu l=false->zu (zO l)=false
 | [],h=>rfl
 |x::r,h=>by
  rw[zu,yw]at h;have h1:=tidyN_leaves x h.1;have h2:=zwd r h.2;rw[zO];split
  ·rw[zu,h1];rfl
  ·rw[zu,h1,h2];rfl
theorem tidyKs_leaves:∀l:List (List Node),zua l=false->zua (zSb l)=false
 | [],h=>rfl
 |x::r,h=>by
  rw[zua,yw]at h;rw[zSb,zua,zwd x h.1,tidyKs_leaves r h.2];rfl
end
theorem leavesL_app(a b:List Node):zu (a++b)=(zu a||zu b):=by
 rw[zhb,zhb,zhb,List.any_append]
theorem takenW_leaves{us:List Int}{q:List Node×Tos}(h:zu q.1=false):zu (zbd us q).1=false:=by
 unfold zbd;split
 ·split
  ·rename_i e he hk;rcases yU q.1 with h0|⟨d,z,h0⟩
   ·rw[h0];rfl
   ·rw[h0,yca]at h ⊢;rw[leavesL_app,yw]at h;simp only[yDa];exact h.1
  ·exact h
 ·exact h
mutual
theorem wrN_leaves(F:zV):∀(x:Node) (T:Tos),x.leaves=false->zu (wrN F x T).1=false
 |⟨k,o,n,s,a,us,ps,ks⟩,T,h=>by
  have h0:=h;rw[Node.leaves,yw,yba]at h;have h14:k≠14:=by simpa using h.1
  rw[wrN];split
  ·rename_i c;rw[zu,zu,Bool.or_false,zmd];unfold sumW;split
   ·simp only;split<;>simp
   ·simp only;simp;exact⟨h14,fun e=>by omega⟩
  ·split
   ·rename_i c10;have hk:zua ks=false:=by
     rcases h.2 with h|h
     ·simp[c10]at h
     ·exact h
    split
    ·exact takenW_leaves (wrPick_leaves F ks _ T hk)
    ·rw[zu,zu,Bool.or_false,Node.leaves,yw,yba];exact⟨by simpa using h14,.inr (wrKs_leaves F ks T hk)⟩
   ·rename_i c10;split
    ·rw[zu,zu,Bool.or_false,Node.leaves,yw,yba];exact⟨by simpa using h14,.inl (by simpa using c10)⟩
    ·rw[zu,zu,Bool.or_false,Node.leaves,yw,yba];exact⟨by simpa using h14,.inl (by simpa using c10)⟩
theorem wrGo_leaves(F:zV):∀(l:List Node) (T:Tos),zu l=false->zu (wrGo F l T).1=false
 | [],T,h=>rfl
 |x::r,T,h=>by
  rw[zu,yw]at h;have h1:=wrN_leaves F x T h.1;have h2:=wrGo_leaves F r (wrN F x T).2 h.2;rw[wrGo];split
  ·exact h1
  ·rw[leavesL_app,h1,h2];rfl
theorem wrKs_leaves(F:zV):∀(l:List (List Node)) (T:Tos),zua l=false->zua (wrKs F l T).1=false
 | [],T,h=>rfl
 |x::r,T,h=>by
  rw[zua,yw]at h;rw[wrKs];simp only;rw[zua,zwd _ (wrGo_leaves F x T h.1),wrKs_leaves F r _ h.2];rfl
theorem wrPick_leaves(F:zV):∀(l:List (List Node)) (b:Bool) (T:Tos),zua l=false->zu (zDb F l b T).1=false
 | [],b,T,h=>rfl
 |x::r,b,T,h=>by
  rw[zua,yw]at h;rw[zDb];split
  ·exact zwd _ (wrGo_leaves F x T h.1)
  ·exact wrPick_leaves F r true T h.2
end
section
variable {u:Unt} {f:Flow}
theorem simple_sub{T:Tos}{seen seen':List Int}{w:Place}{Z Z':Set1}(h:Iv f.types T seen seen' Z Z'){x:Node}(hv:(zo u f seen w Z x).1=true):
  ∃want,(zz f.types Z x.outs want).1=true/\zo u f seen w Z x=zz f.types Z x.outs want/\zo u f seen' w Z' {x with args:=valW T x.args}=zz f.types Z' x.outs want:=by
 unfold zo at hv ⊢;dsimp only at hv ⊢;have hn:∀{want:List Int},zx f.types seen x.args want=true->zx f.types seen' (valW T x.args) want=true:=fun hw=>h.types hw
 have B:∀{b b':Bool},b=true->x.outs=[]->b'=true->∃want,(zz f.types Z x.outs want).1=true/\(b,Z)=zz f.types Z x.outs want/\(b',Z')=zz f.types Z' x.outs want:=by
  intro b b' h1 h2 h3;rw[h1,h2,h3];exact⟨[],rfl,rfl,rfl⟩
 by_cases k1:x.kind=1
 ·simp only[if_pos k1]at hv ⊢;split at hv
  ·rename_i hc;rw[if_pos hc,if_pos (hn hc)];exact⟨_,hv,rfl,rfl⟩
  ·cases hv
 simp only[if_neg k1]at hv ⊢;by_cases k2:x.kind=2
 ·simp only[if_pos k2]at hv ⊢;split at hv
  ·rename_i hc;rw[if_pos hc,if_pos ⟨hc.1,hn hc.2⟩];exact⟨_,hv,rfl,rfl⟩
  ·cases hv
 simp only[if_neg k2]at hv ⊢;by_cases k3:x.kind=3
 ·simp only[if_pos k3]at hv ⊢;split at hv
  ·rename_i hc;rw[if_pos hc,if_pos (by simp only[ya]at hc ⊢;exact⟨hc.1,hn hc.2⟩)];exact⟨_,hv,rfl,rfl⟩
  ·cases hv
 simp only[if_neg k3]at hv ⊢;by_cases k4:x.kind=4
 ·simp only[if_pos k4]at hv ⊢;split at hv
  ·rename_i hc;rw[if_pos hc,if_pos (by
    obtain⟨h1,h2⟩:=hc;simp only[ya]at h1 ⊢;refine⟨⟨h1.1,hn h1.2⟩,?_⟩;obtain⟨a,b,ha,_⟩:=typesR_two h1.2;have h3:=h1.2;rw[ha]at h2 h3 ⊢;simp[zx,useR]at h3;have sa:=(h.sub a h3.1.2.2.1).2.2.2;have sb:=(h.sub b h3.2.2.2.1).2.2.2;show at0 f.types (sg T a)=at0 f.types (sg T b)
    rw[sa,sb];exact h2)]
   exact⟨_,hv,rfl,rfl⟩
  ·cases hv
 simp only[if_neg k4]at hv ⊢;by_cases k5:x.kind=5
 ·simp only[if_pos k5]at hv ⊢;split at hv
  ·rename_i hc;rw[if_pos hc,if_pos (by simp only[ya]at hc ⊢;exact⟨hc.1,hn hc.2⟩)];exact⟨_,hv,rfl,rfl⟩
  ·cases hv
 simp only[if_neg k5]at hv ⊢;by_cases k6:x.kind=6
 ·simp only[if_pos k6]at hv ⊢;have hv':=hv;simp only[ya,decide_eq_true_eq]at hv';exact B hv hv'.2.2 (by simp only[ya,decide_eq_true_eq];exact⟨hv'.1,hn hv'.2.1,hv'.2.2⟩)
 simp only[if_neg k6]at hv ⊢;by_cases k7:x.kind=7
 ·simp only[if_pos k7]at hv ⊢;split at hv
  ·rename_i g hg;split at hv
   ·rename_i hc;rw[if_pos hc,if_pos ⟨hc.1,hn hc.2⟩];exact⟨_,hv,rfl,rfl⟩
   ·cases hv
  ·cases hv
 simp only[if_neg k7]at hv ⊢;by_cases k8:x.kind=8
 ·simp only[if_pos k8]at hv ⊢;split at hv
  ·rename_i hc;rw[if_pos hc,if_pos (by rw[hc];rfl)];exact⟨_,hv,rfl,rfl⟩
  ·cases hv
 simp only[if_neg k8]at hv ⊢;by_cases k9:x.kind=9
 ·simp only[if_pos k9]at hv ⊢;have hv':=hv;simp only[ya,decide_eq_true_eq]at hv';exact B hv hv'.2 (by simp only[ya,decide_eq_true_eq];exact⟨hn hv'.1,hv'.2⟩)
 simp only[if_neg k9]at hv ⊢;by_cases k12:x.kind=12
 ·simp only[if_pos k12]at hv ⊢;have hv':=hv;simp only[ya,decide_eq_true_eq]at hv';exact B hv hv'.2.2 (by simp only[ya,decide_eq_true_eq];exact⟨hv'.1,hn hv'.2.1,hv'.2.2⟩)
 simp only[if_neg k12]at hv ⊢;by_cases k13:x.kind=13
 ·simp only[if_pos k13]at hv ⊢;have hv':=hv;simp only[ya,decide_eq_true_eq]at hv';exact B hv hv'.2.2 (by simp only[ya,decide_eq_true_eq];exact⟨hv'.1,hn hv'.2.1,hv'.2.2⟩)
 simp only[if_neg k13]at hv ⊢;by_cases k14:x.kind=14
 ·simp only[if_pos k14]at hv ⊢;have hv':=hv;simp only[ya,decide_eq_true_eq]at hv';exact B hv hv'.2.2 (by simp only[ya,decide_eq_true_eq];exact⟨hv'.1,hn hv'.2.1,hv'.2.2⟩)
 simp only[if_neg k14]at hv ⊢;by_cases k15:x.kind=15
 ·simp only[if_pos k15]at hv ⊢;have hv':=hv;simp only[ya,decide_eq_true_eq]at hv';exact B hv hv'.2 (by simp only[ya,decide_eq_true_eq];exact⟨hn hv'.1,hv'.2⟩)
 simp only[if_neg k15]at hv;cases hv
end
section
variable {u:Unt} {f:Flow}
structure LR(f:Flow)(T T1:Tos)(Z Z1:Set1)(q:Bool×Set1):Prop where
 agr:Agr Z T T1
 ok:q.1=true
 zs:ZS q.2 Z1
 len:q.2.length=f.types.length
 key:Keys T1 Z1
structure NR(u:Unt)(f:Flow)(x:Node)(q:List Node×Tos)(T:Tos)(seen seen':List Int)(w:Place)(deep':Int)(Z Z' Z1:Set1):Prop where
 td:∀y∈q.1,Td y
 op:∀y∈q.1.dropLast,zd y=false
 cl:zd x=true->zL q.1=true
 agr:Agr Z T q.2
 go:zL q.1=false->∃s1 Z1',zse u f q.1 seen' w deep' Z'=some (s1,Z1')/\Iv f.types q.2 (seen++x.outs) s1 Z1 Z1'
 cut:zL q.1=true->LR f T q.2 Z Z1 (goR u f (zO q.1) seen' w deep' Z')
theorem run_one{y:Node}{seen:List Int}{w:Place}{deep:Int}{Z:Set1}(hc:zd y=false)(hn:(zJ u f y seen w deep Z).1=true):zse u f [y] seen w deep Z=some (seen++y.outs,(zJ u f y seen w deep Z).2):=by
 rw[zse,if_pos ⟨hc,hn⟩,zse]
theorem go_one{y:Node}{seen:List Int}{w:Place}{deep:Int}{Z:Set1}(hd:deep<=100)(hc:zd y=true)(hn:(zJ u f y seen w deep Z).1=true):goR u f [y] seen w deep Z=(true,(zJ u f y seen w deep Z).2):=by
 rw[goR,if_neg (by omega),if_pos hn,if_pos (by rw[hc];rfl),goR]
theorem last_one(y:Node):zL [y]=zd y:=rfl
theorem endR_true{ty:List Int}{x:Node}{q:Bool×Set1}(h:(endR ty x q).1=true):endR ty x q=zz ty q.2 x.outs (zha x.outs.length)/\(x.outs=[]\/zd x=false):=by
 unfold endR at h ⊢;split at h
 ·rename_i hc;rw[if_pos hc];refine⟨rfl,?_⟩;simp only[ya,yy,decide_eq_true_eq,yC]at hc;exact hc.2
 ·cases h
theorem simple_closed{seen:List Int}{w:Place}{Z:Set1}{x:Node}(hk:12<=x.kind/\x.kind<=15)(hv:(zo u f seen w Z x).1=true):x.outs=[]:=by
 unfold zo at hv;dsimp only at hv;rw[if_neg (by omega),if_neg (by omega),if_neg (by omega),if_neg (by omega),if_neg (by omega),if_neg (by omega),if_neg (by omega),if_neg (by omega),if_neg (by omega)]at hv;rcases(by omega:x.kind=12\/x.kind=13\/x.kind=14\/x.kind=15)with k|k|k|k<;>simp[k]at hv
 ·exact hv.2.2
 ·exact hv.2.2
 ·exact hv.2.2
 ·exact hv.2
theorem nr_open{x y:Node}{T T1:Tos}{seen seen':List Int}{w:Place}{deep':Int}{Z Z' Z1 Zk Zk':Set1}{want:List Int}(hi:Iv f.types T seen seen' Z Z')(htd:Td y)(hc:zd y=false)(hcl:zd x=true->zd y=true)
  (ha:Agr Z T T1) (hz:ZS Z Zk) (hk:Keys T1 Zk) (hs:ZS Zk' Zk) (hl:Zk.length=f.types.length) (hl':Zk'.length=f.types.length)
  (h1:(zz f.types Zk x.outs want).1=true) (e1:Z1=(zz f.types Zk x.outs want).2) (ho:y.outs=x.outs) (hn:zJ u f y seen' w deep' Z'=zz f.types Zk' x.outs want):
  NR u f x ([y],T1) T seen seen' w deep' Z Z' Z1:=by
 obtain⟨n1,n2⟩:=hi.out ha hz hk hs hl hl' h1;refine⟨?_,?_,?_,ha,?_,?_⟩
 ·intro z hz;simp at hz;rw[hz];exact htd
 ·intro z hz;simp at hz
 ·intro h;rw[last_one];exact hcl h
 ·intro _;refine⟨_,_,run_one hc (by rw[hn];exact n1),?_⟩;rw[hn,ho,e1];exact n2
 ·intro h;rw[last_one,hc]at h;cases h
theorem nr_closed{x y:Node}{T T1:Tos}{seen seen':List Int}{w:Place}{deep':Int}{Z Z' Z1 Zk Zk':Set1}(hd:deep'<=100)(htd:Td y)(hc:zd y=true)
  (ha:Agr Z T T1) (hk:Keys T1 Zk) (hs:ZS Zk' Zk) (hl':Zk'.length=f.types.length) (hz1:ZS Zk Z1)
  (hn:zJ u f {y with outs:=[]} seen' w deep' Z'=(true,Zk')):NR u f x ([y],T1) T seen seen' w deep' Z Z' Z1:=by
 refine⟨?_,?_,?_,ha,?_,?_⟩
 ·intro z hz;simp at hz;rw[hz];exact htd
 ·intro z hz;simp at hz
 ·intro _;rw[last_one];exact hc
 ·intro h;rw[last_one,hc]at h;cases h
 ·intro _;have e:zjb y={y with outs:=[]}:=by rw[tidyN_td htd,if_pos hc]
  have et:zO [y]=[{y with outs:=[]}]:=by rw[zO,e,if_pos (by rw[closed_outs];exact hc)]
  have hg:=go_one (u:=u) (f:=f) (y:={y with outs:=[]}) (seen:=seen') (w:=w) (deep:=deep') (Z:=Z') hd (by rw[closed_outs];exact hc) (by rw[hn]);rw[hn]at hg;show LR f T T1 Z Z1 (goR u f (zO [y]) seen' w deep' Z')
  rw[et,hg];exact⟨ha,rfl,hs.trans hz1,hl',hk.mono hz1⟩
theorem nr_simple{x:Node}{T:Tos}{seen seen':List Int}{w:Place}{deep deep':Int}{Z Z':Set1}(hi:Iv f.types T seen seen' Z Z')(hd:deep'<=100)(h10:x.kind≠10)(h11:x.kind≠11)(hr:(zJ u f x seen w deep Z).1=true):
  NR u f x ([{x with args:=valW T x.args}],T) T seen seen' w deep' Z Z' (zJ u f x seen w deep Z).2:=by
 rw[znb]at hr ⊢;split at hr
 ·cases hr
 rename_i c0;rw[if_neg c0,if_neg h10,if_neg h11];have hb:zea x=true:=by simpa using c0
 have hkids:x.kids=[]:=by
  have:=(bareM_ok hb).1;simp[zDa,h10,h11]at this;exact this
 obtain⟨want,q1,q2,q3⟩:=simple_sub hi hr;have hn:zJ u f {x with args:=valW T x.args} seen' w deep' Z'=zo u f seen' w Z' {x with args:=valW T x.args}:=by
  rw[znb,if_neg (by show¬(!zea {x with args:=valW T x.args})=true;exact c0),if_neg h10,if_neg h11]
 have htd:Td {x with args:=valW T x.args}:=by unfold Td;simp[hkids]
 have hce:=closed_args x (valW T x.args);by_cases hc:zd x=true
 ·have hk:=hc;rw[zZa h10 h11]at hk;simp only[ya,decide_eq_true_eq]at hk;have hou:=simple_closed hk hr;have ey:({({x with args:=valW T x.args}:Node)with outs:=[]}:Node)={x with args:=valW T x.args}:=by
   cases x;simp only at hou;subst hou;rfl
  have hw:want=[]:=by
   have:=(zmb q1).2;rw[hou]at this;simpa using this.symm
  have e1:zz f.types Z x.outs want=(true,Z):=by rw[hou,hw];rfl
  have e2:zz f.types Z' x.outs want=(true,Z'):=by rw[hou,hw];rfl
  rw[q2,e1];refine nr_closed (Zk:=Z) (Zk':=Z') hd htd (by rw[hce];exact hc) (Agr.refl _ _) hi.key hi.zs hi.zl' (ZS.refl _) ?_;rw[ey,hn,q3,e2]
 ·have hc:zd x=false:=by simpa using hc
  rw[q2];exact nr_open (want:=want) hi htd (by rw[hce];exact hc) (fun h=>by rw[hc]at h;cases h) (Agr.refl _ _) (ZS.refl _) hi.key hi.zs hi.zl hi.zl' q1 rfl rfl (by rw[hn,q3])
theorem nr_sum{F:zV}(hF:zza f.types F){x:Node}{T:Tos}{seen seen':List Int}{w:Place}{deep deep':Int}{Z Z':Set1}(hi:Iv f.types T seen seen' Z Z')(hd:deep'<=100)(h34:x.kind=3\/x.kind=4)(hr:(zJ u f x seen w deep Z).1=true):
  NR u f x ([sumW F {x with args:=valW T x.args}],T) T seen seen' w deep' Z Z' (zJ u f x seen w deep Z).2:=by
 unfold sumW;simp only;by_cases hq:(numK F (at0 x.outs 0)).2=true
 ·rw[if_pos hq];rw[znb]at hr ⊢;split at hr
  ·cases hr
  rename_i c0;have g10:x.kind≠10:=by omega
  have g11:x.kind≠11:=by omega
  rw[if_neg c0,if_neg g10,if_neg g11];have hr:(zo u f seen w Z x).1=true:=by simpa[g10,g11]using hr
  have hs:(zz f.types Z x.outs [zQa x.op]).1=true/\zo u f seen w Z x=zz f.types Z x.outs [zQa x.op]:=by
   unfold zo at hr ⊢;dsimp only at hr ⊢;rw[if_neg (by omega),if_neg (by omega)]at hr;rw[if_neg (by omega),if_neg (by omega)];rcases h34 with k|k
   ·rw[if_pos k]at hr ⊢;split at hr
    ·rename_i hc;rw[if_pos hc];exact⟨hr,rfl⟩
    ·cases hr
   ·rw[if_neg (by omega),if_pos k]at hr ⊢;split at hr
    ·rename_i hc;rw[if_pos hc];exact⟨hr,rfl⟩
    ·cases hr
  obtain⟨hs1,hs2⟩:=hs;rw[hs2];have hcx:zd x=false:=by
   rw[zZa (by omega) (by omega)];simp only[yba,decide_eq_false_iff_not];omega
  obtain⟨v,hv⟩:=setsR_one hs1;have hmk:zQa x.op≠0:=by unfold zQa;split<;>omega
  have hty:at0 f.types v=zQa x.op:=by rw[hv]at hs1;exact setsR_ty hs1 hmk
  have hval:zMd x.op=true->(numK F (at0 x.outs 0)).1=0\/(numK F (at0 x.outs 0)).1=1:=by
   intro ht;have e0:at0 x.outs 0=v:=by rw[hv];rfl
   rw[e0]at hq ⊢;unfold numK at hq ⊢;split at hq
   ·rename_i n hn;exact hF v n hn (by rw[hty,makes_truth,if_pos ht])
   ·cases hq
  have hcy:∀k:Int,k=1\/k=2->zd ⟨k,0,(numK F (at0 x.outs 0)).1,[],[],x.outs,[],[]⟩=false:=by
   intro k hk;rw[zZa (by simp only;omega) (by simp only;omega)];simp only[yba,decide_eq_false_iff_not];omega
  refine nr_open (want:=[zQa x.op]) hi (by unfold Td;rfl) (hcy _ (by cases zMd x.op<;>simp)) (fun h=>by rw[hcx]at h;cases h) (Agr.refl _ _) (ZS.refl _) hi.key hi.zs hi.zl hi.zl' hs1 rfl rfl ?_;rw[makes_truth];cases ht:zMd x.op
  ·simp[znb,zea,zDa,zo,zx]
  ·rcases hval ht with e|e<;>simp[znb,zea,zDa,zo,zx,e]
 ·rw[if_neg hq];exact nr_simple hi hd (by omega) (by omega) hr
end
theorem wrKs_len(F:zV):∀(ks:List (List Node)) (T:Tos),(wrKs F ks T).1.length=ks.length
 | [],T=>rfl
 |l::r,T=>by rw[wrKs];simp[wrKs_len F r]
theorem tidy_noy{l:List Node}(h:zK (zO l)=false):∀z∈zO l,z.kind≠12:=by
 have hi:=tidyL_init l;rcases yU (zO l)with he|⟨d,e,he⟩
 ·rw[he];intro z hz;cases hz
 ·rw[he,yca]at h hi ⊢;intro z hz hk;rcases yr.1 hz with hz|hz
  ·have:=hi z (by simpa using hz);rw[closed_12 hk]at this;cases this
  ·simp at hz;subst hz;simp[zK,hk]at h
theorem wrKs_noy(F:zV):∀(ks:List (List Node)) (T:Tos),(∀l∈(wrKs F ks T).1,zK l=false)->∀l∈(wrKs F ks T).1,∀z∈l,z.kind≠12
 | [],T,h=>by intro l hl;cases hl
 |l::r,T,h=>by
  rw[wrKs]at h ⊢;intro l' hl';rcases yA.1 hl' with rfl|hl'
  ·exact tidy_noy (h _ (by simp))
  ·exact wrKs_noy F r _ (fun q hq=>h q (by simp[hq])) l' hl'
theorem wrKs_y{u:Unt}{m:Nat}(F:zV):∀(ks:List (List Node)) (p:Pl) (T:Tos),okK u m p ks->(∀l∈ks,zK l=false)->∀l∈(wrKs F ks T).1,zK l=false
 | [],p,T,hok,h=>by intro l hl;cases hl
 |l::r,p,T,hok,h=>by
  rw[okK]at hok;rw[wrKs];intro l' hl';rcases yA.1 hl' with rfl|hl'
  ·have hw:=(wrGo_wl F l p T hok.1.2 hok.1.1).tidy;cases hy:zK (zO (wrGo F l T).1)with
   |false=>rfl
   |true=>
    rcases yU (zO (wrGo F l T).1)with he|⟨d,e,he⟩
    ·exact absurd he hw.ne
    ·rw[he,yca]at hy hw;simp[zK]at hy;have:=(hw.yl e (by simp) hy).1;rw[h l (by simp)]at this;cases this
  ·exact wrKs_y F r p _ hok.2 (fun q hq=>h q (by simp[hq])) l' hl'
section
variable {u:Unt} {f:Flow}
theorem kidsR_y{w w':Place}{deep:Int}(h1:w'.inLoop=w.inLoop)(h2:w'.next=w.next)(h3:w'.left=w.left):∀(ks:List (List Node)) (seen:List Int) (Z:Set1),(∀l∈ks,∀x∈l,x.kind≠12)->zN u f ks seen w' deep Z=zN u f ks seen w deep Z
 | [],seen,Z,h=>by rw[zN,zN]
 |l::r,seen,Z,h=>by
  rw[zN,zN,goR_y h1 h2 h3 l seen Z (h l (by simp)),kidsR_y h1 h2 h3 r seen _ (fun q hq=>h q (by simp[hq]))]
theorem nr_if{p:Pl}{F:zV}{x:Node}{T:Tos}{seen seen':List Int}{w:Place}{deep deep':Int}{Z Z':Set1}(hok:okN u f.types.length p x)(hi:Iv f.types T seen seen' Z Z')(hd:deep'<=100)(h10:x.kind=10)(hr:(zJ u f x seen w deep Z).1=true)
  (hkids:(zN u f x.kids seen {w with inIf:=true,yield:=typesM f.types x.outs} (deep+1) Z).1=true→
   LR f T (wrKs F x.kids T).2 Z (zN u f x.kids seen {w with inIf:=true,yield:=typesM f.types x.outs} (deep+1) Z).2 (zN u f (wrKs F x.kids T).1 seen' {w with inIf:=true,yield:=typesM f.types x.outs} (deep'+1) Z')):
  NR u f x ([{x with args:=valW T x.args,kids:=(wrKs F x.kids T).1}],(wrKs F x.kids T).2) T seen seen' w deep' Z Z' (zJ u f x seen w deep Z).2:=by
 rw[zGd]at hok;obtain⟨ho,hkk⟩:=hok;have hk2:=(ho.k10 h10).2;rw[znb]at hr ⊢;split at hr
 ·cases hr
 rename_i c0;rw[if_neg c0,if_pos h10];split at hr
 ·rename_i c1;rw[if_pos c1];obtain⟨e1,e2⟩:=zSc hr;obtain⟨e3,e4⟩:=endR_true hr;have hL:=hkids e1;obtain⟨m1,m2⟩:=zrc x.kids seen {w with inIf:=true,yield:=typesM f.types x.outs} (deep+1) Z hi.zl e1;have hlen:=wrKs_len F x.kids T;have htd:Td {x with args:=valW T x.args,kids:=(wrKs F x.kids T).1}:=wrKs_td F x.kids T;have hcx:zd x=x.kids.all fun l=> !zK l:=by unfold zd;rw[if_pos ⟨h10,hk2⟩]
  have hcy:zd {x with args:=valW T x.args,kids:=(wrKs F x.kids T).1}=(wrKs F x.kids T).1.all fun l=> !zK l:=by
   unfold zd;rw[if_pos ⟨h10,by rw[hlen];exact hk2⟩]
  have hcl:zd x=true->zd {x with args:=valW T x.args,kids:=(wrKs F x.kids T).1}=true:=by
   intro h;rw[hcx,yh]at h;rw[hcy,yh];intro l hl;have:=wrKs_y F x.kids _ T hkk (fun q hq=>by simpa using h q hq) l hl;rw[this];rfl
  have hb:∀us:List Int,zea {x with args:=valW T x.args,outs:=us,kids:=(wrKs F x.kids T).1}=true:=by
   intro us;have hb:zea x=true:=by simpa using c0
   unfold zea at hb ⊢;simp only[hlen];exact hb
  have hn:∀us:List Int,zJ u f {x with args:=valW T x.args,outs:=us,kids:=(wrKs F x.kids T).1} seen' w deep' Z'=
    endR f.types {x with args:=valW T x.args,outs:=us,kids:=(wrKs F x.kids T).1} (zN u f (wrKs F x.kids T).1 seen' {w with inIf:=true,yield:=typesM f.types us} (deep'+1) Z'):=by
   intro us;rw[znb,hb us];simp only[Bool.not_true,yF,if_false];rw[if_pos h10,if_pos (hi.types c1)]
  generalize hks:(wrKs F x.kids T).1=ks' at*;generalize(wrKs F x.kids T).2=T1 at*;generalize hZk:(zN u f x.kids seen {w with inIf:=true,yield:=typesM f.types x.outs} (deep+1) Z).2=Zk at*;by_cases hc:zd {x with args:=valW T x.args,kids:=ks'}=true
  ·have hny:∀l∈ks',∀z∈l,z.kind≠12:=by
    rw[hcy,yh]at hc;have:=wrKs_noy F x.kids T (fun l hl=>by rw[hks]at hl;simpa using hc l hl);rw[hks]at this;exact this
   have hz1:ZS Zk (endR f.types x (zN u f x.kids seen {w with inIf:=true,yield:=typesM f.types x.outs} (deep+1) Z)).2:=by
    rw[e3];exact zYc m2 e2
   refine nr_closed (Zk:=Zk) (Zk':=(zN u f ks' seen' {w with inIf:=true,yield:=typesM f.types x.outs} (deep'+1) Z').2) hd htd hc hL.agr hL.key hL.zs hL.len hz1 ?_;have h0:=hn [];have ey:=kidsR_y (u:=u) (f:=f) (w:={w with inIf:=true,yield:=typesM f.types x.outs}) (w':={w with inIf:=true,yield:=typesM f.types []}) (deep:=deep'+1) rfl rfl rfl ks' seen' Z' hny;rw[ey]at h0;have e5:({({x with args:=valW T x.args,kids:=ks'}:Node)with outs:=[]}:Node)={x with args:=valW T x.args,outs:=[],kids:=ks'}:=rfl;rw[e5,h0];unfold endR;rw[if_pos (by rw[hL.ok];rfl)];rfl
  ·have hc:zd {x with args:=valW T x.args,kids:=ks'}=false:=by simpa using hc
   have h0:=hn x.outs;rw[e3];refine nr_open (Zk:=Zk) (Zk':=(zN u f ks' seen' {w with inIf:=true,yield:=typesM f.types x.outs} (deep'+1) Z').2) (want:=zha x.outs.length) hi htd hc hcl hL.agr m1 hL.key hL.zs m2 hL.len e2 rfl rfl ?_;have e5:({x with args:=valW T x.args,kids:=ks'}:Node)={x with args:=valW T x.args,outs:=x.outs,kids:=ks'}:=rfl;rw[e5,h0];unfold endR;rw[if_pos (by rw[hL.ok,<-e5,hc];simp)]
 ·cases hr
theorem nr_loop{p:Pl}{F:zV}{x:Node}{T:Tos}{seen seen':List Int}{w:Place}{deep deep':Int}{Z Z':Set1}(hok:okN u f.types.length p x)(hi:Iv f.types T seen seen' Z Z')(hd:deep'<=100)(h11:x.kind=11)(hr:(zJ u f x seen w deep Z).1=true)
  (hkids:∀Zp Zp',Iv f.types T (seen++x.params) (seen'++x.params) Zp Zp'->(zN u f x.kids (seen++x.params) ⟨false,true,[],typesM f.types x.params,typesM f.types x.outs⟩ (deep+1) Zp).1=true→
   LR f T (wrKs F x.kids T).2 Zp (zN u f x.kids (seen++x.params) ⟨false,true,[],typesM f.types x.params,typesM f.types x.outs⟩ (deep+1) Zp).2 (zN u f (wrKs F x.kids T).1 (seen'++x.params) ⟨false,true,[],typesM f.types x.params,typesM f.types x.outs⟩ (deep'+1) Zp')):
  NR u f x ([{x with args:=valW T x.args,kids:=(wrKs F x.kids T).1}],(wrKs F x.kids T).2) T seen seen' w deep' Z Z' (zJ u f x seen w deep Z).2:=by
 rw[zGd]at hok;obtain⟨ho,hkk⟩:=hok;have hk1:=(ho.k11 h11).2;have h10:x.kind≠10:=by omega
 rw[znb]at hr ⊢;split at hr
 ·cases hr
 rename_i c0;rw[if_neg c0,if_neg h10,if_pos h11];split at hr
 ·rename_i c1;rw[if_pos c1];split at hr
  ·rename_i c2;rw[if_pos c2];obtain⟨e1,e2⟩:=zSc hr;obtain⟨e3,e4⟩:=endR_true hr;obtain⟨s1,s2⟩:=hi.out (Agr.refl _ _) (ZS.refl _) hi.key hi.zs hi.zl hi.zl' c2;have mp:=zYc hi.zl c2;have hL:=hkids _ _ s2 e1;obtain⟨m1,m2⟩:=zrc x.kids (seen++x.params) ⟨false,true,[],typesM f.types x.params,typesM f.types x.outs⟩ (deep+1) _ s2.zl e1;have hlen:=wrKs_len F x.kids T;have htd:Td {x with args:=valW T x.args,kids:=(wrKs F x.kids T).1}:=wrKs_td F x.kids T;have hcx:zd x=x.kids.all fun l=> !zu l:=by
    unfold zd;rw[if_neg (by intro h;exact h10 h.1),if_pos ⟨h11,hk1⟩]
   have hcy:zd {x with args:=valW T x.args,kids:=(wrKs F x.kids T).1}=(wrKs F x.kids T).1.all fun l=> !zu l:=by
    unfold zd;rw[if_neg (by intro h;exact h10 h.1),if_pos ⟨h11,by rw[hlen];exact hk1⟩]
   have hlv:(∀l∈x.kids,zu l=false)->∀l∈(wrKs F x.kids T).1,zu l=false:=by
    intro h l hl;have h1:zua x.kids=false:=by
     rw[leavesK_eq,List.any_eq_false];intro q hq;rw[h q hq];simp
    have h2:=wrKs_leaves F x.kids T h1;rw[leavesK_eq,List.any_eq_false]at h2;simpa using h2 l hl
   have hcl:zd x=true->zd {x with args:=valW T x.args,kids:=(wrKs F x.kids T).1}=true:=by
    intro h;rw[hcx,yh]at h;rw[hcy,yh];intro l hl;rw[hlv (fun q hq=>by simpa using h q hq) l hl];rfl
   have hb:∀us:List Int,zea {x with args:=valW T x.args,outs:=us,kids:=(wrKs F x.kids T).1}=true:=by
    intro us;have hb:zea x=true:=by simpa using c0
    unfold zea at hb ⊢;simp only[hlen];exact hb
   have hn:∀us:List Int,zJ u f {x with args:=valW T x.args,outs:=us,kids:=(wrKs F x.kids T).1} seen' w deep' Z'=
     endR f.types {x with args:=valW T x.args,outs:=us,kids:=(wrKs F x.kids T).1} (zN u f (wrKs F x.kids T).1 (seen'++x.params) ⟨false,true,[],typesM f.types x.params,typesM f.types us⟩ (deep'+1) (zz f.types Z' x.params (zha x.params.length)).2):=by
    intro us;rw[znb,hb us];simp only[Bool.not_true,yF,if_false];rw[if_neg h10,if_pos h11,if_pos (hi.types c1),if_pos s1]
   generalize(wrKs F x.kids T).1=ks' at*;generalize(wrKs F x.kids T).2=T1 at*;generalize hZk:(zN u f x.kids (seen++x.params) ⟨false,true,[],typesM f.types x.params,typesM f.types x.outs⟩ (deep+1) (zz f.types Z x.params (zha x.params.length)).2).2=Zk at*;generalize hZp':(zz f.types Z' x.params (zha x.params.length)).2=Zp' at*;have hagr:Agr Z T T1:=(Agr.refl Z T).trans mp hL.agr;by_cases hc:zd {x with args:=valW T x.args,kids:=ks'}=true
   ·have hnl:zua ks'=false:=by
     rw[hcy,yh]at hc;rw[leavesK_eq,List.any_eq_false];intro q hq;have:=hc q hq;simpa using this
    have hz1:ZS Zk (endR f.types x (zN u f x.kids (seen++x.params) ⟨false,true,[],typesM f.types x.params,typesM f.types x.outs⟩ (deep+1) (zz f.types Z x.params (zha x.params.length)).2)).2:=by
     rw[e3];exact zYc m2 e2
    refine nr_closed (Zk:=Zk) (Zk':=(zN u f ks' (seen'++x.params) ⟨false,true,[],typesM f.types x.params,typesM f.types x.outs⟩ (deep'+1) Zp').2) hd htd hc hagr hL.key hL.zs hL.len hz1 ?_;have h0:=hn [];have ey:=kidsR_l (u:=u) (f:=f) ks' (seen'++x.params) ⟨false,true,[],typesM f.types x.params,typesM f.types x.outs⟩ (typesM f.types []) (deep'+1) Zp' hnl;simp only at ey;rw[ey]at h0;have e5:({({x with args:=valW T x.args,kids:=ks'}:Node)with outs:=[]}:Node)={x with args:=valW T x.args,outs:=[],kids:=ks'}:=rfl;rw[e5,h0];unfold endR;rw[if_pos (by rw[hL.ok];rfl)];rfl
   ·have hc:zd {x with args:=valW T x.args,kids:=ks'}=false:=by simpa using hc
    have h0:=hn x.outs;rw[e3];refine nr_open (Zk:=Zk) (Zk':=(zN u f ks' (seen'++x.params) ⟨false,true,[],typesM f.types x.params,typesM f.types x.outs⟩ (deep'+1) Zp').2) (want:=zha x.outs.length) hi htd hc hcl hagr (mp.trans m1) hL.key hL.zs m2 hL.len e2 rfl rfl ?_;have e5:({x with args:=valW T x.args,kids:=ks'}:Node)={x with args:=valW T x.args,outs:=x.outs,kids:=ks'}:=rfl;rw[e5,h0];unfold endR;rw[if_pos (by rw[hL.ok,<-e5,hc];simp)]
  ·cases hr
 ·cases hr
end
theorem td_tidy{ns:List Node}{z:Node}(h:z∈zO ns):Td z:=by
 obtain⟨y,_,rfl⟩:=tidyL_mem h;unfold Td;rw[tidyN_eq];simp only[List.map_map];exact yya fun l _=>zYd l
theorem getA_setsW:∀(us args:List Int) (T:Tos) (v:Int),v ∉ us->getA (setsW T us args) v=getA T v
 | [],args,T,v,h=>rfl
 |x::us,[],T,v,h=>rfl
 |x::us,a::args,T,v,h=>by
  have e:setsW T (x::us) (a::args)=setsW (setA T x a) us args:=rfl;rw[e,getA_setsW us args _ v (fun hm=>h (by simp[hm])),getA_setA,if_neg (fun e=>h (by simp[e]))]
theorem getA_setsW_at:∀(us args:List Int) (T:Tos) (i:Nat) (v a:Int),us.Nodup->us[i]? =some v->args[i]? =some a->getA (setsW T us args) v=some a
 | [],args,T,i,v,a,hn,h,h'=>by cases h
 |x::us,[],T,i,v,a,hn,h,h'=>by cases h'
 |x::us,b::args,T,i,v,a,hn,h,h'=>by
  have e:setsW T (x::us) (b::args)=setsW (setA T x b) us args:=rfl;rw[List.nodup_cons]at hn;rw[e];cases i with
  |zero=>
   cases h;cases h';rw[getA_setsW us args _ x hn.1,getA_setA,if_pos rfl]
  |succ i=>exact getA_setsW_at us args _ i v a hn.2 (by simpa using h) (by simpa using h')
section
variable {u:Unt} {f:Flow}
theorem runR_mono{w:Place}{deep:Int}:∀(a:List Node) (seen:List Int) (Z:Set1) (s1:List Int) (Z1:Set1),Z.length=f.types.length->zse u f a seen w deep Z=some (s1,Z1)->Z1.length=f.types.length/\(∀v∈seen,v∈s1)/\∀y∈a,zd y=false
 | [],seen,Z,s1,Z1,hl,h=>by
  rw[zse]at h;cases h;exact⟨hl,fun v hv=>hv,fun y hy=>(by cases hy)⟩
 |x::a,seen,Z,s1,Z1,hl,h=>by
  rw[zse]at h;split at h
  ·rename_i hc;obtain⟨m1,m2⟩:=nodeR_mono x seen w deep Z hl hc.2;obtain⟨h1,h2,h3⟩:=runR_mono a _ _ s1 Z1 m2 h;refine⟨h1,fun v hv=>h2 v (List.mem_append_left _ hv),fun y hy=>?_⟩;rcases yA.1 hy with rfl|hy
   ·exact hc.1
   ·exact h3 y hy
  ·cases h
theorem Iv.up{T:Tos}{seen seen':List Int}{Z Z' Zk:Set1}(h:Iv f.types T seen seen' Z Z')(hz:ZS Z Zk)(hl:Zk.length=f.types.length):Iv f.types T seen seen' Zk Z':=
 ⟨fun v hv=>⟨(h.sl v hv).1,hz v (h.sl v hv).1 (h.sl v hv).2⟩,h.sub,hl,h.zl',h.zs.trans hz,h.key.mono hz⟩
theorem Iv.step{T T1:Tos}{seen seen':List Int}{Z Z' Zk Zk':Set1}(h:Iv f.types T seen seen' Z Z')(ha:Agr Z T T1)(hz:ZS Z Zk)(hl:Zk.length=f.types.length)(hs:ZS Zk' Zk)(hl':Zk'.length=f.types.length)(hk:Keys T1 Zk):Iv f.types T1 seen seen' Zk Zk':=by
 refine⟨fun v hv=>⟨(h.sl v hv).1,hz v (h.sl v hv).1 (h.sl v hv).2⟩,fun v hv=>?_,hl,hl',hs,hk⟩;rw[ha v (h.sl v hv).1 (h.sl v hv).2];exact h.sub v hv
theorem nr_taken{p:Pl}(hT:TyOk f.types){F:zV}{x:Node}{T:Tos}{b:Bool}{seen seen':List Int}{w:Place}{deep deep':Int}{Z Z':Set1}(hok:okN u f.types.length p x)(hi:Iv f.types T seen seen' Z Z')(h10:x.kind=10)(hr:(zJ u f x seen w deep Z).1=true)
  (hpick:(zN u f x.kids seen {w with inIf:=true,yield:=typesM f.types x.outs} (deep+1) Z).1=true→
   LR f T (zDb F x.kids b T).2 Z (zN u f x.kids seen {w with inIf:=true,yield:=typesM f.types x.outs} (deep+1) Z).2 (goR u f (zDb F x.kids b T).1 seen' {w with inIf:=true,yield:=typesM f.types x.outs} deep' Z')):
  NR u f x (zbd x.outs (zDb F x.kids b T)) T seen seen' w deep' Z Z' (zJ u f x seen w deep Z).2:=by
 rw[zGd]at hok;obtain⟨ho,hkk⟩:=hok;have hk2:=(ho.k10 h10).2;obtain⟨l,hlm,ns,T1,hq,hwl⟩:=wrPick_wl F x.kids (plIn p x.kind x.outs x.params) b T hkk (by intro h;rw[h]at hk2;simp at hk2) (by intro _ l h;rw[h]at hk2;simp at hk2);rw[znb]at hr ⊢;split at hr
 ·cases hr
 rename_i c0;rw[if_neg c0,if_pos h10];split at hr
 ·rename_i c1;rw[if_pos c1];obtain⟨e1,e2⟩:=zSc hr;obtain⟨e3,e4⟩:=endR_true hr;have hL:=hpick e1;obtain⟨m1,m2⟩:=zrc x.kids seen {w with inIf:=true,yield:=typesM f.types x.outs} (deep+1) Z hi.zl e1;have hcx:zd x=x.kids.all fun l=> !zK l:=by unfold zd;rw[if_pos ⟨h10,hk2⟩]
  rw[hq]at hL ⊢;simp only at hL;rw[e3];generalize(zN u f x.kids seen {w with inIf:=true,yield:=typesM f.types x.outs} (deep+1) Z).2=Zk at*;obtain⟨q1,q2,q3⟩:=setsR_facts m2 e2;have hur:=setsR_rng e2;have hinit:=tidyL_init ns;have htd:=fun z (hz:z∈zO ns)=>td_tidy hz
  rcases yU (zO ns)with he|⟨d,e,he⟩
  ·exact absurd he hwl.ne
  ·have hidem:=zYd ns;rw[yca]at he;rw[he]at hL hwl hinit htd hidem ⊢;rw[yDa]at hinit;have hd12:∀z∈d,z.kind≠12:=by
    intro z hz hk;have:=hinit z hz;rw[closed_12 hk]at this;cases this
   obtain⟨sd,Zd,g1,g2,g3,g4,g5⟩:=goR_split d e seen' Z' hL.ok;obtain⟨r1,r2,r3⟩:=runR_mono d seen' Z' sd Zd hi.zl' g1;unfold zbd;simp only[List.getLast?_concat,yDa];by_cases hke:e.kind=12
   ·rw[if_pos hke];have hy:zx f.types sd e.args (typesM f.types x.outs)=true/\(zJ u f e sd {w with inIf:=true,yield:=typesM f.types x.outs} deep' Zd).2=Zd:=by
     rw[znb]at g2 ⊢;split at g2
     ·cases g2
     rename_i d0;rw[if_neg d0,if_neg (by omega),if_neg (by omega)];have g2:(zo u f sd {w with inIf:=true,yield:=typesM f.types x.outs} Zd e).1=true:=by simpa[hke]using g2
     unfold zo at g2 ⊢;simp[hke]at g2 ⊢;exact g2.1
    rw[hy.2]at g4;have hzd:ZS Zd Zk:=by have:=hL.zs;rw[g4]at this;exact this
    have hty:=hy.1;have hur':inR f.types.length x.outs:=hur;rw[zXd hur']at hty;have hal:e.args.length=x.outs.length:=by
     have:=(zxa hty).2;simpa using this
    have hnew:∀v:Int,0<=v->atB Zk v=true->v ∉ x.outs:=by
     intro v _ hv hm;have:=(q2 v hm).1;rw[hv]at this;cases this
    have hagr:Agr Z T (setsW T1 x.outs e.args):=by
     intro v v0 hv;have:sg (setsW T1 x.outs e.args) v=sg T1 v:=by
      unfold sg;rw[getA_setsW _ _ _ _ (hnew v v0 (m1 v v0 hv))]
     rw[this];exact hL.agr v v0 hv
    have hlc:zL d=false:=by
     rcases yU d with h|⟨d',z,h⟩
     ·rw[h];rfl
     ·rw[h,yca];have:=r3 z (by rw[h];simp);simp[zL,this]
    refine⟨fun y hy=>htd y (by simp[hy]),fun y hy=>r3 y (List.dropLast_subset d hy),?_,hagr,?_,?_⟩
    ·intro hcl;rw[hcx,yh]at hcl;have h1:=hcl l hlm;have h2:=(hwl.yl e (by simp) hke).1;rw[h2]at h1;cases h1
    ·intro _;refine⟨sd,Zd,?_,?_⟩
     ·have:=runR_y (u:=u) (f:=f) (w:={w with inIf:=true,yield:=typesM f.types x.outs}) (w':=w) (deep:=deep') rfl rfl rfl d seen' Z' hd12;rw[this];exact g1
     ·refine⟨?_,?_,by rw[zXb];exact m2,r1,hzd.trans q1,?_⟩
      ·intro v hv;rcases yr.1 hv with hv|hv
       ·obtain⟨s1,s2⟩:=hi.sl v hv;exact⟨s1,q1 v s1 (m1 v s1 s2)⟩
       ·exact⟨(hur v hv).1,(q2 v hv).2⟩
      ·intro v hv;rcases yr.1 hv with hv|hv
       ·obtain⟨s1,s2⟩:=hi.sl v hv;rw[hagr v s1 s2];obtain⟨t1,t2,t3,t4⟩:=hi.sub v hv;exact⟨r2 _ t1,t2,t3,t4⟩
       ·obtain⟨i,hi'⟩:=yla hv;have hlt:i<e.args.length:=by rw[hal];exact(yb.1 hi').1
        have ha:=ye hlt;have hg:=getA_setsW_at x.outs e.args T1 i v _ q3 hi' ha;have hs:sg (setsW T1 x.outs e.args) v=e.args[i]:=by unfold sg;rw[hg];rfl
        rw[hs];simp only[zx,ya,decide_eq_true_eq,yh]at hty;have hm:=hty.2 (e.args[i],at0 f.types v) (yx (i:=i) (by rw[yQ];exact⟨ha,by rw[yi,hi'];rfl⟩));simp only[useR,ya,yy,decide_eq_true_eq,yBa]at hm;obtain⟨z1,z2⟩:=hur v hv;have:=hT v z1 z2;refine⟨hm.2.2.1,hm.1,hm.2.1,?_⟩;rcases hm.2.2.2 with h|h
        ·omega
        ·exact h
      ·intro v hv;by_cases hm:v∈x.outs
       ·exact⟨(hur v hm).1,(q2 v hm).2⟩
       ·rw[getA_setsW _ _ _ _ hm]at hv;obtain⟨k1,k2⟩:=hL.key v hv;exact⟨k1,q1 v k1 k2⟩
    ·intro h;rw[hlc]at h;cases h
   ·rw[if_neg hke];have hall:∀z∈d++[e],z.kind≠12:=by
     intro z hz;rcases yr.1 hz with hz|hz
     ·exact hd12 z hz
     ·simp at hz;rw[hz];exact hke
    have hlast:zL (d++[e])=true:=by simp[zL,g3]
    refine⟨htd,fun y hy=>?_,fun _=>hlast,hL.agr,?_,?_⟩
    ·rw[yDa]at hy;exact hinit y hy
    ·intro h;have h:zL (d++[e])=false:=h;rw[hlast]at h;cases h
    ·intro _;show LR f T T1 Z _ (goR u f (zO (d++[e])) seen' w deep' Z')
     have ey:=goR_y (u:=u) (f:=f) (w:={w with inIf:=true,yield:=typesM f.types x.outs}) (w':=w) (deep:=deep') rfl rfl rfl (d++[e]) seen' Z' hall;rw[hidem,ey];exact⟨hL.agr,hL.ok,hL.zs.trans q1,hL.len,hL.key.mono q1⟩
 ·cases hr
mutual
theorem wr_node(hT:TyOk f.types){F:zV}(hF:zza f.types F):∀(x:Node) (p:Pl) (seen seen':List Int) (w:Place) (deep deep':Int) (Z Z':Set1) (T:Tos),okN u f.types.length p x->(zJ u f x seen w deep Z).1=true->Iv f.types T seen seen' Z Z'->deep'<=deep->deep'<=100→
  NR u f x (wrN F x T) T seen seen' w deep' Z Z' (zJ u f x seen w deep Z).2
 |⟨k,o,n,s,a,us,ps,ks⟩,p,seen,seen',w,deep,deep',Z,Z',T,hok,hr,hi,hd,hd1=>by
  have hkk:okK u f.types.length (plIn p k us ps) ks:=by rw[okN]at hok;exact hok.2
  have hk10:k=10->ks.length=2:=by rw[okN]at hok;exact fun h=>(hok.1.k10 h).2
  rw[wrN];split
  ·rename_i c;exact nr_sum hF hi hd1 c hr
  ·rename_i c34;split
   ·rename_i c10;split
    ·exact nr_taken (x:=⟨k,o,n,s,a,us,ps,ks⟩) hT hok hi c10 hr (fun e=>wr_pick hT hF ks _ _ seen seen' _ (deep+1) deep' Z Z' T hkk (by intro h;have:=hk10 c10;rw[h]at this;simp at this) (by intro _ l h;have:=hk10 c10;rw[h]at this;simp at this) e hi (by omega))
    ·exact nr_if (x:=⟨k,o,n,s,a,us,ps,ks⟩) hok hi hd1 c10 hr (fun e=>wr_kids hT hF ks _ seen seen' _ (deep+1) (deep'+1) Z Z' T hkk e hi (by omega))
   ·rename_i c10;split
    ·rename_i c11;exact nr_loop (x:=⟨k,o,n,s,a,us,ps,ks⟩) hok hi hd1 c11 hr (fun Zp Zp' h e=>wr_kids hT hF ks _ _ _ _ (deep+1) (deep'+1) Zp Zp' T hkk e h (by omega))
    ·rename_i c11;exact nr_simple (x:=⟨k,o,n,s,a,us,ps,ks⟩) hi hd1 c10 c11 hr
theorem wr_go(hT:TyOk f.types){F:zV}(hF:zza f.types F):∀(l:List Node) (p:Pl) (seen seen':List Int) (w:Place) (deep deep':Int) (Z Z':Set1) (T:Tos),okL u f.types.length p l->l≠ []->(goR u f l seen w deep Z).1=true->Iv f.types T seen seen' Z Z'->deep'<=deep→
  LR f T (wrGo F l T).2 Z (goR u f l seen w deep Z).2 (goR u f (zO (wrGo F l T).1) seen' w deep' Z')
 | [],p,seen,seen',w,deep,deep',Z,Z',T,hok,hne,hr,hi,hd=>absurd rfl hne
 |x::r,p,seen,seen',w,deep,deep',Z,Z',T,hok,hne,hr,hi,hd=>by
  rw[okL]at hok;rw[goR]at hr ⊢;split at hr
  ·cases hr
  rename_i h0;rw[if_neg h0];split at hr
  ·rename_i h1;rw[if_pos h1];have hN:=wr_node hT hF x p seen seen' w deep deep' Z Z' T hok.1 h1 hi hd (by omega);obtain⟨m1,m2⟩:=nodeR_mono x seen w deep Z hi.zl h1;split at hr
   ·rename_i h2;rw[if_pos h2];obtain⟨m3,m4⟩:=goR_mono r (seen++x.outs) w deep _ m2 hr;rw[wrGo];by_cases hc:zL (wrN F x T).1=true
    ·rw[if_pos hc];have hL:=hN.cut hc;exact⟨hL.agr,hL.ok,hL.zs.trans m3,hL.len,hL.key.mono m3⟩
    ·rw[if_neg hc];have hc:zL (wrN F x T).1=false:=by simpa using hc
     obtain⟨s1,Z1',g1,g2⟩:=hN.go hc;have hxc:zd x=false:=by
      cases hx:zd x with
      |false=>rfl
      |true=>have:=hN.cl hx;rw[hc]at this;cases this
     have hrne:r≠ []:=by
      intro h;rw[h2,h]at hxc;cases hxc
     have hR:=wr_go hT hF r p _ _ w deep deep' _ _ (wrN F x T).2 hok.2.2 hrne hr g2 hd;obtain⟨r1,r2,r3⟩:=runR_mono _ _ _ _ _ hi.zl' g1;have hwr:=(wrGo_wl F r p (wrN F x T).2 hok.2.2 hrne).tidy;simp only;rw[tidyL_td _ _ (fun y hy=>⟨hN.td y hy,r3 y hy⟩)];rw[goR_run (by omega) _ _ _ _ s1 Z1' hwr.ne g1];exact⟨hN.agr.trans m1 hR.agr,hR.ok,hR.zs,hR.len,hR.key⟩
   ·cases hr
  ·cases hr
theorem wr_kids(hT:TyOk f.types){F:zV}(hF:zza f.types F):∀(ks:List (List Node)) (p:Pl) (seen seen':List Int) (w:Place) (deep deep':Int) (Z Z':Set1) (T:Tos),okK u f.types.length p ks->(zN u f ks seen w deep Z).1=true->Iv f.types T seen seen' Z Z'->deep'<=deep→
  LR f T (wrKs F ks T).2 Z (zN u f ks seen w deep Z).2 (zN u f (wrKs F ks T).1 seen' w deep' Z')
 | [],p,seen,seen',w,deep,deep',Z,Z',T,hok,hr,hi,hd=>by
  rw[wrKs,zN,zN];exact⟨Agr.refl _ _,rfl,hi.zs,hi.zl',hi.key⟩
 |l::r,p,seen,seen',w,deep,deep',Z,Z',T,hok,hr,hi,hd=>by
  rw[okK]at hok;rw[zN]at hr ⊢;split at hr
  ·rename_i c;rw[if_pos c];have c':=zge c;have e:(zeb l (goR u f l seen w deep Z)).2=(goR u f l seen w deep Z).2:=by unfold zeb;rw[if_pos c']
   rw[e]at hr ⊢;have hL:=wr_go hT hF l p seen seen' w deep deep' Z Z' T hok.1.2 hok.1.1 c' hi hd;obtain⟨m1,m2⟩:=goR_mono l seen w deep Z hi.zl c';have hne:=tidyL_ne (wrGo_wl F l p T hok.1.2 hok.1.1).ne;have hK:=wr_kids hT hF r p seen seen' w deep deep' _ _ (wrGo F l T).2 hok.2 hr (hi.step hL.agr m1 m2 hL.zs hL.len hL.key) hd;rw[wrKs];simp only;rw[zN];have e2:zeb (zO (wrGo F l T).1) (goR u f (zO (wrGo F l T).1) seen' w deep' Z')=(true,(goR u f (zO (wrGo F l T).1) seen' w deep' Z').2):=by
    unfold zeb;rw[if_pos hL.ok];cases hz:zO (wrGo F l T).1 with
    |nil=>exact absurd hz hne
    |cons _ _=>rfl
   rw[e2];simp only[if_true];exact⟨hL.agr.trans m1 hK.agr,hK.ok,hK.zs,hK.len,hK.key⟩
  ·cases hr
theorem wr_pick(hT:TyOk f.types){F:zV}(hF:zza f.types F):∀(ks:List (List Node)) (p:Pl) (b:Bool) (seen seen':List Int) (w:Place) (deep deep':Int) (Z Z':Set1) (T:Tos),okK u f.types.length p ks->ks≠ []->(b=false->∀l,ks≠ [l])->(zN u f ks seen w deep Z).1=true->Iv f.types T seen seen' Z Z'->deep'<=deep→
  LR f T (zDb F ks b T).2 Z (zN u f ks seen w deep Z).2 (goR u f (zDb F ks b T).1 seen' w deep' Z')
 | [],p,b,seen,seen',w,deep,deep',Z,Z',T,hok,hne,hb,hr,hi,hd=>absurd rfl hne
 |l::r,p,b,seen,seen',w,deep,deep',Z,Z',T,hok,hne,hb,hr,hi,hd=>by
  rw[okK]at hok;rw[zN]at hr ⊢;split at hr
  ·rename_i c;rw[if_pos c];have c':=zge c;have e:(zeb l (goR u f l seen w deep Z)).2=(goR u f l seen w deep Z).2:=by unfold zeb;rw[if_pos c']
   rw[e]at hr ⊢;obtain⟨m1,m2⟩:=goR_mono l seen w deep Z hi.zl c';obtain⟨m3,m4⟩:=zrc r seen w deep _ m2 hr;rw[zDb];cases b
   ·simp only[yF,if_false];cases r with
    |nil=>exact absurd rfl (hb rfl l)
    |cons y z=>
     have hP:=wr_pick hT hF (y::z) p true seen seen' w deep deep' _ Z' T hok.2 (by simp) (fun h=>by cases h) hr (hi.up m1 m2) hd;exact⟨fun v v0 hv=>hP.agr v v0 (m1 v v0 hv),hP.ok,hP.zs,hP.len,hP.key⟩
   ·simp only[if_true];have hL:=wr_go hT hF l p seen seen' w deep deep' Z Z' T hok.1.2 hok.1.1 c' hi hd;exact⟨hL.agr,hL.ok,hL.zs.trans m3,hL.len,hL.key.mono m3⟩
  ·cases hr
end
end
theorem trnIdN:∀x:Node,trnN id x=x:=by
 have key:(∀x:Node,trnN id x=x):=by
  intro x;exact trn_idN x
 exact key
where
 trn_idN:∀x:Node,trnN id x=x
  |⟨k,o,n,s,a,u,p,ks⟩=>by rw[trnN,trn_idK ks];simp
 trn_idL:∀l:List Node,trnL id l=l
  | []=>rfl
  |x::r=>by rw[trnL,trn_idN x,trn_idL r]
 trn_idK:∀l:List (List Node),trnK id l=l
  | []=>rfl
  |x::r=>by rw[trnK,trn_idL x,trn_idK r]
theorem trnIdL(l:List Node):trnL id l=l:=by
 rw[trnL_eq]
 conv=>rhs;rw[<-List.map_id l]
 exact yya fun x _=>trnIdN x
theorem place_map{g:Flow->Flow}(hg:∀f,(g f).name=f.name)(l:List Flow)(s:List UInt8):zT (l.map g) s=zT l s:=by
 unfold zT idx;rw[List.findIdx?_map];have:((fun f:Flow=>decide (f.name=s)) ∘ g)=fun f:Flow=>decide (f.name=s):=by
  funext f;simp[hg]
 rw[this]
theorem initR_at(f:Flow)(k:Nat)(h:(k:Int)<=f.types.length):∀v∈zJa k,0<=v/\atB (zOb f k) v=true/\v<f.types.length:=by
 intro v hv;simp only[zJa,yja,yua]at hv;obtain⟨i,hi,rfl⟩:=hv;refine⟨by omega,?_,by omega⟩;have h2:i<(yo k true).length:=by simpa using hi
 have:(zOb f k)[i]? =some true:=by
  unfold zOb;rw[yk h2];simp[hi]
 simp[atB,this]
theorem tyOk_of{ty:List Int}(h:(ty.any fun t=> !tyOk t)=false):TyOk ty:=by
 intro v h0 h1;rw[<-Bool.not_eq_true,List.any_eq_true]at h;have hm:at0 ty v∈ty:=by
  unfold at0;rw[ye (by omega)];exact List.getElem_mem _
 by_cases hk:tyOk (at0 ty v)=true
 ·simpa[tyOk]using hk
 ·exact absurd ⟨_,hm,by simpa using hk⟩ h
theorem flowK_okR{u:Unt}(hU:OkU u){f:Flow}(hf:f∈u.flows)(h:zlb u f=true):zlb u (flowK f)=true:=by
 have hb:=hU.body f hf;have hp:=hU.pars f hf;unfold zlb at h ⊢;rw[ya]at h ⊢;obtain⟨h1,h2⟩:=h;refine⟨h1,?_⟩;have hT:TyOk f.types:=by
  simp only[yC,yw]at h1;exact tyOk_of h1.2
 have h3:(goR u f f.body (zJa f.params.toNat) zBa 1 (zOb f f.params.toNat)).1=true:=by
  unfold zkb zeb at h2;split at h2
  ·rename_i hg;exact hg
  ·cases h2
 have hF:=studyM_ok hT h3;have hk:((f.params.toNat:Nat):Int)<=f.types.length:=by omega
 have hin:=initR_at f f.params.toNat hk;have hI:Iv f.types [] (zJa f.params.toNat) (zJa f.params.toNat) (zOb f f.params.toNat) (zOb f f.params.toNat):=by
  refine⟨fun v hv=>⟨(hin v hv).1,(hin v hv).2.1⟩,fun v hv=>?_,zJb f _ (by omega),zJb f _ (by omega),fun v h0 hv=>hv,fun v hv=>?_⟩
  ·have:sg [] v=v:=rfl;rw[this];exact⟨hv,(hin v hv).1,(hin v hv).2.2,rfl⟩
  ·exact absurd rfl hv
 have hL:=wr_go hT hF f.body ⟨none,none,none⟩ _ _ zBa 1 1 _ _ [] hb.2 hb.1 h3 hI (by omega);have hne:=tidyL_ne (wrGo_wl (zMc f) f.body ⟨none,none,none⟩ [] hb.2 hb.1).ne;have hT2:Trn id u u f (flowK f):=⟨rfl,fun v h0 h1=>⟨h0,h1⟩,fun v w _ _ _ _ e=>e,fun v _ _=>rfl,rfl,rfl,fun s=>rfl,fun k g hg=>⟨g,hg,rfl,rfl⟩⟩
 have hZ:ZR id f.types.length (zOb f f.params.toNat) (zOb f f.params.toNat):=⟨zJb f _ (by omega),zJb f _ (by omega),fun v _ _=>rfl⟩
 have hG:=(hT2.go (zO (wrGo (zMc f) f.body []).1) (zJa f.params.toNat) zBa 1 _ _ hZ hL.ok).1;rw[trnIdL,List.map_id]at hG;show(zeb (zO (wrGo (zMc f) f.body []).1) (goR u (flowK f) (zO (wrGo (zMc f) f.body []).1) (zJa f.params.toNat) zBa 1 (zOb f f.params.toNat))).1=true
 unfold zeb;rw[if_pos hG];cases hz:zO (wrGo (zMc f) f.body []).1 with
 |nil=>exact absurd hz hne
 |cons _ _=>rfl
theorem knownM_pl(u:Unt)(s:List UInt8):zT (zIb u).flows s=zT u.flows s:=place_map (g:=flowK) (fun _=>rfl) _ _
theorem knownM_flowR{u:Unt}{g:Flow}(h0:0<=g.params/\g.params<=g.types.length)(h:zlb u g=true):zlb (zIb u) g=true:=by
 have hT:Trn id u (zIb u) g g:=by
  refine⟨rfl,fun v h0 h1=>⟨h0,h1⟩,fun v w _ _ _ _ e=>e,fun v _ _=>rfl,rfl,rfl,fun s=>knownM_pl u s,fun k q hq=>⟨flowK q,?_,rfl,rfl⟩⟩;show(u.flows.map flowK)[k]? =_
  rw[yi,hq];rfl
 unfold zlb at h ⊢;rw[ya]at h ⊢;refine⟨h.1,?_⟩;have h2:=h.2;have hZ:ZR id g.types.length (zOb g g.params.toNat) (zOb g g.params.toNat):=⟨zJb g _ (by omega),zJb g _ (by omega),fun v _ _=>rfl⟩
 unfold zkb zeb at h2 ⊢;split at h2
 ·rename_i hg;have hG:=(hT.go g.body (zJa g.params.toNat) zBa 1 _ _ hZ hg).1;rw[trnIdL,List.map_id]at hG;rw[if_pos hG];exact h2
 ·cases h2
theorem knownM_head{u:Unt}(h:ztc u=true):ztc (zIb u)=true:=by
 simp only[ztc,ya]at h ⊢;obtain⟨⟨⟨h1,h2⟩,h3⟩,h4⟩:=h;refine⟨⟨⟨h1,?_⟩,?_⟩,?_⟩
 ·rw[yh]at h2 ⊢;intro g hg;obtain⟨f,hf,rfl⟩:=yja.1 hg;exact h2 f hf
 ·have e:zLc (zIb u)=zLc u:=by
   unfold zLc zIb;rw[List.map_map];rfl
  rw[e];exact h3
 ·unfold zld at h4 ⊢;rw[knownM_pl];have e:(zIb u).flows[(zT u.flows zp).toNat]? =(u.flows[(zT u.flows zp).toNat]?).map flowK:=yi ..;rw[e];cases hq:u.flows[(zT u.flows zp).toNat]? with
  |none=>rw[hq]at h4;exact h4
  |some g=>rw[hq]at h4;exact h4
theorem knownM_check{u:Unt}(hz:USz u)(h:(zCa u).1=0):zCa (zIb u)=(0,0):=by
 have hU:=checkM_ok hz h;obtain⟨h1,h2⟩:=(checkM_iff u).1 (checkM_fst h);refine(checkM_iff _).2 ⟨knownM_head h1,fun g hg=>?_⟩;obtain⟨f,hf,rfl⟩:=yja.1 hg;exact knownM_flowR (hU.pars f hf) (flowK_okR hU hf (h2 f hf))
theorem flowK_wt(f:Flow):wtL (flowK f).body<=wtL f.body:=wrL_wt _ _ _
theorem knownM_sz{u:Unt}(h:USz u):USz (zIb u):=by
 refine⟨h.arrs,by simpa[zIb]using h.flows,fun g hg=>?_,fun g hg=>?_⟩<;>obtain⟨f,hf,rfl⟩:=yja.1 hg
 ·exact h.types f hf
 ·have:=h.body f hf;have:=flowK_wt f;omega
theorem knownM_wt{u:Unt}{n:Nat}(h:∀f∈u.flows,wtL f.body<n):∀f∈(zIb u).flows,wtL f.body<n:=by
 intro g hg;obtain⟨f,hf,rfl⟩:=yja.1 hg;have:=h f hf;have:=flowK_wt f;omega
theorem zOc(l:List Int)(hl:l.length<1099511627776):zk E 36 [ints l,ints l] []=some (.ret (.bool true),[]):=by
 refine zb rfl rfl rfl (by simp[ints]) ?_;simp[F36,ints];refine zw l K36_0 B36_0 (fun d=>[(5,.int .i64 d.length)]) (fun _=>[]) (fun d=>True) (by omega) (by simp) ?_ ?_
 ·intros d x r s1 hl' hlt hget hget' hw1 hp h1 h2 h3 h4;simp at h1 h2 h3;have hdec:decide (d.length<l.length)=true:=decide_eq_true hlt;clear hl' h2 hl;simp[*]
 ·intros s1 hp h1 h2 h3 h4;simp at h1 h2 h3;simp[*]
set_option maxHeartbeats 4000000 in
theorem sameNodes_self:∀(w:Nat) (l:List Node),wtL l<=w->w<1099511000000->zk E 37 [zi l,zi l] []=some (.ret (.bool true),[]):=by
 intro w
 induction w using yna with
 |_ w IH=>
 intro l h hw;refine zb rfl rfl rfl (by simp[zi]) ?_;have hlen:=zFb l;simp[F37,zi];refine zw l K37_1 B37_1 (fun d=>[(5,.int .i64 d.length)]) (fun _=>[]) (fun d=>True) (by omega) (by simp) ?_ ?_
 ·intros d x r s1 hl' hlt hget hget' hw1 hp h1 h2 h3 h4;simp at h1 h2 h3;have hwx:=zUd hl'.mem;have hwe:=zLa x;have ia:=zOc x.args (by omega);have io:=zOc x.outs (by omega);have ip:=zOc x.params (by omega);have hkl:=len_wtK x.kids;have hk:∀k∈x.kids,zk E 37 [zi k,zi k] []=some (.ret (.bool true),[]):=by
   intro k hk;have:=zBc hk;exact IH (wtL k) (by omega) k (yg _) (by omega)
  have hkb:x.kids.length<2^62:=by omega
  have hdec:decide (d.length<l.length)=true:=decide_eq_true hlt;clear IH hl' hwx hwe h h2 hkl hlen hw;simp[ints]at ia io ip;simp[*,za,ints,kids];refine zw x.kids K37_0 B37_0 (fun e=>[(8,.int .i64 e.length)]) (fun _=>[]) (fun e=>True) hkb (by simp) ?_ ?_
  ·intros e y r' s3 jl jlt jget jget' jw1 jp j1 j2 j3 j4;simp at j1 j2 j3;have jdec:decide (e.length<x.kids.length)=true:=decide_eq_true jlt;have iy:=hk y jl.mem;clear jl hk;simp[zi]at iy;simp[*,zi]
  ·intros s3 jp j1 j2 j3 j4;simp at j1 j2 j3;clear hk;simp[*]
 ·intros s1 hp h1 h2 h3 h4;simp at h1 h2 h3;simp[*]
set_option maxHeartbeats 4000000 in
theorem same08_self(u:Unt)(hz:USz u)(hb:∀f∈u.flows,wtL f.body<1099511000000):zk E 19 [encUnt u,encUnt u] []=some (.ret (.bool true),[]):=by
 refine zb rfl rfl rfl (by simp[encUnt]) ?_;obtain⟨ars,fs⟩:=u;obtain⟨z1,z2,z3,z4⟩:=hz;simp only at z1 z2 z3 z4 hb;clear z4;simp[F19,encUnt,arrs,flows];refine zw ars K19_0 B19_0 (fun d=>[(5,.int .i64 d.length)]) (fun _=>[]) (fun d=>True) (by omega) (by simp) ?_ ?_
 ·intros d x r s1 hl' hlt hget hget' hw1 hp h1 h2 h3 h4;simp at h1 h2 h3;have hdec:decide (d.length<ars.length)=true:=decide_eq_true hlt;clear hl' z3 hb;obtain⟨nm,sz⟩:=x;simp[*,zZ]
 ·intros s1 hp h1 h2 h3 h4;simp at h1 h2 h3;simp[h1,h2,h3,h4];refine zw fs K19_1 B19_1 (fun d=>[(6,.int .i64 d.length)]) (fun _=>[]) (fun d=>True) (by omega) (by simp) ?_ ?_
  ·intros d x r s2 hl' hlt hget hget' hw1 kp k1 k2 k3 k4;simp at k1 k2 k3;have hzx:=z3 x hl'.mem;have hbx:=hb x hl'.mem;have hdec:decide (d.length<fs.length)=true:=decide_eq_true hlt;obtain⟨fnm,fty,ps,tys,body⟩:=x;simp only at hzx hbx;have ib:=sameNodes_self (wtL body) body (yg _) hbx;have it:=zOc tys hzx;simp[zi,ints]at ib it;clear hl' z3 hb;simp[*,zf,zi,ints]
  ·intros s2 kp k1 k2 k3 k4;simp at k1 k2 k3;clear z3 hb;simp[*]
def arrFrom(k:Nat):List Arr->List (PV×PV)
 | []=>[]
 |a::r=>(.str a.name,.mslice k 0 a.size.toNat 1)::arrFrom (k+1) r
def intO(l:List Int):Obj:= .arr 1 (l.map (PV.int .i64))
def zdd(l:List (List Int)):zc:=l.map intO
def runCells(u:Unt)(S:RS):List PV:=[arrs u.arrays,flows u.flows,ints S.inp,.mp 0,.int .i64 0,.int .i64 0,acc 1 (S.out.map (PV.int .i64)),.int .i64 S.cost,.int .i64 S.fuel]
def runO(u:Unt)(S:RS):Obj:= .arr 9 [.agg (runCells u S)]
def sto(u:Unt)(S:RS)(T:List (List Int)):zc:= .mp (arrFrom 2 u.arrays)::runO u S::(zdd S.arrs++zdd T)
def endV(k:Int):PV:= .iface 76 (.agg [.int .i64 k])
section
variable (u:Unt) (S:RS) (T:List (List Int))
@[simp] theorem sto_0:(sto u S T)[0]? =some (.mp (arrFrom 2 u.arrays)):=rfl
@[simp] theorem sto_1:(sto u S T)[1]? =some (.arr 9 [.agg [arrs u.arrays,flows u.flows,ints S.inp,.mp 0,.int .i64 0,.int .i64 0,acc 1 (S.out.map (PV.int .i64)),.int .i64 S.cost,.int .i64 S.fuel]]):=rfl
@[simp] theorem set_fuel(k:Nat):(sto u S T).set 1 (.arr 9 [.agg [arrs u.arrays,flows u.flows,ints S.inp,.mp 0,.int .i64 0,.int .i64 0,acc 1 (S.out.map (PV.int .i64)),.int .i64 S.cost,.int .i64 k]])=sto u {S with fuel:=k} T:=rfl
@[simp] theorem set_fuel'(k:Nat):(sto u S T).set 1 (.arr 9 [.agg [arrs u.arrays,flows u.flows,.slice .plain 1 (S.inp.map (PV.int .i64)),.mp 0,.int .i64 0,.int .i64 0,acc 1 (S.out.map (PV.int .i64)),.int .i64 S.cost,.int .i64 k]])=sto u {S with fuel:=k} T:=rfl
@[simp] theorem set_inp(l:List Int):(sto u S T).set 1 (.arr 9 [.agg [arrs u.arrays,flows u.flows,.slice .plain 1 (l.map (PV.int .i64)),.mp 0,.int .i64 0,.int .i64 0,acc 1 (S.out.map (PV.int .i64)),.int .i64 S.cost,.int .i64 S.fuel]])=sto u {S with inp:=l} T:=rfl
end
@[simp] theorem rebuild_agg(a l:List PV):zF (.agg a) l= .agg l:=yd rfl rfl
@[simp] theorem rebuild_int(k:IntKind)(n:Int)(cs:List PV):zF (.int k n) cs=cs.headD .undef:=yd rfl rfl
def FitS(u:Unt)(S:RS):Prop:=S.arrs.map List.length=u.arrays.map (fun a=>a.size.toNat)/\S.out.length+S.fuel<=1000000000000
theorem FitS.mono{u:Unt}{S S1:RS}(h:FitS u S)(m:Mono S S1):FitS u S1:=⟨m.arrs.trans h.1,ysa m.out h.2⟩
theorem FitS.len{u:Unt}{S:RS}(h:FitS u S):S.arrs.length=u.arrays.length:=by
 have:=congrArg List.length h.1;simpa using this
theorem FitS.cost{u:Unt}{S:RS}(h:FitS u S):FitS u (zUa S):=h
theorem arrFrom_find(nm:List UInt8):∀(l:List Arr) (k:Nat),zma true (.str nm) (arrFrom k l)=some (match l.findIdx? (fun a=>decide (a.name=nm))with
  |some i=>match l[i]? with
   |some a=>some (.mslice (k+i) 0 a.size.toNat 1)
   |none=>none
  |none=>none)
 | [],k=>rfl
 |a::r,k=>by
  have ih:=arrFrom_find nm r (k+1);rw[arrFrom,List.findIdx?_cons];by_cases h:a.name=nm
  ·simp[h]
  ·have h':¬nm=a.name:=fun e=>h e.symm
   simp only[zma,zQc,if_true,h',decide_false,h];rw[ih];cases r.findIdx? (fun a=>decide (a.name=nm))with
   |none=>simp
   |some i=>
    simp only[yK,yP,yF,if_false];cases r[i]? with
    |none=>rfl
    |some b=>simp only;congr 3;omega
theorem arr_at{u:Unt}{S:RS}{nm:List UInt8}(hS:FitS u S)(h:zKb u.arrays nm=true):∃(i:Nat) (l:List Int),zLe u.arrays nm=i/\i<S.arrs.length/\S.arrs[i]? =some l/\zma true (.str nm) (arrFrom 2 u.arrays)=some (some (.mslice (i+2) 0 l.length 1)):=by
 rw[<-arrAt_has,decide_eq_true_eq]at h;unfold zLe idx at h;cases hq:u.arrays.findIdx? (fun a=>decide (a.name=nm))with
 |none=>rw[hq]at h;simp at h
 |some i=>
  have hlt0:i<u.arrays.length:=by
   rw[List.findIdx?_eq_some_iff_getElem]at hq;exact hq.1
  have hlt:i<S.arrs.length:=by rw[hS.len];exact hlt0
  refine⟨i,S.arrs[i],by unfold zLe idx;rw[hq],hlt,ye hlt,?_⟩;have a2:u.arrays[i]? =some u.arrays[i]:=ye hlt0;rw[arrFrom_find,hq];simp only[a2];have hl:(S.arrs[i]).length=(u.arrays[i]).size.toNat:=by
   have e:=congrArg (fun l:List Nat=>l[i]?) hS.1;simp only[yi,a2,ye hlt,yK,Option.some.injEq]at e;exact e
  rw[hl,Nat.add_comm 2 i]
section
variable {u:Unt} {S:RS} {T:List (List Int)}
theorem belowL_acc(n:Nat)(l:List Int):zy n (acc 1 (l.map (PV.int .i64)))=true:=by
 cases l with
 |nil=>rfl
 |cons x r=>simp
theorem rowsO_wf(n:Nat)(l:List (List Int)):(zdd l).all (fun o=>o.below n)=true:=by
 rw[yh];intro o ho;simp only[zdd,yja]at ho;obtain⟨l,_,rfl⟩:=ho;simp[intO,Obj.below]
end
theorem setW_snoc:∀(v d:List Int) (x:Int) (ns:List Int) (n:Int),ns.length=d.length->setW v (d++[x]) (ns++[n])=(setW v d ns).set x.toNat n
 |v,[],x,[],n,_=>by simp[setW]
 |v,o::d,x,m::ns,n,h=>by
  simp only[yV,setW];exact setW_snoc _ d x ns n (by simpa using h)
 |v,[],x,_::_,n,h=>by simp at h
 |v,_::_,x,[],n,h=>by simp at h
theorem set_self{α:Type}{l:List α}{k:Nat}{x:α}(h:l[k]? =some x):l.set k x=l:=by
 have:=yb.1 h;rw[<-this.2];exact List.set_getElem_self this.1
theorem take_snoc{α:Type}{l:List α}{k:Nat}{x:α}(h:l[k]? =some x):l.take (k+1)=l.take k++[x]:=by
 rw[List.take_add_one,h];rfl
def encW(w:Wy):PV:= .agg [.int .i64 w.kind,ints w.l]
def outX(q:Rt Wy):CRes:=match q with
 | .ok w=> .ret (encW w)
 | .stop k=> .pan (endV k)
@[simp] theorem outX_ok(w:Wy):outX (.ok w)= .ret (.agg [.int .i64 w.kind,ints w.l]):=rfl
@[simp] theorem outX_stop(n:Int):outX (.stop n)= .pan (endV n):=rfl
def capE:Nat:=1099511627776
structure LSt where
 rest:List Node
 v:List Int
 S:RS
def outE(q:Rt Int):CRes:=match q with
 | .ok n=> .ret (.int .i64 n)
 | .stop k=> .pan (endV k)
@[simp] theorem outE_ok(n:Int):outE (.ok n)= .ret (.int .i64 n):=rfl
@[simp] theorem outE_stop(n:Int):outE (.stop n)= .pan (endV n):=rfl
theorem len1{l:List Int}(h:l.length=1):∃a,l=[a]:=List.length_eq_one_iff.1 h
theorem len2{l:List Int}(h:l.length=2):∃a b,l=[a,b]:=by
 match l,h with
 | [a,b],_=>exact⟨a,b,rfl⟩
structure RSt where
 k:Nat
 l:List Int
 v:List Int
 S:RS
end PE.U

namespace PE
open Go
section
variable (n:Nat) (R:CRes->zc->Prop) (s:St) (K:PV×zc->Prop) (E:Env) (H:HFn) (fr:Fr)
end
end PE

namespace PE.U
open Go PE
def encRn(r:Rn):PV:= .agg [.int .i64 r.status,.int .i64 r.code,ints r.out,.int .i64 r.cost,.int .i64 r.fuel]
def zxb(k:Nat):List Arr->List PV
 | []=>[]
 |a::r=> .mslice k 0 a.size.toNat 1::zxb (k+1) r
def stK:Option Int->Int
 |none=>0
 |some k=>k
def spK:Option Int->Bool
 |none=>false
 |some k=>decide (k=0)
def runR(u:Unt)(S:RS)(h:Option Int):Obj:= .arr 10 [.agg [arrs u.arrays,flows u.flows,ints S.inp,acc 1 (zxb 1 u.arrays),.int .i64 (stK h),.int .i64 0,acc 1 (S.out.map (PV.int .i64)),.int .i64 S.cost,.int .i64 S.fuel,.bool (spK h)]]
def stR(u:Unt)(S:RS)(h:Option Int)(T:List (List Int)):zc:=runR u S h::(zdd S.arrs++zdd T)
def goH{α:Type}:Rt α->Option Int
 | .ok _=>none
 | .stop k=>some k
@[simp] theorem goH_ok{α:Type}(a:α):goH (.ok a)=none:=rfl
@[simp] theorem goH_stop{α:Type}(k:Int):goH (.stop k:Rt α)=some k:=rfl
section
variable (u:Unt) (S:RS) (h:Option Int) (T:List (List Int))
@[simp] theorem stR_0:(stR u S h T)[0]? =some (.arr 10 [.agg [arrs u.arrays,flows u.flows,ints S.inp,acc 1 (zxb 1 u.arrays),.int .i64 (stK h),.int .i64 0,acc 1 (S.out.map (PV.int .i64)),.int .i64 S.cost,.int .i64 S.fuel,.bool (spK h)]]):=rfl
@[simp] theorem stK_none:stK none=0:=rfl
@[simp] theorem spK_none:spK none=false:=rfl
@[simp] theorem stK_some(k:Int):stK (some k)=k:=rfl
@[simp] theorem spK_some(k:Int):spK (some k)=decide (k=0):=rfl
@[simp] theorem setR_fuel(k:Nat):(stR u S none T).set 0 (.arr 10 [.agg [arrs u.arrays,flows u.flows,ints S.inp,acc 1 (zxb 1 u.arrays),.int .i64 0,.int .i64 0,acc 1 (S.out.map (PV.int .i64)),.int .i64 S.cost,.int .i64 k,.bool false]])=stR u {S with fuel:=k} none T:=rfl
@[simp] theorem setR_spent:(stR u S none T).set 0 (.arr 10 [.agg [arrs u.arrays,flows u.flows,ints S.inp,acc 1 (zxb 1 u.arrays),.int .i64 0,.int .i64 0,acc 1 (S.out.map (PV.int .i64)),.int .i64 S.cost,.int .i64 S.fuel,.bool true]])=stR u S (some 0) T:=rfl
@[simp] theorem setR_2:(stR u S none T).set 0 (.arr 10 [.agg [arrs u.arrays,flows u.flows,ints S.inp,acc 1 (zxb 1 u.arrays),.int .i64 2,.int .i64 0,acc 1 (S.out.map (PV.int .i64)),.int .i64 S.cost,.int .i64 S.fuel,.bool false]])=stR u S (some 2) T:=rfl
@[simp] theorem setR_3:(stR u S none T).set 0 (.arr 10 [.agg [arrs u.arrays,flows u.flows,ints S.inp,acc 1 (zxb 1 u.arrays),.int .i64 3,.int .i64 0,acc 1 (S.out.map (PV.int .i64)),.int .i64 S.cost,.int .i64 S.fuel,.bool false]])=stR u S (some 3) T:=rfl
@[simp] theorem setR_4:(stR u S none T).set 0 (.arr 10 [.agg [arrs u.arrays,flows u.flows,ints S.inp,acc 1 (zxb 1 u.arrays),.int .i64 4,.int .i64 0,acc 1 (S.out.map (PV.int .i64)),.int .i64 S.cost,.int .i64 S.fuel,.bool false]])=stR u S (some 4) T:=rfl
@[simp] theorem setR_cost':(stR u S none T).set 0 (.arr 10 [.agg [arrs u.arrays,flows u.flows,.slice .plain 1 (S.inp.map (PV.int .i64)),acc 1 (zxb 1 u.arrays),.int .i64 0,.int .i64 0,acc 1 (S.out.map (PV.int .i64)),.int .i64 (zX .i64 (S.cost+1)),.int .i64 S.fuel,.bool false]])=stR u (zUa S) none T:=by
 rw[zfa];rfl
@[simp] theorem setR_st(k:Int)(hk:k≠0):(stR u S none T).set 0 (.arr 10 [.agg [arrs u.arrays,flows u.flows,.slice .plain 1 (S.inp.map (PV.int .i64)),acc 1 (zxb 1 u.arrays),.int .i64 k,.int .i64 0,acc 1 (S.out.map (PV.int .i64)),.int .i64 S.cost,.int .i64 S.fuel,.bool false]])=stR u S (some k) T:=by
 have:decide (k=0)=false:=by simp[hk]
 unfold stR runR stK spK;simp only[List.set_cons_zero,this];rfl
theorem setR_out(l:List Int):(stR u S none T).set 0 (.arr 10 [.agg [arrs u.arrays,flows u.flows,ints S.inp,acc 1 (zxb 1 u.arrays),.int .i64 0,.int .i64 0,acc 1 (l.map (PV.int .i64)),.int .i64 S.cost,.int .i64 S.fuel,.bool false]])=stR u {S with out:=l} none T:=rfl
@[simp] theorem setR_inp(l:List Int):(stR u S none T).set 0 (.arr 10 [.agg [arrs u.arrays,flows u.flows,.slice .plain 1 (l.map (PV.int .i64)),acc 1 (zxb 1 u.arrays),.int .i64 0,.int .i64 0,acc 1 (S.out.map (PV.int .i64)),.int .i64 S.cost,.int .i64 S.fuel,.bool false]])=stR u {S with inp:=l} none T:=rfl
end
theorem zPa(u:Unt)(S:RS)(h:Option Int)(T:List (List Int)):zk E 28 [.ptr 0 0 0] (stR u S h T)=some (.ret (.bool h.isSome),stR u S h T):=by
 refine zb rfl rfl rfl (by simp) ?_;cases h with
 |none=>simp[F28]
 |some k=>
  by_cases hk:k=0
  ·subst hk;simp[F28]
  ·replace hk:=eqn hk;simp[*,F28]
theorem rstep_spec(u:Unt)(S:RS)(T:List (List Int))(hf:S.fuel<=9000000000000000000):zk E 64 [.ptr 0 0 0] (stR u S none T)=some (match S.fuel with
  |0=>(.ret (.bool false),stR u S (some 0) T)
  |k+1=>(.ret (.bool true),stR u {S with fuel:=k} none T)):=by
 refine zb rfl rfl rfl (by simp) ?_;have h0:=zPa u S none T;simp at h0;cases h:S.fuel with
 |zero=>
  have hs:(stR u S none T).set 0 (.arr 10 [.agg [arrs u.arrays,flows u.flows,ints S.inp,acc 1 (zxb 1 u.arrays),.int .i64 0,.int .i64 0,acc 1 (S.out.map (PV.int .i64)),.int .i64 S.cost,.int .i64 0,.bool true]])=stR u S (some 0) T:=by
   have:=setR_spent u S T;rw[h]at this;exact this
  simp[*,F64]
 |succ k=>
  have hw:zX .i64 (((k+1:Nat):Int)-1)=(k:Int):=by rw[zq]<;>omega
  have hne:(((k+1:Nat):Int)<1)=False:=eqn (by omega);generalize hc:((k+1:Nat):Int)=c at*;simp[*,F64]
theorem rptrs_get:∀(l:List Arr) (k i:Nat),(zxb k l)[i]? =(l[i]?).map fun a=> .mslice (k+i) 0 a.size.toNat 1
 | [],k,i=>by simp[zxb]
 |a::r,k,0=>by simp[zxb]
 |a::r,k,i+1=>by
  simp only[zxb,yP];rw[rptrs_get r (k+1) i];cases r[i]? with
  |none=>rfl
  |some b=>simp;omega
theorem rptrs_len:∀(l:List Arr) (k:Nat),(zxb k l).length=l.length
 | [],k=>rfl
 |a::r,k=>by simp[zxb,rptrs_len r]
theorem rarr_at{u:Unt}{S:RS}{nm:List UInt8}(hS:FitS u S)(h:zKb u.arrays nm=true):∃(i:Nat) (l:List Int),zLe u.arrays nm=i/\i<S.arrs.length/\S.arrs[i]? =some l/\(zxb 1 u.arrays)[i]? =some (.mslice (i+1) 0 l.length 1):=by
 obtain⟨i,l,a1,a2,a3,a4⟩:=arr_at hS h;refine⟨i,l,a1,a2,a3,?_⟩;rw[rptrs_get];have hlt:i<u.arrays.length:=by rw[<-hS.len];exact a2
 have e:=congrArg (fun l:List Nat=>l[i]?) hS.1;simp only[yi,a3,ye hlt,yK,Option.some.injEq]at e;rw[ye hlt,yK,<-e,Nat.add_comm 1 i]
theorem stR_row{u:Unt}{S:RS}{h:Option Int}{T:List (List Int)}{i:Nat}{l:List Int}(hl:S.arrs[i]? =some l):(stR u S h T)[i+1]? =some (.arr 1 (l.map (PV.int .i64))):=by
 have hlt:=(yb.1 hl).1;simp only[stR,yP];rw[yk (by simpa[zdd]using hlt)];simp[zdd,hl,intO]
theorem rput_row{u:Unt}{S:RS}{h:Option Int}{T:List (List Int)}{i:Nat}{l:List Int}(hl:S.arrs[i]? =some l)(k:Nat)(m:Int):(stR u S h T).set (i+1) (.arr 1 ((l.map (PV.int .i64)).set k (.int .i64 m)))=stR u {S with arrs:=S.arrs.set i (l.set k m)} h T:=by
 have hlt:=(yb.1 hl).1;have e:(l.map (PV.int .i64)).set k (.int .i64 m)=(l.set k m).map (PV.int .i64):=by rw[yqa]
 rw[e];simp only[stR,List.set_cons_succ];rw[List.set_append_left _ _ (by simpa[zdd]using hlt)];have:(zdd S.arrs).set i (.arr 1 ((l.set k m).map (PV.int .i64)))=zdd (S.arrs.set i (l.set k m)):=by simp[zdd,yqa,intO]
 rw[this];rfl
theorem rcell_spec{u:Unt}{S:RS}{T:List (List Int)}{i:Nat}{l:List Int}(n:Int)(hl:S.arrs[i]? =some l)(hm:(zxb 1 u.arrays)[i]? =some (.mslice (i+1) 0 l.length 1)):
  zk E 94 [.ptr 0 0 0,.int .i64 i,.int .i64 n] (stR u S none T)=some (if 0<=n/\n<l.length then(.ret (.bool true),stR u S none T)else(.ret (.bool false),stR u S (some 3) T)):=by
 refine zb rfl rfl rfl (by simp) ?_;by_cases h0:n<0
 ·have hn:¬(0<=n/\n<l.length):=by omega
  rw[if_neg hn];replace h0:=eqp h0;simp[*,F94]
 ·by_cases h1:(l.length:Int)<=n
  ·have hn:¬(0<=n/\n<l.length):=by omega
   rw[if_neg hn];replace h0:=eqn h0;replace h1:=eqp h1;simp[*,F94]
  ·rw[if_pos (by omega)];have h4:0<=n:=by omega
   replace h0:=eqn h0;replace h1:=eqn h1;simp[*,F94]
def nbR(u:Unt):Nat:=u.arrays.length+1
section
variable {u:Unt} {S:RS} {h:Option Int} {T:List (List Int)}
theorem stR_len(hS:FitS u S):(stR u S h T).length=nbR u+T.length:=by
 simp[stR,zdd,hS.len,nbR];omega
theorem stR_get(hS:FitS u S){j:Nat}{v:List Int}(hj:T[j]? =some v):(stR u S h T)[nbR u+j]? =some (.arr 1 (v.map (PV.int .i64))):=by
 have:nbR u+j=u.arrays.length+j+1:=by unfold nbR;omega
 rw[this];simp only[stR,yP];rw[yp (by simp[zdd,hS.len])];simp[zdd,hS.len,hj,intO]
theorem stR_set(hS:FitS u S)(j:Nat)(v:List Int):(stR u S h T).set (nbR u+j) (.arr 1 (v.map (PV.int .i64)))=stR u S h (T.set j v):=by
 have:nbR u+j=u.arrays.length+j+1:=by unfold nbR;omega
 rw[this];simp only[stR,List.set_cons_succ];rw[yAa _ _ (by simp[zdd,hS.len])];simp[zdd,hS.len,yqa,intO]
theorem stR_app{v:List Int}:stR u S h T++[.arr 1 (v.map (PV.int .i64))]=stR u S h (T++[v]):=by simp[stR,zdd,intO]
theorem stR_take(hS:FitS u S)(j:Nat):(stR u S h T).take (nbR u+j)=stR u S h (T.take j):=by
 have:nbR u+j=u.arrays.length+j+1:=by unfold nbR;omega
 rw[this];simp only[stR,List.take_succ_cons];rw[List.take_append,List.take_of_length_le (by simp[zdd,hS.len])];simp[zdd,hS.len,List.map_take]
theorem rptrs_below(n:Nat):∀(l:List Arr) (k:Nat),k+l.length<=n->zQ n (zxb k l)=true
 | [],_,_=>rfl
 |a::r,k,h=>by
  simp only[yX]at h;simp only[zxb,belowL_cons,below_mslice,ya,decide_eq_true_eq];exact⟨by omega,rptrs_below n r (k+1) (by omega)⟩
theorem below_acc(n sz:Nat)(l:List PV)(h:zQ n l=true):zy n (acc sz l)=true:=by
 cases l with
 |nil=>rfl
 |cons x r=>simpa using h
theorem stR_wf{n:Nat}(hn:nbR u<=n):zc.wf n (stR u S h T)=true:=by
 unfold zc.wf;simp only[stR,List.all_cons,List.all_append,ya];refine⟨?_,rowsO_wf n _,rowsO_wf n _⟩;have h1:=rptrs_below n u.arrays 1 (by unfold nbR at hn;omega);simp[runR,Obj.below,belowL_acc,ints,below_acc _ _ _ h1]
end
set_option maxHeartbeats 1000000 in
theorem vof_spec{u:Unt}{S:RS}{h:Option Int}{T:List (List Int)}{j n:Nat}{v:List Int}(hS:FitS u S)(hj:T[j]? =some v)(hv:v.length=n){l:List Int}(ho:inR n l)(hz:l.length<1099511627776):
  zk E 65 [.mslice (nbR u+j) 0 n 1,ints l] (stR u S h T)=some (.ret (ints (ofW v l)),stR u S h T):=by
 refine zb rfl rfl rfl (by simp[ints]) ?_;have hgt:=stR_get (u:=u) (h:=h) hS hj;simp[F65,ints];refine zw l K65_0 B65_0 (fun d=>[(6,.int .i64 d.length),(5,acc 1 ((ofW v d).map (PV.int .i64)))]) (fun d=>stR u S h T) (fun _=>True) (by omega) (by simp[ofW]) ?_ ?_
 ·intros d x r s1 hl' hlt hget hget' hwr hp g1 g2 g3 g4;simp at g1 g3;obtain⟨x0,x1⟩:=ho x hl'.mem;have hx:=zzc (l:=v) x0 (by omega);have hxn:x.toNat<n:=by omega
  have hxv:x.toNat<v.length:=by omega
  have hx3:=zNb (l:=v) x0 (by omega) hxv;have hdec:decide (d.length<l.length)=true:=decide_eq_true hlt;have hroom:((ofW v d).length+1)*8<=zm:=by rw[ofW_len];simp only[zm];omega
  have hsn:ofW v (d++[x])=ofW v d++[at0 v x]:=by simp[ofW]
  generalize ofW v d=c at*;clear hl' hget' hp hj ho hlt;simp[*]
 ·intros s1 hp g1 g2 g3 g4;simp at g1 g3;clear hj ho;simp[*]
theorem rset_spec{u:Unt}{S:RS}{h:Option Int}{T:List (List Int)}{j n:Nat}{v:List Int}(hS:FitS u S)(hj:T[j]? =some v)(hv:v.length=n){o ns:List Int}(ho:inR n o)(hl:o.length=ns.length)(hz:o.length<1099511627776):
  zk E 66 [.mslice (nbR u+j) 0 n 1,ints o,ints ns] (stR u S h T)=some (.ret (.tup []),stR u S h (T.set j (setW v o ns))):=by
 refine zb rfl rfl rfl (by simp[ints]) ?_;have hjl:=(yb.1 hj).1;simp[F66,ints];refine zw o K66_0 B66_0 (fun d=>[(6,.int .i64 d.length)]) (fun d=>stR u S h (T.set j (setW v d (ns.take d.length)))) (fun _=>True) (by omega) (by simp[setW,set_self hj]) ?_ ?_
 ·intros d x r s1 hl' hlt hget hget' hwr hp g1 g2 g3 g4;simp at g1 g3;obtain⟨x0,x1⟩:=ho x hl'.mem;have hn:ns[d.length]? =some ns[d.length]:=ye (by omega);generalize ns[d.length]=m at hn;have hcur:(T.set j (setW v d (ns.take d.length)))[j]? =some (setW v d (ns.take d.length)):=yn hjl;have hgt:=stR_get (u:=u) (h:=h) hS hcur;have hsn:setW v (d++[x]) (ns.take (d.length+1))=(setW v d (ns.take d.length)).set x.toNat m:=by
   rw[take_snoc hn,setW_snoc _ _ _ _ _ (by simp;omega)]
  have hst:=stR_set (u:=u) (S:=S) (h:=h) (T:=T.set j (setW v d (ns.take d.length))) hS j (setW v (d++[x]) (ns.take (d.length+1)));have hlen:=zyd v d (ns.take d.length);have hx:x.toNat<n:=by omega
  have hsl:(setW v d (ns.take d.length)).length=n:=by rw[hlen,hv]
  rw[yRa]at hst;rw[hsn,yqa,<-hsn]at hst;have hgo:(stR u S h (T.set j (setW v d (ns.take d.length)))).set (nbR u+j) (.arr 1 (((setW v d (ns.take d.length)).map (PV.int .i64)).set x.toNat (.int .i64 m)))=stR u S h (T.set j (setW v (d++[x]) (ns.take (d.length+1)))):=hst;clear hst;generalize setW v d (ns.take d.length)=c at*;have hdec:decide (d.length<o.length)=true:=decide_eq_true hlt;clear hl' hget' hp hj ho hlen hsn hcur hl hlt;simp[*]
 ·intros s1 hp g1 g2 g3 g4;simp at g1 g3;have:ns.take o.length=ns:=by rw[hl];exact List.take_length
  rw[this]at g4;simp[*]
def SpecR(u:Unt)(w:Nat):Prop:=∀m p l v S T j,FitS u S->S.fuel<=w->l≠ []->okL u m p l->wtL l<capE->T[j]? =some v->v.length=m→
 ∃y:Wy,zk E 44 [.ptr 0 0 0,zi l,.mslice (nbR u+j) 0 m 1] (stR u S none T)=some (.ret (encW y),stR u (zcc (evN u w) l v S).2.2 (goH (zcc (evN u w) l v S).1) (T.set j (zcc (evN u w) l v S).2.1))∧
  ∀r,(zcc (evN u w) l v S).1= .ok r->y=r
set_option maxHeartbeats 2000000 in
theorem rcall_of{u:Unt}(hU:OkU u){w:Nat}(hL:SpecR u w){f:Flow}{k:Nat}(hf:u.flows[k]? =some f){l:List Int}{S:RS}{T:List (List Int)}(hS:FitS u S)(hw:S.fuel<=w)(hl:l.length<=f.types.length):
  ∃z:Int,zk E 26 [.ptr 0 0 0,.int .i64 k,ints l] (stR u S none T)=some (.ret (.int .i64 z),stR u (callW (evN u w) f l S).2 (goH (callW (evN u w) f l S).1) T)/\∀r,(callW (evN u w) f l S).1= .ok r->z=r:=by
 have hfm:f∈u.flows:=yx hf;have hty:=hU.sz.types f hfm;have hb:=hU.body f hfm;have hlen:=stR_len (h:=none) (T:=T) hS;have hap:=stR_app (u:=u) (S:=S) (h:=none) (T:=T) (v:=yo f.types.length 0);simp only[List.map_replicate]at hap;have l1:(0:Int)<=(f.types.length:Int):=by omega
 have l2:(f.types.length:Int)<=9223372036854775807:=by omega
 have l3:8*(f.types.length:Int)<=281474976710656:=by omega
 have hgl:(l++yo (f.types.length-l.length) 0).length=f.types.length:=by simp;omega
 have hc:=hL f.types.length ⟨none,none,none⟩ f.body (l++yo (f.types.length-l.length) 0) S (T++[l++yo (f.types.length-l.length) 0]) T.length hS hw hb.1 hb.2 (hU.sz.body f hfm) (by simp) hgl;rw[yAa _ _ (yg _),Nat.sub_self,List.set_cons_zero]at hc;obtain⟨m1,m2,m3⟩:=zze (evN_ok hU w) f.body (l++yo (f.types.length-l.length) 0) S hb.1 hb.2 hgl;have hrep:∀d x,l[d]? =some x->d<l.length->((l.take d++yo (f.types.length-d) 0).map (PV.int .i64)).set d (.int .i64 x)=(l.take (d+1)++yo (f.types.length-(d+1)) 0).map (PV.int .i64):=by
  intro d x hx hd;have e:f.types.length-d=(f.types.length-(d+1))+1:=by omega
  rw[take_snoc hx,e,List.replicate_succ,yxa,yAa _ _ (by simp;omega)];simp[Nat.min_eq_left (Nat.le_of_lt hd)]
 unfold callW;generalize hq:zcc (evN u w) f.body (l++yo (f.types.length-l.length) 0) S=q at*;obtain⟨a,v1,S1⟩:=q;simp only at m1 m2 m3 hc ⊢;obtain⟨y,hc,hy⟩:=hc;have hS1:=hS.mono m1;have htk:∀h,(stR u S1 h (T++[v1])).take (nbR u+T.length)=stR u S1 h T:=by
  intro h;rw[stR_take hS1];simp
 have hwf:∀h,zc.wf (nbR u+T.length) (stR u S1 h T)=true:=fun h=>stR_wf (by omega)
 have hln:∀h,(stR u S1 h (T++[v1])).length=nbR u+(T.length+1):=by
  intro h;rw[stR_len hS1];simp
 have hov:=zPa u S1 (goH a) (T++[v1]);have hll:l.length<1099511627776:=by omega
 simp[zi]at hc;obtain⟨z,hz1,hz2⟩:∃z:Int,(∀r,a= .ok r->z=atA r.l 0)/\(∀k,a= .stop k->z=0):=by
  cases a with
  |ok r=>exact⟨atA r.l 0,(fun r' e=>by cases e;rfl),(fun k e=>by cases e)⟩
  |stop k=>exact⟨0,(fun r' e=>by cases e),(fun k e=>rfl)⟩
 refine⟨z,zb rfl rfl rfl (by simp[ints]) ?_,?_⟩
 ·have e0:l.take 0++yo (f.types.length-0) 0=yo f.types.length (0:Int):=by simp
  have hget0:∀d,(stR u S none (T++[l.take d++yo (f.types.length-d) 0]))[nbR u+T.length]? =some (.arr 1 ((l.take d++yo (f.types.length-d) 0).map (PV.int .i64))):=fun d=>stR_get hS (by simp)
  have hset0:∀d c,(stR u S none (T++[l.take d++yo (f.types.length-d) 0])).set (nbR u+T.length) (.arr 1 (c.map (PV.int .i64)))=stR u S none (T++[c]):=by
   intro d c;rw[stR_set hS,yAa _ _ (yg _),Nat.sub_self,List.set_cons_zero]
  clear hU hL hb hS hw m1 hgl hfm hS1 hty;simp[*,F26,flows,zf,ints,zi];refine zw l K26_0 [7,10] (fun d=>[(9,.int .i64 d.length)]) (fun d=>stR u S none (T++[l.take d.length++yo (f.types.length-d.length) 0])) (fun _=>True) (by omega) (by simp) ?_ ?_
  ·intros d x r s1 hl' hlt hget hget' hwr hp g1 g2 g3 g4;simp at g1 g3;have h1:=hrep d.length x hget hlt;have h2:=hget0 d.length;have h3:=hset0 d.length (l.take (d.length+1)++yo (f.types.length-(d.length+1)) 0);have h4:(l.take d.length++yo (f.types.length-d.length) (0:Int)).length=f.types.length:=by simp;omega
   have hdl:d.length<f.types.length:=by omega
   obtain⟨y,hy⟩:∃y,(l.take d.length++yo (f.types.length-d.length) (0:Int))[d.length]? =some y:=⟨_,ye (by omega)⟩
   have hdec:decide (d.length<l.length)=true:=decide_eq_true hlt;rw[<-h1]at h3;generalize l.take d.length++yo (f.types.length-d.length) (0:Int)=c at*;clear hl' hget' hlt hp hrep hget0 hset0 hc hov htk hwf hln m3 hz1 hz2 hlen hap h1;simp[*,-getElem?_pos,yE]
  ·intros s1 hp g1 g2 g3 g4;simp at g1 g3;have e1:l.take l.length=l:=List.take_length;rw[e1]at g4;clear hp hrep hget0 hset0 hlen hap;cases a with
   |stop k=>
    have hz:=hz2 k rfl;simp[encW,ints]at hc;simp at hov;clear m3 hz1 hz2;simp[*,fin]
   |ok r=>
    have hz:=hz1 r rfl;obtain⟨_,m4,_⟩:=m3 r rfl;have hr:∃x,r.l=[x]:=by
     rcases m4 with m4|m4|m4|m4
     ·cases m4.2
     ·cases m4.2
     ·cases m4.2
     ·exact List.length_eq_one_iff.1 m4.2
    obtain⟨x,hr⟩:=hr;have hyr:=hy r rfl;subst hyr;rw[hr]at hz;have hz:z=x:=hz;simp[encW,ints,hr]at hc;clear hr hy;simp at hov;clear m3 hz1 hz2 m4;simp[*,fin,atA]
 ·intro r e;cases a with
  |ok w=>simp only[Rt.ok.injEq]at e;rw[<-e];exact hz1 w rfl
  |stop k=>cases e
def sumR(u:Unt)(T:List (List Int))(x:Node)(q:Rt (List Int)×RS)(r:Option (CRes×zc)):Prop:=
 ∃z:Int,r=some (.ret (.int .i64 z),stR u q.2 (goH q.1) T)/\∀m,q.1= .ok [m]->z=m
theorem rone_specC(op a:Int)(σ:zc):zk E 92 [.int .i64 op,.int .i64 a] σ=some (.ret (.int .i64 (oneC op a)),σ):=by
 rw[<-one_eqC,<-rone_eq];exact rone_spec op a σ
theorem rtwo_specC(op a b:Int)(σ:zc):zk E 93 [.int .i64 op,.int .i64 a,.int .i64 b] σ=some (.ret (.tup [.int .i64 (twoC op a b).1,.bool (twoC op a b).2]),σ):=by
 rw[<-two_eqC];exact rtwo_spec op a b σ
set_option maxHeartbeats 4000000 in
theorem rsum_of{u:Unt}(hU:OkU u){w:Nat}(hL:SpecR u w){m:Nat}{p:Pl}{x:Node}(ho:okH u m p x)(hk:3<=x.kind/\x.kind<=9){S:RS}{T:List (List Int)}(hS:FitS u S)
  (hw:S.fuel<=w) (hfu:S.out.length+S.fuel<1000000000000) {l:List Int} (hl:l.length=x.args.length):
  sumR u T x (plainW u (evN u w) x l (zUa S)) (zk E 68 [.ptr 0 0 0,zC x,ints l] (stR u S none T)):=by
 have hra:=rarray_spec u x.name [] hU.sz.arrs;obtain⟨args,outs,prs,k12,k3,k4,k5,k6,k7,k8,k9,-,-,-,-,-,-,-⟩:=ho;simp[encUnt]at hra;unfold plainW sumR;by_cases e3:x.kind=3
 ·rw[if_pos e3];obtain⟨a,ha⟩:=len1 (hl.trans (k3 e3).1);have hone:=rone_specC x.op a [];subst ha;replace e3:=eqp e3;refine⟨oneC x.op a,zb rfl rfl rfl (by simp[za,ints]) ?_,fun z e=>by cases e;rfl⟩;clear args outs prs k12 k3 k4 k5 k6 k7 k8 k9 hk hl hL hU;simp[*,F68,za,ints]
 rw[if_neg e3];replace e3:=eqn e3;by_cases e4:x.kind=4
 ·rw[if_pos e4];obtain⟨a,b,ha⟩:=len2 (hl.trans (k4 e4).1);subst ha;have htwo:=rtwo_specC x.op a b [];have e0:atA [a,b] 0=a:=rfl;have e1:atA [a,b] 1=b:=rfl;rw[e0,e1];replace e4:=eqp e4;by_cases hz:(twoC x.op a b).2=true
  ·rw[if_pos hz];refine⟨(twoC x.op a b).1,zb rfl rfl rfl (by simp[za,ints]) ?_,fun z e=>by cases e;rfl⟩;clear args outs prs k12 k3 k4 k5 k6 k7 k8 k9 hk hl hL hU;simp[*,F68,za,ints]
  ·rw[if_neg hz];simp only[Bool.not_eq_true]at hz;refine⟨(twoC x.op a b).1,zb rfl rfl rfl (by simp[za,ints]) ?_,fun z e=>by cases e⟩;clear args outs prs k12 k3 k4 k5 k6 k7 k8 k9 hk hl hL hU;simp[*,F68,za,ints]
 rw[if_neg e4];replace e4:=eqn e4;by_cases e5:x.kind=5
 ·rw[if_pos e5];obtain⟨a0,a1,a2⟩:=k5 e5;obtain⟨a,ha⟩:=len1 (hl.trans a1);subst ha;have e0:atA [a] 0=a:=rfl;rw[e0];obtain⟨i,row,b1,b2,b3,b4⟩:=rarr_at hS.cost a0;have hc:=rcell_spec (T:=T) a b3 b4;have hr:=stR_row (T:=T) (u:=u) (h:=none) b3;rw[b1]at hra;unfold cellAt;rw[b1];simp only[Int.toNat_natCast,b3,Option.bind_some];replace e5:=eqp e5;by_cases hx:0<=a/\a<row.length
  ·rw[if_pos hx]at hc;have hn:¬a<0:=by omega
   have hlt:a.toNat<row.length:=by omega
   have hx0:=hx.1;rw[if_neg hn];obtain⟨y,hy⟩:∃y,row[a.toNat]? =some y:=⟨_,ye hlt⟩
   rw[hy];refine⟨y,zb rfl rfl rfl (by simp[za,ints]) ?_,fun z e=>by cases e;rfl⟩;clear args outs prs k12 k3 k4 k5 k6 k7 k8 k9 hk hl hL hU hx hn b1 b2 b3 a0 a1 a2;simp[*,F68,za,ints,-getElem?_pos,yE]
  ·rw[if_neg hx]at hc;have hnone:(if a<0 then none else row[a.toNat]?)=none:=by
    split
    ·rfl
    ·rw[List.getElem?_eq_none];omega
   rw[hnone];refine⟨0,zb rfl rfl rfl (by simp[za,ints]) ?_,fun z e=>by cases e⟩;clear args outs prs k12 k3 k4 k5 k6 k7 k8 k9 hk hl hL hU hx hnone b1 b2 b3 a0 a1 a2;simp[*,F68,za,ints]
 rw[if_neg e5];replace e5:=eqn e5;by_cases e6:x.kind=6
 ·rw[if_pos e6];obtain⟨a0,a1,a2⟩:=k6 e6;obtain⟨a,b,ha⟩:=len2 (hl.trans a1);subst ha;have e0:atA [a,b] 0=a:=rfl;have e1:atA [a,b] 1=b:=rfl;rw[e0,e1];obtain⟨i,row,b1,b2,b3,b4⟩:=rarr_at hS.cost a0;have hc:=rcell_spec (T:=T) a b3 b4;have hr:=stR_row (T:=T) (u:=u) (h:=none) b3;rw[b1]at hra;unfold putAt;rw[b1];simp only[Int.toNat_natCast,b3,Option.bind_some];replace e6:=eqp e6;by_cases hx:0<=a/\a<row.length
  ·rw[if_pos hx]at hc;have hn:¬a<0:=by omega
   have hlt:a.toNat<row.length:=by omega
   have hx0:=hx.1;rw[if_neg hn,if_pos hlt];obtain⟨y,hy⟩:∃y,row[a.toNat]? =some y:=⟨_,ye hlt⟩
   have hput:=rput_row (T:=T) (u:=u) (h:=none) b3 a.toNat b;refine⟨0,zb rfl rfl rfl (by simp[za,ints]) ?_,fun z e=>by cases e⟩;clear args outs prs k12 k3 k4 k5 k6 k7 k8 k9 hk hl hL hU hx hn b1 b2 b3 a0 a1 a2;simp[*,F68,za,ints,-getElem?_pos,yE]
  ·rw[if_neg hx]at hc;have hnone:(if a<0 then none else if a.toNat<row.length then some {zUa S with arrs:=(zUa S).arrs.set i (row.set a.toNat b)}else none:Option RS)=none:=by
    split
    ·rfl
    ·rw[if_neg (by omega)]
   rw[hnone];refine⟨0,zb rfl rfl rfl (by simp[za,ints]) ?_,fun z e=>by cases e⟩;clear args outs prs k12 k3 k4 k5 k6 k7 k8 k9 hk hl hL hU hx hnone b1 b2 b3 a0 a1 a2;simp[*,F68,za,ints]
 rw[if_neg e6];replace e6:=eqn e6;by_cases e7:x.kind=7
 ·rw[if_pos e7];obtain⟨g,a0,a1,a2,a3⟩:=k7 e7;rw[a0];simp only;have hgm:g∈u.flows:=yx a0;have hlg:l.length<=g.types.length:=by rw[hl,a2];simp[pars];omega
  obtain⟨z,hcall,hz⟩:=rcall_of hU hL a0 (l:=l) (T:=T) hS.cost hw hlg;have hpl:=znc u x.name [] hU.sz.flows;have hpn:(((zT u.flows x.name).toNat:Nat):Int)=zT u.flows x.name:=Int.toNat_of_nonneg a1;rw[hpn]at hcall;simp[encUnt]at hpl;generalize callW (evN u w) g l (zUa S)=q at*;obtain⟨y,S1⟩:=q;simp only at hcall hz;replace e7:=eqp e7;cases y with
  |stop k=>
   refine⟨z,zb rfl rfl rfl (by simp[za,ints]) ?_,fun z e=>by cases e⟩;simp[ints]at hcall;clear args outs prs k12 k3 k4 k5 k6 k7 k8 k9 hk hl hL hU a0 a1 a2 a3 hz;simp[*,F68,za,ints]
  |ok y=>
   have hz:=hz y rfl;subst hz;refine⟨z,zb rfl rfl rfl (by simp[za,ints]) ?_,fun z e=>by cases e;rfl⟩;simp[ints]at hcall;clear args outs prs k12 k3 k4 k5 k6 k7 k8 k9 hk hl hL hU a0 a1 a2 a3;simp[*,F68,za,ints]
 rw[if_neg e7];replace e7:=eqn e7;by_cases e8:x.kind=8
 ·rw[if_pos e8];have e9:(x.kind=9)=False:=eqn (by omega);replace e8:=eqp e8;have hic:(zUa S).inp=S.inp:=rfl;rw[hic];have hsc:=setR_cost' u S T;have hco:(zUa S).inp=S.inp:=rfl;cases hi:S.inp with
  |nil=>
   rw[hi]at hsc hco;simp only[List.map_nil]at hsc;have hs4:=setR_4 u (zUa S) T;rw[hco]at hs4;simp only[ints,List.map_nil]at hs4;refine⟨0,zb rfl rfl rfl (by simp[za,ints]) ?_,fun z e=>by cases e⟩;clear args outs prs k12 k3 k4 k5 k6 k7 k8 k9 hk hl hL hU;simp[*,F68,za,ints]
  |cons n r=>
   rw[hi]at hsc hco;simp only[yO]at hsc;have hne:¬((r.length:Int)+1=0):=by omega
   have ht:List.take r.length (r.map (PV.int .i64))=r.map (PV.int .i64):=by rw[List.take_of_length_le];simp
   refine⟨n,zb rfl rfl rfl (by simp[za,ints]) ?_,fun z e=>by cases e;rfl⟩;clear args outs prs k12 k3 k4 k5 k6 k7 k8 k9 hk hl hL hU;simp[*,F68,za,ints]
 rw[if_neg e8];replace e8:=eqn e8;by_cases e9:x.kind=9
 ·rw[if_pos e9];obtain⟨a1,a2⟩:=k9 e9;obtain⟨a,ha⟩:=len1 (hl.trans a1);subst ha;have e0:atA [a] 0=a:=rfl;rw[e0];have hso:=setR_out (u:=u) (S:=zUa S) (T:=T) (S.out++[a]);have hroom:(S.out.length+1)*8<=zm:=by have:=hS.2;simp only[zm];omega
  have hr4:∀X,((stR u (zUa S) none T).set 0 X)[0]? =some X:=by
   intro X;rw[yn (by rw[stR_len hS.cost];unfold nbR;omega)]
  have hao:acc 1 ((S.out++[a]).map (PV.int .i64))= .slice .own 1 (S.out.map (PV.int .i64)++[.int .i64 a]):=by
   rw[acc_ne (by simp)];simp
  have hio:isOwn (acc 1 (S.out.map (PV.int .i64)++[.int .i64 a]))=some (1,S.out.map (PV.int .i64)++[.int .i64 a]):=by
   rw[acc_ne (by simp)];rfl
  rw[hao]at hso;simp only[ints]at hso;have hco:(zUa S).out=S.out:=rfl;replace e9:=eqp e9;refine⟨0,zb rfl rfl rfl (by simp[za,ints]) ?_,fun z e=>by cases e⟩;clear args outs prs k12 k3 k4 k5 k6 k7 k8 k9 hk hl hL hU hao;simp[*,F68,za,ints]
 exact absurd hk (by simp only[eq_iff_iff,iff_false]at e3 e4 e5 e6 e7 e8;omega)
set_option maxHeartbeats 4000000 in
theorem rloop_of{u:Unt}(hU:OkU u){w:Nat}(hL:SpecR u w){m:Nat}{p:Pl}{x:Node}(ho:okN u m p x)(hk:x.kind=11){v:List Int}{S:RS}{T:List (List Int)}{j:Nat}(hS:FitS u S)(hwt:wtN x<capE)
  (hj:T[j]? =some v) (hv:v.length=m) (hw:S.fuel<=w) {l:List Int} (hl:l.length=x.params.length):
  ∃y:Wy,zk E 67 [.ptr 0 0 0,zC x,.mslice (nbR u+j) 0 m 1,ints l] (stR u S none T)=some (.ret (encW y),stR u (zxe (evN u w) x (w+1) l v S).2.2 (goH (zxe (evN u w) x (w+1) l v S).1) (T.set j (zxe (evN u w) x (w+1) l v S).2.1))∧
   ∀r,(zxe (evN u w) x (w+1) l v S).1= .ok r->y=r:=by
 have hws:=zLa x;have hjl:=(yb.1 hj).1;rw[zGd]at ho;obtain⟨o1,o2⟩:=ho;have hkid:=kids_one (o1.k11 hk).2;have hp:plIn p x.kind x.outs x.params=⟨none,some x.params.length,some x.outs.length⟩:=by rw[hk];rfl
 rw[hp]at o2;have hmem:kid0 x∈x.kids:=by rw[hkid];simp
 obtain⟨h1,h2⟩:=zpc o2 _ hmem;have hwk:=zBc hmem;unfold capE at hwt;have ou:=o1.outs;have op:=o1.prs;have hset1:∀l1 v1 S1,FitS u S1->v1.length=m->l1.length=x.params.length->zk E 66 [.mslice (nbR u+j) 0 m 1,ints x.params,ints l1] (stR u S1 none (T.set j v1))=some (.ret (.tup []),stR u S1 none (T.set j (setW v1 x.params l1))):=by
  intro l1 v1 S1 q1 q2 q3;have:=rset_spec (j:=j) (h:=none) (T:=T.set j v1) q1 (yn hjl) q2 op q3.symm (by omega);rwa[yRa]at this
 have hset2:∀l1 v1 S1,FitS u S1->v1.length=m->l1.length=x.outs.length->zk E 66 [.mslice (nbR u+j) 0 m 1,ints x.outs,ints l1] (stR u S1 none (T.set j v1))=some (.ret (.tup []),stR u S1 none (T.set j (setW v1 x.outs l1))):=by
  intro l1 v1 S1 q1 q2 q3;have:=rset_spec (j:=j) (h:=none) (T:=T.set j v1) q1 (yn hjl) q2 ou q3.symm (by omega);rwa[yRa]at this
 have hlist:∀v1 S1,FitS u S1->S1.fuel<=w->v1.length=m->∃y:Wy,zk E 44 [.ptr 0 0 0,zi (kid0 x),.mslice (nbR u+j) 0 m 1] (stR u S1 none (T.set j v1))=some (.ret (encW y),stR u (zcc (evN u w) (kid0 x) v1 S1).2.2 (goH (zcc (evN u w) (kid0 x) v1 S1).1) (T.set j (zcc (evN u w) (kid0 x) v1 S1).2.1))/\∀r,(zcc (evN u w) (kid0 x) v1 S1).1= .ok r->y=r:=by
  intro v1 S1 q1 q2 q3;have:=hL m _ _ v1 S1 (T.set j v1) j q1 q2 h1 h2 (by unfold capE;omega) (yn hjl) q3;rwa[yRa]at this
 have hrun:∀v1 S1,v1.length=m->ListRun m ⟨none,some x.params.length,some x.outs.length⟩ (kid0 x) S1 (zcc (evN u w) (kid0 x) v1 S1):=fun v1 S1 q=>zze (evN_ok hU w) _ v1 S1 h1 h2 q
 have hself:=set_self hj;suffices H:PC (zk E 67 [.ptr 0 0 0,zC x,.mslice (nbR u+j) 0 m 1,ints l] (stR u S none T)) (fun res st=>∃y:Wy,res= .ret (encW y)/\st=stR u (zxe (evN u w) x (w+1) l v S).2.2 (goH (zxe (evN u w) x (w+1) l v S).1) (T.set j (zxe (evN u w) x (w+1) l v S).2.1)/\∀r,(zxe (evN u w) x (w+1) l v S).1= .ok r->y=r) by
  obtain⟨r,st,e,y,rfl,rfl,h⟩:=PC_iff.1 H;exact⟨y,e,h⟩
 refine pcall_wpP rfl rfl rfl (by simp[za,ints]) ?_;clear hL hU o1 o2 hp hmem h1 h2 hwk hws ou op hj;simp[F67,za,ints];refine zvd K67_0 B67_0 (fun c:RSt=>c.S.fuel) (fun c=>[(3,ints c.l)]) (fun c=>[(8,.cells [.int .i64 0,.slice .fit 1 []])]) (fun c=>stR u c.S none (T.set j c.v))
  (fun c=>zxe (evN u w) x (w+1) l v S=zxe (evN u w) x c.k c.l c.v c.S/\FitS u c.S/\c.S.fuel<=w/\c.S.fuel<c.k/\c.v.length=m/\c.l.length=x.params.length) ⟨w+1,l,v,S⟩ ?_ ?_
 ·simp[*,ints];omega
 ·rintro⟨k,l1,v1,S1⟩ s1 ⟨d2,d3,d4,d5,d6,d7⟩ g1 g2 g3 g4 g5
  simp at d2 d3 d4 d5 d6 d7 g1 g2 g3 g4 g5;rw[d2];cases k with
  |zero=>omega
  |succ k=>
   have hs1:=hset1 l1 v1 S1 d3 d6 d7;have hvl:(setW v1 x.params l1).length=m:=by rw[zyd];exact d6
   obtain⟨y,hc,hy⟩:=hlist (setW v1 x.params l1) S1 d3 d4 hvl;obtain⟨r1,r2,r3⟩:=hrun (setW v1 x.params l1) S1 hvl;simp only[zxe];simp only[zxe]at d2;generalize zcc (evN u w) (kid0 x) (setW v1 x.params l1) S1=q at*;obtain⟨a,v2,S2⟩:=q;simp only at r1 r2 r3 hc d2 hy;have hS2:=d3.mono r1;have hset2:=fun z hz=>hset2 z v2 S2 hS2 r2 hz
   have hov:=zPa u S2 (goH a) (T.set j v2);clear hlist hrun hset1;simp[ints]at hs1;simp[encW,zi,ints]at hc;cases a with
   |stop q=>
    simp at hov hc;have hfin:∃y':Wy,encW y=encW y':=⟨y,rfl⟩
    simp[encW,ints]at hfin;clear d2 hset2 r3 d7 hy;simp[*,za,kids,zi,ints,encW]
   |ok r=>
    obtain⟨r4,r5,_⟩:=r3 r rfl;have hyr:=hy r rfl;subst hyr;clear r3 hy;simp at hov hc;simp only at d2 ⊢;by_cases h15:y.kind=15
    ·rw[if_pos h15];have hfin:∃y':Wy,((15:Int)=y'.kind/\y.l.map (PV.int .i64)=y'.l.map (PV.int .i64))/\y'=y:=⟨y,⟨h15.symm,rfl⟩,rfl⟩
     rw[h15]at hc;clear d2 hset2 d7 r5;simp[*,za,kids,zi,ints,encW]
    ·by_cases h14:y.kind=14
     ·rw[if_neg h15,if_pos h14];have hyl:y.l.length=x.outs.length:=by
       rcases r5 with r5|r5|r5|r5
       ·omega
       ·omega
       ·have:=r5.2;simp at this;exact this.symm
       ·omega
      have hs2:=hset2 y.l hyl;simp[ints]at hs2;rw[h14]at hc;clear d2 hset2 r5 d7 hyl;simp[*,za,kids,zi,ints,encW]
     ·rw[if_neg h15,if_neg h14];rw[if_neg h15,if_neg h14]at d2;have hyl:y.l.length=x.params.length:=by
       rcases r5 with r5|r5|r5|r5
       ·cases r5.2
       ·have:=r5.2;simp at this;exact this.symm
       ·omega
       ·omega
      have h13:y.kind=13:=by
       rcases r5 with r5|r5|r5|r5
       ·cases r5.2
       ·exact r5.1
       ·omega
       ·omega
      rw[h13]at hc;have hfu:S2.fuel<S1.fuel:=r4;have hm:FitS u S2/\S2.fuel<=w/\S2.fuel<k:=⟨hS2,by omega,by omega⟩
      clear hset2 r5 d7 h15 h14 h13;simp[*,za,kids,zi,ints];refine⟨⟨k,y.l,v2,S2⟩,?_⟩;simp[*,ints]
theorem evN_zero(u:Unt)(w:Nat)(x:Node)(v:List Int)(S:RS)(h:S.fuel=0):evN u w x v S=(.stop 0,v,S):=by
 cases w with
 |zero=>rfl
 |succ w=>simp only[evN,h]
set_option maxHeartbeats 8000000 in
theorem rlist_of{u:Unt}(hU:OkU u){w:Nat}(hL:∀w',w=w'+1->SpecR u w'):SpecR u w:=by
 intro m p l v S T j hS hf hne ho hw hj hv;have hlen:=zFb l;have hjl:=(yb.1 hj).1;have hE:=evN_ok hU w;have hself:=set_self hj;suffices H:PC (zk E 44 [.ptr 0 0 0,zi l,.mslice (nbR u+j) 0 m 1] (stR u S none T)) (fun res st=>∃y:Wy,res= .ret (encW y)/\st=stR u (zcc (evN u w) l v S).2.2 (goH (zcc (evN u w) l v S).1) (T.set j (zcc (evN u w) l v S).2.1)/\∀r,(zcc (evN u w) l v S).1= .ok r->y=r) by
  obtain⟨r,st,e,y,rfl,rfl,h⟩:=PC_iff.1 H;exact⟨y,e,h⟩
 unfold capE at hw;refine pcall_wpP rfl rfl rfl (by simp[zi]) ?_;simp[F44,zi];refine zvd K44_0 B44_0 (fun c:LSt=>c.rest.length) (fun c=>[(7,.int .i64 ((l.length-c.rest.length:Nat):Int))]) (fun c=>[(6,.cells [.int .i64 0,.slice .fit 1 []])]) (fun c=>stR u c.S none (T.set j c.v))
  (fun c=>(∃d,l=d++c.rest)/\zcc (evN u w) l v S=zcc (evN u w) c.rest c.v c.S/\FitS u c.S/\c.S.fuel<=w/\c.v.length=m/\okL u m p c.rest/\c.rest≠ []) ⟨l,v,S⟩ ?_ ?_
 ·simp[*]
 ·rintro⟨rest,v1,S1⟩ s1 ⟨⟨d,d1⟩,d2,d3,d4,d5,d6,d7⟩ g1 g2 g3 g4 g5
  simp at d1 d2 d3 d4 d5 d6 d7 g1 g2 g3 g4 g5;rw[d2];cases rest with
  |nil=>exact absurd rfl d7
  |cons x rest=>
   have hdl:l.length-(rest.length+1)=d.length:=by rw[d1];simp
   have hdl2:l.length-rest.length=d.length+1:=by rw[d1];simp;omega
   have hx:l[d.length]? =some x:=by rw[d1];simp
   have hlt:(d.length:Int)<l.length:=by rw[d1];simp;omega
   have hwx:wtN x<capE:=by have:=zUd (show x∈l by rw[d1];simp);unfold capE;omega
   have hws:=zLa x;rw[okL]at d6;obtain⟨o0,oc,or⟩:=d6;have hwr:zX .i64 ((d.length:Int)+1)=(d.length:Int)+1:=zq (by omega) (by omega);have hdd:∃d',l=d'++rest:=⟨d++[x],by rw[d1];simp⟩
   have hnode:=hE m p x v1 S1 o0 d5;have hstep:=rstep_spec u S1 (T.set j v1) (by have:=d3.2;omega);simp only[zcc];simp only[zcc]at d2;cases hfu:S1.fuel with
   |zero=>
    rw[hfu]at hstep;rw[evN_zero u w x v1 S1 hfu]at d2 ⊢;simp only at hstep;clear hL hE hS hf ho hj hv hself d3 d4 d5 d7 o0 oc or hnode d2 hws hwx d1;simp[*,za,ints,encW];exact⟨⟨0,[]⟩,rfl,rfl⟩
   |succ k=>
    obtain⟨w',rfl⟩:∃w',w=w'+1:=⟨w-1,by omega⟩
    have hL:=hL w' rfl;rw[hfu]at hstep;simp only at hstep;obtain⟨n1,n2,n3⟩:=hnode;simp only[evN,hfu]at d2 n1 n2 n3 ⊢;have hS0:FitS u {S1 with fuel:=k}:=⟨d3.1,by have:=d3.2;simp only;omega⟩
    have hf0:({S1 with fuel:=k}:RS).fuel<=w':=by simp only;omega
    have hlt0:({S1 with fuel:=k}:RS).out.length+({S1 with fuel:=k}:RS).fuel<1000000000000:=by have:=d3.2;simp only;omega
    have hcur:(T.set j v1)[j]? =some v1:=yn hjl;have ho':=o0;rw[zGd]at ho';obtain⟨o1,o2⟩:=ho';unfold capE at hwx;have hof:=vof_spec (u:=u) (h:=none) hS0 hcur d5 o1.args (by omega);have hol:=ofW_len v1 x.args;have hlo:=fun(h:x.kind=11)=>rloop_of hU hL o0 h hS0 (by unfold capE;omega) hcur d5 hf0 (l:=ofW v1 x.args) (by rw[hol];exact(o1.k11 h).1)
    have hsm:=fun(h:3<=x.kind/\x.kind<=9)=>rsum_of hU hL o1 h (T:=T.set j v1) hS0 hf0 hlt0 hol
    have hset1:∀o z S2 h,FitS u S2->x.outs=[o]->inR m [o]->(stR u S2 h (T.set j v1)).set (nbR u+j) (.arr 1 ((v1.map (PV.int .i64)).set o.toNat (.int .i64 z)))=stR u S2 h (T.set j (setW v1 x.outs [z])):=by
     intro o z S2 h q1 q2 q3;have:=stR_set (u:=u) (S:=S2) (h:=h) (T:=T.set j v1) q1 j (v1.set o.toNat z);rw[yRa,yqa]at this;rw[this,q2];rfl
    have hgt1:∀S2 h,FitS u S2->(stR u S2 h (T.set j v1))[nbR u+j]? =some (.arr 1 (v1.map (PV.int .i64))):=fun S2 h q=>stR_get q hcur
    have hin1:∀o,x.outs=[o]->0<=o/\o.toNat<m/\∃y,v1[o.toNat]? =some y:=by
     intro o q;have:=o1.outs o (by rw[q];simp);exact⟨this.1,by omega,_,ye (by omega)⟩
    have hcont:∀r v2 S2,(nodeW u (evN u w') w' x v1 {S1 with fuel:=k})=(.ok r,v2,S2)->r.kind=0->FitS u S2/\S2.fuel<=w'+1/\v2.length=m/\rest≠ []:=by
     intro r v2 S2 e hr0;rw[e]at n1 n2 n3;obtain⟨m1,m2⟩:=n3 _ rfl;refine⟨d3.mono n1,by have:=n1.fuel;simp only at this;omega,n2,?_⟩
     rintro rfl
     rcases m2 with m2|m2
     ·rw[m2.2]at oc;cases oc
     ·exact m2.1.ne hr0
    have hov0:=zPa u {S1 with fuel:=k} none (T.set j v1);have hch:x.kind=10->∃a,ofW v1 x.args=[a]:=fun h=>len1 (by rw[hol];exact(o1.k10 h).1)
    clear hE n1 n2 n3 hself hS hf ho hj hv d7 hlen d1;generalize hSS:({S1 with fuel:=k}:RS)=S0 at*;generalize hoo:ofW v1 x.args=la at*;unfold nodeW at d2 hcont ⊢;rw[hoo]at d2 hcont ⊢;simp[ints]at hof hov0;have hkk:=o1.k;have e0:(x.kind=0)=False:=eqn (by omega);by_cases k1:x.kind=1\/x.kind=2
    ·rw[if_pos k1]at d2 hcont ⊢;obtain⟨o,hou⟩:=len1 (o1.k12 k1);obtain⟨i1,i2,y,i3⟩:=hin1 o hou;have f1:=hset1 o x.n S0 none hS0 hou (by rw[<-hou];exact o1.outs);have f2:=hgt1 S0 none hS0;obtain⟨c1,c2,c3,c4⟩:=hcont _ _ _ rfl rfl;have hov1:=zPa u S0 none (T.set j (setW v1 x.outs [x.n]));simp at hov1;clear hcont hch hlo hsm hset1 hgt1 hin1 hL o0 o1 o2 oc hkk d3 d4 hS0 hf0 hlt0 hcur hol hSS hfu;rcases k1 with k1|k1
     ·replace k1:=eqp k1;rw[hou]at hov1 f1 c3;simp[*,za,ints,encW,-getElem?_pos,yE];refine⟨⟨rest,setW v1 x.outs [x.n],S0⟩,?_⟩;simp[*]
     ·have k0:(x.kind=1)=False:=eqn (by omega);replace k1:=eqp k1;rw[hou]at hov1 f1 c3;simp[*,za,ints,encW,-getElem?_pos,yE];refine⟨⟨rest,setW v1 x.outs [x.n],S0⟩,?_⟩;simp[*]
    rw[if_neg k1]at d2 hcont ⊢;have e1:(x.kind=1)=False:=eqn (by omega);have e2:(x.kind=2)=False:=eqn (by omega);clear k1;by_cases kE:12<=x.kind/\x.kind<=15
    ·rw[if_pos kE]at d2 hcont ⊢;have h4:x.kind=12\/x.kind=13\/x.kind=14\/x.kind=15:=by omega
     clear hcont hch hlo hsm hset1 hgt1 hin1 hL o0 o1 o2 oc hkk d2 d3 d4 hS0 hf0 hlt0 hcur hol hSS hfu kE;have hfin:∃y:Wy,(x.kind=y.kind/\la.map (PV.int .i64)=y.l.map (PV.int .i64))/\y=⟨x.kind,la⟩:=⟨_,⟨rfl,rfl⟩,rfl⟩
     rcases h4 with h4|h4|h4|h4
     ·simp[*,za,ints,encW]
     ·simp[*,za,ints,encW]
     ·simp[*,za,ints,encW]
     ·simp[*,za,ints,encW]
    rw[if_neg kE]at d2 hcont ⊢;have e12:(x.kind=12)=False:=eqn (by omega);have e13:(x.kind=13)=False:=eqn (by omega);have e14:(x.kind=14)=False:=eqn (by omega);have e15:(x.kind=15)=False:=eqn (by omega);clear kE;by_cases k10:x.kind=10
    ·rw[if_pos k10]at d2 hcont ⊢;obtain⟨a,ha⟩:=hch k10;subst ha;have a0:atA [a] 0=a:=rfl;rw[a0]at d2 hcont ⊢;have hkid:=kids_two (o1.k10 k10).2;have hp:plIn p x.kind x.outs x.params={p with y:=some x.outs.length}:=by rw[k10];rfl
     rw[hp]at o2;have hmem:(if a=0 then kid1 x else kid0 x)∈x.kids:=by rw[hkid];split<;>simp
     obtain⟨h1,h2⟩:=zpc o2 _ hmem;have hwk:=zBc hmem;obtain⟨y,hc,hy⟩:=hL m _ _ v1 S0 (T.set j v1) j hS0 hf0 h1 h2 (by unfold capE;omega) hcur d5;rw[yRa]at hc;obtain⟨r1,r2,r3⟩:=zze (evN_ok hU w') _ v1 S0 h1 h2 d5;have hif:(a=0)=True/\(if a=0 then kid1 x else kid0 x)=kid1 x\/(a=0)=False/\(if a=0 then kid1 x else kid0 x)=kid0 x:=by
      by_cases h:a=0<;>simp[h]
     unfold choiceW at d2 hcont ⊢;have hou:=o1.outs;have holn:x.outs.length<1099511627776:=by omega
     generalize(if a=0 then kid1 x else kid0 x)=kl at*;generalize zcc (evN u w') kl v1 S0=q at*;obtain⟨b,v2,S2⟩:=q;simp only at r1 r2 r3 hc hy d2 hcont ⊢;have hS2:=hS0.mono r1;have hov1:=zPa u S2 (goH b) (T.set j v2);simp[zi,encW,ints]at hc;clear hch hlo hsm hset1 hgt1 hin1 hL o0 o1 o2 oc hkk d3 d4 hS0 hf0 hlt0 hcur hol hSS hfu hwk hmem h1 h2 hp r1;replace k10:=eqp k10;cases b with
     |stop q=>
      simp at hov1 hc;clear hcont d2 r3 hy r2;rcases hif with⟨hc0,hl⟩|⟨hc0,hl⟩<;>subst hl<;>(simp[*,za,kids,zi,ints,encW];exact⟨y,⟨rfl,rfl⟩⟩)
     |ok r=>
      have hyr:=hy r rfl;subst hyr;obtain⟨_,r4,_⟩:=r3 y rfl;simp at hov1 hc;simp only at d2 hcont ⊢;clear hy r3;by_cases hk:y.kind=12
      ·rw[if_pos hk]at d2 hcont ⊢;have hyl:x.outs.length=y.l.length:=by
        rcases r4 with r4|r4|r4|r4
        ·have:=r4.2;simp at this;exact this
        ·omega
        ·omega
        ·omega
       have hset:=rset_spec (j:=j) (h:=none) (T:=T.set j v2) hS2 (yn hjl) r2 hou hyl holn;rw[yRa]at hset;simp[ints]at hset;obtain⟨c1,c2,c3,c4⟩:=hcont _ _ _ rfl rfl;have hov2:=zPa u S2 none (T.set j (setW v2 x.outs y.l));simp at hov2;replace hk:=eqp hk;clear hcont r4 hyl holn hou r2;rcases hif with⟨hc0,hl⟩|⟨hc0,hl⟩<;>subst hl<;>(simp[*,za,kids,zi,ints,encW];refine⟨⟨rest,setW v2 x.outs y.l,S2⟩,?_⟩;simp[*])
      ·rw[if_neg hk]at d2 hcont ⊢;have hk0:(y.kind=0)=False:=eqn r4.ne;replace hk:=eqn hk;clear hcont r4 holn hou r2 d2;rcases hif with⟨hc0,hl⟩|⟨hc0,hl⟩<;>subst hl<;>(simp[*,za,kids,zi,ints,encW])
    rw[if_neg k10]at d2 hcont ⊢;by_cases k11:x.kind=11
    ·rw[if_pos k11]at d2 hcont ⊢;obtain⟨y,hc,hy⟩:=hlo k11;rw[yRa]at hc;have hlk:=(loopW_ok (evN_ok hU w') o0 k11 (w'+1) (l:=la) (v:=v1) (by rw[hol];exact(o1.k11 k11).1) d5 S0).2.2;generalize zxe (evN u w') x (w'+1) la v1 S0=q at*;obtain⟨b,v2,S2⟩:=q;simp only at hc hy hlk;have hov1:=zPa u S2 (goH b) (T.set j v2);simp[za,encW,ints]at hc;clear hch hlo hsm hset1 hgt1 hin1 hL o0 o1 o2 oc hkk d3 d4 hS0 hf0 hlt0 hcur hol hSS hfu;replace k10:=eqn k10;replace k11:=eqp k11;cases b with
     |stop q=>
      simp at hov1 hc;clear hcont d2 hy hlk;simp[*,za,zi,ints,encW];exact⟨y,⟨rfl,rfl⟩⟩
     |ok r=>
      have hyr:=hy r rfl;subst hyr;simp at hov1 hc;simp only at d2 hcont ⊢;clear hy;by_cases hk:y.kind=0
      ·rw[if_pos hk]at d2 ⊢;obtain⟨c1,c2,c3,c4⟩:=hcont _ _ _ rfl hk;clear hcont hlk;rw[hk]at hc;clear hk;simp[*,za,zi,ints,encW];refine⟨⟨rest,v2,S2⟩,?_⟩;simp[*]
      ·rw[if_neg hk]at d2 ⊢;replace hk:=eqn hk;clear hcont d2 hlk;simp[*,za,zi,ints,encW]
    rw[if_neg k11]at d2 hcont ⊢;have h39:3<=x.kind/\x.kind<=9:=by
     have a1:=of_eq_false e1;have a2:=of_eq_false e2;have a3:=of_eq_false e12;have a4:=of_eq_false e13;have a5:=of_eq_false e14;have a6:=of_eq_false e15;omega
    obtain⟨z,hc,hz⟩:=hsm h39;have hpm:=plainW_ok (evN_ok hU w') hU o1 h39 hol (zUa S0);have hou:=o1.outs;have hol1:x.outs.length<=1:=by
     have q:=o1.k3;have q4:=o1.k4;have q5:=o1.k5;have q6:=o1.k6;have q8:=o1.k8;have q9:=o1.k9;rcases(show x.kind=3\/x.kind=4\/x.kind=5\/x.kind=6\/x.kind=7\/x.kind=8\/x.kind=9 from by omega)with e|e|e|e|e|e|e
     ·have:=(q e).2;omega
     ·have:=(q4 e).2;omega
     ·have:=(q5 e).2.2;omega
     ·have:=(q6 e).2.2;omega
     ·obtain⟨_,_,_,_,t⟩:=o1.k7 e;omega
     ·have:=q8 e;omega
     ·have:=(q9 e).2;omega
    have hfs:=fun S2 (h:Mono1 (zUa S0) S2)=>(⟨h.arrs.trans hS0.1,by have:=h.out;have:=hlt0;simp only[zUa]at*;omega⟩:FitS u S2)
    generalize plainW u (evN u w') x la (zUa S0)=q at*;obtain⟨b,S2⟩:=q;simp only at hc hz hpm;have hS2:=hfs S2 hpm.1;have hov1:=zPa u S2 (goH b) (T.set j v1);simp[za,ints]at hc;replace k10:=eqn k10;replace k11:=eqn k11;clear hch hlo hsm hL o0 o2 oc hkk d3 d4 hf0 hlt0 hcur hol hSS hfu hfs;cases b with
    |stop q=>
     simp at hov1 hc;clear hcont d2 hz hpm o1 hset1 hgt1 hin1 hou;simp[*,za,zi,ints,encW];exact⟨⟨0,[]⟩,⟨rfl,rfl⟩⟩
    |ok r=>
     simp at hov1 hc;simp only at d2 hcont ⊢;obtain⟨c1,c2,c3,c4⟩:=hcont _ _ _ rfl rfl;have hrl:=hpm.2 r rfl;clear hcont hpm
     match hx1:x.outs with
     | []=>
      rw[hx1]at hrl c3 d2;have hr0:r=[]:=yW hrl;subst hr0;clear hz o1 hset1 hgt1 hin1 hou hol1 hrl;simp only[setW]at d2 c3;rw[hx1]at hc;simp only[List.map_nil]at hc;simp[*,za,zi,ints,encW,setW];refine⟨⟨rest,v1,S2⟩,?_⟩;simp[*]
     | [o]=>
      rw[hx1]at hrl;obtain⟨mm,hmm⟩:=len1 hrl;subst hmm;have hzz:=hz mm rfl;subst hzz;obtain⟨i1,i2,y,i3⟩:=hin1 o hx1;have f1:=hset1 o z S2 none hS2 hx1 (by rw[<-hx1];exact hou);have f2:=hgt1 S2 none hS2;have hov2:=zPa u S2 none (T.set j (setW v1 x.outs [z]));simp at hov2;rw[hx1]at hov2 f1 c3 d2 hc;simp only[yO,List.map_nil]at hc;clear hz o1 hset1 hgt1 hin1 hou hol1 hrl;simp[*,za,zi,ints,encW,-getElem?_pos,yE];refine⟨⟨rest,setW v1 [o] [z],S2⟩,?_⟩;simp[*]
     |_::_::_=>rw[hx1]at hol1;simp at hol1
theorem rspecs{u:Unt}(hU:OkU u):∀w,SpecR u w
 |0=>rlist_of hU (fun w' h=>by cases h)
 |w+1=>rlist_of hU (fun w' h=>by cases h;exact rspecs hU w)
theorem rptrs_snoc(x:Arr):∀(d:List Arr) (b:Nat),zxb b (d++[x])=zxb b d++[.mslice (b+d.length) 0 x.size.toNat 1]
 | [],b=>by simp[zxb]
 |y::d,b=>by
  simp only[yV,zxb,rptrs_snoc x d,yX];rw[show b+1+d.length=b+(d.length+1)from by omega]
set_option maxHeartbeats 4000000 in
theorem refplay_spec(u:Unt)(hz:USz u)(hb:∀f∈u.flows,wtL f.body<1099511000000)(inp:List Int)(fu:Int)(hf:fu<=100000000000):zk E 13 [encUnt u,ints inp,.int .i64 fu] []=some (.ret (encRn (playM u inp fu)),[]):=by
 have hck:=rcheck_spec u hz hb;rw[<-check_eq]at hck;refine zb rfl rfl rfl (by simp[encUnt,ints]) ?_;unfold playM;by_cases h0:(zCa u).1=0
 ·rw[if_pos h0];have hU:=checkM_ok hz h0;have hS0:FitS u (run0 u inp fu):=by
   refine⟨?_,?_⟩
   ·simp[run0,List.map_map,yH]
   ·simp[run0];omega
  obtain⟨f,hf',hfm,hp',hfp⟩:=hU.main;have hpl:=znc u zp [] hz.flows;have hpn:(((zT u.flows zp).toNat:Nat):Int)=zT u.flows zp:=Int.toNat_of_nonneg hp';obtain⟨z,hc,hzz⟩:=rcall_of hU (rspecs hU (run0 u inp fu).fuel) hf' (l:=[]) (T:=[]) hS0 (yg _) (by simp);rw[hpn]at hc;have hm:=(callW_ok (evN_ok hU (run0 u inp fu).fuel) (hU.body f hfm) (l:=[]) (by simp) (run0 u inp fu)).1;have hmw:mainW u (run0 u inp fu)=callW (evN u (run0 u inp fu).fuel) f [] (run0 u inp fu):=by unfold mainW;rw[hf']
  rw[hmw];clear hmw;generalize callW (evN u (run0 u inp fu).fuel) f [] (run0 u inp fu)=q at*;obtain⟨a,S1⟩:=q;simp only at hc hm hzz;have hS1:=hS0.mono hm;have hov:=zPa u S1 (goH a) [];have hr4:∀h X,((stR u S1 h []).set 0 X)[0]? =some X:=by
   intro h X;rw[yn (by rw[stR_len hS1];unfold nbR;omega)]
  have hmx:(if fu<0 then 0 else fu)=max fu 0:=by split<;>omega
  generalize zCa u=ck at*;obtain⟨c0,c1⟩:=ck;simp only at h0;subst h0;simp[encUnt,arrs]at hck;simp[encUnt,arrs,zp]at hpl;simp only[zp]at hc;unfold stR at hc;simp[runR,run0,zdd,arrs,ints]at hc;simp[*,F13,encUnt,arrs,ints];refine zw u.arrays K13_0 B13_0 (fun d=>[(10,.int .i64 d.length)]) (fun d=> .arr 10 [.agg [.slice .plain 2 (u.arrays.map zZ),flows u.flows,.slice .plain 1 (inp.map (PV.int .i64)),acc 1 (zxb 1 d),.int .i64 0,.int .i64 0,.slice .fit 1 [],.int .i64 0,.int .i64 (max fu 0),.bool false]]::d.map (fun x=>intO (yo x.size.toNat 0))) (fun d=>True) (by have:=hz.arrs;omega) (by simp[zxb]) ?_ ?_
  ·intros d x r s1 hl' hlt hget hget' hwr hp g1 g2 g3 g4;simp at g1 g3;have hsz:=hU.arrs x hl'.mem;have hsn:=rptrs_snoc x d 1;rw[show 1+d.length=d.length+1 from by omega]at hsn;have hdec:decide (d.length<u.arrays.length)=true:=decide_eq_true hlt;have hs1:(x.size<0)=False:=eqn (by omega);have hs2:(0<=x.size)=True:=eqp (by omega);have hs3:(x.size<=9223372036854775807)=True:=eqp (by omega);have hs4:(8*x.size<=281474976710656)=True:=eqp (by omega);have hrow:Obj.arr 1 (yo x.size.toNat (PV.int .i64 0))=intO (yo x.size.toNat 0):=by simp[intO]
   have hroom:((zxb 1 d).length+1)*24<=zm:=by
    rw[rptrs_len];have:=hz.arrs;simp only[zm];omega
   have hao:acc 1 (zxb 1 d++[.mslice (d.length+1) 0 x.size.toNat 1])= .slice .own 1 (zxb 1 d++[.mslice (d.length+1) 0 x.size.toNat 1]):=acc_ne (by simp);have hio:isOwn (acc 1 (zxb 1 d++[.mslice (d.length+1) 0 x.size.toNat 1]))=some (1,zxb 1 d++[.mslice (d.length+1) 0 x.size.toNat 1]):=by
    rw[acc_ne (by simp)];rfl
   clear hl' hget' hlt hp hsz hU hS0 hm hr4 hck hS1 hc hov hpl hzz hf' hfm hp' hfp hpn;simp[*,zZ]
   try rw[hao]
  ·intros s1 hp g1 g2 g3 g4;simp at g1 g3;have hdec:(u.arrays.map (fun x=>intO (yo x.size.toNat 0)))=List.map (intO ∘ fun a=>yo a.size.toNat 0) u.arrays:=rfl;rw[hdec]at g4;clear hdec hU hS0 hp hck hm hS1 hf' hfm hp' hfp hpn;cases a with
   |stop k=>
    simp at hc;simp[stR,runR,zdd,arrs,ints]at hov;clear hzz;simp[*,encRn,runEnd,ints]
   |ok n=>
    replace hzz:=hzz n rfl;subst hzz;simp at hc;simp[stR,runR,zdd,arrs,ints]at hov;simp[*,encRn,runEnd,ints]
 ·rw[if_neg h0];generalize zCa u=ck at*;obtain⟨c0,c1⟩:=ck;simp only at h0;simp[encUnt]at hck;replace h0:=eqn h0;simp[*,F13,encUnt,encRn,ints]
def awK:Unt:=⟨[],[⟨zp,1,0,[1,1],[⟨1,0,2,[],[],[0],[],[]⟩,⟨4,3,0,[],[0,0],[1],[],[]⟩,⟨15,0,0,[],[1],[],[],[]⟩]⟩]⟩
def awV:Unt:=⟨[],[⟨zp,1,0,[1,1],[⟨1,0,2,[],[],[0],[],[]⟩,⟨1,0,4,[],[],[1],[],[]⟩,⟨15,0,0,[],[1],[],[],[]⟩]⟩]⟩
theorem two_22:two 3 2 2=(4,true):=by
 rw[two_eqC];decide+kernel
theorem awK_1:zIb awK=awV:=by
 have h4:=two_22;simp[zIb,awK,awV,flowK,zMc,roundsK,zsb,zjd,zkd,getA,setA,madeK,numK,at0,zfc,h4,wrL,wrGo,wrN,sumW,valW,zL,zO,zjb,zSb,zd,zMd,Node.ends]
theorem awK_0:(zCa awK).1=0:=by decide+kernel
theorem awV_1:(playM awV [] 3).status=1/\(playM awV [] 3).code=4:=by decide+kernel
theorem awK_sz:USz awK:=⟨by decide,by decide,by decide+kernel,by decide+kernel⟩
theorem awV_sz:USz awV:=⟨by decide,by decide,by decide+kernel,by decide+kernel⟩
theorem nilU_sz:USz ⟨[],[]⟩:=⟨by decide,by decide,by simp,by simp⟩
theorem plain_true(l:List Node)(hl:l.length<1099511627776)(h:∀x∈l,x.kind<=4\/x.kind=15):zk E 48 [zi l] []=some (.ret (.bool true),[]):=by
 refine zb rfl rfl rfl (by simp[zi]) ?_;simp[F48,zi];refine zw l K48_0 B48_0 (fun d=>[(3,.int .i64 d.length)]) (fun _=>[]) (fun d=>True) (by omega) (by simp) ?_ ?_
 ·intros d x r s1 hl' hlt hget hget' hw1 hp h1 h2 h3 h4;simp at h1 h2 h3;have hx:=h x hl'.mem;have hdec:decide (d.length<l.length)=true:=decide_eq_true hlt;obtain⟨k,o,n,s,a,us,ps,ks⟩:=x;simp only at hx;clear hl' h;by_cases hk:(4:Int)<k
  ·have e1:((4:Int)<k)=True:=eqp hk;have e2:(k=15)=True:=eqp (by omega);clear hx hk;simp[*,za]
  ·have e1:((4:Int)<k)=False:=eqn hk;clear hx hk;simp[*,za]
 ·intros s1 hp h1 h2 h3 h4;simp at h1 h2 h3;clear h;simp[*]
set_option maxHeartbeats 2000000 in
theorem right_true(ars:List Arr)(f g:Flow)(hn:f.name=zp)(hlf:f.body.length<1099511627776)(hlg:g.body.length<1099511627776)(hf:∀x∈f.body,x.kind<=4\/x.kind=15)(hg:∀x∈g.body,x.kind≠3/\x.kind≠4):
  zk E 31 [encUnt ⟨ars,[f]⟩,encUnt ⟨ars,[g]⟩] []=some (.ret (.bool true),[]):=by
 refine zb rfl rfl rfl (by simp[encUnt]) ?_;have hp:=plain_true f.body hlf hf;obtain⟨fn,ft,fp,fts,fb⟩:=f;obtain⟨gn,gt,gp,gts,gb⟩:=g;simp only at hn hlf hlg hf hg hp;subst hn;simp[F31,encUnt,flows];refine zw [()] K31_1 B31_1 (fun d=>[(5,.int .i64 d.length)]) (fun _=>[]) (fun d=>True) (by simp) (by simp) ?_ ?_
 ·intros d x r s1 hl' hlt hget hget' hw1 hp' h1 h2 h3 h4;have hd:d.length=0:=by have:d.length<1:=hlt;omega
  have w1:zX .i64 1=1:=zq (by omega) (by omega);simp[hd]at h1 h2 h3;clear hl' hlt hget hget' hw1;simp[zi]at hp;simp[*,zf,zi,zp];refine zw gb K31_0 B31_0 (fun e=>[(7,.int .i64 e.length)]) (fun _=>[]) (fun e=>True) (by omega) (by simp) ?_ ?_
  ·intros e y r' s3 jl jlt jget jget' jw1 jp j1 j2 j3 j4;simp at j1 j2 j3;have jdec:decide (e.length<gb.length)=true:=decide_eq_true jlt;obtain⟨y3,y4⟩:=hg y jl.mem;obtain⟨k,o,n,s,a,us,ps,ks⟩:=y;simp only at y3 y4;have e3:(k=3)=False:=eqn y3;have e4:(k=4)=False:=eqn y4;clear jl hg hf y3 y4;simp[*,za,zp,zi]
  ·intros s3 jp j1 j2 j3 j4;simp at j1 j2 j3;clear hg hf;simp[*,zp,zi]
 ·intros s1 hp' h1 h2 h3 h4;simp at h1 h2 h3;clear hg hf;simp[*]
theorem unit12_spec(t:List Int)(l:List Node):zk E 30 [ints t,zi l] []=some (.ret (encUnt ⟨[],[⟨zp,1,0,t,l⟩]⟩),[]):=by
 refine zb rfl rfl rfl (by simp[ints,zi]) ?_;simp[F30,ints,zi,encUnt,arrs,flows,zf,zp]
set_option maxHeartbeats 4000000 in
theorem awake12_spec:zk E 15 [] []=some (.ret (.bool true),[]):=by
 refine zb rfl rfl rfl (by simp) ?_;have k1:=known_spec awK awK_sz (by decide+kernel);rw[awK_0,awK_1]at k1;have k2:=known_spec ⟨[],[]⟩ nilU_sz (by simp);have k0:(zCa ⟨[],[]⟩).1=1:=by decide+kernel
 rw[k0]at k2;have u1:=unit12_spec [1,1] [⟨1,0,2,[],[],[0],[],[]⟩,⟨4,3,0,[],[0,0],[1],[],[]⟩,⟨15,0,0,[],[1],[],[],[]⟩];have r1:=refplay_spec awV awV_sz (by decide+kernel) [] 3 (by omega);have rt:=right_true [] ⟨zp,1,0,[1,1],[⟨1,0,2,[],[],[0],[],[]⟩,⟨4,3,0,[],[0,0],[1],[],[]⟩,⟨15,0,0,[],[1],[],[],[]⟩]⟩ ⟨zp,1,0,[1,1],[⟨1,0,2,[],[],[0],[],[]⟩,⟨1,0,4,[],[],[1],[],[]⟩,⟨15,0,0,[],[1],[],[],[]⟩]⟩ rfl (by decide) (by decide) (by decide) (by decide);obtain⟨a1,a2⟩:=awV_1;generalize playM awV [] 3=m1 at*;obtain⟨s1,c1,o1,k1',f1⟩:=m1;simp only at a1 a2;subst a1 a2;simp[encRn,ints,encUnt,awK,awV,arrs,flows,zf,zi,za,kids,zp]at k1 k2 r1 rt u1;simp[*,F15,ints,sealSt,sealBx,zqa,killAll]
structure HPl where
 iff:Bool
 loop:Bool
 yield:List Int
 next:List Int
 left:List Int
structure Md(α:Type) where
 n:α
 i:Nat
 ts:List Int
 left:Nat
section
variable (L:List UInt8)
def pk(i n:Nat):Nat:=if L.length<i+1\/150<i+1 then 0 else(L[i]?.getD 0).toNat%n
def some1(ts:List Int)(t:Int):List Int->Bool->Int->Int->Int
 | [],_,_,v=>v
 |x::r,f,k,v=>if atA ts x.toNat=t/\(f=true\/0<k)then some1 ts t r false (k-1) x else some1 ts t r false k v
def some2(ts:List Int)(t:Int):List Int->Int->Int
 | [],v=>v
 |x::r,v=>if atA ts v.toNat=t then v else some2 ts t r (if atA ts x.toNat=t then x else v)
def someV(ts seen:List Int)(t k:Int):Int:=some2 ts t seen (some1 ts t seen true k 0)
def zAa(ts seen:List Int):List Int->Nat->List Int
 | [],_=>[]
 |t::r,i=>someV ts seen t (pk L i 8)::zAa ts seen r (i+1)
def newV(n:Nat):Nat->List Int
 |0=>[]
 |k+1=>newV n k++[((n+k:Nat):Int)]
def tyV(i:Nat):Nat->List Int
 |0=>[]
 |k+1=>tyV i k++[1+(pk L (i+k) 2:Int)]
def zGa(i:Nat):List Int:=tyV L (i+1) (pk L i 3)
def zoa(i:Nat):Nat:=i+1+pk L i 3
abbrev nd(kind op n:Int)(name:List UInt8)(args outs:List Int):Node:=⟨kind,op,n,name,args,outs,[],[]⟩
def zD(seen ts:List Int)(i:Nat):Node×Nat×List Int:=
 match pk L i 12 with
 |0=>(nd 1 0 (atA [0,1,2,3,-1,100] (pk L (i+1) 6)) [] [] [ts.length],i+2,[1])
 |1=>(nd 2 0 (pk L (i+1) 2) [] [] [ts.length],i+2,[2])
 |2=>(nd 3 (atA [20,21,23,27] (pk L (i+1) 4)) 0 [] (zAa L ts seen [1] (i+2)) [ts.length],i+3,[1])
 |3=>(nd 3 22 0 [] (zAa L ts seen [2] (i+1)) [ts.length],i+2,[2])
 |4|5|6=>(nd 4 (1+pk L (i+1) 11) 0 [] (zAa L ts seen [1,1] (i+2)) [ts.length],i+4,[1])
 |7|8=>(nd 4 (12+pk L (i+1) 6) 0 [] (zAa L ts seen [1,1] (i+2)) [ts.length],i+4,[2])
 |9=>(nd 5 0 0 [97] (zAa L ts seen [1] (i+1)) [ts.length],i+2,[1])
 |10=>(nd 6 0 0 [97] (zAa L ts seen [1,1] (i+1)) [],i+3,[])
 |_=>match pk L (i+1) 4 with
  |0=>(nd 7 0 0 [102] (zAa L ts seen [1,2] (i+2)) [ts.length],i+4,[1])
  |1=>(nd 8 0 0 [] [] [ts.length],i+2,[1])
  |_=>(nd 9 0 0 [] (zAa L ts seen [1] (i+2)) [],i+3,[])
def endL(p:HPl)(k:Nat):Int×List Int:=if p.iff=true/\k<4 then(12,p.yield)else if p.loop=true/\k%2=0 then(13,p.next)else if p.loop=true then(14,p.left)else(15,[1])
def endG(seen ts:List Int)(p:HPl)(i:Nat):Node:=nd (endL p (pk L i 6)).1 0 0 [] (zAa L ts seen (endL p (pk L i 6)).2 (i+1)) []
def endN(p:HPl)(i:Nat):Nat:=i+1+(endL p (pk L i 6)).2.length
abbrev LG:=List Int->HPl->Nat->List Int->Nat->Md (List Node)
def zPd(n:Node)(i:Nat)(ts:List Int)(left:Nat)(t:List Int):Md Node:=
 if zd n=true then⟨n,i,ts,left⟩else⟨{n with outs:=newV ts.length t.length},i,ts++t,left⟩
def ifG(f:LG)(all:List Int)(p:HPl)(i:Nat)(ts:List Int)(left:Nat):Md Node:=
 let t:=zGa L i
 let x:HPl:=⟨true,p.loop,t,p.next,p.left⟩
 let a:=f all x (zoa L i+1) ts left
 let b:=f all x a.i a.ts a.left
 zPd ⟨10,0,0,[],zAa L ts all [2] (zoa L i),[],[],[a.n,b.n]⟩ b.i b.ts b.left t
def loopG(f:LG)(all:List Int)(i:Nat)(ts:List Int)(left:Nat):Md Node:=
 let t:=zGa L i
 let o:=zGa L (zoa L i)
 let j:=zoa L (zoa L i)
 let ps:=newV ts.length t.length
 let a:=f (all++ps) ⟨false,true,[],t,o⟩ (j+t.length) (ts++t) left
 zPd ⟨11,0,0,[],zAa L ts all t j,[],ps,[a.n]⟩ a.i a.ts a.left o
def zue(rc:Option LG)(all:List Int)(p:HPl)(i:Nat)(ts:List Int)(left:Nat):Md Node:=
 let s:=zD L all ts i
 match rc with
 |none=>⟨s.1,s.2.1+1,ts++s.2.2,left⟩
 |some f=>
  if pk L s.2.1 6=0 then ifG L f all p (s.2.1+1) (ts++s.2.2) left
  else if pk L s.2.1 6=1 then loopG L f all (s.2.1+1) (ts++s.2.2) left
  else⟨s.1,s.2.1+1,ts++s.2.2,left⟩
def finG(p:HPl)(out:List Node)(all:List Int)(i:Nat)(ts:List Int)(left:Nat):Md (List Node):=⟨out++[endG L all ts p i],endN L p i,ts,left⟩
def runG(rc:Option LG)(p:HPl):Nat->List Node->List Int->Nat->List Int->Nat->Md (List Node)
 |0,out,all,i,ts,left=>finG L p out all i ts left
 |c+1,out,all,i,ts,left=>
  if left=0 then finG L p out all i ts left
  else
   let r:=zue L rc all p i ts (left-1)
   if zd r.n=true then⟨out++[r.n],r.i,r.ts,r.left⟩else runG rc p c (out++[r.n]) (all++r.n.outs) r.i r.ts r.left
def zHc:Nat->LG
 |0=>fun seen p i ts left=>runG L none p (pk L i 6) [] seen (i+1) ts left
 |d+1=>fun seen p i ts left=>runG L (some (zHc d)) p (pk L i 6) [] seen (i+1) ts left
def zKc(name:List UInt8)(params:List Int)(i:Nat):Md Flow:=
 let a:=zHc L 3 (newV 0 params.length++[(params.length:Int),(params.length+1:Nat)]) ⟨false,false,[],[],[]⟩ i (params++[1,2]) 30
 ⟨⟨name,1,params.length,a.ts,nd 1 0 3 [] [] [(params.length:Int)]::nd 2 0 1 [] [] [((params.length+1:Nat):Int)]::a.n⟩,a.i,a.ts,a.left⟩
def zjc:Unt:=⟨[⟨[97],4⟩],[(zKc L zp [] 0).n,(zKc L [102] [1,2] (zKc L zp [] 0).i).n]⟩
end
theorem pk_lt(L:List UInt8)(i n:Nat)(h:0<n):pk L i n<n:=by
 unfold pk;split
 ·exact h
 ·exact Nat.mod_lt _ h
theorem zTa(L:List UInt8)(ts seen:List Int):∀(l:List Int) (i:Nat),(zAa L ts seen l i).length=l.length
 | [],_=>rfl
 |t::r,i=>by simp[zAa,zTa L ts seen r (i+1)]
theorem zNa(n:Nat):∀k,(newV n k).length=k
 |0=>rfl
 |k+1=>by simp[newV,zNa n k]
theorem zve(n:Nat):∀k,∀x∈newV n k,(n:Int)<=x/\x<(n+k:Nat)
 |0,x,h=>by simp[newV]at h
 |k+1,x,h=>by
  simp only[newV,yr,List.mem_singleton]at h;rcases h with h|h
  ·have:=zve n k x h;omega
  ·omega
theorem tyV_len(L:List UInt8)(i:Nat):∀k,(tyV L i k).length=k
 |0=>rfl
 |k+1=>by simp[tyV,tyV_len L i k]
theorem typesV_len(L:List UInt8)(i:Nat):(zGa L i).length=pk L i 3:=tyV_len L _ _
theorem zUb(L:List UInt8)(i:Nat):(zGa L i).length<=2:=by have:=pk_lt L i 3 (by omega);rw[typesV_len];omega
theorem zWd(L:List UInt8)(i:Nat):zoa L i<=i+3:=by have:=pk_lt L i 3 (by omega);unfold zoa;omega
structure PlOk(p:HPl):Prop where
 y:p.yield.length<=2
 n:p.next.length<=2
 l:p.left.length<=2
theorem endL_le{p:HPl}(h:PlOk p)(k:Nat):(endL p k).2.length<=2:=by
 unfold endL;split
 ·exact h.y
 ·split
  ·exact h.n
  ·split
   ·exact h.l
   ·simp
theorem endN_le(L:List UInt8){p:HPl}(h:PlOk p)(i:Nat):endN L p i<=i+3:=by have:=endL_le h (pk L i 6);unfold endN;omega
theorem endG_wt(L:List UInt8)(seen ts:List Int){p:HPl}(h:PlOk p)(i:Nat):wtN (endG L seen ts p i)<=3:=by
 have:=endL_le h (pk L i 6);simp[endG,wtN,wtK,zTa];omega
structure SimOk(s:Node×Nat×List Int)(i n:Nat):Prop where
 i:s.2.1<=i+4
 t:s.2.2.length<=1
 o:∀x∈s.1.outs,0<=x/\x<(n+s.2.2.length:Nat)
 ol:s.1.outs.length<=2
 w:wtN s.1<=6
theorem simple_ok(L:List UInt8)(seen ts:List Int)(i:Nat):SimOk (zD L seen ts i) i ts.length:=by
 unfold zD;split<;>try(refine⟨by simp;try omega,by simp,?_,by simp,by simp[wtN,wtK,zTa]⟩;intro x hx;simp at hx;simp;omega)
 all_goals try(refine⟨by simp,by simp,by simp,by simp,by simp[wtN,wtK,zTa]⟩)
 split<;>try(refine⟨by simp;try omega,by simp,?_,by simp,by simp[wtN,wtK,zTa]⟩;intro x hx;simp at hx;simp;omega)
 all_goals refine⟨by simp,by simp,by simp,by simp,by simp[wtN,wtK,zTa]⟩
structure MdL(k:Nat)(m:Md (List Node))(i:Nat)(ts:List Int)(left w:Nat):Prop where
 i:m.i+100*m.left<=i+100*left+k
 t:∃x,m.ts=ts++x
 tl:m.ts.length+10*m.left<=ts.length+10*left
 w:wtL m.n+100*m.left<=w+100*left+10
structure MdN(m:Md Node)(i:Nat)(ts:List Int)(left:Nat):Prop where
 i:m.i+100*m.left<=i+100*left+60
 t:∃x,m.ts=ts++x
 tl:m.ts.length+10*m.left<=ts.length+10*left+8
 w:wtN m.n+100*m.left<=100*left+60
 o:∀x∈m.n.outs,0<=x/\x<m.ts.length
 ol:m.n.outs.length<=2
def LGok(f:LG):Prop:=∀seen p i ts left,PlOk p->MdL 10 (f seen p i ts left) i ts left 0
theorem outed_ok{n:Node}{i:Nat}{ts:List Int}{left:Nat}{t:List Int}(ht:t.length<=2)(ho:n.outs=[]){i0:Nat}{ts0:List Int}{left0:Nat}(hi:i+100*left<=i0+100*left0+60)(hx:∃x,ts=ts0++x)
  (hl:ts.length+10*left<=ts0.length+10*left0+6) (hw:wtN n+100*left<=100*left0+58):MdN (zPd n i ts left t) i0 ts0 left0:=by
 unfold zPd;split
 ·exact⟨hi,hx,by simp only;omega,by simp only;omega,by simp[ho],by simp[ho]⟩
 ·obtain⟨x,hx⟩:=hx;refine⟨hi,⟨x++t,by simp[hx]⟩,by simp only[yj];omega,?_,?_,by simp only[zNa];exact ht⟩
  ·simp only;rw[zLa]at hw ⊢;simp only[zNa,ho,yZ]at hw ⊢;omega
  ·intro y hy;have:=zve _ _ _ hy;simp only[yj];omega
theorem nodeG_ok(L:List UInt8)(rc:Option LG)(hrc:∀f,rc=some f->LGok f)(all:List Int)(p:HPl)(hp:PlOk p)(i:Nat)(ts:List Int)(left:Nat):MdN (zue L rc all p i ts left) i ts left:=by
 have hs:=simple_ok L all ts i;have key:MdN ⟨(zD L all ts i).1,(zD L all ts i).2.1+1,ts++(zD L all ts i).2.2,left⟩ i ts left:=by
  have h1:=hs.i;have h2:=hs.t;have h3:=hs.w;refine⟨by simp only;omega,⟨_,rfl⟩,by simp only[yj];omega,by simp only;omega,?_,hs.ol⟩;intro x hx;have:=hs.o x hx;simp only[yj];omega
 unfold zue;cases rc with
 |none=>exact key
 |some f=>
  have hf:=hrc f rfl;generalize zD L all ts i=s at*;have h1:=hs.i;have h2:=hs.t;simp only;split
  ·unfold ifG;have t1:=zWd L (s.2.1+1);have t2:=zUb L (s.2.1+1);have a:=hf all ⟨true,p.loop,zGa L (s.2.1+1),p.next,p.left⟩ (zoa L (s.2.1+1)+1) (ts++s.2.2) left ⟨t2,hp.n,hp.l⟩;simp only;generalize f all ⟨true,p.loop,zGa L (s.2.1+1),p.next,p.left⟩ (zoa L (s.2.1+1)+1) (ts++s.2.2) left=A at*;have b:=hf all ⟨true,p.loop,zGa L (s.2.1+1),p.next,p.left⟩ A.i A.ts A.left ⟨t2,hp.n,hp.l⟩;generalize f all ⟨true,p.loop,zGa L (s.2.1+1),p.next,p.left⟩ A.i A.ts A.left=B at*;obtain⟨a1,⟨x,a2⟩,a3,a4⟩:=a;obtain⟨b1,⟨y,b2⟩,b3,b4⟩:=b;refine outed_ok t2 rfl (by omega) ⟨s.2.2++x++y,by rw[b2,a2];simp⟩ (by simp only[yj]at a3;omega) ?_;simp[wtN,wtK,zTa];omega
  ·split
   ·unfold loopG;have t1:=zWd L (s.2.1+1);have t2:=zUb L (s.2.1+1);have t3:=zWd L (zoa L (s.2.1+1));have t4:=zUb L (zoa L (s.2.1+1));simp only;have a:=hf (all++newV (ts++s.2.2).length (zGa L (s.2.1+1)).length) ⟨false,true,[],zGa L (s.2.1+1),zGa L (zoa L (s.2.1+1))⟩ (zoa L (zoa L (s.2.1+1))+(zGa L (s.2.1+1)).length) (ts++s.2.2++zGa L (s.2.1+1)) left ⟨by simp,t2,t4⟩;generalize f (all++newV (ts++s.2.2).length (zGa L (s.2.1+1)).length) ⟨false,true,[],zGa L (s.2.1+1),zGa L (zoa L (s.2.1+1))⟩ (zoa L (zoa L (s.2.1+1))+(zGa L (s.2.1+1)).length) (ts++s.2.2++zGa L (s.2.1+1)) left=A at*;obtain⟨a1,⟨x,a2⟩,a3,a4⟩:=a;refine outed_ok t4 rfl (by omega) ⟨s.2.2++zGa L (s.2.1+1)++x,by rw[a2];simp⟩ (by simp only[yj]at a3;omega) ?_;simp[wtN,wtK,zTa,zNa];omega
   ·exact key
theorem finG_ok(L:List UInt8){p:HPl}(hp:PlOk p)(out:List Node)(all:List Int)(i:Nat)(ts:List Int)(left:Nat):MdL 5 (finG L p out all i ts left) i ts left (wtL out):=by
 have h1:=endN_le L hp i;have h2:=endG_wt L all ts hp i;refine⟨by simp only[finG];omega,⟨[],by simp[finG]⟩,by simp only[finG];omega,?_⟩;simp only[finG,zRb,wtL];omega
theorem runG_ok(L:List UInt8)(rc:Option LG)(hrc:∀f,rc=some f->LGok f)(p:HPl)(hp:PlOk p):∀c out all i ts left,MdL 5 (runG L rc p c out all i ts left) i ts left (wtL out):=by
 intro c
 induction c with
 |zero=>intro out all i ts left;exact finG_ok L hp out all i ts left
 |succ c ih=>
  intro out all i ts left;unfold runG;split
  ·exact finG_ok L hp out all i ts left
  ·rename_i h0;have hn:=nodeG_ok L rc hrc all p hp i ts (left-1);simp only;generalize zue L rc all p i ts (left-1)=r at*;obtain⟨n1,⟨x,n2⟩,n3,n4,n5,n6⟩:=hn;split
   ·refine⟨by simp only;omega,⟨x,n2⟩,by simp only;omega,?_⟩;simp only[zRb,wtL];omega
   ·have hr:=ih (out++[r.n]) (all++r.n.outs) r.i r.ts r.left;obtain⟨m1,⟨y,m2⟩,m3,m4⟩:=hr;refine⟨by omega,⟨x++y,by rw[m2,n2];simp⟩,by omega,?_⟩;simp only[zRb,wtL]at m4;omega
theorem listG_ok(L:List UInt8):∀d,LGok (zHc L d):=by
 intro d
 induction d with
 |zero=>
  intro seen p i ts left hp;have:=runG_ok L none (by simp) p hp (pk L i 6) [] seen (i+1) ts left;exact⟨by have:=this.i;simp only[zHc];omega,this.t,this.tl,this.w⟩
 |succ d ih=>
  intro seen p i ts left hp;have:=runG_ok L (some (zHc L d)) (by intro f hf;cases hf;exact ih) p hp (pk L i 6) [] seen (i+1) ts left;exact⟨by have:=this.i;simp only[zHc];omega,this.t,this.tl,this.w⟩
def u8s(l:List UInt8):PV:= .slice .plain 1 (l.map fun b=> .int .u8 b.toNat)
theorem remNat(a b:Nat):remK (a:Int) (b:Int)=((a%b:Nat):Int):=by rw[remK_eq];exact Int.ofNat_tmod a b
@[simp] theorem rebuild_agg2(a b:List PV):zF (.agg a) b= .agg b:=rfl
def gst(τ:zc)(L:List UInt8)(i:Nat)(ts:List Int)(left:Nat):zc:= .arr 4 [.agg [u8s L,.int .i64 i,acc 1 (ts.map (PV.int .i64)),.int .i64 left]]::τ
structure SoS where
 d:List Int
 r:List Int
 k:Int
 v:Int
theorem atA_get{l:List Int}{v:Int}(h0:0<=v)(h1:v<l.length):l[v.toNat]? =some (atA l v.toNat):=zzc h0 h1
section
variable (τ:zc) (L:List UInt8) (hL:L.length<=9223372036854775807)
include hL
theorem zRa(i n:Nat)(ts:List Int)(left:Nat)(hn:0<n/\n<=1000)(hi:i<=1000000000000):
  zk E 69 [.ptr 0 0 0,.int .i64 n] (gst τ L i ts left)=some (.ret (.int .i64 (pk L i n)),gst τ L (i+1) ts left):=by
 refine zb rfl rfl rfl (by simp) ?_;have hw:zX .i64 ((i:Int)+1)=(i:Int)+1:=zq (by omega) (by omega);by_cases h1:L.length<i+1
 ·have k1:((L.length:Int)<(i:Int)+1)=True:=eqp (by omega);have h2:pk L i n=0:=by simp[pk,h1]
  clear h1;simp[*,F69,gst,u8s]
 ·have k1:((L.length:Int)<(i:Int)+1)=False:=eqn (by omega);by_cases h3:150<i+1
  ·have k3:((150:Int)<(i:Int)+1)=True:=eqp (by omega);have h2:pk L i n=0:=by simp only[pk,h3,or_true,if_true]
   clear h1 h3;simp[*,F69,gst,u8s]
  ·have k3:((150:Int)<(i:Int)+1)=False:=eqn (by omega);obtain⟨b,hb⟩:∃b,L[i]? =some b:=⟨_,ye (by omega)⟩
   have h2:pk L i n=b.toNat%n:=by simp only[pk,h1,h3,or_self,if_false,hb,yga]
   have hr:remK (b.toNat:Int) (n:Int)=((b.toNat%n:Nat):Int):=remNat _ _;have hw2:zX .i64 (i:Int)=(i:Int):=zq (by omega) (by omega);have hn0:(n=0)=False:=eqn (by omega);clear h1 h3 hL;simp[*,F69,gst,u8s]
omit hL in
theorem fresh_spec(i:Nat)(ts:List Int)(left:Nat)(t:Int)(ht:ts.length<=1000000):
  zk E 46 [.ptr 0 0 0,.int .i64 t] (gst τ L i ts left)=some (.ret (.int .i64 ts.length),gst τ L i (ts++[t]) left):=by
 refine zb rfl rfl rfl (by simp) ?_;have q4:(ts.length+1)*8<=zm:=by simp only[zm];omega
 have hw:zX .i64 (ts.length:Int)=ts.length:=zq (by omega) (by omega);have hw0:zX .i64 0=0:=zq (by omega) (by omega);cases ts with
 |nil=>simp[zm]at q4;simp[*,F46,gst,zm]
 |cons x r=>
  simp at q4 hw;simp[*,F46,gst]
theorem gsome_spec(i:Nat)(ts:List Int)(left:Nat)(seen:List Int)(t:Int)(hs:seen.length<=1000000)(hi:i<=1000000000000)(ht:ts.length<=1000000)(hr:∀x∈seen,0<=x/\x<ts.length):
  zk E 95 [.ptr 0 0 0,ints seen,.int .i64 t] (gst τ L i ts left)=some (.ret (.int .i64 (someV ts seen t (pk L i 8))),gst τ L (i+1) ts left):=by
 refine zb rfl rfl rfl (by simp) ?_;have hp:=zRa τ L hL i 8 ts left (by omega) hi;have hk:=pk_lt L i 8 (by omega);have hsv:someV ts seen t (pk L i 8)=some2 ts t seen (some1 ts t seen true (pk L i 8) 0):=rfl;generalize pk L i 8=k at*;simp at hp;simp[hp,F95,ints];clear hp hL;refine zvd K95_0 B95_0 (fun c:SoS=>c.r.length) (fun c=>[(7,.int .i64 c.k),(8,.int .i64 c.v),(9,.int .i64 c.d.length)]) (fun _=>[]) (fun _=>gst τ L (i+1) ts left)
  (fun c=>seen=c.d++c.r/\some1 ts t c.r c.d.isEmpty c.k c.v=some1 ts t seen true k 0/\ -(c.d.length:Int)<=c.k/\c.k<=8/\(c.v∈seen\/c.v=0)) ⟨[],seen,k,0⟩ ⟨by simp,by simp,by simp,by simp;omega⟩ ?_
 rintro⟨d,r,k1,v⟩ s1 ⟨hd,hm,hk1,hk2,hv⟩ h1 h2 h3 h4 h5
 simp only at hd hm hk1 hk2 hv h3 h5;simp at h1 h3;clear h2 h4;cases r with
 |nil=>
  simp at hd;subst hd;simp only[some1]at hm;rw[<-hm]at hsv;clear hm;have hw1:zX .i64 (seen.length:Int)=(seen.length:Int):=zq (by omega) (by omega);simp[h1,h3,h5];clear hk1 hk2 hk h1 h3 h5;refine zvd K95_1 B95_1 (fun c:SoS=>c.r.length) (fun c=>[(8,.int .i64 c.v),(10,.int .i64 c.d.length)]) (fun _=>[]) (fun _=>gst τ L (i+1) ts left)
   (fun c=>seen=c.d++c.r/\some2 ts t c.r c.v=some2 ts t seen v/\(c.v∈seen\/c.v=0)) ⟨[],seen,k,v⟩ ⟨by simp,by simp,by simp,rfl,rfl,hv⟩ ?_
  rintro⟨d,r,k2,v1⟩ s2 ⟨hd,hm,hv1⟩ h1 h2 h3 h4 h5
  simp only at hd hm hv1 h3 h5;simp at h1 h3;clear h2 h4 hv;cases r with
  |nil=>
   simp at hd;subst hd;rw[<-hm]at hsv;simp only[some2]at hsv;simp[h1,h3,h5,hsv,gst]
  |cons x r=>
   have g0:seen[d.length]? =some x:=by rw[hd];simp
   have g1:d.length<seen.length:=by rw[hd];simp
   have hx:=hr x (by rw[hd];simp);have g0':seen[d.length]'g1=x:=(yb.1 g0).2;have g2:=atA_get hx.1 hx.2;have g3:x.toNat<ts.length:=by omega
   have g2':ts[x.toNat]'g3=atA ts x.toNat:=(yb.1 g2).2;have hv2:0<=v1/\v1<ts.length:=by
    rcases hv1 with h|h
    ·exact hr _ h
    ·omega
   have f0:=hv2.1;have f2:=atA_get hv2.1 hv2.2;have f3:v1.toNat<ts.length:=by omega
   have f2':ts[v1.toNat]'f3=atA ts v1.toNat:=(yb.1 f2).2;have hw:zX .i64 ((d.length:Int)+1)=(d.length:Int)+1:=zq (by omega) (by omega);have hx0:=hx.1;have hxm:x∈seen:=by rw[hd];simp
   rw[some2]at hm;by_cases e0:atA ts v1.toNat=t
   ·rw[if_pos e0]at hm;rw[<-hm]at hsv;simp[h1,h3,h5,g0,g0',g1,g2,g2',g3,f0,f2,f2',f3,hx0,e0,hsv,gst]
   ·rw[if_neg e0]at hm;by_cases e1:atA ts x.toNat=t
    ·rw[if_pos e1]at hm;simp[h1,h3,h5,g0,g0',g1,g2,g2',g3,f0,f2,f2',f3,hw,hx0,e0,e1,gst];refine⟨⟨d++[x],r,0,x⟩,by simp,?_⟩;simp[h1,h3,h5,hw,gst]
     and_intros<;>first|exact hd|exact hm|exact .inl hxm
    ·rw[if_neg e1]at hm;simp[h1,h3,h5,g0,g0',g1,g2,g2',g3,f0,f2,f2',f3,hw,hx0,e0,e1,gst];refine⟨⟨d++[x],r,0,v1⟩,by simp,?_⟩;simp[h1,h3,h5,hw,gst]
     and_intros<;>first|exact hd|exact hm|exact hv1
 |cons x r=>
  have g0:seen[d.length]? =some x:=by rw[hd];simp
  have g1:d.length<seen.length:=by rw[hd];simp
  have hx:=hr x (by rw[hd];simp);have g0':seen[d.length]'g1=x:=(yb.1 g0).2;have g2:=atA_get hx.1 hx.2;have g3:x.toNat<ts.length:=by omega
  have g2':ts[x.toNat]'g3=atA ts x.toNat:=(yb.1 g2).2;have hw:zX .i64 ((d.length:Int)+1)=(d.length:Int)+1:=zq (by omega) (by omega);have hw2:zX .i64 (k1-1)=k1-1:=zq (by omega) (by omega);rw[some1]at hm;clear hsv;have hx0:=hx.1;have hxm:x∈seen:=by rw[hd];simp
  have h9:(d.length:Int)+1=((d++[x]).length:Int):=by simp
  have hne:(d++[x]).isEmpty=false:=by simp
  by_cases e1:atA ts x.toNat=t
  ·by_cases e0:d=[]
   ·subst e0;rw[if_pos ⟨e1,.inl rfl⟩]at hm;simp at h3 g0 g0' g1 hk1 hw hne;simp[h1,h3,h5,g0,g0',g1,g2,g2',g3,hw2,hx0,e1,gst];refine⟨⟨[x],r,k1-1,x⟩,by simp,?_⟩;simp[h1,h3,h5,hne,hw,hw2,gst]
    and_intros<;>first|exact hd|exact hm|exact hv|exact .inl hxm|(simp;omega)|omega
   ·by_cases e2:0<k1
    ·rw[if_pos ⟨e1,.inr e2⟩]at hm;simp[h1,h3,h5,g0,g0',g1,g2,g2',g3,hw,hw2,hx0,e1,e2,e0,gst];refine⟨⟨d++[x],r,k1-1,x⟩,by simp,?_⟩;simp[h1,h3,h5,hne,hw,hw2,gst]
     and_intros<;>first|exact hd|exact hm|exact hv|exact .inl hxm|(simp;omega)|omega
    ·rw[if_neg (by simp[e0,e2])]at hm;simp[h1,h3,h5,g0,g0',g1,g2,g2',g3,hw,hw2,hx0,e1,e2,e0,gst];refine⟨⟨d++[x],r,k1,v⟩,by simp,?_⟩;simp[h1,h3,h5,hne,hw,hw2,gst]
     and_intros<;>first|exact hd|exact hm|exact hv|exact .inl hxm|(simp;omega)|omega
  ·rw[if_neg (fun h=>e1 h.1)]at hm;simp[h1,h3,h5,g0,g0',g1,g2,g2',g3,hw,hw2,hx0,e1,gst];refine⟨⟨d++[x],r,k1,v⟩,by simp,?_⟩;simp[h1,h3,h5,hne,hw,hw2,gst]
   and_intros<;>first|exact hd|exact hm|exact hv|exact .inl hxm|(simp;omega)|omega
end
theorem eachV_append(L:List UInt8)(ts seen:List Int)(t:Int):∀(d:List Int) (i:Nat),zAa L ts seen (d++[t]) i=zAa L ts seen d i++[someV ts seen t (pk L (i+d.length) 8)]
 | [],i=>by simp[zAa]
 |x::r,i=>by
  have:=eachV_append L ts seen t r (i+1);simp only[yV,zAa,this,yX];rw[show i+1+r.length=i+(r.length+1) by omega]
def zW(l:List Int):List PV:=l.map (PV.int .i64)
section
variable (τ:zc) (L:List UInt8) (hL:L.length<=9223372036854775807)
include hL
theorem zEa(i:Nat)(ts:List Int)(left:Nat)(seen types:List Int)(hs:seen.length<=1000000)(hi:i+types.length<=1000000000000)(ht:ts.length<=1000000)(hr:∀x∈seen,0<=x/\x<ts.length)(hy:types.length<=1000000):
  zk E 72 [.ptr 0 0 0,ints seen,ints types] (gst τ L i ts left)=some (.ret (ints (zAa L ts seen types i)),gst τ L (i+types.length) ts left):=by
 refine zb rfl rfl rfl (by simp) ?_;simp[F72,ints];refine zw types K72_0 B72_0 (fun d=>[(7,acc 1 (zW (zAa L ts seen d i))),(8,.int .i64 d.length)]) (fun d=>gst τ L (i+d.length) ts left) (fun _=>True) (by omega) (by simp[zAa,zW]) ?_ ?_
 ·intros d x r s hl' hlt hget hget' hw hp h1 h2 h3 h4;simp at h1 h3;clear h2;have hsm:=gsome_spec τ L hL (i+d.length) ts left seen x hs (by omega) ht hr;have he:=eachV_append L ts seen x d i;have hi2:i+d.length+1=i+(d.length+1):=by omega
  rw[hi2]at hsm;simp[ints]at hsm;have q4:((zAa L ts seen d i).length+1)*8<=zm:=by rw[zTa];simp only[zm];omega
  have q5:(zW (zAa L ts seen d i)).length=d.length:=by simp[zW,zTa]
  have q6:(d.length+1)*8<=zm:=by rwa[zTa]at q4
  have q7:zW (zAa L ts seen (d++[x]) i)=zW (zAa L ts seen d i)++[.int .i64 (someV ts seen x (pk L (i+d.length) 8))]:=by rw[he];simp[zW]
  clear hl' hs hi hr hL he;simp[*]
 ·intro s hp h1 h2 h3 h4;simp at h1 h3;clear h2 hL hr;simp[*,zW]
omit hL in
theorem zZc(i:Nat)(ts:List Int)(left:Nat)(types:List Int)(ht:ts.length+types.length<=1000000):
  zk E 45 [.ptr 0 0 0,ints types] (gst τ L i ts left)=some (.ret (acc 1 (zW (newV ts.length types.length))),gst τ L i (ts++types) left):=by
 refine pcall_wpO 4 rfl rfl rfl (by simp) ?_;simp[F45,ints];refine zw types K45_0 B45_0 (fun d=>[(5,acc 1 (zW (newV ts.length d.length))),(6,.int .i64 d.length)]) (fun d=>gst τ L i (ts++d) left) (fun _=>True) (by omega) (by simp[newV,zW]) ?_ ?_
 ·intros d x r s hl' hlt hget hget' hw hp h1 h2 h3 h4;simp at h1 h3;clear h2;have hf:=fresh_spec τ L i (ts++d) left x (by simp;omega);simp at hf;have q5:(zW (newV ts.length d.length)).length=d.length:=by simp[zW,zNa]
  have q6:(d.length+1)*8<=zm:=by simp only[zm];omega
  have q7:zW (newV ts.length (d.length+1))=zW (newV ts.length d.length)++[.int .i64 ((ts.length:Int)+d.length)]:=by simp[zW,newV]
  clear hl';simp[*]
 ·intro s hp h1 h2 h3 h4;simp at h1 h3;clear h2;simp[*,zW]
structure TyS where
 j:Nat
 m:Nat
theorem gtypes_spec(i:Nat)(ts:List Int)(left:Nat)(hi:i<=100000000000):
  zk E 71 [.ptr 0 0 0] (gst τ L i ts left)=some (.ret (ints (zGa L i)),gst τ L (zoa L i) ts left):=by
 refine zb rfl rfl rfl (by simp) ?_;have hp:=zRa τ L hL i 3 ts left (by omega) (by omega);have hk:=pk_lt L i 3 (by omega);have h0:zGa L i=tyV L (i+1) (pk L i 3):=rfl;have h0':zoa L i=i+1+pk L i 3:=rfl;generalize pk L i 3=k at*;simp at hp;simp[hp,F71];refine zvd K71_0 B71_0 (fun c:TyS=>c.m) (fun c=>[(3,acc 1 (zW (tyV L (i+1) c.j))),(4,.int .i64 c.m)]) (fun _=>[]) (fun c=>gst τ L (i+1+c.j) ts left)
  (fun c=>c.j+c.m=k) ⟨0,k⟩ ⟨by simp[tyV,zW],by simp,by simp,by simp⟩ ?_
 rintro⟨j,m⟩ s1 hj h1 h2 h3 h4 h5
 simp only at hj h3 h5;simp at h1 h3;clear h2 h4 hp;cases m with
 |zero=>
  simp at hj h3;subst hj;rw[h0,h0'];simp[h1,h3,h5,ints,zW]
 |succ m=>
  have hq:=zRa τ L hL (i+1+j) 2 ts left (by omega) (by omega);have hq2:=pk_lt L (i+1+j) 2 (by omega);have q5:(zW (tyV L (i+1) j)).length=j:=by simp[zW,tyV_len]
  have q6:(j+1)*8<=zm:=by simp only[zm];omega
  have q7:zW (tyV L (i+1) (j+1))=zW (tyV L (i+1) j)++[.int .i64 (1+(pk L (i+1+j) 2:Int))]:=by simp[zW,tyV]
  have hw:zX .i64 (1+(pk L (i+1+j) 2:Int))=1+(pk L (i+1+j) 2:Int):=zq (by omega) (by omega);have hw2:zX .i64 (m:Int)=m:=zq (by omega) (by omega);have e1:((0:Int)<(m:Int)+1)=True:=eqp (by omega);simp at hq h3;simp[h1,h3,h5,hq,q5,q6,hw,hw2,e1];refine⟨⟨j+1,m⟩,by simp,?_⟩;simp[h1,h3,h5,q7,hw,hw2]
  and_intros<;>first|omega|rfl|(congr 1)|skip
end
def ztd(p:HPl):PV:= .agg [.bool p.iff,.bool p.loop,ints p.yield,ints p.next,ints p.left]
theorem newV1(n:Nat):newV n 1=[(n:Int)]:=by simp[newV]
section
variable (τ:zc) (L:List UInt8) (hL:L.length<=9223372036854775807)
include hL
set_option maxHeartbeats 4000000 in
theorem gsimple_spec(i:Nat)(ts:List Int)(left:Nat)(seen:List Int)(hs:seen.length<=1000000)(hi:i<=100000000000)(ht:ts.length<=999990)(hr:∀x∈seen,0<=x/\x<ts.length):
  zk E 70 [.ptr 0 0 0,ints seen] (gst τ L i ts left)=some (.ret (zC (zD L seen ts i).1),gst τ L (zD L seen ts i).2.1 (ts++(zD L seen ts i).2.2) left):=by
 refine zb rfl rfl rfl (by simp) ?_;have p0:=zRa τ L hL i 12 ts left (by omega) (by omega);have p1:=zRa τ L hL (i+1) 6 ts left (by omega) (by omega);have p2:=zRa τ L hL (i+1) 2 ts left (by omega) (by omega);have p3:=zRa τ L hL (i+1) 4 ts left (by omega) (by omega);have p4:=zRa τ L hL (i+1) 11 ts left (by omega) (by omega);have a1:=zEa τ L hL (i+1) ts left seen [1] hs (by simp;omega) (by omega) hr (by simp);have a2:=zEa τ L hL (i+2) ts left seen [1] hs (by simp;omega) (by omega) hr (by simp);have a3:=zEa τ L hL (i+1) ts left seen [2] hs (by simp;omega) (by omega) hr (by simp);have a4:=zEa τ L hL (i+1) ts left seen [1,1] hs (by simp;omega) (by omega) hr (by simp);have a5:=zEa τ L hL (i+2) ts left seen [1,1] hs (by simp;omega) (by omega) hr (by simp);have a6:=zEa τ L hL (i+2) ts left seen [1,2] hs (by simp;omega) (by omega) hr (by simp);have o1:=fun i=>zZc τ L i ts left [1] (by simp;omega)
 have o2:=fun i=>zZc τ L i ts left [2] (by simp;omega)
 have h12:=pk_lt L i 12 (by omega);have h6:=pk_lt L (i+1) 6 (by omega);have h4:=pk_lt L (i+1) 4 (by omega);have h11:=pk_lt L (i+1) 11 (by omega);have w1:zX .i64 (1+(pk L (i+1) 11:Int))=1+(pk L (i+1) 11:Int):=zq (by omega) (by omega);have w2:zX .i64 (12+(pk L (i+1) 6:Int))=12+(pk L (i+1) 6:Int):=zq (by omega) (by omega);simp[ints,zW,newV1]at p0 p1 p2 p3 p4 a1 a2 a3 a4 a5 a6 o1 o2;have hc:pk L i 12=0\/pk L i 12=1\/pk L i 12=2\/pk L i 12=3\/pk L i 12=4\/pk L i 12=5\/pk L i 12=6\/pk L i 12=7\/pk L i 12=8\/pk L i 12=9\/pk L i 12=10\/pk L i 12=11:=by omega
 have hc6:pk L (i+1) 6=0\/pk L (i+1) 6=1\/pk L (i+1) 6=2\/pk L (i+1) 6=3\/pk L (i+1) 6=4\/pk L (i+1) 6=5:=by omega
 have hc4:pk L (i+1) 4=0\/pk L (i+1) 4=1\/pk L (i+1) 4=2\/pk L (i+1) 4=3:=by omega
 clear hL hs hi ht hr h12 h6 h4 h11;rcases hc with h|h|h|h|h|h|h|h|h|h|h|h
 ·rcases hc6 with k|k|k|k|k|k<;>simp[h,k]at p0 p1<;>simp[*,zD,F70,za,ints,kids,atA]
 ·simp[h]at p0;simp[*,zD,F70,za,ints,kids,atA]
 ·rcases hc4 with k|k|k|k<;>simp[h,k]at p0 p3<;>simp[*,zD,F70,za,ints,kids,atA]
 ·simp[h]at p0;simp[*,zD,F70,za,ints,kids,atA]
 ·simp[h]at p0;simp[*,zD,F70,za,ints,kids,atA]
 ·simp[h]at p0;simp[*,zD,F70,za,ints,kids,atA]
 ·simp[h]at p0;simp[*,zD,F70,za,ints,kids,atA]
 ·simp[h]at p0;simp[*,zD,F70,za,ints,kids,atA]
 ·simp[h]at p0;simp[*,zD,F70,za,ints,kids,atA]
 ·simp[h]at p0;simp[*,zD,F70,za,ints,kids,atA]
 ·simp[h]at p0;simp[*,zD,F70,za,ints,kids,atA]
 ·rcases hc4 with k|k|k|k<;>simp[h,k]at p0 p3<;>simp[*,zD,F70,za,ints,kids,atA]
theorem gend_spec(i:Nat)(ts:List Int)(left:Nat)(seen:List Int)(p:HPl)(hp:PlOk p)(hs:seen.length<=1000000)(hi:i<=100000000000)(ht:ts.length<=999990)(hr:∀x∈seen,0<=x/\x<ts.length):
  zk E 74 [.ptr 0 0 0,ints seen,ztd p] (gst τ L i ts left)=some (.ret (zC (endG L seen ts p i)),gst τ L (endN L p i) ts left):=by
 refine zb rfl rfl rfl (by simp[ztd]) ?_;have p0:=zRa τ L hL i 6 ts left (by omega) (by omega);have a1:=zEa τ L hL (i+1) ts left seen p.yield hs (by have:=hp.y;omega) (by omega) hr (by have:=hp.y;omega);have a2:=zEa τ L hL (i+1) ts left seen p.next hs (by have:=hp.n;omega) (by omega) hr (by have:=hp.n;omega);have a3:=zEa τ L hL (i+1) ts left seen p.left hs (by have:=hp.l;omega) (by omega) hr (by have:=hp.l;omega);have a4:=zEa τ L hL (i+1) ts left seen [1] hs (by simp;omega) (by omega) hr (by simp);have hr2:remK (pk L i 6:Int) 2=((pk L i 6%2:Nat):Int):=by have:=remNat (pk L i 6) 2;simpa using this
 simp[ints]at p0 a1 a2 a3 a4;have e1:endG L seen ts p i=nd (endL p (pk L i 6)).1 0 0 [] (zAa L ts seen (endL p (pk L i 6)).2 (i+1)) []:=rfl;have e2:endN L p i=i+1+(endL p (pk L i 6)).2.length:=rfl;rw[e1,e2];generalize pk L i 6=k at*;have hk4:((k:Int)<4)=(k<4):=by apply propext;omega
 have hk2:((k:Int)%2=0)=(k%2=0):=by apply propext;omega
 clear hL hs hi ht hr e1 e2 hp;obtain⟨iff,loop,yield,next,lft⟩:=p;simp only at a1 a2 a3;by_cases c1:k<4<;>by_cases c2:k%2=0<;>cases iff<;>cases loop<;>simp[*,endL,F74,za,ints,kids,ztd]
end
structure LsS where
 m:Nat
 out:List Node
 all:List Int
 i:Nat
 ts:List Int
 left:Nat
def rcOf(L:List UInt8):Nat->Option LG
 |0=>none
 |d+1=>some (zHc L d)
theorem listG_eq(L:List UInt8)(d:Nat)(seen:List Int)(p:HPl)(i:Nat)(ts:List Int)(left:Nat):zHc L d seen p i ts left=runG L (rcOf L d) p (pk L i 6) [] seen (i+1) ts left:=by
 cases d<;>rfl
theorem rcOf_ok(L:List UInt8)(d:Nat):∀f,rcOf L d=some f->LGok f:=by
 intro f h;cases d with
 |zero=>simp[rcOf]at h
 |succ d=>simp[rcOf]at h;subst h;exact listG_ok L d
structure LsPre(d i:Nat)(ts:List Int)(left:Nat)(seen:List Int)(p:HPl):Prop where
 p:PlOk p
 s:seen.length+100*d<=1000
 i:i+100*left<=10000000
 t:ts.length+10*left<=100000
 r:∀x∈seen,0<=x/\x<ts.length
def LsOk(τ:zc)(L:List UInt8)(d:Nat):Prop:=∀i ts left seen p,LsPre d i ts left seen p→
 zk E 47 [.ptr 0 0 0,ints seen,ztd p,.int .i64 d] (gst τ L i ts left)=some (.ret (zi (zHc L d seen p i ts left).n),gst τ L (zHc L d seen p i ts left).i (zHc L d seen p i ts left).ts (zHc L d seen p i ts left).left)
structure LsInv(L:List UInt8)(d:Nat)(p:HPl)(M:Md (List Node))(k:Nat)(c:LsS):Prop where
 run:runG L (rcOf L d) p c.m c.out c.all c.i c.ts c.left=M
 m:c.m<=5
 o:c.out.length+c.m<=5
 a:c.all.length+100*d+2*c.m<=1010
 i:c.i+100*c.left<=10000001
 t:c.ts.length+10*c.left<=100000
 r:∀x∈c.all,0<=x/\x<c.ts.length
theorem LsInv.step{L:List UInt8}{d:Nat}{p:HPl}{M:Md (List Node)}{k m:Nat}{out:List Node}{all:List Int}{i:Nat}{ts:List Int}{left:Nat}(hp:PlOk p)(h:LsInv L d p M k ⟨m+1,out,all,i,ts,left+1⟩){r:Md Node}(hr:zue L (rcOf L d) all p i ts left=r):
  if zd r.n=true then M=⟨out++[r.n],r.i,r.ts,r.left⟩else LsInv L d p M k ⟨m,out++[r.n],all++r.n.outs,r.i,r.ts,r.left⟩:=by
 obtain⟨h1,h2,h3,h4,h5,h6,h7⟩:=h;simp only at h1 h2 h3 h4 h5 h6 h7;have hn:=nodeG_ok L (rcOf L d) (rcOf_ok L d) all p hp i ts left;rw[hr]at hn;rw[runG]at h1;simp only[Nat.add_one_ne_zero,if_false,Nat.add_sub_cancel,hr]at h1;split
 ·rename_i hc;rw[if_pos hc]at h1;exact h1.symm
 ·rename_i hc;rw[if_neg hc]at h1;obtain⟨n1,⟨x,n2⟩,n3,n4,n5,n6⟩:=hn;refine⟨h1,by simp only;omega,by simp only[yj,List.length_singleton];omega,by simp only[yj];omega,by simp only;omega,by simp only;omega,?_⟩;intro y hy;simp only[yr]at hy;rcases hy with hy|hy
  ·have:=h7 y hy;simp only[n2,yj];omega
  ·exact n5 y hy
section
variable (τ:zc) (L:List UInt8) (hL:L.length<=9223372036854775807)
include hL
set_option maxRecDepth 20000 in
set_option maxHeartbeats 8000000 in
theorem glist_of(d:Nat)(hd:d<=3)(hrec:∀e,d=e+1->LsOk τ L e):LsOk τ L d:=by
 intro i ts left seen p hpre;obtain⟨hp,hs,hi,ht,hr⟩:=hpre;refine zb rfl rfl rfl (by simp[ztd]) ?_;have p0:=zRa τ L hL i 6 ts left (by omega) (by omega);have hk:=pk_lt L i 6 (by omega);have hM:=listG_eq L d seen p i ts left;generalize zHc L d seen p i ts left=M at*;generalize pk L i 6=k at*;have hsz:seen.length*8<=zm:=by simp only[zm];omega
 simp at p0;simp[p0,hsz,F47,ints,ztd];refine zvd K47_0 B47_0 (fun c:LsS=>c.m) (fun c=>[(9,acc 8 (c.out.map zC)),(10,acc 1 (zW c.all)),(11,.int .i64 c.m)]) (fun _=>[]) (fun c=>gst τ L c.i c.ts c.left)
  (LsInv L d p M k) ⟨k,[],seen,i+1,ts,left⟩ ⟨by simp[zW],by simp,by simp,⟨hM.symm,by simp only;omega,by simp only[yZ];omega,by simp only;omega,by simp only;omega,by simp only;omega,hr⟩⟩ ?_
 rintro⟨m,out,all,i',ts',left'⟩ s1 hinv h1 h2 h3 h4 h5
 simp only at h3 h5;simp at h1 h2 h3;clear h4 p0 hM hs hi ht hr hsz;have hoo:(out.map zC).length=out.length:=by simp
 have hol:=hinv.o;simp only at hol;have hob:(out.length+1)*136<=zm:=by simp only[zm];omega
 have hend:=gend_spec τ L hL i' ts' left' all p hp (by have:=hinv.a;simp only at this;omega) (by have:=hinv.i;simp only at this;omega) (by have:=hinv.t;simp only at this;omega) hinv.r;simp[ints,ztd,za,gst]at hend;have hfin:m=0\/left'=0->M=finG L p out all i' ts' left':=by
  intro h;have hrun:=hinv.run;simp only at hrun;rcases h with h|h
  ·subst h;exact hrun.symm
  ·subst h;cases m with
   |zero=>exact hrun.symm
   |succ m=>simp[runG]at hrun;exact hrun.symm
 cases m with
 |zero=>
  have hf:=hfin (.inl rfl);rw[hf];simp at h3;clear hinv hfin hf;simp[*,finG,gst,zi,za,ints,zW]
 |succ m=>
  have e1:((0:Int)<(m:Int)+1)=True:=eqp (by omega);cases left' with
  |zero=>
   have hf:=hfin (.inr rfl);rw[hf];simp at h3;clear hinv hfin hf;simp at hend;simp[*,finG,gst,zi,za,ints,zW]
  |succ lf=>
   have hst:=fun r hr=>hinv.step hp (r:=r) hr
   have hS:=simple_ok L all ts' i';have hsim:=gsimple_spec τ L hL i' ts' lf all (by have:=hinv.a;simp only at this;omega) (by have:=hinv.i;simp only at this;omega) (by have:=hinv.t;simp only at this;omega) hinv.r;have hpk:=zRa τ L hL (zD L all ts' i').2.1 6 (ts'++(zD L all ts' i').2.2) lf (by omega) (by have:=hinv.i;have:=hS.i;simp only at*;omega);have hnd:∀rc,zue L rc all p i' ts' lf=zue L rc all p i' ts' lf:=fun _=>rfl
   have ha:=hinv.a;have hii:=hinv.i;have htt:=hinv.t;have hrr:=hinv.r;simp only at ha hii htt hrr;have hw1:zX .i64 (m:Int)=m:=zq (by omega) (by omega);have hw2:zX .i64 (lf:Int)=lf:=zq (by omega) (by omega);have e2:((0:Int)<(lf:Int)+1)=True:=eqp (by omega)
   conv at hnd=>intro rc;rhs;unfold zue
   clear hend hfin hinv;generalize zD L all ts' i'=S at*;obtain⟨n,j,x⟩:=S;simp only at hsim hpk hnd;have hj:=hS.i;have hx:=hS.t;have hw:=hS.w;have hol:=hS.ol;simp only at hj hx hw hol;clear hS;have hrT:∀y∈all,0<=y/\y<(ts'++x).length:=fun y hy=>by have:=hrr y hy;simp only[yj];omega
   have hTl:(ts'++x).length<=ts'.length+1:=by simp only[yj];omega
   generalize hT:ts'++x=T at*;clear hT;have hk6:=pk_lt L j 6 (by omega);generalize pk L j 6=k6 at*;simp[ints,za,kids,gst]at hsim hpk;have hcl:=zXa n [] (by omega);simp[za,ints,kids]at hcl;have hab:(all.length+n.outs.length)*8<=zm:=by simp only[zm];omega
   have hal:(zW all).length=all.length:=by simp[zW]
   have key:∀r:Md Node,r=⟨n,j+1,T,lf⟩->zue L (rcOf L d) all p i' ts' lf=r->(if zd n=true then M=⟨out++[n],j+1,T,lf⟩else LsInv L d p M k ⟨m,out++[n],all++n.outs,j+1,T,lf⟩):=by
    intro r hr hn;have:=hst r hn;rw[hr]at this;exact this
   have hq:(((k6:Int)=0)=True/\((k6:Int)=1)=False/\(k6=0)=True/\(k6=1)=False)\/(((k6:Int)=0)=False/\((k6:Int)=1)=True/\(k6=0)=False/\(k6=1)=True)\/(((k6:Int)=0)=False/\((k6:Int)=1)=False/\(k6=0)=False/\(k6=1)=False):=by
    by_cases h:k6=0
    ·subst h;simp
    ·by_cases h':k6=1
     ·subst h';simp
     ·refine .inr (.inr ⟨eqn (by omega),eqn (by omega),eqn h,eqn h'⟩)
   cases d with
   |zero=>
    have hk:=key _ rfl (hnd none);clear hst hnd key hrT hTl;rcases hq with⟨q1,q2,q3,q4⟩|⟨q1,q2,q3,q4⟩|⟨q1,q2,q3,q4⟩
    all_goals
     cases hc:zd n
     ·simp[hc]at hk hcl;simp[*,gst,zi,za,ints,zW,ztd,kids];refine⟨⟨m,out++[n],all++n.outs,j+1,T,lf⟩,by simp,?_⟩;simp[*,gst,zi,za,ints,zW,ztd,kids]
     ·simp[hc]at hk hcl;rw[hk];clear hk;simp[*,gst,zi,za,ints,zW,ztd,kids]
   |succ d=>
    have e3:((0:Int)<(d:Int)+1)=True:=eqp (by omega);have hw3:zX .i64 (d:Int)=d:=zq (by omega) (by omega);have hrec:=hrec d rfl;rcases hq with⟨q1,q2,q3,q4⟩|⟨q1,q2,q3,q4⟩|⟨q1,q2,q3,q4⟩
    ·have hnd:=hnd (some (zHc L d));simp only[q3,if_true,ifG]at hnd;clear key hcl hw hol hab;have hty:=gtypes_spec τ L hL (j+1) T lf (by omega);have t1:=zWd L (j+1);have t2:=zUb L (j+1);generalize zGa L (j+1)=t at*;generalize zoa L (j+1)=jn at*;have hea:=zEa τ L hL jn T lf all [2] (by omega) (by simp;omega) (by omega) hrT (by simp);have hX:PlOk ⟨true,p.loop,t,p.next,p.left⟩:=⟨t2,hp.n,hp.l⟩
     have hel:(zAa L T all [2] jn).length=1:=zTa _ _ _ _ _;generalize zAa L T all [2] jn=ar at*;have hA:=hrec (jn+1) T lf all ⟨true,p.loop,t,p.next,p.left⟩ ⟨hX,by omega,by omega,by omega,hrT⟩;have hAo:=listG_ok L d all ⟨true,p.loop,t,p.next,p.left⟩ (jn+1) T lf hX;generalize zHc L d all ⟨true,p.loop,t,p.next,p.left⟩ (jn+1) T lf=A at*;obtain⟨a1,⟨y,a2⟩,a3,a4⟩:=hAo;have hB:=hrec A.i A.ts A.left all ⟨true,p.loop,t,p.next,p.left⟩ ⟨hX,by omega,by omega,by omega,fun y hy=>by have:=hrT y hy;rw[a2];simp only[yj];omega⟩;have hBo:=listG_ok L d all ⟨true,p.loop,t,p.next,p.left⟩ A.i A.ts A.left hX;generalize zHc L d all ⟨true,p.loop,t,p.next,p.left⟩ A.i A.ts A.left=B at*;obtain⟨b1,⟨z,b2⟩,b3,b4⟩:=hBo;have hou:=zZc τ L B.i B.ts B.left t (by omega);have hk:=hst _ hnd;have hcl:=zXa ⟨10,0,0,[],ar,[],[],[A.n,B.n]⟩ [] (by simp[wtN,wtK];omega);have hcl2:=zXa ⟨10,0,0,[],ar,newV B.ts.length t.length,[],[A.n,B.n]⟩ [] (by simp[wtN,wtK,zNa];omega);have hcc:zd ⟨10,0,0,[],ar,newV B.ts.length t.length,[],[A.n,B.n]⟩=zd ⟨10,0,0,[],ar,[],[],[A.n,B.n]⟩:=rfl;have hab:(all.length+(newV B.ts.length t.length).length)*8<=zm:=by rw[zNa];simp only[zm];omega
     simp[ints,zW,ztd,za,kids,zi,gst]at hty hea hA hB hcl hcl2 hou;clear a1 a2 a3 a4 b1 b2 b3 b4 hst hnd hrT hTl hrec hX t1 t2 hrr ha hii htt hel hx hj;cases hc:zd ⟨10,0,0,[],ar,[],[],[A.n,B.n]⟩
     ·rw[hc]at hcc;simp[zPd,hc,hcc]at hk hcl hcl2;generalize newV B.ts.length t.length=nw at*;simp[*,gst,zi,za,ints,zW,ztd,kids];refine⟨⟨m,out++[⟨10,0,0,[],ar,nw,[],[A.n,B.n]⟩],all++nw,B.i,B.ts++t,B.left⟩,by simp,?_⟩;simp[*,gst,zi,za,ints,zW,ztd,kids]
     ·simp[zPd,hc]at hk hcl;rw[hk];clear hk;simp[*,gst,zi,za,ints,zW,ztd,kids]
    ·have hnd:=hnd (some (zHc L d));simp only[q3,q4,if_true,if_false,loopG]at hnd;clear key hcl hw hol hab;have hty:=gtypes_spec τ L hL (j+1) T lf (by omega);have t1:=zWd L (j+1);have t2:=zUb L (j+1);generalize zGa L (j+1)=t at*;generalize zoa L (j+1)=jn at*;have hty2:=gtypes_spec τ L hL jn T lf (by omega);have t3:=zWd L jn;have t4:=zUb L jn;generalize zGa L jn=o at*;generalize zoa L jn=jm at*;have hea:=zEa τ L hL jm T lf all t (by omega) (by omega) (by omega) hrT (by omega);have hX:PlOk ⟨false,true,[],t,o⟩:=⟨by simp,t2,t4⟩
     have hel:(zAa L T all t jm).length=t.length:=zTa _ _ _ _ _;generalize zAa L T all t jm=ar at*;have hop:=zZc τ L (jm+t.length) T lf t (by omega);have hpl:(newV T.length t.length).length=t.length:=zNa _ _;have hpm:=zve T.length t.length;generalize newV T.length t.length=ps at*;have hrTT:∀y∈all++ps,0<=y/\y<(T++t).length:=by
      intro y hy;simp only[yr]at hy;simp only[yj];rcases hy with hy|hy
      ·have:=hrT y hy;omega
      ·have:=hpm y hy;omega
     have hTT:(T++t).length<=T.length+2:=by simp only[yj];omega
     have hapl:(all++ps).length<=all.length+2:=by simp only[yj];omega
     have hap:(all.length+ps.length)*8<=zm:=by simp only[zm];omega
     have hap0:all.length*8<=zm:=by simp only[zm];omega
     have hA:=hrec (jm+t.length) (T++t) lf (all++ps) ⟨false,true,[],t,o⟩ ⟨hX,by omega,by omega,by omega,hrTT⟩;have hAo:=listG_ok L d (all++ps) ⟨false,true,[],t,o⟩ (jm+t.length) (T++t) lf hX;generalize zHc L d (all++ps) ⟨false,true,[],t,o⟩ (jm+t.length) (T++t) lf=A at*;obtain⟨a1,⟨y,a2⟩,a3,a4⟩:=hAo;have hou:=zZc τ L A.i A.ts A.left o (by omega);have hk:=hst _ hnd;have hcl:=zXa ⟨11,0,0,[],ar,[],ps,[A.n]⟩ [] (by simp[wtN,wtK];omega);have hcl2:=zXa ⟨11,0,0,[],ar,newV A.ts.length o.length,ps,[A.n]⟩ [] (by simp[wtN,wtK,zNa];omega);have hcc:zd ⟨11,0,0,[],ar,newV A.ts.length o.length,ps,[A.n]⟩=zd ⟨11,0,0,[],ar,[],ps,[A.n]⟩:=rfl;have hab:(all.length+(newV A.ts.length o.length).length)*8<=zm:=by rw[zNa];simp only[zm];omega
     simp[ints,zW,ztd,za,kids,zi,gst]at hty hty2 hea hop hA hcl hcl2 hou;clear a1 a2 a3 a4 hst hnd hrT hTl hrec hX t1 t2 t3 t4 hrr ha hii htt hel hx hj hrTT hTT hapl hpm hpl;cases hc:zd ⟨11,0,0,[],ar,[],ps,[A.n]⟩
     ·rw[hc]at hcc;simp[zPd,hc,hcc]at hk hcl hcl2;generalize newV A.ts.length o.length=nw at*;simp[*,gst,zi,za,ints,zW,ztd,kids];refine⟨⟨m,out++[⟨11,0,0,[],ar,nw,ps,[A.n]⟩],all++nw,A.i,A.ts++o,A.left⟩,by simp,?_⟩;simp[*,gst,zi,za,ints,zW,ztd,kids]
     ·simp[zPd,hc]at hk hcl;rw[hk];clear hk;simp[*,gst,zi,za,ints,zW,ztd,kids]
    ·have hk:=key ⟨n,j+1,T,lf⟩ rfl (by have:=hnd (some (zHc L d));simp only[q3,q4,if_false]at this;exact this);clear hst hnd key hrec hrT hTl;cases hc:zd n
     ·simp[hc]at hk hcl;simp[*,gst,zi,za,ints,zW,ztd,kids];refine⟨⟨m,out++[n],all++n.outs,j+1,T,lf⟩,by simp,?_⟩;simp[*,gst,zi,za,ints,zW,ztd,kids]
     ·simp[hc]at hk hcl;rw[hk];clear hk;simp[*,gst,zi,za,ints,zW,ztd,kids]
theorem glist_spec:∀d,d<=3->LsOk τ L d:=by
 intro d
 induction d with
 |zero=>intro h;exact glist_of τ L hL 0 h (by intro e he;cases he)
 |succ d ih=>intro h;exact glist_of τ L hL (d+1) h (by intro e he;cases he;exact ih (by omega))
end
theorem runG_ne(L:List UInt8)(rc:Option LG)(p:HPl):∀c out all i ts left,(runG L rc p c out all i ts left).n≠ []:=by
 intro c
 induction c with
 |zero=>intro out all i ts left;simp[runG,finG]
 |succ c ih=>
  intro out all i ts left;rw[runG];split
  ·simp[finG]
  ·simp only;split
   ·simp
   ·exact ih _ _ _ _ _
theorem listG_ne(L:List UInt8)(d:Nat)(seen:List Int)(p:HPl)(i:Nat)(ts:List Int)(left:Nat):(zHc L d seen p i ts left).n≠ []:=by
 rw[listG_eq];exact runG_ne L _ _ _ _ _ _ _ _
def noPl:HPl:=⟨false,false,[],[],[]⟩
theorem noPl_ok:PlOk noPl:=⟨by simp[noPl],by simp[noPl],by simp[noPl]⟩
def zRd(L:List UInt8)(params:List Int)(i:Nat):Md (List Node):=zHc L 3 (newV 0 params.length++[(params.length:Int),((params.length+1:Nat):Int)]) noPl i (params++[1,2]) 30
theorem zRc(L:List UInt8)(name:List UInt8)(params:List Int)(i:Nat):zKc L name params i=
  ⟨⟨name,1,params.length,(zRd L params i).ts,nd 1 0 3 [] [] [(params.length:Int)]::nd 2 0 1 [] [] [((params.length+1:Nat):Int)]::(zRd L params i).n⟩,(zRd L params i).i,(zRd L params i).ts,(zRd L params i).left⟩:=rfl
theorem zAc(L:List UInt8)(params:List Int)(i:Nat):MdL 10 (zRd L params i) i (params++[1,2]) 30 0:=listG_ok L 3 _ _ _ _ _ noPl_ok
section
variable (τ:zc) (L:List UInt8) (hL:L.length<=9223372036854775807)
include hL
theorem gflow_spec(i:Nat)(ts:List Int)(left:Nat)(name:List UInt8)(params:List Int)(hp:params.length<=10)(hi:i<=1000000):
  zk E 29 [.ptr 0 0 0,.str name,ints params] (gst τ L i ts left)=some (.ret (zf (zKc L name params i).n),gst τ L (zKc L name params i).i (zKc L name params i).ts (zKc L name params i).left):=by
 refine zb rfl rfl rfl (by simp) ?_;have o1:=zZc τ L i [] 30 params (by simp;omega);have f1:=fresh_spec τ L i params 30 1 (by omega);have f2:=fresh_spec τ L i (params++[1]) 30 2 (by simp;omega);have hr:∀y∈newV 0 params.length++[(params.length:Int),((params.length+1:Nat):Int)],0<=y/\y<(params++[1,2]).length:=by
  intro y hy;simp only[yr,yA,yPa,or_false]at hy;simp only[yj,yX,yZ];rcases hy with hy|hy|hy
  ·have:=zve 0 _ y hy;omega
  ·omega
  ·omega
 have hls:=glist_spec τ L hL 3 (by omega) i (params++[1,2]) 30 (newV 0 params.length++[(params.length:Int),((params.length+1:Nat):Int)]) noPl ⟨noPl_ok,by simp[zNa];omega,by omega,by simp;omega,hr⟩;have hne:=listG_ne L 3 (newV 0 params.length++[(params.length:Int),((params.length+1:Nat):Int)]) noPl i (params++[1,2]) 30;have hok:=zAc L params i;rw[zRc];change zk E _ _ _=some (.ret (zi (zRd L params i).n),gst τ L (zRd L params i).i (zRd L params i).ts (zRd L params i).left)at hls;change (zRd L params i).n≠ []at hne;generalize zRd L params i=A at*;obtain⟨a1,a2,a3,a4⟩:=hok;have hal:=zFb A.n;have q1:(params.length+2)*8<=zm:=by simp only[zm];omega
 have q2:(2+A.n.length)*136<=zm:=by simp only[zm];omega
 have q3:(newV 0 params.length).length=params.length:=zNa _ _;clear a1 a2 a3 a4 hr hal;simp[ints,zW,gst,zi,ztd,noPl]at o1 f1 f2 hls;generalize newV 0 params.length=nv at*;simp[*,F29,ints,gst,zi,zf,za,kids]
end
theorem madeM_sz(L:List UInt8):USz (zjc L):=by
 have h1:=zAc L [] 0;have h2:=zAc L [1,2] (zRd L [] 0).i;obtain⟨a1,a2,a3,a4⟩:=h1;obtain⟨b1,b2,b3,b4⟩:=h2;simp only[yj,yX,yZ]at a3 b3;refine⟨?_,?_,?_,?_⟩
 ·simp[zjc]
 ·simp[zjc]
 ·intro f hf;simp only[zjc,yA,yPa,or_false]at hf;rcases hf with rfl|rfl<;>simp[zRc]<;>omega
 ·intro f hf;simp only[zjc,yA,yPa,or_false]at hf;rcases hf with rfl|rfl<;>simp[zRc,wtL,wtN,wtK]<;>omega
section
variable (L:List UInt8) (hL:L.length<=9223372036854775807)
include hL
theorem made_spec:zk E 14 [u8s L] []=some (.ret (encUnt (zjc L)),[]):=by
 refine zb rfl rfl rfl (by simp[u8s]) ?_;have f1:=gflow_spec [] L hL 0 [] 0 zp [] (by simp) (by omega);have hi1:(zKc L zp [] 0).i<=10000:=by have:=(zAc L [] 0).i;rw[zRc];simp only;omega
 have f2:=gflow_spec [] L hL (zKc L zp [] 0).i (zKc L zp [] 0).ts (zKc L zp [] 0).left [102] [1,2] (by simp) (by omega);have hm:zjc L=⟨[⟨[97],4⟩],[(zKc L zp [] 0).n,(zKc L [102] [1,2] (zKc L zp [] 0).i).n]⟩:=rfl;rw[hm];generalize zKc L zp [] 0=A at*;generalize zKc L [102] [1,2] A.i=B at*;clear hm;have e1:zp=[109,97,105,110]:=rfl;simp[ints,gst,zf,e1,u8s]at f1 f2;simp[*,F14,encUnt,arrs,flows,zZ,zf,u8s,zm,ints]
end
theorem goR_two{u:Unt}{f:Flow}{x:Node}{r:List Node}{seen:List Int}{w:Place}{deep:Int}{Z:Set1}(hd:deep<=100)(h:(zJ u f x seen w deep Z).1=true)(hc:zd x=r.isEmpty):
  goR u f (x::r) seen w deep Z=goR u f r (seen++x.outs) w deep (zJ u f x seen w deep Z).2:=by
 rw[goR,if_neg (by omega),if_pos h,if_pos hc]
def Ty12(l:List Int):Prop:=∀t∈l,t=1\/t=2
structure SeenOk(ts seen:List Int):Prop where
 zero:(0:Int)∈seen
 rng:∀x∈seen,0<=x/\x<ts.length
 has:∀t,t=1\/t=2->∃x∈seen,atA ts x.toNat=t
theorem some1_mem(ts:List Int)(t:Int):∀(l:List Int) (f:Bool) (k v:Int),some1 ts t l f k v∈l\/some1 ts t l f k v=v
 | [],f,k,v=> .inr rfl
 |x::r,f,k,v=>by
  rw[some1];split
  ·rcases some1_mem ts t r false (k-1) x with h|h
   ·exact .inl (yda _ h)
   ·rw[h];exact .inl (by simp)
  ·rcases some1_mem ts t r false k v with h|h
   ·exact .inl (yda _ h)
   ·exact .inr h
theorem some2_mem(ts:List Int)(t:Int):∀(l:List Int) (v:Int),some2 ts t l v∈l\/some2 ts t l v=v
 | [],v=> .inr rfl
 |x::r,v=>by
  rw[some2];split
  ·exact .inr rfl
  ·rcases some2_mem ts t r (if atA ts x.toNat=t then x else v)with h|h
   ·exact .inl (yda _ h)
   ·rw[h];split
    ·exact .inl (by simp)
    ·exact .inr rfl
theorem some2_ty(ts:List Int)(t:Int):∀(l:List Int) (v:Int),(atA ts v.toNat=t\/∃x∈l,atA ts x.toNat=t)->atA ts (some2 ts t l v).toNat=t
 | [],v,h=>by
  rcases h with h|⟨x,hx,_⟩
  ·exact h
  ·cases hx
 |x::r,v,h=>by
  rw[some2];split
  ·assumption
  ·rename_i hv;refine some2_ty ts t r _ ?_;rcases h with h|⟨y,hy,h⟩
   ·exact absurd h hv
   ·rcases yA.1 hy with rfl|hy
    ·rw[if_pos h];exact .inl h
    ·exact .inr ⟨y,hy,h⟩
theorem someV_ok{ts seen:List Int}(h:SeenOk ts seen){t:Int}(ht:t=1\/t=2)(k:Int):someV ts seen t k∈seen/\atA ts (someV ts seen t k).toNat=t:=by
 unfold someV;refine⟨?_,some2_ty ts t seen _ (.inr (h.has t ht))⟩;rcases some2_mem ts t seen (some1 ts t seen true k 0)with h1|h1
 ·exact h1
 ·rw[h1];rcases some1_mem ts t seen true k 0 with h2|h2
  ·exact h2
  ·rw[h2];exact h.zero
theorem at0_pre{ts F y:List Int}(hF:F=ts++y){v:Int}(h:0<=v/\v<ts.length):at0 F v=atA ts v.toNat:=by
 unfold at0 atA;rw[hF,yk (by omega)]
theorem useR_ok{ts F y seen:List Int}(hF:F=ts++y)(h:SeenOk ts seen){t:Int}(ht:t=1\/t=2)(k t':Int)(h':t'=0\/t'=t):useR F seen (someV ts seen t k) t'=true:=by
 obtain⟨h1,h2⟩:=someV_ok h ht k;have hr:=h.rng _ h1;have hl:ts.length<=F.length:=by rw[hF];simp
 unfold useR;rw[at0_pre hF hr,h2];simp only[ya,yy,decide_eq_true_eq,yBa];refine⟨hr.1,by omega,h1,?_⟩;rcases h' with h'|h'
 ·exact .inl h'
 ·exact .inr h'.symm
theorem zgc(L:List UInt8){ts F y seen:List Int}(hF:F=ts++y)(h:SeenOk ts seen):∀(l:List Int) (i:Nat),Ty12 l->zx F seen (zAa L ts seen l i) l=true
 | [],i,hl=>by simp[zx,zAa]
 |t::r,i,hl=>by
  have ih:=zgc L hF h r (i+1) (fun t ht=>hl t (yda _ ht));have hu:=useR_ok hF h (hl t (by simp)) (pk L i 8) t (.inr rfl);unfold zx at ih ⊢;simp only[ya,decide_eq_true_eq]at ih;simp only[zAa,yX,List.zip_cons_cons,List.all_cons,hu,Bool.true_and,ih.1,decide_true,ih.2]
def ZOk(F:List Int)(n:Nat)(Z:Set1):Prop:=Z.length=F.length/\∀j:Nat,n<=j->(Z[j]?).getD false=false
theorem ZOk.mono{F:List Int}{n m:Nat}{Z:Set1}(h:ZOk F n Z)(hm:n<=m):ZOk F m Z:=⟨h.1,fun j hj=>h.2 j (by omega)⟩
theorem set1_ok{F:List Int}{n:Nat}{Z:Set1}(h:ZOk F n Z)(hn:n<F.length){t:Int}(ht:t=0\/at0 F n=t):zca F Z n t=(true,Z.set n true)/\ZOk F (n+1) (Z.set n true):=by
 have hz:=h.2 n (yg _);refine⟨?_,by simpa using h.1,fun j hj=>?_⟩
 ·unfold zca;have hv:valM F n t=true:=by
   simp only[valM,ya,yy,decide_eq_true_eq];exact⟨by omega,by omega,ht⟩
  rw[hv];have hb:atB Z n=false:=by simpa[atB]using hz
  rw[hb];simp
 ·rw[yv (by omega)];exact h.2 j (by omega)
theorem zeros_succ(k:Nat):zha (k+1)=zha k++[0]:=by simp[zha,List.replicate_succ']
theorem setsN_ok{F:List Int}{n:Nat}{Z:Set1}(h:ZOk F n Z):∀k,n+k<=F.length->(zz F Z (newV n k) (zha k)).1=true/\ZOk F (n+k) (zz F Z (newV n k) (zha k)).2
 |0,hk=>by simpa[zz,eqM,eqGo,newV,zha]using h
 |k+1,hk=>by
  obtain⟨i1,i2⟩:=setsN_ok h k (by omega);have hl:(newV n k).length=(zha k).length:=by simp[zNa,zha]
  have e:zz F Z (newV n (k+1)) (zha (k+1))=(zca F (zz F Z (newV n k) (zha k)).2 (n+k:Nat) 0):=by
   unfold zz eqM at i1 i2 ⊢;rw[if_pos hl]at i1 i2;rw[if_pos (by simp[zNa,zha]),if_pos hl,newV,zeros_succ,List.zip_append hl,zwc,if_pos i1];simp only[List.zip_cons_cons,List.zip_nil_right,eqGo];generalize zca F (eqGo (zca F) Z ((newV n k).zip (zha k))).snd ((n+k:Nat):Int) 0=q;obtain⟨b,q⟩:=q;cases b<;>rfl
  have s0:=set1_ok i2 (show n+k<F.length by omega) (t:=0) (Or.inl (Eq.refl (0:Int)));obtain⟨s1,s2⟩:=s0;rw[e,s1];exact⟨rfl,s2⟩
theorem set_one{F:List Int}{n:Nat}{Z:Set1}(h:ZOk F n Z)(hn:n<F.length){t:Int}(ht:at0 F n=t):(zz F Z [(n:Int)] [t]).1=true/\ZOk F (n+1) (zz F Z [(n:Int)] [t]).2:=by
 obtain⟨s1,s2⟩:=set1_ok h hn (t:=t) (.inr ht);have e:zz F Z [(n:Int)] [t]=(true,Z.set n true):=by simp[zz,eqM,eqGo,s1]
 rw[e];exact⟨rfl,s2⟩
theorem atA_pre(ts x:List Int){v:Int}(h:0<=v/\v<ts.length):atA (ts++x) v.toNat=atA ts v.toNat:=by
 unfold atA;rw[yk (by omega)]
theorem SeenOk.ext{ts seen:List Int}(h:SeenOk ts seen)(x os:List Int)(ho:∀v∈os,0<=v/\v<(ts++x).length):SeenOk (ts++x) (seen++os):=by
 refine⟨by simp[h.zero],fun v hv=>?_,fun t ht=>?_⟩
 ·rcases yr.1 hv with hv|hv
  ·have:=h.rng v hv;simp only[yj];omega
  ·exact ho v hv
 ·obtain⟨v,hv,e⟩:=h.has t ht;exact⟨v,by simp[hv],by rw[atA_pre ts x (h.rng v hv)];exact e⟩
structure RoundOk(u:Unt)(f:Flow):Prop where
 arr:zKb u.arrays [97]=true
 fl:∃g,u.flows[(zT u.flows [102]).toNat]? =some g/\0<=zT u.flows [102]/\pars g=[1,2]/\g.type=1
 ty:f.type=1
theorem at0_new{F ts y:List Int}{t:Int}(hF:F=ts++t::y):at0 F ts.length=t:=by
 unfold at0;rw[hF];simp
structure NodeR(u:Unt)(f:Flow)(x:Node)(seen:List Int)(w:Place)(deep:Int)(Z:Set1)(n:Nat):Prop where
 ok:(zJ u f x seen w deep Z).1=true
 z:ZOk f.types n (zJ u f x seen w deep Z).2
theorem nodeG_of{u:Unt}{f:Flow}{x:Node}{seen:List Int}{w:Place}{deep:Int}{Z:Set1}{n:Nat}{b:Bool}{Z':Set1}(h:zJ u f x seen w deep Z=(b,Z'))(hb:b=true)(hz:ZOk f.types n Z'):NodeR u f x seen w deep Z n:=by
 subst hb;exact⟨by rw[h],by rw[h];exact hz⟩
theorem simple_R(L:List UInt8){u:Unt}{f:Flow}(hR:RoundOk u f){seen ts y:List Int}(h:SeenOk ts seen)(i:Nat)(hF:f.types=ts++(zD L seen ts i).2.2++y)(w:Place)(deep:Int){Z:Set1}(hZ:ZOk f.types ts.length Z):
  NodeR u f (zD L seen ts i).1 seen w deep Z (ts++(zD L seen ts i).2.2).length/\zd (zD L seen ts i).1=false/\(zD L seen ts i).1.leaves=false:=by
 have e1:=fun(y:List Int) (hF:f.types=ts++y) i=>zgc L hF h [1] i (by simp[Ty12])
 have e2:=fun(y:List Int) (hF:f.types=ts++y) i=>zgc L hF h [2] i (by simp[Ty12])
 have e3:=fun(y:List Int) (hF:f.types=ts++y) i=>zgc L hF h [1,1] i (by simp[Ty12])
 have e4:=fun(y:List Int) (hF:f.types=ts++y) i=>zgc L hF h [1,2] i (by simp[Ty12])
 obtain⟨g,hg1,hg2,hg3,hg4⟩:=hR.fl;have one:∀(t:Int) (y:List Int),f.types=ts++t::y->(zz f.types Z [(ts.length:Int)] [t]).1=true/\ZOk f.types (ts.length+1) (zz f.types Z [(ts.length:Int)] [t]).2:=by
  intro t y hF;exact set_one hZ (by rw[hF];simp) (at0_new hF)
 have nil0:zx f.types seen [] []=true:=by simp[zx]
 have mk:∀(x:Node) (t:Int),f.types=ts++[t]++y->zJ u f x seen w deep Z=zz f.types Z [(ts.length:Int)] [t]->NodeR u f x seen w deep Z (ts++[t]).length:=by
  intro x t hF hx;have h1:=one t y (by rw[hF];simp);exact⟨by rw[hx];exact h1.1,by rw[hx,yj];exact h1.2⟩
 have mk0:∀(x:Node),zJ u f x seen w deep Z=(true,Z)->NodeR u f x seen w deep Z (ts++[]).length:=by
  intro x hx;exact⟨by rw[hx],by rw[hx,ywa];exact hZ⟩
 have h12:=pk_lt L i 12 (by omega);have h6:=pk_lt L (i+1) 6 (by omega);have h2:=pk_lt L (i+1) 2 (by omega);have h4:=pk_lt L (i+1) 4 (by omega);have h11:=pk_lt L (i+1) 11 (by omega);have hc:pk L i 12=0\/pk L i 12=1\/pk L i 12=2\/pk L i 12=3\/pk L i 12=4\/pk L i 12=5\/pk L i 12=6\/pk L i 12=7\/pk L i 12=8\/pk L i 12=9\/pk L i 12=10\/pk L i 12=11:=by omega
 have two:∀(op:Int) (j:Nat),1<=op/\op<=17->∀(y:List Int),f.types=ts++y->zx f.types seen (zAa L ts seen [1,1] j) [takes op,takes op]=true/\at0 f.types (at0 (zAa L ts seen [1,1] j) 0)=at0 f.types (at0 (zAa L ts seen [1,1] j) 1):=by
  intro op j hop y hF;have ht:takes op=0\/takes op=1:=by unfold takes;split<;>(try split)<;>omega
  have u1:=useR_ok hF h (t:=1) (.inl rfl) (pk L j 8) (takes op) ht;have u2:=useR_ok hF h (t:=1) (.inl rfl) (pk L (j+1) 8) (takes op) ht;have v1:=someV_ok h (t:=1) (.inl rfl) (pk L j 8);have v2:=someV_ok h (t:=1) (.inl rfl) (pk L (j+1) 8);have a1:=at0_pre hF (h.rng _ v1.1);have a2:=at0_pre hF (h.rng _ v2.1);rw[v1.2]at a1;rw[v2.2]at a2;refine⟨by simp[zx,zAa,u1,u2],?_⟩;simp only[zAa];show at0 f.types (at0 [_,_] 0)=at0 f.types (at0 [_,_] 1)
  simp only[at0,Int.toNat_zero,Int.toNat_one,yE,yP,yga]at a1 a2 ⊢;rw[a1,a2]
 have mk2:∀(op m:Int) (j:Nat),1<=op/\op<=17->zQa op=m->f.types=ts++[m]++y->NodeR u f (nd 4 op 0 [] (zAa L ts seen [1,1] j) [(ts.length:Int)]) seen w deep Z (ts++[m]).length:=by
  intro op m j hop hm hF;obtain⟨t1,t2⟩:=two op j hop ([m]++y) (by rw[hF];simp);have hi:isTwo op=true:=by simp[isTwo];omega
  refine mk _ m hF ?_;simp[zJ,zea,zDa,zo,t1,t2,hi,hm]
 rcases hc with c|c|c|c|c|c|c|c|c|c|c|c
 ·simp only[zD,c]at hF ⊢;exact⟨mk _ _ hF (by simp[zJ,zea,zDa,zo,nil0]),by simp[zd,Node.ends],by simp[Node.leaves]⟩
 ·simp only[zD,c]at hF ⊢;have hb:((pk L (i+1) 2:Nat):Int)=0\/((pk L (i+1) 2:Nat):Int)=1:=by omega
  refine⟨mk _ _ hF ?_,by simp[zd,Node.ends],by simp[Node.leaves]⟩;rcases hb with hb|hb<;>simp[zJ,zea,zDa,zo,nil0,hb]
 ·simp only[zD,c]at hF ⊢;have e:=e1 ([1]++y) (by rw[hF];simp) (i+2);have hop:pk L (i+1) 4=0\/pk L (i+1) 4=1\/pk L (i+1) 4=2\/pk L (i+1) 4=3:=by omega
  refine⟨mk _ _ hF ?_,by simp[zd,Node.ends],by simp[Node.leaves]⟩;rcases hop with k|k|k|k<;>simp[zJ,zea,zDa,zo,k,atA,isOne,takes,zQa,e]
 ·simp only[zD,c]at hF ⊢;have e:=e2 ([2]++y) (by rw[hF];simp) (i+1);exact⟨mk _ _ hF (by simp[zJ,zea,zDa,zo,isOne,takes,zQa,e]),by simp[zd,Node.ends],by simp[Node.leaves]⟩
 ·simp only[zD,c]at hF ⊢;exact⟨mk2 _ _ _ (by omega) (by unfold zQa;rw[if_neg (by omega)]) hF,by simp[zd,Node.ends],by simp[Node.leaves]⟩
 ·simp only[zD,c]at hF ⊢;exact⟨mk2 _ _ _ (by omega) (by unfold zQa;rw[if_neg (by omega)]) hF,by simp[zd,Node.ends],by simp[Node.leaves]⟩
 ·simp only[zD,c]at hF ⊢;exact⟨mk2 _ _ _ (by omega) (by unfold zQa;rw[if_neg (by omega)]) hF,by simp[zd,Node.ends],by simp[Node.leaves]⟩
 ·simp only[zD,c]at hF ⊢;exact⟨mk2 _ _ _ (by omega) (by unfold zQa;rw[if_pos (by omega)]) hF,by simp[zd,Node.ends],by simp[Node.leaves]⟩
 ·simp only[zD,c]at hF ⊢;exact⟨mk2 _ _ _ (by omega) (by unfold zQa;rw[if_pos (by omega)]) hF,by simp[zd,Node.ends],by simp[Node.leaves]⟩
 ·simp only[zD,c]at hF ⊢;have e:=e1 ([1]++y) (by rw[hF];simp) (i+1);exact⟨mk _ _ hF (by simp[zJ,zea,zDa,zo,hR.arr,e]),by simp[zd,Node.ends],by simp[Node.leaves]⟩
 ·simp only[zD,c]at hF ⊢;have e:=e3 y (by rw[hF];simp) (i+1);exact⟨mk0 _ (by simp[zJ,zea,zDa,zo,hR.arr,e]),by simp[zd,Node.ends],by simp[Node.leaves]⟩
 ·have hop:pk L (i+1) 4=0\/pk L (i+1) 4=1\/pk L (i+1) 4=2\/pk L (i+1) 4=3:=by omega
  rcases hop with k|k|k|k<;>simp only[zD,c,k]at hF ⊢
  ·have e:=e4 ([1]++y) (by rw[hF];simp) (i+2);exact⟨mk _ _ hF (by simp[zJ,zea,zDa,zo,hg1,hg2,hg3,hg4,e]),by simp[zd,Node.ends],by simp[Node.leaves]⟩
  ·exact⟨mk _ _ hF (by simp[zJ,zea,zDa,zo]),by simp[zd,Node.ends],by simp[Node.leaves]⟩
  ·have e:=e1 y (by rw[hF];simp) (i+2);exact⟨mk0 _ (by simp[zJ,zea,zDa,zo,e]),by simp[zd,Node.ends],by simp[Node.leaves]⟩
  ·have e:=e1 y (by rw[hF];simp) (i+2);exact⟨mk0 _ (by simp[zJ,zea,zDa,zo,e]),by simp[zd,Node.ends],by simp[Node.leaves]⟩
structure At(p:HPl)(w:Place)(l:List Node):Prop where
 iff:w.inIf=p.iff
 loop:w.inLoop=p.loop
 y:zK l=true->w.yield=p.yield
 n:w.next=p.next
 l:zu l=true->w.left=p.left
structure PlTy(p:HPl):Prop where
 y:Ty12 p.yield
 n:Ty12 p.next
 l:Ty12 p.left
theorem end_R(L:List UInt8){u:Unt}{f:Flow}(hR:RoundOk u f){seen ts y:List Int}(h:SeenOk ts seen){p:HPl}(hp:PlTy p)(i:Nat)(hF:f.types=ts++y){w:Place}(deep:Int){Z:Set1}(hZ:ZOk f.types ts.length Z)(hw:At p w [endG L seen ts p i]):
  NodeR u f (endG L seen ts p i) seen w deep Z ts.length/\zd (endG L seen ts p i)=true:=by
 obtain⟨w1,w2,w3,w4,w5⟩:=hw;have e:endG L seen ts p i=nd (endL p (pk L i 6)).1 0 0 [] (zAa L ts seen (endL p (pk L i 6)).2 (i+1)) []:=rfl;rw[e]at w3 w5 ⊢;generalize pk L i 6=k at*;have ey:=zgc L hF h p.yield (i+1) hp.y;have en:=zgc L hF h p.next (i+1) hp.n;have el:=zgc L hF h p.left (i+1) hp.l;have e1:=zgc L hF h [1] (i+1) (by simp[Ty12]);have hty:=hR.ty;unfold endL at w3 w5 ⊢;by_cases c1:p.iff=true/\k<4
 ·simp only[c1,and_self,if_true]at w3 w5 ⊢;have:=w3 (by simp[zK]);refine⟨nodeG_of (b:=true) (Z':=Z) ?_ rfl hZ,by simp[zd,Node.ends]⟩;simp[zJ,zea,zDa,zo,w1,c1.1,this,ey]
 ·simp only[c1,if_false]at w3 w5 ⊢;by_cases c2:p.loop=true/\k%2=0
  ·simp only[c2,and_self,if_true]at w3 w5 ⊢;refine⟨nodeG_of (b:=true) (Z':=Z) ?_ rfl hZ,by simp[zd,Node.ends]⟩;simp[zJ,zea,zDa,zo,w2,c2.1,w4,en]
  ·simp only[c2,if_false]at w3 w5 ⊢;by_cases c3:p.loop=true
   ·simp only[c3,if_true]at w3 w5 ⊢;have:=w5 (by simp[zu,Node.leaves]);refine⟨nodeG_of (b:=true) (Z':=Z) ?_ rfl hZ,by simp[zd,Node.ends]⟩;simp[zJ,zea,zDa,zo,w2,c3,this,el]
   ·simp only[c3,if_false]at w3 w5 ⊢;refine⟨nodeG_of (b:=true) (Z':=Z) ?_ rfl hZ,by simp[zd,Node.ends]⟩;simp[zJ,zea,zDa,zo,hty,e1]
theorem runG_out(L:List UInt8)(rc:Option LG)(p:HPl):∀c out all i ts left,runG L rc p c out all i ts left={runG L rc p c [] all i ts left with n:=out++(runG L rc p c [] all i ts left).n}:=by
 intro c
 induction c with
 |zero=>intro out all i ts left;simp[runG,finG]
 |succ c ih=>
  intro out all i ts left;rw[runG,runG];split
  ·simp[finG]
  ·simp only;split
   ·simp
   ·rw[ih (out++_),ih ([]++_)];simp
def LGR(u:Unt)(f:Flow)(g:LG)(D:Int):Prop:=∀seen p i ts left w deep Z y,PlTy p->PlOk p->SeenOk ts seen->deep<=D->f.types=(g seen p i ts left).ts++y->ZOk f.types ts.length Z->At p w (g seen p i ts left).n→
 (goR u f (g seen p i ts left).n seen w deep Z).1=true/\ZOk f.types (g seen p i ts left).ts.length (goR u f (g seen p i ts left).n seen w deep Z).2/\(g seen p i ts left).n≠ []
theorem zVd(L:List UInt8)(i:Nat):Ty12 (zGa L i):=by
 have key:∀k,Ty12 (tyV L (i+1) k):=by
  intro k
  induction k with
  |zero=>simp[tyV,Ty12]
  |succ k ih=>
   intro t ht;simp only[tyV,yr,List.mem_singleton]at ht;rcases ht with ht|ht
   ·exact ih t ht
   ·have:=pk_lt L (i+1+k) 2 (by omega);omega
 exact key _
theorem typesM_new{F ts t y:List Int}(hF:F=ts++t++y):typesM F (newV ts.length t.length)=t:=by
 have key:∀k,k<=t.length->(newV ts.length k).map (at0 F)=t.take k:=by
  intro k
  induction k with
  |zero=>intro _;simp[newV]
  |succ k ih=>
   intro hk;obtain⟨a,ha⟩:∃a,t[k]? =some a:=⟨_,ye (by omega)⟩
   rw[newV,yxa,ih (by omega),List.take_add_one,ha];have e:at0 F ((ts.length+k:Nat):Int)=a:=by
    unfold at0;rw[hF,Int.toNat_natCast,yfa,yp (by omega),Nat.add_sub_cancel_left,yk (by omega),ha];rfl
   rw[yO,List.map_nil,e];rfl
 unfold typesM;rw[if_pos,key _ (yg _),List.take_length];rw[yh];intro v hv;have:=zve _ _ _ hv;have hl:F.length=ts.length+t.length+y.length:=by rw[hF];simp[yza]
 simp only[valM,ya,yy,decide_eq_true_eq];exact⟨by omega,by omega,.inl trivial⟩
theorem outed_R{u:Unt}{f:Flow}{n:Node}{i:Nat}{ts:List Int}{left:Nat}{t y:List Int}(ho:n.outs=[])(hF:f.types=(zPd n i ts left t).ts++y){Z1:Set1}(hZ:ZOk f.types ts.length Z1):
  (endR f.types (zPd n i ts left t).n (true,Z1)).1=true/\ZOk f.types (zPd n i ts left t).ts.length (endR f.types (zPd n i ts left t).n (true,Z1)).2:=by
 unfold zPd at hF ⊢;split
 ·rename_i hc;rw[if_pos hc]at hF;unfold endR;rw[if_pos (by simp[ho])];simp only[ho,yZ];exact⟨rfl,hZ⟩
 ·rename_i hc;rw[if_neg hc]at hF;have hcc:zd {n with outs:=newV ts.length t.length}=zd n:=rfl;unfold endR;rw[if_pos (by simp[hcc,hc])];simp only[zNa];have hl:ts.length+t.length<=f.types.length:=by rw[hF];simp
  have:=setsN_ok hZ t.length hl;rw[yj];exact this
theorem outed_n{n:Node}{i:Nat}{ts:List Int}{left:Nat}{t:List Int}(ho:n.outs=[]):∃us,(zPd n i ts left t).n={n with outs:=us}/\((zd n=true/\us=[]/\(zPd n i ts left t).ts=ts)\/(zd n=false/\us=newV ts.length t.length/\(zPd n i ts left t).ts=ts++t)):=by
 unfold zPd;split
 ·rename_i hc;refine⟨[],?_,.inl ⟨hc,rfl,rfl⟩⟩;cases n;simp only at ho;subst ho;rfl
 ·rename_i hc;exact⟨_,rfl,.inr ⟨by simpa using hc,rfl,rfl⟩⟩
theorem if_R(L:List UInt8){u:Unt}{f:Flow}{g:LG}{D:Int}(hg:LGR u f g D)(hgo:LGok g){all:List Int}{p:HPl}(hp:PlTy p)(hpo:PlOk p){i:Nat}{ts:List Int}{left:Nat}{w:Place}{deep:Int}{Z:Set1}{y:List Int}
  (h:SeenOk ts all) (hd:deep+1<=D) (hF:f.types=(ifG L g all p i ts left).ts++y) (hZ:ZOk f.types ts.length Z) (wl:w.inLoop=p.loop) (wn:w.next=p.next) (wv:(ifG L g all p i ts left).n.leaves=true->w.left=p.left):
  NodeR u f (ifG L g all p i ts left).n all w deep Z (ifG L g all p i ts left).ts.length:=by
 unfold ifG at hF wv ⊢;simp only at hF wv ⊢;have t12:=zVd L i;have tl:=zUb L i;generalize zGa L i=t at*;have hX:PlTy ⟨true,p.loop,t,p.next,p.left⟩:=⟨t12,hp.n,hp.l⟩
 have hXo:PlOk ⟨true,p.loop,t,p.next,p.left⟩:=⟨tl,hpo.n,hpo.l⟩
 have hA:=hg all ⟨true,p.loop,t,p.next,p.left⟩ (zoa L i+1) ts left;have hAo:=hgo all ⟨true,p.loop,t,p.next,p.left⟩ (zoa L i+1) ts left hXo;generalize g all ⟨true,p.loop,t,p.next,p.left⟩ (zoa L i+1) ts left=A at*;have hB:=hg all ⟨true,p.loop,t,p.next,p.left⟩ A.i A.ts A.left;have hBo:=hgo all ⟨true,p.loop,t,p.next,p.left⟩ A.i A.ts A.left hXo;generalize g all ⟨true,p.loop,t,p.next,p.left⟩ A.i A.ts A.left=B at*;obtain⟨xa,ha⟩:=hAo.t;obtain⟨xb,hb⟩:=hBo.t;have hends:=fun Z1 hZ1=>outed_R (u:=u) (f:=f) (n:=⟨10,0,0,[],zAa L ts all [2] (zoa L i),[],[],[A.n,B.n]⟩) (i:=B.i) (ts:=B.ts) (left:=B.left) (t:=t) (y:=y) rfl hF (Z1:=Z1) hZ1
 obtain⟨us,hn,hus⟩:=outed_n (n:=⟨10,0,0,[],zAa L ts all [2] (zoa L i),[],[],[A.n,B.n]⟩) (i:=B.i) (ts:=B.ts) (left:=B.left) (t:=t) rfl;generalize zPd ⟨10,0,0,[],zAa L ts all [2] (zoa L i),[],[],[A.n,B.n]⟩ B.i B.ts B.left t=r at*;have hBF:∃z,f.types=B.ts++z:=by
  rcases hus with⟨_,_,e⟩|⟨_,_,e⟩<;>rw[hF,e]
  ·exact⟨_,rfl⟩
  ·exact⟨t++y,by simp⟩
 obtain⟨z,hBF⟩:=hBF;have hAF:f.types=A.ts++(xb++z):=by rw[hBF,hb];simp
 have htF:f.types=ts++(xa++(xb++z)):=by rw[hAF,ha];simp
 have hSA:SeenOk A.ts all:=by have:=h.ext xa [] (by simp);rw[ha];simpa using this
 have hy:zK A.n=true\/zK B.n=true->typesM f.types us=t:=by
  intro hh;rcases hus with⟨c,_,_⟩|⟨_,e,e2⟩
  ·simp[zd]at c;rcases hh with hh|hh
   ·rw[hh]at c;simp at c
   ·rw[hh]at c;simp at c
  ·rw[e];exact typesM_new (y:=y) (by rw[hF,e2])
 have hl:zu A.n=true\/zu B.n=true->w.left=p.left:=by
  intro hh;refine wv ?_;rw[hn,zmd];rcases hh with hh|hh<;>simp[hh]
 obtain⟨a1,a2,a3⟩:=hA {w with inIf:=true,yield:=typesM f.types us} (deep+1) Z (xb++z) hX hXo h hd hAF hZ ⟨rfl,wl,fun e=>hy (.inl e),wn,fun e=>hl (.inl e)⟩;generalize hqa:goR u f A.n all {w with inIf:=true,yield:=typesM f.types us} (deep+1) Z=qa at*;obtain⟨b1,b2,b3⟩:=hB {w with inIf:=true,yield:=typesM f.types us} (deep+1) qa.2 z hX hXo hSA hd hBF a2 ⟨rfl,wl,fun e=>hy (.inr e),wn,fun e=>hl (.inr e)⟩;generalize hqb:goR u f B.n all {w with inIf:=true,yield:=typesM f.types us} (deep+1) qa.2=qb at*;have la:zeb A.n qa=(true,qa.2):=by unfold zeb;rw[if_pos a1];simp[a3]
 have lb:zeb B.n qb=(true,qb.2):=by unfold zeb;rw[if_pos b1];simp[b3]
 have hk:zN u f [A.n,B.n] all {w with inIf:=true,yield:=typesM f.types us} (deep+1) Z=(true,qb.2):=by
  rw[zN,hqa,la,if_pos rfl,zN,hqb,lb,if_pos rfl,zN]
 have he:=zgc L htF h [2] (zoa L i) (by simp[Ty12]);obtain⟨c1,c2⟩:=hends qb.2 b2;have hnode:zJ u f r.n all w deep Z=endR f.types r.n (true,qb.2):=by
  rw[hn];rw[zJ,if_neg (by simp[zea,zDa]),if_pos rfl,if_pos he,hk]
 exact⟨by rw[hnode];exact c1,by rw[hnode];exact c2⟩
theorem loop_R(L:List UInt8){u:Unt}{f:Flow}{g:LG}{D:Int}(hg:LGR u f g D)(hgo:LGok g){all:List Int}{i:Nat}{ts:List Int}{left:Nat}{w:Place}{deep:Int}{Z:Set1}{y:List Int}
  (h:SeenOk ts all) (hd:deep+1<=D) (hF:f.types=(loopG L g all i ts left).ts++y) (hZ:ZOk f.types ts.length Z):
  NodeR u f (loopG L g all i ts left).n all w deep Z (loopG L g all i ts left).ts.length:=by
 unfold loopG at hF ⊢;simp only at hF ⊢;have t12:=zVd L i;have tl:=zUb L i;generalize zGa L i=t at*;have o12:=zVd L (zoa L i);have ol:=zUb L (zoa L i);generalize zGa L (zoa L i)=o at*;generalize zoa L (zoa L i)=j at*;have hX:PlTy ⟨false,true,[],t,o⟩:=⟨by simp[Ty12],t12,o12⟩
 have hXo:PlOk ⟨false,true,[],t,o⟩:=⟨by simp,tl,ol⟩
 have hA:=hg (all++newV ts.length t.length) ⟨false,true,[],t,o⟩ (j+t.length) (ts++t) left;have hAo:=hgo (all++newV ts.length t.length) ⟨false,true,[],t,o⟩ (j+t.length) (ts++t) left hXo;generalize g (all++newV ts.length t.length) ⟨false,true,[],t,o⟩ (j+t.length) (ts++t) left=A at*;obtain⟨xa,ha⟩:=hAo.t;have hends:=fun Z1 hZ1=>outed_R (u:=u) (f:=f) (n:=⟨11,0,0,[],zAa L ts all t j,[],newV ts.length t.length,[A.n]⟩) (i:=A.i) (ts:=A.ts) (left:=A.left) (t:=o) (y:=y) rfl hF (Z1:=Z1) hZ1
 obtain⟨us,hn,hus⟩:=outed_n (n:=⟨11,0,0,[],zAa L ts all t j,[],newV ts.length t.length,[A.n]⟩) (i:=A.i) (ts:=A.ts) (left:=A.left) (t:=o) rfl;generalize zPd ⟨11,0,0,[],zAa L ts all t j,[],newV ts.length t.length,[A.n]⟩ A.i A.ts A.left o=r at*;have hAF:∃z,f.types=A.ts++z:=by
  rcases hus with⟨_,_,e⟩|⟨_,_,e⟩<;>rw[hF,e]
  ·exact⟨_,rfl⟩
  ·exact⟨o++y,by simp⟩
 obtain⟨z,hAF⟩:=hAF;have htF:f.types=ts++t++(xa++z):=by rw[hAF,ha];simp
 have htF2:f.types=ts++(t++(xa++z)):=by rw[htF];simp
 have hps:typesM f.types (newV ts.length t.length)=t:=typesM_new htF;have hSA:SeenOk (ts++t) (all++newV ts.length t.length):=h.ext t _ (fun v hv=>by
  have:=zve _ _ _ hv;simp only[yj];omega)
 have hl:zu A.n=true->typesM f.types us=o:=by
  intro hh;rcases hus with⟨c,_,_⟩|⟨_,e,e2⟩
  ·simp[zd]at c;rw[hh]at c;simp at c
  ·rw[e];exact typesM_new (y:=y) (by rw[hF,e2])
 have hle:ts.length+t.length<=f.types.length:=by rw[htF];simp[yza]
 obtain⟨s1,s2⟩:=setsN_ok hZ t.length hle;obtain⟨a1,a2,a3⟩:=hA ⟨false,true,[],t,typesM f.types us⟩ (deep+1) (zz f.types Z (newV ts.length t.length) (zha t.length)).2 z hX hXo hSA hd hAF (by rw[yj];exact s2) ⟨rfl,rfl,fun _=>rfl,rfl,hl⟩;generalize hqa:goR u f A.n (all++newV ts.length t.length) ⟨false,true,[],t,typesM f.types us⟩ (deep+1) (zz f.types Z (newV ts.length t.length) (zha t.length)).2=qa at*;have la:zeb A.n qa=(true,qa.2):=by unfold zeb;rw[if_pos a1];simp[a3]
 have hk:zN u f [A.n] (all++newV ts.length t.length) ⟨false,true,[],t,typesM f.types us⟩ (deep+1) (zz f.types Z (newV ts.length t.length) (zha t.length)).2=(true,qa.2):=by
  rw[zN,hqa,la,if_pos rfl,zN]
 have he:=zgc L htF2 h t j t12;obtain⟨c1,c2⟩:=hends qa.2 a2;have hnode:zJ u f r.n all w deep Z=endR f.types r.n (true,qa.2):=by
  rw[hn];rw[zJ,if_neg (by simp[zea,zDa]),if_neg (show¬((11:Int)=10) by decide),if_pos rfl,hps,if_pos he,zNa,if_pos s1,hk]
 exact⟨by rw[hnode];exact c1,by rw[hnode];exact c2⟩
theorem nodeG_R(L:List UInt8){u:Unt}{f:Flow}(hR:RoundOk u f){rc:Option LG}{D:Int}(hg:∀g,rc=some g->LGR u f g D/\LGok g){all:List Int}{p:HPl}(hp:PlTy p)(hpo:PlOk p){i:Nat}{ts:List Int}{left:Nat}{w:Place}{deep:Int}{Z:Set1}{y:List Int}
  (h:SeenOk ts all) (hd:deep+1<=D) (hF:f.types=(zue L rc all p i ts left).ts++y) (hZ:ZOk f.types ts.length Z) (wl:w.inLoop=p.loop) (wn:w.next=p.next) (wv:(zue L rc all p i ts left).n.leaves=true->w.left=p.left):
  NodeR u f (zue L rc all p i ts left).n all w deep Z (zue L rc all p i ts left).ts.length/\SeenOk (zue L rc all p i ts left).ts (all++(zue L rc all p i ts left).n.outs):=by
 have hok:=nodeG_ok L rc (fun g hg'=>(hg g hg').2) all p hpo i ts left;refine⟨?_,?_⟩
 ·have hs:=simple_ok L all ts i;have plain:f.types=ts++(zD L all ts i).2.2++y->NodeR u f (zD L all ts i).1 all w deep Z (ts++(zD L all ts i).2.2).length:=fun hF=>(simple_R L hR h i hF w deep hZ).1
  have hS2:SeenOk (ts++(zD L all ts i).2.2) all:=by have:=h.ext (zD L all ts i).2.2 [] (by simp);simpa using this
  have hZ2:ZOk f.types (ts++(zD L all ts i).2.2).length Z:=hZ.mono (by simp);unfold zue at hF wv ⊢;cases rc with
  |none=>exact plain hF
  |some g=>
   obtain⟨g1,g2⟩:=hg g rfl;simp only at hF wv ⊢;split
   ·rename_i hk;rw[if_pos hk]at hF wv;exact if_R L g1 g2 hp hpo hS2 hd hF hZ2 wl wn wv
   ·rename_i hk;rw[if_neg hk]at hF wv;split
    ·rename_i hk2;rw[if_pos hk2]at hF;exact loop_R L g1 g2 hS2 hd hF hZ2
    ·rename_i hk2;rw[if_neg hk2]at hF;exact plain hF
 ·obtain⟨x,hx⟩:=hok.t;have ho:=hok.o;rw[hx]at ho ⊢;exact h.ext x _ ho
theorem fin_R(L:List UInt8){u:Unt}{f:Flow}(hR:RoundOk u f){all ts y:List Int}(h:SeenOk ts all){p:HPl}(hp:PlTy p)(i left:Nat)(hF:f.types=ts++y){w:Place}{deep:Int}(hd:deep<=100){Z:Set1}(hZ:ZOk f.types ts.length Z)(hw:At p w (finG L p [] all i ts left).n):
  (goR u f (finG L p [] all i ts left).n all w deep Z).1=true/\ZOk f.types ts.length (goR u f (finG L p [] all i ts left).n all w deep Z).2:=by
 have e:(finG L p [] all i ts left).n=[endG L all ts p i]:=rfl;rw[e]at hw ⊢;obtain⟨h1,h2⟩:=end_R L hR h hp i hF deep hZ hw;rw[goR_two hd h1.ok (by rw[h2];rfl),goR];exact⟨rfl,h1.z⟩
theorem run_R(L:List UInt8){u:Unt}{f:Flow}(hR:RoundOk u f){rc:Option LG}{D:Int}(hg:∀g,rc=some g->LGR u f g D/\LGok g){p:HPl}(hp:PlTy p)(hpo:PlOk p):∀c all i ts left w deep Z y,
  SeenOk ts all->deep+1<=D->deep<=100->f.types=(runG L rc p c [] all i ts left).ts++y->ZOk f.types ts.length Z->At p w (runG L rc p c [] all i ts left).n→
  (goR u f (runG L rc p c [] all i ts left).n all w deep Z).1=true/\ZOk f.types (runG L rc p c [] all i ts left).ts.length (goR u f (runG L rc p c [] all i ts left).n all w deep Z).2:=by
 intro c
 induction c with
 |zero=>intro all i ts left w deep Z y h hd hd2 hF hZ hw;exact fin_R L hR h hp i left hF hd2 hZ hw
 |succ c ih=>
  intro all i ts left w deep Z y h hd hd2 hF hZ hw;rw[runG]at hF hw ⊢;by_cases h0:left=0
  ·rw[if_pos h0]at hF hw ⊢;exact fin_R L hR h hp i left hF hd2 hZ hw
  ·rw[if_neg h0]at hF hw ⊢;have hn:=fun y=>nodeG_R L hR hg hp hpo (i:=i) (left:=left-1) (w:=w) (deep:=deep) (Z:=Z) (y:=y) h hd
   simp only at hF hw ⊢;generalize zue L rc all p i ts (left-1)=r at*;by_cases hc:zd r.n=true
   ·rw[if_pos hc]at hF hw ⊢;simp only[List.nil_append]at hF hw ⊢;obtain⟨n1,n2⟩:=hn y hF hZ hw.loop hw.n (fun e=>hw.l (by simp[zu,e]));rw[goR_two hd2 n1.ok (by rw[hc];rfl),goR];exact⟨rfl,n1.z⟩
   ·rw[if_neg hc]at hF hw ⊢;rw[runG_out]at hF hw ⊢;simp only[List.nil_append,List.singleton_append]at hF hw ⊢;have htl:=(runG_ok L rc (fun g hg'=>(hg g hg').2) p hpo c [] (all++r.n.outs) r.i r.ts r.left).t;have hne:=runG_ne L rc p c [] (all++r.n.outs) r.i r.ts r.left;obtain⟨x,hx⟩:=htl;obtain⟨n1,n2⟩:=hn (x++y) (by rw[hF,hx];simp) hZ hw.loop hw.n (fun e=>hw.l (by simp[zu,e]));have:=ih (all++r.n.outs) r.i r.ts r.left w deep (zJ u f r.n all w deep Z).2 y n2 hd hd2 hF n1.z ⟨hw.iff,hw.loop,fun e=>hw.y (by rw[yields_cons hne];exact e),hw.n,fun e=>hw.l (by simp[zu,e])⟩;rw[goR_two hd2 n1.ok (by
     have:(runG L rc p c [] (all++r.n.outs) r.i r.ts r.left).n.isEmpty=false:=by simpa using hne
     rw[this];simpa using hc)]
    exact this
theorem list_R(L:List UInt8){u:Unt}{f:Flow}(hR:RoundOk u f):∀d:Nat,LGR u f (zHc L d) (99-d):=by
 intro d
 induction d with
 |zero=>
  intro seen p i ts left w deep Z y hp hpo h hd hF hZ hw;have hne:=listG_ne L 0 seen p i ts left;have:=run_R L hR (rc:=none) (D:=100) (by simp) hp hpo (pk L i 6) seen (i+1) ts left w deep Z y h (by omega) (by omega) hF hZ hw;exact⟨this.1,this.2,hne⟩
 |succ d ih=>
  intro seen p i ts left w deep Z y hp hpo h hd hF hZ hw;have hne:=listG_ne L (d+1) seen p i ts left;have:=run_R L hR (rc:=some (zHc L d)) (D:=99-d) (by intro g hg;cases hg;exact⟨ih,listG_ok L d⟩) hp hpo (pk L i 6) seen (i+1) ts left w deep Z y h (by omega) (by omega) hF hZ hw;exact⟨this.1,this.2,hne⟩
theorem Ty12.app{a b:List Int}(ha:Ty12 a)(hb:Ty12 b):Ty12 (a++b):=fun t ht=>by
 rcases yr.1 ht with h|h
 ·exact ha t h
 ·exact hb t h
def LGt(g:LG):Prop:=∀seen p i ts left,Ty12 ts->Ty12 (g seen p i ts left).ts
theorem simple_t(L:List UInt8)(seen ts:List Int)(i:Nat):Ty12 (zD L seen ts i).2.2:=by
 unfold zD;split<;>try(intro t ht;simp at ht<;>omega)
 split<;>(intro t ht;simp at ht<;>omega)
theorem outed_t{n:Node}{i:Nat}{ts:List Int}{left:Nat}{t:List Int}(h:Ty12 ts)(ht:Ty12 t):Ty12 (zPd n i ts left t).ts:=by
 unfold zPd;split
 ·exact h
 ·exact h.app ht
theorem nodeG_t(L:List UInt8)(rc:Option LG)(hrc:∀g,rc=some g->LGt g)(all:List Int)(p:HPl)(i:Nat)(ts:List Int)(left:Nat)(h:Ty12 ts):Ty12 (zue L rc all p i ts left).ts:=by
 have hs:=h.app (simple_t L all ts i);unfold zue;cases rc with
 |none=>exact hs
 |some g=>
  have hg:=hrc g rfl;simp only;split
  ·unfold ifG;exact outed_t (hg _ _ _ _ _ (hg _ _ _ _ _ hs)) (zVd L _)
  ·split
   ·unfold loopG;exact outed_t (hg _ _ _ _ _ (hs.app (zVd L _))) (zVd L _)
   ·exact hs
theorem runG_t(L:List UInt8)(rc:Option LG)(hrc:∀g,rc=some g->LGt g)(p:HPl):∀c out all i ts left,Ty12 ts->Ty12 (runG L rc p c out all i ts left).ts:=by
 intro c
 induction c with
 |zero=>intro out all i ts left h;exact h
 |succ c ih=>
  intro out all i ts left h;have hn:=nodeG_t L rc hrc all p i ts (left-1) h;rw[runG];split
  ·exact h
  ·simp only;split
   ·exact hn
   ·exact ih _ _ _ _ _ hn
theorem listG_t(L:List UInt8):∀d,LGt (zHc L d):=by
 intro d
 induction d with
 |zero=>intro seen p i ts left h;exact runG_t L none (by simp) p _ _ _ _ _ _ h
 |succ d ih=>intro seen p i ts left h;exact runG_t L (some (zHc L d)) (by intro g hg;cases hg;exact ih) p _ _ _ _ _ _ h
theorem newV0:∀k,newV 0 k=zJa k
 |0=>by simp[newV,zJa]
 |k+1=>by rw[newV,newV0 k];simp[zJa,yMa]
theorem flow_R(L:List UInt8){u:Unt}(name:List UInt8)(params:List Int)(i:Nat)(hR:RoundOk u (zKc L name params i).n)(hp:Ty12 params)(hl:params.length<=8):zlb u (zKc L name params i).n=true:=by
 have hok:=zAc L params i;have hty:Ty12 (zRd L params i).ts:=listG_t L 3 _ _ _ _ _ (hp.app (by simp[Ty12]));have hF:(zKc L name params i).n.types=(zRd L params i).ts:=rfl;have hlist:=list_R L hR 3 (newV 0 params.length++[(params.length:Int),((params.length+1:Nat):Int)]) noPl i (params++[1,2]) 30 zBa 1;obtain⟨x,hx⟩:=hok.t;have hFx:(zKc L name params i).n.types=params++[1,2]++x:=by rw[hF,hx]
 have hts:=hok.tl;generalize hbody:(zKc L name params i).n=f at*;have hb:f.body=nd 1 0 3 [] [] [(params.length:Int)]::nd 2 0 1 [] [] [((params.length+1:Nat):Int)]::(zRd L params i).n:=by rw[<-hbody];rfl
 have hpar:f.params=params.length:=by rw[<-hbody];rfl
 unfold zlb;simp only[yj,yX,yZ]at hts;have h1:(decide (f.params<0)||decide (8<f.params)||decide ((f.types.length:Int)<f.params)||decide (20000<f.types.length)||f.types.any (fun t=> !tyOk t))=false:=by
  rw[hpar];simp only[yw,decide_eq_false_iff_not];refine⟨⟨⟨⟨by omega,by omega⟩,?_⟩,?_⟩,?_⟩
  ·rw[hFx];simp;omega
  ·rw[hF];omega
  ·rw[<-Bool.not_eq_true,List.any_eq_true]
   rintro⟨t,ht,h⟩
   rw[hF]at ht;rcases hty t ht with rfl|rfl<;>simp[tyOk]at h
 rw[h1];simp only[Bool.not_false,Bool.true_and];have hk:f.params.toNat=params.length:=by rw[hpar];omega
 rw[hk,hb];have z0:ZOk f.types params.length (zOb f params.length):=by
  refine⟨zJb f _ (by rw[hFx];simp<;>omega),fun j hj=>?_⟩;unfold zOb;rw[yp (by simp;exact hj)];simp only[List.length_replicate,List.getElem?_replicate];split<;>rfl
 have s1:=set_one (F:=f.types) (t:=1) z0 (by rw[hFx];simp<;>omega) (at0_new (y:=[2]++x) (by rw[hFx];simp));have s2:=set_one (F:=f.types) (n:=params.length+1) (t:=2) s1.2 (by rw[hFx];simp<;>omega) (by
  have:=at0_new (F:=f.types) (ts:=params++[1]) (t:=2) (y:=x) (by rw[hFx];simp);simpa using this)
 have n1:zJ u f (nd 1 0 3 [] [] [(params.length:Int)]) (zJa params.length) zBa 1 (zOb f params.length)=zz f.types (zOb f params.length) [(params.length:Int)] [1]:=by
  simp[zJ,zea,zDa,zo,zx]
 generalize zz f.types (zOb f params.length) [(params.length:Int)] [1]=q1 at*;have n2:zJ u f (nd 2 0 1 [] [] [((params.length+1:Nat):Int)]) (zJa params.length++[(params.length:Int)]) zBa 1 q1.2=zz f.types q1.2 [((params.length+1:Nat):Int)] [2]:=by
  simp[zJ,zea,zDa,zo,zx]
 generalize zz f.types q1.2 [((params.length+1:Nat):Int)] [2]=q2 at*;have hsn:SeenOk (params++[1,2]) (newV 0 params.length++[(params.length:Int),((params.length+1:Nat):Int)]):=by
  refine⟨?_,?_,?_⟩
  ·cases hp0:params.length with
   |zero=>simp
   |succ k=>
    rw[newV0];simp[zJa,yja,yua]
  ·intro y hy;simp only[yr,yA,yPa,or_false]at hy;simp only[yj,yX,yZ];rcases hy with hy|hy|hy
   ·have:=zve 0 _ y hy;omega
   ·omega
   ·omega
  ·intro t ht;rcases ht with rfl|rfl
   ·exact⟨(params.length:Int),by simp,by simp[atA]⟩
   ·exact⟨((params.length+1:Nat):Int),by simp,by simp[atA,yp]⟩
 obtain⟨g1,g2,g3⟩:=hlist q2.2 [] ⟨by simp[Ty12,noPl],by simp[Ty12,noPl],by simp[Ty12,noPl]⟩ noPl_ok hsn (by omega) (by rw[ywa];exact hF) (by simpa using s2.2) ⟨rfl,rfl,fun _=>rfl,rfl,fun _=>rfl⟩;change (goR u f (zRd L params i).n _ zBa 1 q2.2).1=true at g1;change (zRd L params i).n≠ []at g3;have c1:zd (nd 1 0 3 [] [] [(params.length:Int)])=false:=by simp[zd,Node.ends]
 have c2:zd (nd 2 0 1 [] [] [((params.length+1:Nat):Int)])=false:=by simp[zd,Node.ends]
 unfold zkb;rw[goR_two (by omega) (by rw[n1];exact s1.1) (by rw[c1];rfl),n1];rw[goR_two (by omega) (by rw[n2];exact s2.1) (by rw[c2];symm;simpa using g3),n2];have e:zJa params.length++(nd 1 0 3 [] [] [(params.length:Int)]).outs++(nd 2 0 1 [] [] [((params.length+1:Nat):Int)]).outs=newV 0 params.length++[(params.length:Int),((params.length+1:Nat):Int)]:=by
  rw[newV0];simp
 rw[e];unfold zeb;rw[if_pos g1];simp
theorem made_round(L:List UInt8)(f:Flow)(hf:f.type=1):RoundOk (zjc L) f:=by
 refine⟨by simp[zjc,zKb],?_,hf⟩;refine⟨(zKc L [102] [1,2] (zKc L zp [] 0).i).n,?_,?_,?_,rfl⟩
 ·simp[zjc,zT,idx,zRc,zp,List.findIdx?_cons]
 ·simp[zjc,zT,idx,zRc,zp,List.findIdx?_cons]
 ·have hx:=(zAc L [1,2] (zRd L [] 0).i).t;obtain⟨x,hx⟩:=hx;simp[pars,zRc,hx]
theorem madeM_ok(L:List UInt8):zCa (zjc L)=(0,0):=by
 have f1:=flow_R L (u:=zjc L) zp [] 0 (made_round L _ rfl) (by simp[Ty12]) (by simp);have f2:=flow_R L (u:=zjc L) [102] [1,2] (zKc L zp [] 0).i (made_round L _ rfl) (by simp[Ty12]) (by simp);have hh:ztc (zjc L)=true:=by
  obtain⟨x1,h1⟩:=(zAc L [] 0).t;obtain⟨x2,h2⟩:=(zAc L [1,2] (zRd L [] 0).i).t;have a1:nameM [97]=true:=by decide+kernel
  have a2:nameM [102]=true:=by decide+kernel
  have a3:nameM [109,97,105,110]=true:=by decide+kernel
  simp[ztc,zjc,zKe,zEc,zLc,zld,zRc,zT,idx,zp,tyOk,a1,a2,a3,h2,List.findIdx?_cons]<;>omega
 rw[check_eq];unfold zoc;rw[rhead_eq,hh];have hn:(zjc L).flows.findIdx? (fun f=> !zlb (zjc L) f)=none:=by
  rw[yaa];intro f hf;simp only[zjc,yA,yPa,or_false]at hf;rcases hf with rfl|rfl
  ·rw[f1];rfl
  ·rw[f2];rfl
 rw[hn];rfl
theorem madeM_wt8(L:List UInt8):∀f∈(zjc L).flows,wtL f.body<10000:=by
 have h1:=zAc L [] 0;have h2:=zAc L [1,2] (zRd L [] 0).i;obtain⟨a1,a2,a3,a4⟩:=h1;obtain⟨b1,b2,b3,b4⟩:=h2;intro f hf;simp only[zjc,yA,yPa,or_false]at hf;rcases hf with rfl|rfl<;>simp[zRc,wtL,wtN,wtK]<;>omega
theorem known_ok{u:Unt}(hz:USz u)(hb:∀f∈u.flows,wtL f.body<100000000)(h:(zCa u).1=0):zk E 17 [encUnt u] []=some (.ret (.tup [encUnt (zIb u),.int .i64 0]),[]):=by
 have k:=known_spec u hz hb;rw[h]at k;exact k
set_option maxHeartbeats 2000000 in
theorem knownSame_spec(L:List UInt8)(hL:L.length<=9223372036854775807):zk E 7 [u8s L] []=some (.ret (.bool true),[]):=by
 refine zb rfl rfl rfl (by simp[u8s]) ?_;have ha:=awake12_spec;have hm:=made_spec L hL;have hz:=madeM_sz L;have hw:∀f∈(zjc L).flows,wtL f.body<100000000:=fun f hf=>by have:=madeM_wt8 L f hf;omega
 have hc:(zCa (zjc L)).1=0:=by rw[madeM_ok]
 have hz1:=knownM_sz hz;have hw1:=knownM_wt hw;have hc1:(zCa (zIb (zjc L))).1=0:=by rw[knownM_check hz hc]
 have k1:=known_ok hz hw hc;have k2:=known_ok hz1 hw1 hc1;have hs:=same08_self (zIb (zjc L)) hz1 (fun f hf=>by have:=hw1 f hf;omega);generalize zIb (zIb (zjc L))=w at*;generalize zIb (zjc L)=v at*;generalize zjc L=u at*;clear hz hw hc hz1 hw1 hc1 hL;simp[encUnt,ints,u8s]at hm k1 k2 hs;simp[*,F7,u8s,ints]
end PE.U

namespace PE
open Go Go.RowKit
def Kept(w w':World):Prop:=w.keptBut w' (fun _=>False)/\∀k,k<w.heap.size->w'.heap[k]? =w.heap[k]?
theorem Kept.frame{w w':World}(h:Kept w w')(X:MemPlace->Prop):w.keptBut w' X:=World.keptBut_mono (fun p hp=>hp.elim) h.1
theorem kept_of_ext{w w':World}{G':Gh}{st':zc}(h:Ext (gh0 w) [] w G' st' w'):Kept w w':=
 ⟨by
  refine⟨h.os,h.output,fun i hi=>?_⟩;have hb:=(h.prot i (by simp[gh0,hi])).2.2;rw[hb];cases w.heap[i]? with
  |none=>rfl
  |some o=>cases o<;>first|exact⟨rfl,rfl,rfl,fun _ _=>rfl⟩|exact .inr ⟨rfl,rfl⟩|rfl,fun k hk=>(h.prot k (by simp[gh0,hk])).2.2⟩
theorem Kept.same{W w':World}(h:Kept W w'){p:MemPlace}(hp:p.block<W.heap.size):W.sameAt w' p:=by
 cases p with
 |cell b o=>exact World.cell?_of_block (w:=W) (h.2 b hp)
 |map b=>exact h.2 b hp
theorem Kept.trod{H:Type}{enc:TypeId×Value->H}{P:Program}{t:TypeId}(hl:laidOutB P=true)(hr:P.readableRec t=true)(hrow:t<P.types.size){W W':World}{v:Value}{d:DataW H}{ps:List MemPlace}
  (h:DataW.Trod enc P W 0 (fun _=>true) true t v d ps) (hb:Kept W W') (hlt:∀x∈ps,x.block<W.heap.size):
  DataW.Trod enc P W' 0 (fun b=>decide (b<W.heap.size)) true t v d ps:=
 WideElems.Trod_stays hl hr hrow h (fun x hx=>hb.same (hlt x hx)) (fun x hx=>by simpa using hlt x hx)
theorem walk_kept{P:Program}{T:Tabs}{E:Env}(hE:EnvOk P T E){f:Nat}{args:List PV}{margs:Array Value}{w:World}{st':zc}(hT:T.In (gh0 w) w)
  (h:zk E f args []=some (.ret (.bool true),st')) (hsz:margs.size=args.length)
  (hv:∀(j:Nat) c x,args[j]? =some c->margs[j]? =some x->VR ((gh0 w).im w) (fun _=>none) c x):
  Calls P f margs w fun e w'=>e= .returned (.bool true)/\Kept w w':=by
 obtain⟨n,hn⟩:=zfd.1 h;have hloc:zh (gh0 w).lc []=fun _=>none:=by funext l;simp[zh]
 refine((callF_good hE n _ _ _ _ _ hn (gh0 w) w margs rfl hT (gh0_sim w) hsz (by rw[hloc];exact hv)).2).mono ?_;intro e w' he;cases e with
 |returned mv=>
  obtain⟨G',q1,q2,q3⟩:=he;exact⟨by rw[VR.bool_inv q3],kept_of_ext q2⟩
 |panicked ch=>exact he.elim
 |outgrown=>exact he.elim
def IsRow(k:IntKind)(w:World)(a:Option Addr)(len cap:Nat)(zs:List Int):Prop:=
 (a=none/\len=0/\cap=0/\zs=[])∨
 ∃x,a=some x/\len<=cap/\cap<=maxLen/\zs.length=cap/\(∀i,i<zs.length->w.cell? (x.add i)=some (.int k (zs.getD i 0)))/\∀n∈zs,(Lit.int k n).wf=true
theorem row_vr{k:IntKind}{w:World}{a:Option Addr}{len cap:Nat}{zs:List Int}(h:IsRow k w a len cap zs):VR ((gh0 w).im w) (fun _=>none) (.slice .plain 1 ((zs.take len).map (PV.int k))) (.slice a len cap):=by
 rcases h with⟨rfl,rfl,rfl,rfl⟩|⟨x,rfl,hl,hm,hz,hcell,hwz⟩
 ·exact .slice0 _ _ _ _ (by simp) (by simp)
 ·by_cases h0:len=0
  ·subst h0;exact .slice0 _ _ _ _ (by simp) (by simp)
  ·obtain⟨b,off,spot⟩:=x;have hc:=hcell 0 (by omega);have hspot:spot=none:=by simpa[Addr.add]using World.cell?_spot hc
   subst hspot;have hlen:((zs.take len).map (PV.int k)).length=len:=by simp;omega
   have hget:∀(i:Nat) e,((zs.take len).map (PV.int k))[i]? =some e->i<len/\e= .int k (zs.getD i 0):=by
    intro i e he;rw[yi,yc]at he;obtain⟨n,hn,rfl⟩:=he;rw[yG]at hn;split at hn
    ·rename_i hi;refine⟨hi,?_⟩;rw[List.getD_eq_getElem?_getD,hn];rfl
    ·cases hn
   have:=VR.slice (I:=(gh0 w).im w) (L:=fun _=>none) (k:= .plain) (sz:=1) (l:=(zs.take len).map (PV.int k)) (b:=b) (o:=off) (cap:=cap)
    (by simp) (by simp) (by rw[hlen];exact hl) (fun i _=> .int k (zs.getD i 0)) ?_ ?_ ?_
   ·rw[hlen]at this;exact this
   ·intro i e he;obtain⟨_,rfl⟩:=hget i e he;exact⟨rfl,rfl⟩
   ·intro i e j c he hc;obtain⟨hi,rfl⟩:=hget i e he;cases j with
    |zero=>
     refine⟨gh0_im ?_,rfl⟩;have:=hcell i (by omega);have e:(⟨b,off,none⟩:Addr).add i=⟨b,off+i*1+0,none⟩:=by
      unfold Addr.add;by_cases hi0:i=0<;>simp[hi0]
     rw[<-e];exact this
    |succ j=>simp[cellsOf]at hc
   ·intro i e j c he hc;obtain⟨hi,rfl⟩:=hget i e he;cases j with
    |zero=>simp[cellsOf]at hc;subst hc;exact .int _ _
    |succ j=>simp[cellsOf]at hc
theorem row_len{k:IntKind}{w:World}{a:Option Addr}{len cap:Nat}{zs:List Int}(h:IsRow k w a len cap zs):(zs.take len).length<=maxLen:=by
 rcases h with⟨rfl,rfl,rfl,rfl⟩|⟨x,rfl,hl,hm,hz,hcell,hwz⟩
 ·simp
 ·rw[List.length_take];omega
def bytesOf(zs:List Int):List UInt8:=zs.map fun n=>yLa n.toNat
theorem row_u8{w:World}{a:Option Addr}{len cap:Nat}{zs:List Int}(h:IsRow .u8 w a len cap zs):VR ((gh0 w).im w) (fun _=>none) (.slice .plain 1 ((bytesOf (zs.take len)).map fun b=> .int .u8 b.toNat)) (.slice a len cap):=by
 have hv:=row_vr h;have:(bytesOf (zs.take len)).map (fun b=>PV.int .u8 b.toNat)=(zs.take len).map (PV.int .u8):=by
  unfold bytesOf;rw[List.map_map];apply yya;intro n hn;have hwf:(Lit.int .u8 n).wf=true:=by
   rcases h with⟨rfl,rfl,rfl,rfl⟩|⟨x,rfl,hl,hm,hz,hcell,hwz⟩
   ·simp at hn
   ·exact hwz n (List.mem_of_mem_take hn)
  have hb:0<=n/\n<=255:=by
   simp only[Lit.wf,ya,decide_eq_true_eq]at hwf;exact hwf
  simp only[Function.comp_apply,PV.int.injEq,true_and];have:(yLa n.toNat).toNat=n.toNat:=by
   rw[UInt8.toNat_ofNat'];omega
  omega
 rw[this];exact hv
theorem bytes_len{w:World}{a:Option Addr}{len cap:Nat}{zs:List Int}(h:IsRow .u8 w a len cap zs):(bytesOf (zs.take len)).length<=maxLen:=by
 unfold bytesOf;rw[yL];exact row_len h
theorem str_vr(I:Im)(L:Loc){b:ByteArray}:VR I L (.str b.data.toList) (.string b):=VR.str b.data.toList
theorem str_len{b:ByteArray}(h:b.size<=maxLen):b.data.toList.length<=maxLen:=by
 rw[Array.length_toList];exact h
theorem maxLen_eq:maxLen=9223372036854775807:=by decide
def packT(P:Program)(e:TypeId)(l:List PV):PV:=match P.underlying e with
 |some (.struct _)=> .agg l
 |_=>l.headD .undef
def CellsT(P:Program):Nat->TypeId->List PV->Prop
 |0,_,_=>False
 |n+1,t,l=>match P.underlying t with
  |some (.int k)=>∃z,l=[.int k z]/\(Lit.int k z).wf=true
  |some .bool=>∃b,l=[.bool b]
  |some .string=>∃s:List UInt8,l=[.str s]/\s.length<=maxLen
  |some (.struct fs)=>l.length=P.cellsOf t/\∀f∈fs.toList,CellsT P n f.type ((l.drop f.offset).take (P.cellsOf f.type))
  |some (.slice e)=>∃es:List (List PV),l=[.slice .plain (P.cellsOf e) (es.map (packT P e))]/\es.length<=maxLen/\∀c∈es,CellsT P n e c
  |_=>False
def layB(P:Program):List Field->Nat->Nat->Bool
 | [],o,total=>o==total
 |f::r,o,total=>f.offset==o&&layB P r (o+P.cellsOf f.type) total
def plainB(P:Program)(S:List TypeId):Bool:=S.all fun t=>match P.underlying t with
 |some (.int _)=>P.cellsOf t==1
 |some .bool=>P.cellsOf t==1
 |some .string=>P.cellsOf t==1
 |some (.struct fs)=>fs.toList.all (fun f=>S.contains f.type)&&layB P fs.toList 0 (P.cellsOf t)
 |some (.slice e)=>S.contains e&&decide (0<P.cellsOf e)&&(P.cellsOf t==1)
 |_=>false
def R1(w:World)(c:PV)(v:Value):Prop:=VR ((gh0 w).im w) (fun _=>none) c v/\zNc c=true/\v.oneCell'=true
def Rs(w:World)(l:List PV)(cs:List Value):Prop:=l.length=cs.length/\∀(j:Nat) c v,l[j]? =some c->cs[j]? =some v->R1 w c v
theorem Rs.one{w:World}{c:PV}{v:Value}(h:R1 w c v):Rs w [c] [v]:=by
 refine⟨rfl,fun j c' v' hc hv=>?_⟩;cases j with
 |zero=>cases hc;cases hv;exact h
 |succ j=>simp at hc
theorem Rs.append{w:World}{l l':List PV}{cs cs':List Value}(h:Rs w l cs)(h':Rs w l' cs'):Rs w (l++l') (cs++cs'):=by
 refine⟨by simp[h.1,h'.1],fun j c v hc hv=>?_⟩;by_cases hj:j<l.length
 ·rw[yk hj]at hc;rw[yk (by rw[<-h.1];exact hj)]at hv;exact h.2 j c v hc hv
 ·rw[yp (by omega)]at hc;rw[yp (by rw[<-h.1];omega)]at hv;rw[<-h.1]at hv;exact h'.2 _ c v hc hv
theorem lay_join{P:Program}{w:World}{n:Nat}{cs:List Value}:∀(fs:List Field) (o total:Nat),layB P fs o total=true->total=cs.length→
  (∀f∈fs,∃l,Rs w l ((cs.drop f.offset).take (P.cellsOf f.type))/\CellsT P n f.type l)→
  ∃l,Rs w l (cs.drop o)/\∀f∈fs,o<=f.offset/\CellsT P n f.type ((l.drop (f.offset-o)).take (P.cellsOf f.type)):=by
 intro fs
 induction fs with
 |nil=>
  intro o total hl ht _;simp only[layB,beq_iff_eq]at hl;refine⟨[],⟨?_,fun j c v hc=>by simp at hc⟩,fun f hf=>by simp at hf⟩;simp;omega
 |cons f r ih=>
  intro o total hl ht hf;simp only[layB,ya,beq_iff_eq]at hl;obtain⟨ho,hl⟩:=hl;obtain⟨l1,h1,c1⟩:=hf f (by simp);obtain⟨l2,h2,c2⟩:=ih _ _ hl ht (fun g hg=>hf g (by simp[hg]));have hle:∀(fs:List Field) (o total:Nat),layB P fs o total=true->o<=total:=by
   intro fs
   induction fs with
   |nil=>intro o total h;simp only[layB,beq_iff_eq]at h;omega
   |cons g s ihs=>
    intro o total h;simp only[layB,ya,beq_iff_eq]at h;have:=ihs _ _ h.2;omega
  have hn:=hle _ _ _ hl;have hlen1:l1.length=P.cellsOf f.type:=by
   rw[h1.1,List.length_take,List.length_drop,ho];omega
  refine⟨l1++l2,?_,?_⟩
  ·have:cs.drop o=(cs.drop f.offset).take (P.cellsOf f.type)++cs.drop (o+P.cellsOf f.type):=by
    rw[ho,<-List.drop_drop,List.take_append_drop]
   rw[this];exact h1.append h2
  ·intro g hg;rcases yA.1 hg with rfl|hg
   ·refine⟨by omega,?_⟩;rw[ho,Nat.sub_self,List.drop_zero,List.take_append_of_le_length (by omega),<-hlen1,List.take_length];exact c1
   ·obtain⟨h3,h4⟩:=c2 g hg;refine⟨by omega,?_⟩;have:(l1++l2).drop (g.offset-o)=l2.drop (g.offset-(o+P.cellsOf f.type)):=by
     rw[List.drop_append,List.drop_of_length_le (by omega),List.nil_append];congr 1;omega
    rw[this];exact h4
theorem cells_packed{P:Program}{n:Nat}{e:TypeId}{l:List PV}{w:World}{cs:List Value}(hr:Rs w l cs)(h:CellsT P n e l)(hsz:cs.length=P.cellsOf e):cellsOf (packT P e l)=l/\zB (packT P e l)=true:=by
 cases n with
 |zero=>exact h.elim
 |succ n=>
  unfold CellsT at h;unfold packT;split at h
  ·rename_i hu;rw[hu];obtain⟨z,rfl,_⟩:=h;exact⟨rfl,rfl⟩
  ·rename_i hu;rw[hu];obtain⟨z,rfl⟩:=h;exact⟨rfl,rfl⟩
  ·rename_i hu;rw[hu];obtain⟨z,rfl,_⟩:=h;exact⟨rfl,rfl⟩
  ·rename_i hu;rw[hu];exact⟨rfl,rfl⟩
  ·rename_i hu;rw[hu];obtain⟨z,rfl,_⟩:=h;exact⟨rfl,rfl⟩
  ·exact h.elim
theorem cells?_get{w:World}{a:Addr}{n:Nat}{cs:List Value}(h:w.cells? 0 a n=some cs):cs.length=n/\∀(j:Nat) v,cs[j]? =some v->w.cell? (a.add j)=some v:=by
 unfold World.cells? at h;rw[if_pos (Nat.zero_le _)]at h;have hl:=mapM_some_length h;rw[List.length_range]at hl;refine⟨hl,fun j v hv=>?_⟩;have hj:j<n:=by rw[<-hl];exact(yb.1 hv).1
 have:=mapM_some_get h j j (by rw[List.getElem?_range hj]);rw[this,hv]
theorem add_add(a:Addr)(ha:a.spot=none)(x:Nat):a.add x=⟨a.block,a.off+x,none⟩:=by
 obtain⟨b,o,s⟩:=a;simp only at ha;subst ha;unfold Addr.add;by_cases h:x=0<;>simp[h]
theorem read_cells{P:Program}{S:List TypeId}(hp:plainB P S=true){H:Type}{enc:TypeId×Value->H}{w:World}{sp:Nat->Bool}:∀(n:Nat) (t:TypeId) (cs:List Value) (x:DataW H×List MemPlace),t∈S→
  DataW.trod enc P w 0 sp true n t cs=some x->∃l,Rs w l cs/\CellsT P n t l/\cs.length=P.cellsOf t:=by
 intro n
 induction n with
 |zero=>intro t cs x _ h;simp[DataW.trod]at h
 |succ n ih=>
  intro t cs x ht h;have hp':=yh.1 hp t ht;split at hp'
  ·rename_i k hu;obtain⟨z,rfl,_,hw⟩:=DataW.trod_int hu h;simp only[beq_iff_eq]at hp';exact⟨[.int k z],Rs.one ⟨.int _ _,rfl,rfl⟩,by unfold CellsT;rw[hu];exact⟨z,rfl,hw⟩,by simp[hp']⟩
  ·rename_i hu;obtain⟨z,rfl,_⟩:=DataW.trod_bool hu h;simp only[beq_iff_eq]at hp';exact⟨[.bool z],Rs.one ⟨.bool _,rfl,rfl⟩,by unfold CellsT;rw[hu];exact⟨z,rfl⟩,by simp[hp']⟩
  ·rename_i hu;obtain⟨s,rfl,_,hm⟩:=DataW.trod_string hu h;simp only[beq_iff_eq]at hp';exact⟨[.str s.data.toList],Rs.one ⟨str_vr _ _,rfl,rfl⟩,by unfold CellsT;rw[hu];exact⟨_,rfl,str_len hm⟩,by simp[hp']⟩
  ·rename_i fs hu;simp only[ya,yh,yBa]at hp';obtain⟨hS,hlay⟩:=hp';obtain⟨xs,m,hm,_,hlen,hxs,hget⟩:=DataW.trod_struct hu h;cases hm;obtain⟨l,hl,hc⟩:=lay_join (w:=w) (n:=n) (cs:=cs) fs.toList 0 _ hlay hlen.symm (by
    intro f hf;obtain⟨i,hi⟩:=yla hf;have hi':fs[i]? =some f:=by simpa using hi
    have hg:=hget i f hi';have hlt:i<xs.length:=by rw[hxs];simpa using(yb.1 hi).1
    rw[ye hlt]at hg;obtain⟨l,h1,h2,_⟩:=ih _ _ _ (hS f hf) hg;exact⟨l,h1,h2⟩)
   rw[List.drop_zero]at hl;refine⟨l,hl,?_,hlen⟩;unfold CellsT;rw[hu];exact⟨by rw[hl.1,hlen],fun f hf=>by have:=(hc f hf).2;rwa[Nat.sub_zero]at this⟩
  ·rename_i e hu;simp only[ya,yBa,decide_eq_true_eq,beq_iff_eq]at hp';obtain⟨⟨hS,hpos⟩,h1⟩:=hp';rcases DataW.trod_slice hu h with⟨rfl,_⟩|⟨a,len,cap,elems,rest,m,hm,rfl,_,_,hle,hcap,hel,hget,_,_⟩
   ·exact⟨[.slice .plain (P.cellsOf e) []],Rs.one ⟨.slice0 _ _ _ _ (by simp) (by simp),rfl,rfl⟩,by unfold CellsT;rw[hu];exact⟨[],rfl,by simp,by simp⟩,by simp[h1]⟩
   ·cases hm;have key:∀i,i<len->∃l:List PV,l.length=P.cellsOf e/\CellsT P n e l/\cellsOf (packT P e l)=l/\zB (packT P e l)=true/\∀(j:Nat) c,l[j]? =some c->∃v,w.cell? ((a.add (i*P.cellsOf e)).add j)=some v/\R1 w c v:=by
     intro i hi;have hg:=hget i hi;have hlt:i<elems.length:=by omega
     rw[ye hlt,yN]at hg;obtain⟨cs',h2,h3⟩:=hg;obtain⟨l,h4,h5,h6⟩:=ih _ _ _ hS h3;obtain⟨h7,h8⟩:=cells?_get h2;obtain⟨h9,h10⟩:=cells_packed h4 h5 h6;refine⟨l,by rw[h4.1,h6],h5,h9,h10,fun j c hc=>?_⟩;have hj:j<cs'.length:=by rw[<-h4.1];exact(yb.1 hc).1
     exact⟨cs'[j],h8 j _ (ye hj),h4.2 j c _ hc (ye hj)⟩
    let g:Nat->List PV:=fun i=>if hi:i<len then(key i hi).choose else[]
    have hg:∀i,i<len->(g i).length=P.cellsOf e/\CellsT P n e (g i)/\cellsOf (packT P e (g i))=g i/\zB (packT P e (g i))=true/\∀(j:Nat) c,(g i)[j]? =some c->∃v,w.cell? ((a.add (i*P.cellsOf e)).add j)=some v/\R1 w c v:=by
     intro i hi;have:=(key i hi).choose_spec;simp only[g,dif_pos hi];exact this
    have hel':∀(i:Nat) x,(((yR len).map g).map (packT P e))[i]? =some x->i<len/\x=packT P e (g i):=by
     intro i x hx;rw[List.map_map,yi,yc]at hx;obtain⟨k,hk,rfl⟩:=hx;obtain⟨hk1,hk2⟩:=yb.1 hk;rw[List.length_range]at hk1;rw[List.getElem_range]at hk2;subst hk2;exact⟨hk1,rfl⟩
    refine⟨[.slice .plain (P.cellsOf e) (((yR len).map g).map (packT P e))],Rs.one ⟨?_,rfl,rfl⟩,?_,by simp[h1]⟩
    ·by_cases h0:len=0
     ·subst h0;exact .slice0 _ _ _ _ (by simp) (by simp)
     ·obtain⟨q1,q2,q3,q4,q5⟩:=hg 0 (by omega);have hspot:a.spot=none:=by
       have hlt:0<(g 0).length:=by omega
       obtain⟨v,hv,_⟩:=q5 0 _ (ye hlt);have hsp:=World.cell?_spot hv;obtain⟨b,o,s⟩:=a;simpa[Addr.add]using hsp
      obtain⟨b,o,s⟩:=a;simp only at hspot;subst hspot;have hcell:∀(i:Nat) x (j:Nat) c,(((yR len).map g).map (packT P e))[i]? =some x->(cellsOf x)[j]? =some c->∃v,(gh0 w).im w b (o+i*P.cellsOf e+j)=some v/\R1 w c v:=by
       intro i x j c hx hc;obtain⟨hi,rfl⟩:=hel' i x hx;obtain⟨r1,r2,r3,r4,r5⟩:=hg i hi;rw[r3]at hc;obtain⟨v,hv,hr⟩:=r5 j c hc;refine⟨v,gh0_im ?_,hr⟩;rw[add_add ⟨b,o,none⟩ rfl,add_add ⟨b,o+i*P.cellsOf e,none⟩ rfl]at hv;exact hv
      have hlen:(((yR len).map g).map (packT P e)).length=len:=by simp
      have:=VR.slice (I:=(gh0 w).im w) (L:=fun _=>none) (k:= .plain) (sz:=P.cellsOf e) (l:=((yR len).map g).map (packT P e)) (b:=b) (o:=o) (cap:=cap)
       (by simp) (by simp) (by rw[hlen];exact hle) (fun i j=>((gh0 w).im w b (o+i*P.cellsOf e+j)).getD (.bool false)) ?_ ?_ ?_
      ·rw[hlen]at this;exact this
      ·intro i x hx;obtain⟨hi,rfl⟩:=hel' i x hx;obtain⟨r1,r2,r3,r4,r5⟩:=hg i hi;exact⟨by rw[r3,r1],r4⟩
      ·intro i x j c hx hc;obtain⟨v,hv,hr⟩:=hcell i x j c hx hc;simp only[hv,yga];exact⟨trivial,hr.2.2⟩
      ·intro i x j c hx hc;obtain⟨v,hv,hr⟩:=hcell i x j c hx hc;simp only[hv,yga];exact hr.1
    ·unfold CellsT;rw[hu];refine⟨(yR len).map g,rfl,by simp;omega,?_⟩;intro c hc;rw[yja]at hc;obtain⟨i,hi,rfl⟩:=hc;exact(hg i (yua.1 hi)).2.1
  ·cases hp'
theorem packT_struct{P:Program}{e:TypeId}{fs:Array Field}(hu:P.underlying e=some (.struct fs))(l:List PV):packT P e l= .agg l:=by
 unfold packT;rw[hu]
theorem le_max{n:Nat}(h:n<=maxLen):n<=9223372036854775807:=by rw[maxLen_eq]at h;exact h
theorem read_row{P:Program}{S:List TypeId}(hp:plainB P S=true){H:Type}{enc:TypeId×Value->H}{w:World}{sp:Nat->Bool}{t e:TypeId}(hu:P.underlying t=some (.slice e))(ht:t∈S){v:Value}{d:DataW H}{ps:List MemPlace}(h:DataW.Trod enc P w 0 sp true t v d ps){a:Option Addr}{len cap:Nat}(hv:v= .slice a len cap):
  ∃(n:Nat) (es:List (List PV)),VR ((gh0 w).im w) (fun _=>none) (.slice .plain (P.cellsOf e) (es.map (packT P e))) v/\es.length<=maxLen/\∀c∈es,CellsT P n e c:=by
 subst hv;obtain⟨n,hf⟩:=h;obtain⟨l,h1,h2,h3⟩:=read_cells hp n t _ _ ht hf;cases n with
 |zero=>exact h2.elim
 |succ n=>
  unfold CellsT at h2;rw[hu]at h2;obtain⟨es,rfl,hm,hc⟩:=h2;exact⟨n,es,(h1.2 0 _ _ rfl (by simp[Value.cells])).1,hm,hc⟩
end PE
