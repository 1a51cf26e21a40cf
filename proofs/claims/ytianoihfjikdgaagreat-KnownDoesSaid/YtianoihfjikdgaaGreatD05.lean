/-
  Texts joined by program: AZE12, AZE13, AZE14, AZE15, AZE16, AZE17, AZE18, AZE23, AZE24, AZE25, AZE26, AZE27, AZD2, AZE28, AZE29, AZE30, AZE31, AZE32, AZE33, AZE34, AZE35, AZE36, AZE37, AZE38, AZE39, AZE40, AZA4, AZA5, AZA6, AZA7, AZA8, PfHand, AZA9, AZC1, AZC2, AZD1, AZH1, AZH2, AZH3, AZH4, AZH5, AZH6.
-/
import Derived.Test.YtianoihfjikdgaaGreatD04
set_option linter.unusedVariables false
set_option linter.unusedSectionVars false
set_option linter.unusedSimpArgs false
open Bool renaming and_eq_false_iff→yK,and_eq_true→ya,false_eq_true→yv,not_eq_true'→yG,or_eq_false_iff→yB,or_eq_true→yw
open Eq renaming trans→ye
open Int renaming le_refl→yQa
open Go.IntKind renaming wrap→yba
open List renaming all_eq_true→yj,append_assoc→yY,append_nil→yla,concat_eq_append→yC,cons_append→yI,contains_iff_mem→yAa,dropLast_concat→yia,eq_nil_or_concat→yz,foldl_cons→yU,getElem?_append_left→yn,getElem?_cons_succ→yO,getElem?_cons_zero→yD,getElem?_eq_getElem→yd,getElem?_eq_some_iff→yb,getElem?_map→yk,getElem?_of_mem→yP,getElem?_set_ne→yx,getElem?_set_self→yo,getElem?_zip_eq_some→yM,getLast?_concat→yEa,length_append→ym,length_cons→yZ,length_nil→yea,map_cons→yR,mem_append→yh,mem_append_left→yma,mem_append_right→yva,mem_cons→yA,mem_map→yka,mem_of_getElem?→yr,mem_range→yya,nil_append→yqa,not_mem_nil→yVa,replicate→yf
open Nat renaming le_refl→yg,le_trans→yta,mul_add→ypa,zero_add→yX
open Option renaming bind_eq_some_iff→yN,getD_some→yga,map_eq_some_iff→yc,map_some→yT
open Prod renaming fst→yUa
namespace PE.U
open Go PE
def zWa(ty:List Int)(F:zA):Prop:=∀v n,getA F v=some (some n)->at0 ty v=2->n=0\/n=1
theorem one_22(a:Int):one 22 a=0\/one 22 a=1:=by
 unfold one;simp;by_cases h:a=0<;>simp[h]
theorem two_cmp(op a b:Int)(h:12<=op/\op<=17):(two op a b).1=0\/(two op a b).1=1:=by
 have hc:(cmp op a b).2=true:=by
  unfold cmp;rcases(by omega:op=12\/op=13\/op=14\/op=15\/op=16\/op=17)with h|h|h|h|h|h<;>subst h<;>simp
 unfold two;rw[if_pos hc];simp only;split<;>simp
theorem makes_2{op:Int}(h:ztb op=2):op=22\/(12<=op/\op<=17):=by
 unfold ztb at h;split at h
 ·assumption
 ·omega
theorem makes_truth(op:Int):ztb op=if zEc op then 2 else 1:=by
 unfold ztb zEc;by_cases h:op=22\/(12<=op/\op<=17)
 ·rw[if_pos h,if_pos (by simpa using h)]
 ·rw[if_neg h,if_neg (by simpa using h)]
theorem meetK_ok{ty:List Int}{S:KS}(h:zWa ty S.1){v:Int}{f:Fact}(hf:∀n,f=some n->at0 ty v=2->n=0\/n=1):zWa ty (zod S v f).1:=by
 have set:∀g:Fact,(∀n,g=some n->at0 ty v=2->n=0\/n=1)->zWa ty (setA S.1 v g):=by
  intro g hg w n hw h2;rw[getA_setA]at hw;split at hw
  ·rename_i e;subst e;cases hw;exact hg n rfl h2
  ·exact h w n hw h2
 unfold zod;split
 ·exact set f hf
 ·split
  ·exact h
  ·split
   ·exact h
   ·exact set none (fun n hn=>by cases hn)
theorem meetsK_ok{ty:List Int}{l fr:List Int}(hp:∀p∈l.zip fr,at0 ty p.1=at0 ty p.2):∀{S:KS},zWa ty S.1->zWa ty (zka S l fr).1:=by
 unfold zka;generalize l.zip fr=z at*
 induction z with
 |nil=>intro S h;exact h
 |cons p r ih=>
  intro S h;rw[yU];refine ih (fun q hq=>hp q (by simp[hq])) ?_;unfold stepK;split
  ·rename_i f hf;refine meetK_ok h (fun n hn h2=>?_);subst hn;exact h _ n hf (by rw[<-hp p (by simp)];exact h2)
  ·exact h
theorem foldl_none_ok{ty:List Int}:∀(us:List Int) (S:KS),zWa ty S.1->zWa ty (us.foldl (fun S v=>zod S v none) S).1
 | [],S,h=>h
 |v::r,S,h=>by
  rw[yU];exact foldl_none_ok r _ (meetK_ok (f:=none) h (fun n hn=>by cases hn))
structure HT(ty:List Int)(w:Place)(h:Hd):Prop where
 y:w.inIf=true->inR ty.length h.y/\h.y.map (at0 ty)=w.yield
 x:w.inLoop=true->inR ty.length h.x/\h.x.map (at0 ty)=w.next
 l:w.inLoop=true->inR ty.length h.l/\h.l.map (at0 ty)=w.left
def TyOk(ty:List Int):Prop:=∀v:Int,0<=v->v<ty.length->at0 ty v=1\/at0 ty v=2
theorem pairs_ok{ty seen l args:List Int}(hT:TyOk ty)(hl:inR ty.length l)(h:zC ty seen args (l.map (at0 ty))=true):∀p∈l.zip args,at0 ty p.1=at0 ty p.2:=by
 intro p hp;obtain⟨i,hi⟩:=yP hp;obtain⟨h1,h2⟩:=zip_get (d:=l) (q:=i) (v:=p.1) (t:=p.2) hi;simp only[zC,ya,decide_eq_true_eq,yj]at h;have hm:=h.2 (p.2,at0 ty p.1) (yr (i:=i) (by rw[yM];exact⟨h2,by rw[yk,h1];rfl⟩));simp only[useR,ya,yw,decide_eq_true_eq]at hm;obtain⟨r0,r1⟩:=hl p.1 (yr h1);have:=hT p.1 r0 r1;rcases hm.2.2.2 with e|e
 ·omega
 ·exact e.symm
theorem zKe{ty l:List Int}(h:inR ty.length l):typesM ty l=l.map (at0 ty):=by
 unfold typesM;rw[if_pos];rw[yj];intro v hv;obtain⟨h0,h1⟩:=h v hv;simp[valM,h0,h1]
theorem setsR_ty{ty:List Int}{Z:Set1}{v t:Int}(h:(zD ty Z [v] [t]).1=true)(ht:t≠0):at0 ty v=t:=by
 unfold zD eqM at h;simp[eqGo,zha]at h;by_cases hc:valM ty v t=true/\atB Z v=false
 ·have:=hc.1;simp only[valM,ya,yw,decide_eq_true_eq]at this;rcases this.2.2 with e|e
  ·exact absurd e ht
  ·exact e
 ·simp[hc]at h
theorem setsR_one{ty:List Int}{Z:Set1}{l:List Int}{t:Int}(h:(zD ty Z l [t]).1=true):∃v,l=[v]:=by
 have:=(zOb h).2
 match l,this with
 | [v],_=>exact⟨v,rfl⟩
theorem zab{l:List Node}{q:Bool×Set1}(h:(zNa l q).1=true):q.1=true:=by
 unfold zNa at h;split at h
 ·assumption
 ·cases h
section
variable {u:Unt} {f:Flow}
mutual
theorem nodeK_ok(hT:TyOk f.types):∀(x:Node) (h:Hd) (S:KS) (seen:List Int) (w:Place) (deep:Int) (Z:Set1),(zy u f x seen w deep Z).1=true->HT f.types w h->zWa f.types S.1->zWa f.types (zsb x h S).1.1
 |⟨k,o,n,s,a,us,ps,ks⟩,h,S,seen,w,deep,Z,hr,hh,hF=>by
  rw[zsb];rw[zy]at hr;split at hr
  ·cases hr
  by_cases h10:k=10
  ·rw[if_pos h10]at hr;rw[if_neg (by omega),if_neg (by omega),if_pos h10];split at hr
   ·obtain⟨e1,e2⟩:=zva hr;have hou:=(zOb e2).1;refine choiceK_ok hT ks _ _ _ S _ _ _ _ _ e1 ⟨fun _=>⟨hou,?_⟩,hh.x,hh.l⟩ hF;rw[zKe hou]
   ·cases hr
  rw[if_neg h10]at hr;by_cases h11:k=11
  ·rw[if_pos h11]at hr;rw[if_neg (by omega),if_neg (by omega),if_neg h10,if_pos h11];split at hr
   ·rename_i c1;split at hr
    ·rename_i c2;obtain⟨e1,e2⟩:=zva hr;have hou:=(zOb e2).1;have hpr:=(zOb c2).1;rw[zKe hpr]at c1;refine loopK_ok hT ks _ _ _ _ _ _ e1 ⟨fun h=>(by cases h),fun _=>⟨hpr,?_⟩,fun _=>⟨hou,?_⟩⟩ (meetsK_ok (pairs_ok hT hpr c1) hF)
     ·rw[zKe hpr]
     ·rw[zKe hou]
    ·cases hr
   ·cases hr
  rw[if_neg h11]at hr;unfold zp at hr;dsimp only at hr;by_cases k1:k=1
  ·rw[if_pos k1]at hr;rw[if_pos (.inl k1)];split at hr
   ·obtain⟨v,rfl⟩:=setsR_one hr;have:=setsR_ty hr (by omega);exact meetK_ok hF (fun m _ h2=>by
     have e:at0 [v] 0=v:=rfl;rw[e,this]at h2;omega)
   ·cases hr
  rw[if_neg k1]at hr;by_cases k2:k=2
  ·rw[if_pos k2]at hr;rw[if_pos (.inr k2)];split at hr
   ·rename_i c;exact meetK_ok hF (fun m hm _=>by cases hm;exact c.1)
   ·cases hr
  rw[if_neg k2]at hr;rw[if_neg (by omega)];by_cases k3:k=3
  ·rw[if_pos k3]at hr;rw[if_pos (.inl k3)];split at hr
   ·rename_i c;obtain⟨v,rfl⟩:=setsR_one hr;have hmk:ztb o≠0:=by unfold ztb;split<;>omega
    have:=setsR_ty hr hmk;refine meetK_ok hF (fun m hm h2=>?_);have e:at0 [v] 0=v:=rfl;rw[e,this]at h2;simp only[ya]at c;have ho:o=22:=by
     have h1:=c.1;simp only[isOne,ya,decide_eq_true_eq]at h1;rcases makes_2 h2 with h|h<;>omega
    unfold madeK at hm;split at hm
    ·cases hm
    ·cases hm;rw[ho];exact one_22 _
   ·cases hr
  rw[if_neg k3]at hr;by_cases k4:k=4
  ·rw[if_pos k4]at hr;rw[if_pos (.inr k4)];split at hr
   ·rename_i c;obtain⟨v,rfl⟩:=setsR_one hr;have hmk:ztb o≠0:=by unfold ztb;split<;>omega
    have:=setsR_ty hr hmk;refine meetK_ok hF (fun m hm h2=>?_);have e:at0 [v] 0=v:=rfl;rw[e,this]at h2;have c1:=c.1;simp only[ya]at c1;have ho:12<=o/\o<=17:=by
     have h1:=c1.1;simp only[isTwo,ya,decide_eq_true_eq]at h1;rcases makes_2 h2 with h|h<;>omega
    unfold madeK at hm;split at hm
    ·cases hm
    ·split at hm
     ·cases hm
     ·split at hm
      ·cases hm;exact two_cmp _ _ _ ho
      ·cases hm
   ·cases hr
  rw[if_neg k4]at hr;rw[if_neg (by omega),if_neg h10,if_neg h11];by_cases k12:k=12
  ·subst k12;rw[if_pos rfl];simp at hr;obtain⟨q1,q2⟩:=hh.y hr.1;exact meetsK_ok (pairs_ok hT q1 (by rw[q2];exact hr.2.1)) hF
  rw[if_neg k12];by_cases k13:k=13
  ·subst k13;rw[if_pos rfl];simp at hr;obtain⟨q1,q2⟩:=hh.x hr.1;exact meetsK_ok (pairs_ok hT q1 (by rw[q2];exact hr.2.1)) hF
  rw[if_neg k13];by_cases k14:k=14
  ·subst k14;rw[if_pos rfl];simp at hr;obtain⟨q1,q2⟩:=hh.l hr.1;exact meetsK_ok (pairs_ok hT q1 (by rw[q2];exact hr.2.1)) hF
  rw[if_neg k14];exact foldl_none_ok us S hF
theorem listK_ok(hT:TyOk f.types):∀(l:List Node) (h:Hd) (S:KS) (seen:List Int) (w:Place) (deep:Int) (Z:Set1),(goR u f l seen w deep Z).1=true->HT f.types w h->zWa f.types S.1->zWa f.types (zta l h S).1
 | [],h,S,seen,w,deep,Z,hr,hh,hF=>by rw[zta];exact hF
 |x::r,h,S,seen,w,deep,Z,hr,hh,hF=>by
  rw[goR]at hr;rw[zta];split at hr
  ·cases hr
  split at hr
  ·rename_i h1;have hn:=nodeK_ok hT x h S seen w deep Z h1 hh hF;split at hr
   ·split
    ·exact listK_ok hT r h _ _ w deep _ hr hh hn
    ·exact hn
   ·cases hr
  ·cases hr
theorem choiceK_ok(hT:TyOk f.types):∀(ks:List (List Node)) (h:Hd) (c:Int×Bool) (b:Bool) (S:KS) (g:Bool) (seen:List Int) (w:Place) (deep:Int) (Z:Set1),(zH u f ks seen w deep Z).1=true->HT f.types w h->zWa f.types S.1->zWa f.types (zza ks h c b S g).1.1
 | [],h,c,b,S,g,seen,w,deep,Z,hr,hh,hF=>by rw[zza];exact hF
 |l::r,h,c,b,S,g,seen,w,deep,Z,hr,hh,hF=>by
  rw[zH]at hr;rw[zza];split at hr
  ·rename_i h1;have hl:=listK_ok hT l h S seen w deep Z (zab h1) hh hF;by_cases hc:(if b then zEd c else zxd c)=true
   ·rw[if_pos hc];exact choiceK_ok hT r h c false _ _ seen w deep _ hr hh hl
   ·rw[if_neg hc];exact choiceK_ok hT r h c false S g seen w deep _ hr hh hF
  ·cases hr
theorem loopK_ok(hT:TyOk f.types):∀(ks:List (List Node)) (h:Hd) (S:KS) (seen:List Int) (w:Place) (deep:Int) (Z:Set1),(zH u f ks seen w deep Z).1=true->HT f.types w h->zWa f.types S.1->zWa f.types (zfe ks h S).1
 | [],h,S,seen,w,deep,Z,hr,hh,hF=>by rw[zfe];exact hF
 |l::r,h,S,seen,w,deep,Z,hr,hh,hF=>by
  rw[zH]at hr;rw[zfe];split at hr
  ·rename_i h1;exact listK_ok hT l h S seen w deep Z (zab h1) hh hF
  ·cases hr
end
theorem roundsK_ok(hT:TyOk f.types){l:List Node}{seen:List Int}{deep:Int}{Z:Set1}(hr:(goR u f l seen zQa deep Z).1=true):∀(w:Nat) (F:zA),zWa f.types F->zWa f.types (zHc l w F)
 |0,F,hF=>hF
 |w+1,F,hF=>by
  have h0:HT f.types zQa hd0:=⟨fun h=>(by cases h),fun h=>(by cases h),fun h=>(by cases h)⟩
  have:=listK_ok hT l hd0 (F,false) seen zQa deep Z hr h0 hF;rw[zHc];split
  ·exact roundsK_ok hT hr w _ this
  ·exact this
theorem studyM_ok(hT:TyOk f.types){seen:List Int}{deep:Int}{Z:Set1}(hr:(goR u f f.body seen zQa deep Z).1=true):zWa f.types (zPa f):=by
 refine roundsK_ok hT hr _ _ ?_;intro v n h;rw[getA_first]at h;split at h
 ·cases h
 ·cases h
end
def sg(T:Tos)(v:Int):Int:=(getA T v).getD v
def ZS(Z' Z:Set1):Prop:=∀v:Int,0<=v->atB Z' v=true->atB Z v=true
theorem ZS.refl(Z:Set1):ZS Z Z:=fun _ _ h=>h
theorem ZS.trans{A B C:Set1}(h:ZS A B)(h':ZS B C):ZS A C:=fun v h0 hv=>h' v h0 (h v h0 hv)
def Agr(Z:Set1)(T T1:Tos):Prop:=∀v:Int,0<=v->atB Z v=true->sg T1 v=sg T v
theorem Agr.refl(Z:Set1)(T:Tos):Agr Z T T:=fun _ _ _=>rfl
theorem Agr.trans{Z Z1:Set1}{T T1 T2:Tos}(h:Agr Z T T1)(hz:ZS Z Z1)(h':Agr Z1 T1 T2):Agr Z T T2:=fun v h0 hv=>(h' v h0 (hz v h0 hv)).trans (h v h0 hv)
def Keys(T:Tos)(Z:Set1):Prop:=∀v,getA T v≠none->0<=v/\atB Z v=true
theorem Keys.mono{T:Tos}{Z Z1:Set1}(h:Keys T Z)(hz:ZS Z Z1):Keys T Z1:=fun v hv=>⟨(h v hv).1,hz v (h v hv).1 (h v hv).2⟩
structure Iv(ty:List Int)(T:Tos)(seen seen':List Int)(Z Z':Set1):Prop where
 sl:∀v∈seen,0<=v/\atB Z v=true
 sub:∀v∈seen,sg T v∈seen'/\0<=sg T v/\sg T v<ty.length/\at0 ty (sg T v)=at0 ty v
 zl:Z.length=ty.length
 zl':Z'.length=ty.length
 zs:ZS Z' Z
 key:Keys T Z
theorem eqGo_facts{ty:List Int}:∀(l:List (Int×Int)) (Z:Set1),Z.length=ty.length->(eqGo (zha ty) Z l).1=true→
  ZS Z (eqGo (zha ty) Z l).2/\(∀p∈l,atB Z p.1=false/\atB (eqGo (zha ty) Z l).2 p.1=true)/\(l.map yUa).Nodup
 | [],Z,hl,h=>⟨ZS.refl Z,fun p hp=>(by cases hp),by simp⟩
 |p::r,Z,hl,h=>by
  simp only[eqGo]at h ⊢;by_cases hc:(zha ty Z p.1 p.2).1=true
  ·rw[if_pos hc]at h ⊢;by_cases hx:(valM ty p.1 p.2&& !atB Z p.1)=true
   ·have e:zha ty Z p.1 p.2=(true,Z.set p.1.toNat true):=if_pos hx;rw[e]at h ⊢;simp only at h ⊢;simp only[ya,yG]at hx;obtain⟨r0,r1⟩:=zBa hx.1;have hl2:(Z.set p.1.toNat true).length=ty.length:=by simp[hl]
    obtain⟨h1,h2,h3⟩:=eqGo_facts r _ hl2 h;have z1:ZS Z (Z.set p.1.toNat true):=by
     intro v h0 hv;rw[atB_setI r0 (by rw[hl];exact r1) h0];split
     ·rfl
     ·exact hv
    have hset:atB (Z.set p.1.toNat true) p.1=true:=by rw[atB_setI r0 (by rw[hl];exact r1) r0,if_pos rfl]
    refine⟨z1.trans h1,fun q hq=>?_,?_⟩
    ·rcases yA.1 hq with rfl|hq
     ·exact⟨hx.2,h1 _ r0 hset⟩
     ·obtain⟨g1,g2⟩:=h2 q hq;refine⟨?_,g2⟩;cases hb:atB Z q.1 with
      |false=>rfl
      |true=>
       have hr:=eqGo_rng r _ h q hq;have:=z1 q.1 hr.1 hb;rw[g1]at this;cases this
    ·rw[yR,List.nodup_cons];refine⟨fun hm=>?_,h3⟩;obtain⟨q,hq,he⟩:=yka.1 hm;have:=(h2 q hq).1;rw[he,hset]at this;cases this
   ·rw[zha,if_neg hx]at hc;cases hc
  ·rw[if_neg hc]at h;cases h
theorem zgf{ty:List Int}{Z:Set1}{l want:List Int}(hl:Z.length=ty.length)(h:(zD ty Z l want).1=true):
  ZS Z (zD ty Z l want).2/\(∀v∈l,atB Z v=false/\atB (zD ty Z l want).2 v=true)/\l.Nodup:=by
 unfold zD eqM at h ⊢;split at h
 ·rename_i hlen;rw[if_pos hlen];obtain⟨h1,h2,h3⟩:=eqGo_facts _ _ hl h;rw[zip_fst hlen]at h3;refine⟨h1,fun v hv=>?_,h3⟩;obtain⟨i,hi⟩:=yP hv;have hlt:i<want.length:=by rw[<-hlen];exact(yb.1 hi).1
  exact h2 (v,want[i]) (yr (i:=i) (by rw[yM];exact⟨hi,yd hlt⟩))
 ·cases h
theorem eqGo_sub{ty:List Int}:∀(l:List (Int×Int)) (Z Z':Set1),Z.length=ty.length->Z'.length=ty.length->ZS Z' Z->(eqGo (zha ty) Z l).1=true→
  (eqGo (zha ty) Z' l).1=true/\ZS (eqGo (zha ty) Z' l).2 (eqGo (zha ty) Z l).2
 | [],Z,Z',hl,hl',hz,h=>⟨rfl,hz⟩
 |p::r,Z,Z',hl,hl',hz,h=>by
  simp only[eqGo]at h ⊢;by_cases hc:(zha ty Z p.1 p.2).1=true
  ·rw[if_pos hc]at h ⊢;by_cases hx:(valM ty p.1 p.2&& !atB Z p.1)=true
   ·have e:zha ty Z p.1 p.2=(true,Z.set p.1.toNat true):=if_pos hx;simp only[ya,yG]at hx;obtain⟨r0,r1⟩:=zBa hx.1;have hx':(valM ty p.1 p.2&& !atB Z' p.1)=true:=by
     rw[hx.1];cases hb:atB Z' p.1 with
     |false=>rfl
     |true=>have:=hz p.1 r0 hb;rw[hx.2]at this;cases this
    have e':zha ty Z' p.1 p.2=(true,Z'.set p.1.toNat true):=if_pos hx';rw[e]at h ⊢;rw[e'];simp only[if_true]at h ⊢;refine eqGo_sub r _ _ (by simp[hl]) (by simp[hl']) ?_ h;intro v h0 hv;rw[atB_setI r0 (by rw[hl'];exact r1) h0]at hv;rw[atB_setI r0 (by rw[hl];exact r1) h0];by_cases hpv:p.1=v
    ·rw[if_pos hpv]
    ·rw[if_neg hpv]at hv ⊢;exact hz v h0 hv
   ·rw[zha,if_neg hx]at hc;cases hc
  ·rw[if_neg hc]at h;cases h
theorem setsR_sub{ty:List Int}{Z Z':Set1}{l want:List Int}(hl:Z.length=ty.length)(hl':Z'.length=ty.length)(hz:ZS Z' Z)(h:(zD ty Z l want).1=true):
  (zD ty Z' l want).1=true/\ZS (zD ty Z' l want).2 (zD ty Z l want).2:=by
 unfold zD eqM at h ⊢;split at h
 ·rename_i hlen;rw[if_pos hlen,if_pos hlen];exact eqGo_sub _ _ _ hl hl' hz h
 ·cases h
section
variable {u:Unt} {f:Flow}
theorem zZa{Z:Set1}{l want:List Int}(hl:Z.length=f.types.length)(h:(zD f.types Z l want).1=true):ZS Z (zD f.types Z l want).2:=(zgf hl h).1
theorem simpleR_mono{seen:List Int}{w:Place}{Z:Set1}{x:Node}(hl:Z.length=f.types.length)(h:(zp u f seen w Z x).1=true):ZS Z (zp u f seen w Z x).2:=by
 unfold zp at h ⊢;dsimp only at h ⊢;have A:∀{c:Prop} [Decidable c] {want:List Int},(if c then zD f.types Z x.outs want else(false,Z)).1=true->ZS Z (if c then zD f.types Z x.outs want else(false,Z)).2:=by
  intro c _ want h;split at h
  ·rename_i hc;rw[if_pos hc];exact zZa hl h
  ·cases h
 by_cases k1:x.kind=1
 ·rw[if_pos k1]at h ⊢;exact A h
 rw[if_neg k1]at h ⊢;by_cases k2:x.kind=2
 ·rw[if_pos k2]at h ⊢;exact A h
 rw[if_neg k2]at h ⊢;by_cases k3:x.kind=3
 ·rw[if_pos k3]at h ⊢;exact A h
 rw[if_neg k3]at h ⊢;by_cases k4:x.kind=4
 ·rw[if_pos k4]at h ⊢;exact A h
 rw[if_neg k4]at h ⊢;by_cases k5:x.kind=5
 ·rw[if_pos k5]at h ⊢;exact A h
 rw[if_neg k5]at h ⊢;by_cases k6:x.kind=6
 ·rw[if_pos k6];exact ZS.refl Z
 rw[if_neg k6]at h ⊢;by_cases k7:x.kind=7
 ·rw[if_pos k7]at h ⊢;split at h
  ·rename_i g hg;exact A h
  ·cases h
 rw[if_neg k7]at h ⊢;by_cases k8:x.kind=8
 ·rw[if_pos k8]at h ⊢;exact A h
 rw[if_neg k8]at h ⊢
 repeat(first|exact ZS.refl Z|split)
mutual
theorem zZc:∀(x:Node) (seen:List Int) (w:Place) (deep:Int) (Z:Set1),Z.length=f.types.length->(zy u f x seen w deep Z).1=true->ZS Z (zy u f x seen w deep Z).2/\(zy u f x seen w deep Z).2.length=f.types.length
 |⟨k,o,n,s,a,us,ps,ks⟩,seen,w,deep,Z,hl,h=>by
  rw[zy]at h ⊢;split at h
  ·cases h
  rename_i c0;rw[if_neg c0];have fin:∀{q:Bool×Set1},ZS Z q.2->q.2.length=f.types.length->(endR f.types ⟨k,o,n,s,a,us,ps,ks⟩ q).1=true->ZS Z (endR f.types ⟨k,o,n,s,a,us,ps,ks⟩ q).2/\(endR f.types ⟨k,o,n,s,a,us,ps,ks⟩ q).2.length=f.types.length:=by
   intro q h1 h2 h3;refine⟨?_,by rw[endR_len];exact h2⟩;unfold endR at h3 ⊢;split at h3
   ·rename_i hc;rw[if_pos hc];exact h1.trans (zZa h2 h3)
   ·cases h3
  by_cases h10:k=10
  ·rw[if_pos h10]at h ⊢;split at h
   ·rename_i c1;rw[if_pos c1];obtain⟨e1,e2⟩:=zva h;obtain⟨k1,k2⟩:=zma ks _ _ _ Z hl e1;exact fin k1 k2 h
   ·cases h
  rw[if_neg h10]at h ⊢;by_cases h11:k=11
  ·rw[if_pos h11]at h ⊢;split at h
   ·rename_i c1;rw[if_pos c1];split at h
    ·rename_i c2;rw[if_pos c2];obtain⟨e1,e2⟩:=zva h;have m1:=zZa hl c2;obtain⟨k1,k2⟩:=zma ks _ _ _ _ (by rw[zfb];exact hl) e1;exact fin (m1.trans k1) k2 h
    ·cases h
   ·cases h
  rw[if_neg h11]at h ⊢;exact⟨simpleR_mono hl h,by rw[simpleR_len];exact hl⟩
theorem zma:∀(ks:List (List Node)) (seen:List Int) (w:Place) (deep:Int) (Z:Set1),Z.length=f.types.length->(zH u f ks seen w deep Z).1=true->ZS Z (zH u f ks seen w deep Z).2/\(zH u f ks seen w deep Z).2.length=f.types.length
 | [],seen,w,deep,Z,hl,h=>by rw[zH];exact⟨ZS.refl Z,hl⟩
 |l::r,seen,w,deep,Z,hl,h=>by
  rw[zH]at h ⊢;split at h
  ·rename_i c;rw[if_pos c];have c':=zab c;obtain⟨h1,h2⟩:=zvc l seen w deep Z hl c';have e:(zNa l (goR u f l seen w deep Z)).2=(goR u f l seen w deep Z).2:=by unfold zNa;rw[if_pos c']
   rw[e]at h ⊢;obtain⟨h3,h4⟩:=zma r seen w deep _ h2 h;exact⟨h1.trans h3,h4⟩
  ·cases h
theorem zvc:∀(l:List Node) (seen:List Int) (w:Place) (deep:Int) (Z:Set1),Z.length=f.types.length->(goR u f l seen w deep Z).1=true->ZS Z (goR u f l seen w deep Z).2/\(goR u f l seen w deep Z).2.length=f.types.length
 | [],seen,w,deep,Z,hl,h=>by rw[goR];exact⟨ZS.refl Z,hl⟩
 |x::r,seen,w,deep,Z,hl,h=>by
  rw[goR]at h ⊢;split at h
  ·cases h
  rename_i c0;rw[if_neg c0];split at h
  ·rename_i c1;rw[if_pos c1];obtain⟨h1,h2⟩:=zZc x seen w deep Z hl c1;split at h
   ·rename_i c2;rw[if_pos c2];obtain⟨h3,h4⟩:=zvc r _ w deep _ h2 h;exact⟨h1.trans h3,h4⟩
   ·cases h
  ·cases h
end
theorem Iv.types{T:Tos}{seen seen':List Int}{Z Z':Set1}(h:Iv f.types T seen seen' Z Z'){l want:List Int}(hv:zC f.types seen l want=true):zC f.types seen' (valW T l) want=true:=by
 simp only[zC,ya,decide_eq_true_eq,yj]at hv ⊢;rw[valW_len];refine⟨hv.1,fun p hp=>?_⟩;obtain⟨i,hi⟩:=yP hp;obtain⟨h1,h2⟩:=zip_get (d:=l) (q:=i) (v:=p.1) (t:=p.2) hi;unfold valW at h1;rw[yk,yc]at h1;obtain⟨v,h3,h4⟩:=h1;have:=hv.2 (v,p.2) (yr (i:=i) (by rw[yM];exact⟨h3,h2⟩));simp only[useR,ya,yw,decide_eq_true_eq,yAa]at this ⊢;have h4:sg T v=p.1:=h4;obtain⟨q1,q2,q3,q4⟩:=h.sub v this.2.2.1;rw[<-h4,q4];exact⟨q2,q3,q1,this.2.2.2⟩
theorem Iv.out{T T1:Tos}{seen seen':List Int}{Z Z' Zk Zk':Set1}{us want:List Int}(h:Iv f.types T seen seen' Z Z')(ha:Agr Z T T1)(hz:ZS Z Zk)(hk:Keys T1 Zk)(hs:ZS Zk' Zk)(hl:Zk.length=f.types.length)(hl':Zk'.length=f.types.length)
  (h1:(zD f.types Zk us want).1=true):(zD f.types Zk' us want).1=true/\Iv f.types T1 (seen++us) (seen'++us) (zD f.types Zk us want).2 (zD f.types Zk' us want).2:=by
 obtain⟨m1,m2,m3⟩:=zgf hl h1;obtain⟨n1,n2⟩:=setsR_sub hl hl' hs h1;have hr:=setsR_rng h1;refine⟨n1,?_,?_,by rw[zfb];exact hl,by rw[zfb];exact hl',n2,hk.mono m1⟩
 ·intro v hv;rcases yh.1 hv with hv|hv
  ·obtain⟨q1,q2⟩:=h.sl v hv;exact⟨q1,m1 v q1 (hz v q1 q2)⟩
  ·exact⟨(hr v hv).1,(m2 v hv).2⟩
 ·intro v hv;rcases yh.1 hv with hv|hv
  ·obtain⟨q1,q2⟩:=h.sl v hv;rw[ha v q1 q2];obtain⟨g1,g2,g3,g4⟩:=h.sub v hv;exact⟨yma _ g1,g2,g3,g4⟩
  ·have hn:getA T1 v=none:=by
    cases hg:getA T1 v with
    |none=>rfl
    |some z=>
     have:=(hk v (by rw[hg];simp)).2;rw[(m2 v hv).1]at this;cases this
   have e:sg T1 v=v:=by unfold sg;rw[hn];rfl
   rw[e];exact⟨yva _ hv,(hr v hv).1,(hr v hv).2,rfl⟩
end
mutual
theorem tidyN_leaves:∀x:Node,x.leaves=false->(zzb x).leaves=false
 |⟨k,o,n,s,a,us,ps,ks⟩,h=>by
  rw[Node.leaves,yB,yK]at h;have hk:=tidyKs_leaves ks;rw[zzb];split<;>(rw[Node.leaves,yB,yK];exact⟨h.1,h.2.imp id hk⟩)
theorem zke:∀l:List Node,zu l=false->zu (zx l)=false
 | [],h=>rfl
 |x::r,h=>by
  rw[zu,yB]at h;have h1:=tidyN_leaves x h.1;have h2:=zke r h.2;rw[zx];split
  ·rw[zu,h1];rfl
  ·rw[zu,h1,h2];rfl
theorem tidyKs_leaves:∀l:List (List Node),zMa l=false->zMa (zhc l)=false
 | [],h=>rfl
 |x::r,h=>by
  rw[zMa,yB]at h;rw[zhc,zMa,zke x h.1,tidyKs_leaves r h.2];rfl
end
theorem zbd(a b:List Node):zu (a++b)=(zu a||zu b):=by
 rw[zMb,zMb,zMb,List.any_append]
theorem takenW_leaves{us:List Int}{q:List Node×Tos}(h:zu q.1=false):zu (zAb us q).1=false:=by
 unfold zAb;split
 ·split
  ·rename_i e he hk;rcases yz q.1 with h0|⟨d,z,h0⟩
   ·rw[h0];rfl
   ·rw[h0,yC]at h ⊢;rw[zbd,yB]at h;simp only[yia];exact h.1
  ·exact h
 ·exact h
mutual
theorem wrN_leaves(F:zA):∀(x:Node) (T:Tos),x.leaves=false->zu (wrN F x T).1=false
 |⟨k,o,n,s,a,us,ps,ks⟩,T,h=>by
  have h0:=h;rw[Node.leaves,yB,yK]at h;have h14:k≠14:=by simpa using h.1
  rw[wrN];split
  ·rename_i c;rw[zu,zu,Bool.or_false,zrc];unfold sumW;split
   ·simp only;split<;>simp
   ·simp only;simp;exact⟨h14,fun e=>by omega⟩
  ·split
   ·rename_i c10;have hk:zMa ks=false:=by
     rcases h.2 with h|h
     ·simp[c10]at h
     ·exact h
    split
    ·exact takenW_leaves (wrPick_leaves F ks _ T hk)
    ·rw[zu,zu,Bool.or_false,Node.leaves,yB,yK];exact⟨by simpa using h14,.inr (wrKs_leaves F ks T hk)⟩
   ·rename_i c10;split
    ·rw[zu,zu,Bool.or_false,Node.leaves,yB,yK];exact⟨by simpa using h14,.inl (by simpa using c10)⟩
    ·rw[zu,zu,Bool.or_false,Node.leaves,yB,yK];exact⟨by simpa using h14,.inl (by simpa using c10)⟩
theorem wrGo_leaves(F:zA):∀(l:List Node) (T:Tos),zu l=false->zu (wrGo F l T).1=false
 | [],T,h=>rfl
 |x::r,T,h=>by
  rw[zu,yB]at h;have h1:=wrN_leaves F x T h.1;have h2:=wrGo_leaves F r (wrN F x T).2 h.2;rw[wrGo];split
  ·exact h1
  ·rw[zbd,h1,h2];rfl
theorem wrKs_leaves(F:zA):∀(l:List (List Node)) (T:Tos),zMa l=false->zMa (wrKs F l T).1=false
 | [],T,h=>rfl
 |x::r,T,h=>by
  rw[zMa,yB]at h;rw[wrKs];simp only;rw[zMa,zke _ (wrGo_leaves F x T h.1),wrKs_leaves F r _ h.2];rfl
theorem wrPick_leaves(F:zA):∀(l:List (List Node)) (b:Bool) (T:Tos),zMa l=false->zu (zwa F l b T).1=false
 | [],b,T,h=>rfl
 |x::r,b,T,h=>by
  rw[zMa,yB]at h;rw[zwa];split
  ·exact zke _ (wrGo_leaves F x T h.1)
  ·exact wrPick_leaves F r true T h.2
end
section
variable {u:Unt} {f:Flow}
theorem simple_sub{T:Tos}{seen seen':List Int}{w:Place}{Z Z':Set1}(h:Iv f.types T seen seen' Z Z'){x:Node}(hv:(zp u f seen w Z x).1=true):
  ∃want,(zD f.types Z x.outs want).1=true/\zp u f seen w Z x=zD f.types Z x.outs want/\zp u f seen' w Z' {x with args:=valW T x.args}=zD f.types Z' x.outs want:=by
 unfold zp at hv ⊢;dsimp only at hv ⊢;have hn:∀{want:List Int},zC f.types seen x.args want=true->zC f.types seen' (valW T x.args) want=true:=fun hw=>h.types hw
 have B:∀{b b':Bool},b=true->x.outs=[]->b'=true->∃want,(zD f.types Z x.outs want).1=true/\(b,Z)=zD f.types Z x.outs want/\(b',Z')=zD f.types Z' x.outs want:=by
  intro b b' h1 h2 h3;rw[h1,h2,h3];exact⟨[],rfl,rfl,rfl⟩
 by_cases k1:x.kind=1
 ·simp only[if_pos k1]at hv ⊢;split at hv
  ·rename_i hc;rw[if_pos hc,if_pos (hn hc)];exact⟨_,hv,rfl,rfl⟩
  ·cases hv
 simp only[if_neg k1]at hv ⊢;by_cases k2:x.kind=2
 ·simp only[if_pos k2]at hv ⊢;split at hv
  ·rename_i hc;rw[if_pos hc,if_pos ⟨hc.1,hn hc.2⟩];exact⟨_,hv,rfl,rfl⟩
  ·cases hv
 simp only[if_neg k2]at hv ⊢;by_cases k3:x.kind=3
 ·simp only[if_pos k3]at hv ⊢;split at hv
  ·rename_i hc;rw[if_pos hc,if_pos (by simp only[ya]at hc ⊢;exact⟨hc.1,hn hc.2⟩)];exact⟨_,hv,rfl,rfl⟩
  ·cases hv
 simp only[if_neg k3]at hv ⊢;by_cases k4:x.kind=4
 ·simp only[if_pos k4]at hv ⊢;split at hv
  ·rename_i hc;rw[if_pos hc,if_pos (by
    obtain⟨h1,h2⟩:=hc;simp only[ya]at h1 ⊢;refine⟨⟨h1.1,hn h1.2⟩,?_⟩;obtain⟨a,b,ha,_⟩:=typesR_two h1.2;have h3:=h1.2;rw[ha]at h2 h3 ⊢;simp[zC,useR]at h3;have sa:=(h.sub a h3.1.2.2.1).2.2.2;have sb:=(h.sub b h3.2.2.2.1).2.2.2;show at0 f.types (sg T a)=at0 f.types (sg T b)
    rw[sa,sb];exact h2)]
   exact⟨_,hv,rfl,rfl⟩
  ·cases hv
 simp only[if_neg k4]at hv ⊢;by_cases k5:x.kind=5
 ·simp only[if_pos k5]at hv ⊢;split at hv
  ·rename_i hc;rw[if_pos hc,if_pos (by simp only[ya]at hc ⊢;exact⟨hc.1,hn hc.2⟩)];exact⟨_,hv,rfl,rfl⟩
  ·cases hv
 simp only[if_neg k5]at hv ⊢;by_cases k6:x.kind=6
 ·simp only[if_pos k6]at hv ⊢;have hv':=hv;simp only[ya,decide_eq_true_eq]at hv';exact B hv hv'.2.2 (by simp only[ya,decide_eq_true_eq];exact⟨hv'.1,hn hv'.2.1,hv'.2.2⟩)
 simp only[if_neg k6]at hv ⊢;by_cases k7:x.kind=7
 ·simp only[if_pos k7]at hv ⊢;split at hv
  ·rename_i g hg;split at hv
   ·rename_i hc;rw[if_pos hc,if_pos ⟨hc.1,hn hc.2⟩];exact⟨_,hv,rfl,rfl⟩
   ·cases hv
  ·cases hv
 simp only[if_neg k7]at hv ⊢;by_cases k8:x.kind=8
 ·simp only[if_pos k8]at hv ⊢;split at hv
  ·rename_i hc;rw[if_pos hc,if_pos (by rw[hc];rfl)];exact⟨_,hv,rfl,rfl⟩
  ·cases hv
 simp only[if_neg k8]at hv ⊢;by_cases k9:x.kind=9
 ·simp only[if_pos k9]at hv ⊢;have hv':=hv;simp only[ya,decide_eq_true_eq]at hv';exact B hv hv'.2 (by simp only[ya,decide_eq_true_eq];exact⟨hn hv'.1,hv'.2⟩)
 simp only[if_neg k9]at hv ⊢;by_cases k12:x.kind=12
 ·simp only[if_pos k12]at hv ⊢;have hv':=hv;simp only[ya,decide_eq_true_eq]at hv';exact B hv hv'.2.2 (by simp only[ya,decide_eq_true_eq];exact⟨hv'.1,hn hv'.2.1,hv'.2.2⟩)
 simp only[if_neg k12]at hv ⊢;by_cases k13:x.kind=13
 ·simp only[if_pos k13]at hv ⊢;have hv':=hv;simp only[ya,decide_eq_true_eq]at hv';exact B hv hv'.2.2 (by simp only[ya,decide_eq_true_eq];exact⟨hv'.1,hn hv'.2.1,hv'.2.2⟩)
 simp only[if_neg k13]at hv ⊢;by_cases k14:x.kind=14
 ·simp only[if_pos k14]at hv ⊢;have hv':=hv;simp only[ya,decide_eq_true_eq]at hv';exact B hv hv'.2.2 (by simp only[ya,decide_eq_true_eq];exact⟨hv'.1,hn hv'.2.1,hv'.2.2⟩)
 simp only[if_neg k14]at hv ⊢;by_cases k15:x.kind=15
 ·simp only[if_pos k15]at hv ⊢;have hv':=hv;simp only[ya,decide_eq_true_eq]at hv';exact B hv hv'.2 (by simp only[ya,decide_eq_true_eq];exact⟨hn hv'.1,hv'.2⟩)
 simp only[if_neg k15]at hv;cases hv
end
section
variable {u:Unt} {f:Flow}
structure LR(f:Flow)(T T1:Tos)(Z Z1:Set1)(q:Bool×Set1):Prop where
 agr:Agr Z T T1
 ok:q.1=true
 zs:ZS q.2 Z1
 len:q.2.length=f.types.length
 key:Keys T1 Z1
structure NR(u:Unt)(f:Flow)(x:Node)(q:List Node×Tos)(T:Tos)(seen seen':List Int)(w:Place)(deep':Int)(Z Z' Z1:Set1):Prop where
 td:∀y∈q.1,Td y
 op:∀y∈q.1.dropLast,zb y=false
 cl:zb x=true->zn q.1=true
 agr:Agr Z T q.2
 go:zn q.1=false->∃s1 Z1',zlf u f q.1 seen' w deep' Z'=some (s1,Z1')/\Iv f.types q.2 (seen++x.outs) s1 Z1 Z1'
 cut:zn q.1=true->LR f T q.2 Z Z1 (goR u f (zx q.1) seen' w deep' Z')
theorem run_one{y:Node}{seen:List Int}{w:Place}{deep:Int}{Z:Set1}(hc:zb y=false)(hn:(zy u f y seen w deep Z).1=true):zlf u f [y] seen w deep Z=some (seen++y.outs,(zy u f y seen w deep Z).2):=by
 rw[zlf,if_pos ⟨hc,hn⟩,zlf]
theorem go_one{y:Node}{seen:List Int}{w:Place}{deep:Int}{Z:Set1}(hd:deep<=100)(hc:zb y=true)(hn:(zy u f y seen w deep Z).1=true):goR u f [y] seen w deep Z=(true,(zy u f y seen w deep Z).2):=by
 rw[goR,if_neg (by omega),if_pos hn,if_pos (by rw[hc];rfl),goR]
theorem last_one(y:Node):zn [y]=zb y:=rfl
theorem zZd{ty:List Int}{x:Node}{q:Bool×Set1}(h:(endR ty x q).1=true):endR ty x q=zD ty q.2 x.outs (zna x.outs.length)/\(x.outs=[]\/zb x=false):=by
 unfold endR at h ⊢;split at h
 ·rename_i hc;rw[if_pos hc];refine⟨rfl,?_⟩;simp only[ya,yw,decide_eq_true_eq,yG]at hc;exact hc.2
 ·cases h
theorem simple_closed{seen:List Int}{w:Place}{Z:Set1}{x:Node}(hk:12<=x.kind/\x.kind<=15)(hv:(zp u f seen w Z x).1=true):x.outs=[]:=by
 unfold zp at hv;dsimp only at hv;rw[if_neg (by omega),if_neg (by omega),if_neg (by omega),if_neg (by omega),if_neg (by omega),if_neg (by omega),if_neg (by omega),if_neg (by omega),if_neg (by omega)]at hv;rcases(by omega:x.kind=12\/x.kind=13\/x.kind=14\/x.kind=15)with k|k|k|k<;>simp[k]at hv
 ·exact hv.2.2
 ·exact hv.2.2
 ·exact hv.2.2
 ·exact hv.2
theorem nr_open{x y:Node}{T T1:Tos}{seen seen':List Int}{w:Place}{deep':Int}{Z Z' Z1 Zk Zk':Set1}{want:List Int}(hi:Iv f.types T seen seen' Z Z')(htd:Td y)(hc:zb y=false)(hcl:zb x=true->zb y=true)
  (ha:Agr Z T T1) (hz:ZS Z Zk) (hk:Keys T1 Zk) (hs:ZS Zk' Zk) (hl:Zk.length=f.types.length) (hl':Zk'.length=f.types.length)
  (h1:(zD f.types Zk x.outs want).1=true) (e1:Z1=(zD f.types Zk x.outs want).2) (ho:y.outs=x.outs) (hn:zy u f y seen' w deep' Z'=zD f.types Zk' x.outs want):
  NR u f x ([y],T1) T seen seen' w deep' Z Z' Z1:=by
 obtain⟨n1,n2⟩:=hi.out ha hz hk hs hl hl' h1;refine⟨?_,?_,?_,ha,?_,?_⟩
 ·intro z hz;simp at hz;rw[hz];exact htd
 ·intro z hz;simp at hz
 ·intro h;rw[last_one];exact hcl h
 ·intro _;refine⟨_,_,run_one hc (by rw[hn];exact n1),?_⟩;rw[hn,ho,e1];exact n2
 ·intro h;rw[last_one,hc]at h;cases h
theorem nr_closed{x y:Node}{T T1:Tos}{seen seen':List Int}{w:Place}{deep':Int}{Z Z' Z1 Zk Zk':Set1}(hd:deep'<=100)(htd:Td y)(hc:zb y=true)
  (ha:Agr Z T T1) (hk:Keys T1 Zk) (hs:ZS Zk' Zk) (hl':Zk'.length=f.types.length) (hz1:ZS Zk Z1)
  (hn:zy u f {y with outs:=[]} seen' w deep' Z'=(true,Zk')):NR u f x ([y],T1) T seen seen' w deep' Z Z' Z1:=by
 refine⟨?_,?_,?_,ha,?_,?_⟩
 ·intro z hz;simp at hz;rw[hz];exact htd
 ·intro z hz;simp at hz
 ·intro _;rw[last_one];exact hc
 ·intro h;rw[last_one,hc]at h;cases h
 ·intro _;have e:zzb y={y with outs:=[]}:=by rw[tidyN_td htd,if_pos hc]
  have et:zx [y]=[{y with outs:=[]}]:=by rw[zx,e,if_pos (by rw[closed_outs];exact hc)]
  have hg:=go_one (u:=u) (f:=f) (y:={y with outs:=[]}) (seen:=seen') (w:=w) (deep:=deep') (Z:=Z') hd (by rw[closed_outs];exact hc) (by rw[hn]);rw[hn]at hg;show LR f T T1 Z Z1 (goR u f (zx [y]) seen' w deep' Z')
  rw[et,hg];exact⟨ha,rfl,hs.trans hz1,hl',hk.mono hz1⟩
theorem nr_simple{x:Node}{T:Tos}{seen seen':List Int}{w:Place}{deep deep':Int}{Z Z':Set1}(hi:Iv f.types T seen seen' Z Z')(hd:deep'<=100)(h10:x.kind≠10)(h11:x.kind≠11)(hr:(zy u f x seen w deep Z).1=true):
  NR u f x ([{x with args:=valW T x.args}],T) T seen seen' w deep' Z Z' (zy u f x seen w deep Z).2:=by
 rw[zsa]at hr ⊢;split at hr
 ·cases hr
 rename_i c0;rw[if_neg c0,if_neg h10,if_neg h11];have hb:zca x=true:=by simpa using c0
 have hkids:x.kids=[]:=by
  have:=(bareM_ok hb).1;simp[zXa,h10,h11]at this;exact this
 obtain⟨want,q1,q2,q3⟩:=simple_sub hi hr;have hn:zy u f {x with args:=valW T x.args} seen' w deep' Z'=zp u f seen' w Z' {x with args:=valW T x.args}:=by
  rw[zsa,if_neg (by show¬(!zca {x with args:=valW T x.args})=true;exact c0),if_neg h10,if_neg h11]
 have htd:Td {x with args:=valW T x.args}:=by unfold Td;simp[hkids]
 have hce:=closed_args x (valW T x.args);by_cases hc:zb x=true
 ·have hk:=hc;rw[zia h10 h11]at hk;simp only[ya,decide_eq_true_eq]at hk;have hou:=simple_closed hk hr;have ey:({({x with args:=valW T x.args}:Node)with outs:=[]}:Node)={x with args:=valW T x.args}:=by
   cases x;simp only at hou;subst hou;rfl
  have hw:want=[]:=by
   have:=(zOb q1).2;rw[hou]at this;simpa using this.symm
  have e1:zD f.types Z x.outs want=(true,Z):=by rw[hou,hw];rfl
  have e2:zD f.types Z' x.outs want=(true,Z'):=by rw[hou,hw];rfl
  rw[q2,e1];refine nr_closed (Zk:=Z) (Zk':=Z') hd htd (by rw[hce];exact hc) (Agr.refl _ _) hi.key hi.zs hi.zl' (ZS.refl _) ?_;rw[ey,hn,q3,e2]
 ·have hc:zb x=false:=by simpa using hc
  rw[q2];exact nr_open (want:=want) hi htd (by rw[hce];exact hc) (fun h=>by rw[hc]at h;cases h) (Agr.refl _ _) (ZS.refl _) hi.key hi.zs hi.zl hi.zl' q1 rfl rfl (by rw[hn,q3])
theorem nr_sum{F:zA}(hF:zWa f.types F){x:Node}{T:Tos}{seen seen':List Int}{w:Place}{deep deep':Int}{Z Z':Set1}(hi:Iv f.types T seen seen' Z Z')(hd:deep'<=100)(h34:x.kind=3\/x.kind=4)(hr:(zy u f x seen w deep Z).1=true):
  NR u f x ([sumW F {x with args:=valW T x.args}],T) T seen seen' w deep' Z Z' (zy u f x seen w deep Z).2:=by
 unfold sumW;simp only;by_cases hq:(numK F (at0 x.outs 0)).2=true
 ·rw[if_pos hq];rw[zsa]at hr ⊢;split at hr
  ·cases hr
  rename_i c0;have g10:x.kind≠10:=by omega
  have g11:x.kind≠11:=by omega
  rw[if_neg c0,if_neg g10,if_neg g11];have hr:(zp u f seen w Z x).1=true:=by simpa[g10,g11]using hr
  have hs:(zD f.types Z x.outs [ztb x.op]).1=true/\zp u f seen w Z x=zD f.types Z x.outs [ztb x.op]:=by
   unfold zp at hr ⊢;dsimp only at hr ⊢;rw[if_neg (by omega),if_neg (by omega)]at hr;rw[if_neg (by omega),if_neg (by omega)];rcases h34 with k|k
   ·rw[if_pos k]at hr ⊢;split at hr
    ·rename_i hc;rw[if_pos hc];exact⟨hr,rfl⟩
    ·cases hr
   ·rw[if_neg (by omega),if_pos k]at hr ⊢;split at hr
    ·rename_i hc;rw[if_pos hc];exact⟨hr,rfl⟩
    ·cases hr
  obtain⟨hs1,hs2⟩:=hs;rw[hs2];have hcx:zb x=false:=by
   rw[zia (by omega) (by omega)];simp only[yK,decide_eq_false_iff_not];omega
  obtain⟨v,hv⟩:=setsR_one hs1;have hmk:ztb x.op≠0:=by unfold ztb;split<;>omega
  have hty:at0 f.types v=ztb x.op:=by rw[hv]at hs1;exact setsR_ty hs1 hmk
  have hval:zEc x.op=true->(numK F (at0 x.outs 0)).1=0\/(numK F (at0 x.outs 0)).1=1:=by
   intro ht;have e0:at0 x.outs 0=v:=by rw[hv];rfl
   rw[e0]at hq ⊢;unfold numK at hq ⊢;split at hq
   ·rename_i n hn;exact hF v n hn (by rw[hty,makes_truth,if_pos ht])
   ·cases hq
  have hcy:∀k:Int,k=1\/k=2->zb ⟨k,0,(numK F (at0 x.outs 0)).1,[],[],x.outs,[],[]⟩=false:=by
   intro k hk;rw[zia (by simp only;omega) (by simp only;omega)];simp only[yK,decide_eq_false_iff_not];omega
  refine nr_open (want:=[ztb x.op]) hi (by unfold Td;rfl) (hcy _ (by cases zEc x.op<;>simp)) (fun h=>by rw[hcx]at h;cases h) (Agr.refl _ _) (ZS.refl _) hi.key hi.zs hi.zl hi.zl' hs1 rfl rfl ?_;rw[makes_truth];cases ht:zEc x.op
  ·simp[zsa,zca,zXa,zp,zC]
  ·rcases hval ht with e|e<;>simp[zsa,zca,zXa,zp,zC,e]
 ·rw[if_neg hq];exact nr_simple hi hd (by omega) (by omega) hr
end
theorem wrKs_len(F:zA):∀(ks:List (List Node)) (T:Tos),(wrKs F ks T).1.length=ks.length
 | [],T=>rfl
 |l::r,T=>by rw[wrKs];simp[wrKs_len F r]
theorem tidy_noy{l:List Node}(h:zF (zx l)=false):∀z∈zx l,z.kind≠12:=by
 have hi:=zJd l;rcases yz (zx l)with he|⟨d,e,he⟩
 ·rw[he];intro z hz;cases hz
 ·rw[he,yC]at h hi ⊢;intro z hz hk;rcases yh.1 hz with hz|hz
  ·have:=hi z (by simpa using hz);rw[zbe hk]at this;cases this
  ·simp at hz;subst hz;simp[zF,hk]at h
theorem wrKs_noy(F:zA):∀(ks:List (List Node)) (T:Tos),(∀l∈(wrKs F ks T).1,zF l=false)->∀l∈(wrKs F ks T).1,∀z∈l,z.kind≠12
 | [],T,h=>by intro l hl;cases hl
 |l::r,T,h=>by
  rw[wrKs]at h ⊢;intro l' hl';rcases yA.1 hl' with rfl|hl'
  ·exact tidy_noy (h _ (by simp))
  ·exact wrKs_noy F r _ (fun q hq=>h q (by simp[hq])) l' hl'
theorem wrKs_y{u:Unt}{m:Nat}(F:zA):∀(ks:List (List Node)) (p:Pl) (T:Tos),okK u m p ks->(∀l∈ks,zF l=false)->∀l∈(wrKs F ks T).1,zF l=false
 | [],p,T,hok,h=>by intro l hl;cases hl
 |l::r,p,T,hok,h=>by
  rw[okK]at hok;rw[wrKs];intro l' hl';rcases yA.1 hl' with rfl|hl'
  ·have hw:=(zrd F l p T hok.1.2 hok.1.1).tidy;cases hy:zF (zx (wrGo F l T).1)with
   |false=>rfl
   |true=>
    rcases yz (zx (wrGo F l T).1)with he|⟨d,e,he⟩
    ·exact absurd he hw.ne
    ·rw[he,yC]at hy hw;simp[zF]at hy;have:=(hw.yl e (by simp) hy).1;rw[h l (by simp)]at this;cases this
  ·exact wrKs_y F r p _ hok.2 (fun q hq=>h q (by simp[hq])) l' hl'
section
variable {u:Unt} {f:Flow}
theorem kidsR_y{w w':Place}{deep:Int}(h1:w'.inLoop=w.inLoop)(h2:w'.next=w.next)(h3:w'.left=w.left):∀(ks:List (List Node)) (seen:List Int) (Z:Set1),(∀l∈ks,∀x∈l,x.kind≠12)->zH u f ks seen w' deep Z=zH u f ks seen w deep Z
 | [],seen,Z,h=>by rw[zH,zH]
 |l::r,seen,Z,h=>by
  rw[zH,zH,goR_y h1 h2 h3 l seen Z (h l (by simp)),kidsR_y h1 h2 h3 r seen _ (fun q hq=>h q (by simp[hq]))]
theorem nr_if{p:Pl}{F:zA}{x:Node}{T:Tos}{seen seen':List Int}{w:Place}{deep deep':Int}{Z Z':Set1}(hok:okN u f.types.length p x)(hi:Iv f.types T seen seen' Z Z')(hd:deep'<=100)(h10:x.kind=10)(hr:(zy u f x seen w deep Z).1=true)
  (hkids:(zH u f x.kids seen {w with inIf:=true,yield:=typesM f.types x.outs} (deep+1) Z).1=true→
   LR f T (wrKs F x.kids T).2 Z (zH u f x.kids seen {w with inIf:=true,yield:=typesM f.types x.outs} (deep+1) Z).2 (zH u f (wrKs F x.kids T).1 seen' {w with inIf:=true,yield:=typesM f.types x.outs} (deep'+1) Z')):
  NR u f x ([{x with args:=valW T x.args,kids:=(wrKs F x.kids T).1}],(wrKs F x.kids T).2) T seen seen' w deep' Z Z' (zy u f x seen w deep Z).2:=by
 rw[zhb]at hok;obtain⟨ho,hkk⟩:=hok;have hk2:=(ho.k10 h10).2;rw[zsa]at hr ⊢;split at hr
 ·cases hr
 rename_i c0;rw[if_neg c0,if_pos h10];split at hr
 ·rename_i c1;rw[if_pos c1];obtain⟨e1,e2⟩:=zva hr;obtain⟨e3,e4⟩:=zZd hr;have hL:=hkids e1;obtain⟨m1,m2⟩:=zma x.kids seen {w with inIf:=true,yield:=typesM f.types x.outs} (deep+1) Z hi.zl e1;have hlen:=wrKs_len F x.kids T;have htd:Td {x with args:=valW T x.args,kids:=(wrKs F x.kids T).1}:=wrKs_td F x.kids T;have hcx:zb x=x.kids.all fun l=> !zF l:=by unfold zb;rw[if_pos ⟨h10,hk2⟩]
  have hcy:zb {x with args:=valW T x.args,kids:=(wrKs F x.kids T).1}=(wrKs F x.kids T).1.all fun l=> !zF l:=by
   unfold zb;rw[if_pos ⟨h10,by rw[hlen];exact hk2⟩]
  have hcl:zb x=true->zb {x with args:=valW T x.args,kids:=(wrKs F x.kids T).1}=true:=by
   intro h;rw[hcx,yj]at h;rw[hcy,yj];intro l hl;have:=wrKs_y F x.kids _ T hkk (fun q hq=>by simpa using h q hq) l hl;rw[this];rfl
  have hb:∀us:List Int,zca {x with args:=valW T x.args,outs:=us,kids:=(wrKs F x.kids T).1}=true:=by
   intro us;have hb:zca x=true:=by simpa using c0
   unfold zca at hb ⊢;simp only[hlen];exact hb
  have hn:∀us:List Int,zy u f {x with args:=valW T x.args,outs:=us,kids:=(wrKs F x.kids T).1} seen' w deep' Z'=
    endR f.types {x with args:=valW T x.args,outs:=us,kids:=(wrKs F x.kids T).1} (zH u f (wrKs F x.kids T).1 seen' {w with inIf:=true,yield:=typesM f.types us} (deep'+1) Z'):=by
   intro us;rw[zsa,hb us];simp only[Bool.not_true,yv,if_false];rw[if_pos h10,if_pos (hi.types c1)]
  generalize hks:(wrKs F x.kids T).1=ks' at*;generalize(wrKs F x.kids T).2=T1 at*;generalize hZk:(zH u f x.kids seen {w with inIf:=true,yield:=typesM f.types x.outs} (deep+1) Z).2=Zk at*;by_cases hc:zb {x with args:=valW T x.args,kids:=ks'}=true
  ·have hny:∀l∈ks',∀z∈l,z.kind≠12:=by
    rw[hcy,yj]at hc;have:=wrKs_noy F x.kids T (fun l hl=>by rw[hks]at hl;simpa using hc l hl);rw[hks]at this;exact this
   have hz1:ZS Zk (endR f.types x (zH u f x.kids seen {w with inIf:=true,yield:=typesM f.types x.outs} (deep+1) Z)).2:=by
    rw[e3];exact zZa m2 e2
   refine nr_closed (Zk:=Zk) (Zk':=(zH u f ks' seen' {w with inIf:=true,yield:=typesM f.types x.outs} (deep'+1) Z').2) hd htd hc hL.agr hL.key hL.zs hL.len hz1 ?_;have h0:=hn [];have ey:=kidsR_y (u:=u) (f:=f) (w:={w with inIf:=true,yield:=typesM f.types x.outs}) (w':={w with inIf:=true,yield:=typesM f.types []}) (deep:=deep'+1) rfl rfl rfl ks' seen' Z' hny;rw[ey]at h0;have e5:({({x with args:=valW T x.args,kids:=ks'}:Node)with outs:=[]}:Node)={x with args:=valW T x.args,outs:=[],kids:=ks'}:=rfl;rw[e5,h0];unfold endR;rw[if_pos (by rw[hL.ok];rfl)];rfl
  ·have hc:zb {x with args:=valW T x.args,kids:=ks'}=false:=by simpa using hc
   have h0:=hn x.outs;rw[e3];refine nr_open (Zk:=Zk) (Zk':=(zH u f ks' seen' {w with inIf:=true,yield:=typesM f.types x.outs} (deep'+1) Z').2) (want:=zna x.outs.length) hi htd hc hcl hL.agr m1 hL.key hL.zs m2 hL.len e2 rfl rfl ?_;have e5:({x with args:=valW T x.args,kids:=ks'}:Node)={x with args:=valW T x.args,outs:=x.outs,kids:=ks'}:=rfl;rw[e5,h0];unfold endR;rw[if_pos (by rw[hL.ok,<-e5,hc];simp)]
 ·cases hr
theorem nr_loop{p:Pl}{F:zA}{x:Node}{T:Tos}{seen seen':List Int}{w:Place}{deep deep':Int}{Z Z':Set1}(hok:okN u f.types.length p x)(hi:Iv f.types T seen seen' Z Z')(hd:deep'<=100)(h11:x.kind=11)(hr:(zy u f x seen w deep Z).1=true)
  (hkids:∀Zp Zp',Iv f.types T (seen++x.params) (seen'++x.params) Zp Zp'->(zH u f x.kids (seen++x.params) ⟨false,true,[],typesM f.types x.params,typesM f.types x.outs⟩ (deep+1) Zp).1=true→
   LR f T (wrKs F x.kids T).2 Zp (zH u f x.kids (seen++x.params) ⟨false,true,[],typesM f.types x.params,typesM f.types x.outs⟩ (deep+1) Zp).2 (zH u f (wrKs F x.kids T).1 (seen'++x.params) ⟨false,true,[],typesM f.types x.params,typesM f.types x.outs⟩ (deep'+1) Zp')):
  NR u f x ([{x with args:=valW T x.args,kids:=(wrKs F x.kids T).1}],(wrKs F x.kids T).2) T seen seen' w deep' Z Z' (zy u f x seen w deep Z).2:=by
 rw[zhb]at hok;obtain⟨ho,hkk⟩:=hok;have hk1:=(ho.k11 h11).2;have h10:x.kind≠10:=by omega
 rw[zsa]at hr ⊢;split at hr
 ·cases hr
 rename_i c0;rw[if_neg c0,if_neg h10,if_pos h11];split at hr
 ·rename_i c1;rw[if_pos c1];split at hr
  ·rename_i c2;rw[if_pos c2];obtain⟨e1,e2⟩:=zva hr;obtain⟨e3,e4⟩:=zZd hr;obtain⟨s1,s2⟩:=hi.out (Agr.refl _ _) (ZS.refl _) hi.key hi.zs hi.zl hi.zl' c2;have mp:=zZa hi.zl c2;have hL:=hkids _ _ s2 e1;obtain⟨m1,m2⟩:=zma x.kids (seen++x.params) ⟨false,true,[],typesM f.types x.params,typesM f.types x.outs⟩ (deep+1) _ s2.zl e1;have hlen:=wrKs_len F x.kids T;have htd:Td {x with args:=valW T x.args,kids:=(wrKs F x.kids T).1}:=wrKs_td F x.kids T;have hcx:zb x=x.kids.all fun l=> !zu l:=by
    unfold zb;rw[if_neg (by intro h;exact h10 h.1),if_pos ⟨h11,hk1⟩]
   have hcy:zb {x with args:=valW T x.args,kids:=(wrKs F x.kids T).1}=(wrKs F x.kids T).1.all fun l=> !zu l:=by
    unfold zb;rw[if_neg (by intro h;exact h10 h.1),if_pos ⟨h11,by rw[hlen];exact hk1⟩]
   have hlv:(∀l∈x.kids,zu l=false)->∀l∈(wrKs F x.kids T).1,zu l=false:=by
    intro h l hl;have h1:zMa x.kids=false:=by
     rw[leavesK_eq,List.any_eq_false];intro q hq;rw[h q hq];simp
    have h2:=wrKs_leaves F x.kids T h1;rw[leavesK_eq,List.any_eq_false]at h2;simpa using h2 l hl
   have hcl:zb x=true->zb {x with args:=valW T x.args,kids:=(wrKs F x.kids T).1}=true:=by
    intro h;rw[hcx,yj]at h;rw[hcy,yj];intro l hl;rw[hlv (fun q hq=>by simpa using h q hq) l hl];rfl
   have hb:∀us:List Int,zca {x with args:=valW T x.args,outs:=us,kids:=(wrKs F x.kids T).1}=true:=by
    intro us;have hb:zca x=true:=by simpa using c0
    unfold zca at hb ⊢;simp only[hlen];exact hb
   have hn:∀us:List Int,zy u f {x with args:=valW T x.args,outs:=us,kids:=(wrKs F x.kids T).1} seen' w deep' Z'=
     endR f.types {x with args:=valW T x.args,outs:=us,kids:=(wrKs F x.kids T).1} (zH u f (wrKs F x.kids T).1 (seen'++x.params) ⟨false,true,[],typesM f.types x.params,typesM f.types us⟩ (deep'+1) (zD f.types Z' x.params (zna x.params.length)).2):=by
    intro us;rw[zsa,hb us];simp only[Bool.not_true,yv,if_false];rw[if_neg h10,if_pos h11,if_pos (hi.types c1),if_pos s1]
   generalize(wrKs F x.kids T).1=ks' at*;generalize(wrKs F x.kids T).2=T1 at*;generalize hZk:(zH u f x.kids (seen++x.params) ⟨false,true,[],typesM f.types x.params,typesM f.types x.outs⟩ (deep+1) (zD f.types Z x.params (zna x.params.length)).2).2=Zk at*;generalize hZp':(zD f.types Z' x.params (zna x.params.length)).2=Zp' at*;have hagr:Agr Z T T1:=(Agr.refl Z T).trans mp hL.agr;by_cases hc:zb {x with args:=valW T x.args,kids:=ks'}=true
   ·have hnl:zMa ks'=false:=by
     rw[hcy,yj]at hc;rw[leavesK_eq,List.any_eq_false];intro q hq;have:=hc q hq;simpa using this
    have hz1:ZS Zk (endR f.types x (zH u f x.kids (seen++x.params) ⟨false,true,[],typesM f.types x.params,typesM f.types x.outs⟩ (deep+1) (zD f.types Z x.params (zna x.params.length)).2)).2:=by
     rw[e3];exact zZa m2 e2
    refine nr_closed (Zk:=Zk) (Zk':=(zH u f ks' (seen'++x.params) ⟨false,true,[],typesM f.types x.params,typesM f.types x.outs⟩ (deep'+1) Zp').2) hd htd hc hagr hL.key hL.zs hL.len hz1 ?_;have h0:=hn [];have ey:=kidsR_l (u:=u) (f:=f) ks' (seen'++x.params) ⟨false,true,[],typesM f.types x.params,typesM f.types x.outs⟩ (typesM f.types []) (deep'+1) Zp' hnl;simp only at ey;rw[ey]at h0;have e5:({({x with args:=valW T x.args,kids:=ks'}:Node)with outs:=[]}:Node)={x with args:=valW T x.args,outs:=[],kids:=ks'}:=rfl;rw[e5,h0];unfold endR;rw[if_pos (by rw[hL.ok];rfl)];rfl
   ·have hc:zb {x with args:=valW T x.args,kids:=ks'}=false:=by simpa using hc
    have h0:=hn x.outs;rw[e3];refine nr_open (Zk:=Zk) (Zk':=(zH u f ks' (seen'++x.params) ⟨false,true,[],typesM f.types x.params,typesM f.types x.outs⟩ (deep'+1) Zp').2) (want:=zna x.outs.length) hi htd hc hcl hagr (mp.trans m1) hL.key hL.zs m2 hL.len e2 rfl rfl ?_;have e5:({x with args:=valW T x.args,kids:=ks'}:Node)={x with args:=valW T x.args,outs:=x.outs,kids:=ks'}:=rfl;rw[e5,h0];unfold endR;rw[if_pos (by rw[hL.ok,<-e5,hc];simp)]
  ·cases hr
 ·cases hr
end
theorem td_tidy{ns:List Node}{z:Node}(h:z∈zx ns):Td z:=by
 obtain⟨y,_,rfl⟩:=tidyL_mem h;unfold Td;rw[tidyN_eq];simp only[List.map_map];exact List.map_congr_left fun l _=>zLe l
theorem zYe:∀(us args:List Int) (T:Tos) (v:Int),v ∉ us->getA (setsW T us args) v=getA T v
 | [],args,T,v,h=>rfl
 |x::us,[],T,v,h=>rfl
 |x::us,a::args,T,v,h=>by
  have e:setsW T (x::us) (a::args)=setsW (setA T x a) us args:=rfl;rw[e,zYe us args _ v (fun hm=>h (by simp[hm])),getA_setA,if_neg (fun e=>h (by simp[e]))]
theorem ztf:∀(us args:List Int) (T:Tos) (i:Nat) (v a:Int),us.Nodup->us[i]? =some v->args[i]? =some a->getA (setsW T us args) v=some a
 | [],args,T,i,v,a,hn,h,h'=>by cases h
 |x::us,[],T,i,v,a,hn,h,h'=>by cases h'
 |x::us,b::args,T,i,v,a,hn,h,h'=>by
  have e:setsW T (x::us) (b::args)=setsW (setA T x b) us args:=rfl;rw[List.nodup_cons]at hn;rw[e];cases i with
  |zero=>
   cases h;cases h';rw[zYe us args _ x hn.1,getA_setA,if_pos rfl]
  |succ i=>exact ztf us args _ i v a hn.2 (by simpa using h) (by simpa using h')
section
variable {u:Unt} {f:Flow}
theorem runR_mono{w:Place}{deep:Int}:∀(a:List Node) (seen:List Int) (Z:Set1) (s1:List Int) (Z1:Set1),Z.length=f.types.length->zlf u f a seen w deep Z=some (s1,Z1)->Z1.length=f.types.length/\(∀v∈seen,v∈s1)/\∀y∈a,zb y=false
 | [],seen,Z,s1,Z1,hl,h=>by
  rw[zlf]at h;cases h;exact⟨hl,fun v hv=>hv,fun y hy=>(by cases hy)⟩
 |x::a,seen,Z,s1,Z1,hl,h=>by
  rw[zlf]at h;split at h
  ·rename_i hc;obtain⟨m1,m2⟩:=zZc x seen w deep Z hl hc.2;obtain⟨h1,h2,h3⟩:=runR_mono a _ _ s1 Z1 m2 h;refine⟨h1,fun v hv=>h2 v (yma _ hv),fun y hy=>?_⟩;rcases yA.1 hy with rfl|hy
   ·exact hc.1
   ·exact h3 y hy
  ·cases h
theorem Iv.up{T:Tos}{seen seen':List Int}{Z Z' Zk:Set1}(h:Iv f.types T seen seen' Z Z')(hz:ZS Z Zk)(hl:Zk.length=f.types.length):Iv f.types T seen seen' Zk Z':=
 ⟨fun v hv=>⟨(h.sl v hv).1,hz v (h.sl v hv).1 (h.sl v hv).2⟩,h.sub,hl,h.zl',h.zs.trans hz,h.key.mono hz⟩
theorem Iv.step{T T1:Tos}{seen seen':List Int}{Z Z' Zk Zk':Set1}(h:Iv f.types T seen seen' Z Z')(ha:Agr Z T T1)(hz:ZS Z Zk)(hl:Zk.length=f.types.length)(hs:ZS Zk' Zk)(hl':Zk'.length=f.types.length)(hk:Keys T1 Zk):Iv f.types T1 seen seen' Zk Zk':=by
 refine⟨fun v hv=>⟨(h.sl v hv).1,hz v (h.sl v hv).1 (h.sl v hv).2⟩,fun v hv=>?_,hl,hl',hs,hk⟩;rw[ha v (h.sl v hv).1 (h.sl v hv).2];exact h.sub v hv
theorem nr_taken{p:Pl}(hT:TyOk f.types){F:zA}{x:Node}{T:Tos}{b:Bool}{seen seen':List Int}{w:Place}{deep deep':Int}{Z Z':Set1}(hok:okN u f.types.length p x)(hi:Iv f.types T seen seen' Z Z')(h10:x.kind=10)(hr:(zy u f x seen w deep Z).1=true)
  (hpick:(zH u f x.kids seen {w with inIf:=true,yield:=typesM f.types x.outs} (deep+1) Z).1=true→
   LR f T (zwa F x.kids b T).2 Z (zH u f x.kids seen {w with inIf:=true,yield:=typesM f.types x.outs} (deep+1) Z).2 (goR u f (zwa F x.kids b T).1 seen' {w with inIf:=true,yield:=typesM f.types x.outs} deep' Z')):
  NR u f x (zAb x.outs (zwa F x.kids b T)) T seen seen' w deep' Z Z' (zy u f x seen w deep Z).2:=by
 rw[zhb]at hok;obtain⟨ho,hkk⟩:=hok;have hk2:=(ho.k10 h10).2;obtain⟨l,hlm,ns,T1,hq,hwl⟩:=wrPick_wl F x.kids (plIn p x.kind x.outs x.params) b T hkk (by intro h;rw[h]at hk2;simp at hk2) (by intro _ l h;rw[h]at hk2;simp at hk2);rw[zsa]at hr ⊢;split at hr
 ·cases hr
 rename_i c0;rw[if_neg c0,if_pos h10];split at hr
 ·rename_i c1;rw[if_pos c1];obtain⟨e1,e2⟩:=zva hr;obtain⟨e3,e4⟩:=zZd hr;have hL:=hpick e1;obtain⟨m1,m2⟩:=zma x.kids seen {w with inIf:=true,yield:=typesM f.types x.outs} (deep+1) Z hi.zl e1;have hcx:zb x=x.kids.all fun l=> !zF l:=by unfold zb;rw[if_pos ⟨h10,hk2⟩]
  rw[hq]at hL ⊢;simp only at hL;rw[e3];generalize(zH u f x.kids seen {w with inIf:=true,yield:=typesM f.types x.outs} (deep+1) Z).2=Zk at*;obtain⟨q1,q2,q3⟩:=zgf m2 e2;have hur:=setsR_rng e2;have hinit:=zJd ns;have htd:=fun z (hz:z∈zx ns)=>td_tidy hz
  rcases yz (zx ns)with he|⟨d,e,he⟩
  ·exact absurd he hwl.ne
  ·have hidem:=zLe ns;rw[yC]at he;rw[he]at hL hwl hinit htd hidem ⊢;rw[yia]at hinit;have hd12:∀z∈d,z.kind≠12:=by
    intro z hz hk;have:=hinit z hz;rw[zbe hk]at this;cases this
   obtain⟨sd,Zd,g1,g2,g3,g4,g5⟩:=goR_split d e seen' Z' hL.ok;obtain⟨r1,r2,r3⟩:=runR_mono d seen' Z' sd Zd hi.zl' g1;unfold zAb;simp only[yEa,yia];by_cases hke:e.kind=12
   ·rw[if_pos hke];have hy:zC f.types sd e.args (typesM f.types x.outs)=true/\(zy u f e sd {w with inIf:=true,yield:=typesM f.types x.outs} deep' Zd).2=Zd:=by
     rw[zsa]at g2 ⊢;split at g2
     ·cases g2
     rename_i d0;rw[if_neg d0,if_neg (by omega),if_neg (by omega)];have g2:(zp u f sd {w with inIf:=true,yield:=typesM f.types x.outs} Zd e).1=true:=by simpa[hke]using g2
     unfold zp at g2 ⊢;simp[hke]at g2 ⊢;exact g2.1
    rw[hy.2]at g4;have hzd:ZS Zd Zk:=by have:=hL.zs;rw[g4]at this;exact this
    have hty:=hy.1;have hur':inR f.types.length x.outs:=hur;rw[zKe hur']at hty;have hal:e.args.length=x.outs.length:=by
     have:=(zSa hty).2;simpa using this
    have hnew:∀v:Int,0<=v->atB Zk v=true->v ∉ x.outs:=by
     intro v _ hv hm;have:=(q2 v hm).1;rw[hv]at this;cases this
    have hagr:Agr Z T (setsW T1 x.outs e.args):=by
     intro v v0 hv;have:sg (setsW T1 x.outs e.args) v=sg T1 v:=by
      unfold sg;rw[zYe _ _ _ _ (hnew v v0 (m1 v v0 hv))]
     rw[this];exact hL.agr v v0 hv
    have hlc:zn d=false:=by
     rcases yz d with h|⟨d',z,h⟩
     ·rw[h];rfl
     ·rw[h,yC];have:=r3 z (by rw[h];simp);simp[zn,this]
    refine⟨fun y hy=>htd y (by simp[hy]),fun y hy=>r3 y (List.dropLast_subset d hy),?_,hagr,?_,?_⟩
    ·intro hcl;rw[hcx,yj]at hcl;have h1:=hcl l hlm;have h2:=(hwl.yl e (by simp) hke).1;rw[h2]at h1;cases h1
    ·intro _;refine⟨sd,Zd,?_,?_⟩
     ·have:=runR_y (u:=u) (f:=f) (w:={w with inIf:=true,yield:=typesM f.types x.outs}) (w':=w) (deep:=deep') rfl rfl rfl d seen' Z' hd12;rw[this];exact g1
     ·refine⟨?_,?_,by rw[zfb];exact m2,r1,hzd.trans q1,?_⟩
      ·intro v hv;rcases yh.1 hv with hv|hv
       ·obtain⟨s1,s2⟩:=hi.sl v hv;exact⟨s1,q1 v s1 (m1 v s1 s2)⟩
       ·exact⟨(hur v hv).1,(q2 v hv).2⟩
      ·intro v hv;rcases yh.1 hv with hv|hv
       ·obtain⟨s1,s2⟩:=hi.sl v hv;rw[hagr v s1 s2];obtain⟨t1,t2,t3,t4⟩:=hi.sub v hv;exact⟨r2 _ t1,t2,t3,t4⟩
       ·obtain⟨i,hi'⟩:=yP hv;have hlt:i<e.args.length:=by rw[hal];exact(yb.1 hi').1
        have ha:=yd hlt;have hg:=ztf x.outs e.args T1 i v _ q3 hi' ha;have hs:sg (setsW T1 x.outs e.args) v=e.args[i]:=by unfold sg;rw[hg];rfl
        rw[hs];simp only[zC,ya,decide_eq_true_eq,yj]at hty;have hm:=hty.2 (e.args[i],at0 f.types v) (yr (i:=i) (by rw[yM];exact⟨ha,by rw[yk,hi'];rfl⟩));simp only[useR,ya,yw,decide_eq_true_eq,yAa]at hm;obtain⟨z1,z2⟩:=hur v hv;have:=hT v z1 z2;refine⟨hm.2.2.1,hm.1,hm.2.1,?_⟩;rcases hm.2.2.2 with h|h
        ·omega
        ·exact h
      ·intro v hv;by_cases hm:v∈x.outs
       ·exact⟨(hur v hm).1,(q2 v hm).2⟩
       ·rw[zYe _ _ _ _ hm]at hv;obtain⟨k1,k2⟩:=hL.key v hv;exact⟨k1,q1 v k1 k2⟩
    ·intro h;rw[hlc]at h;cases h
   ·rw[if_neg hke];have hall:∀z∈d++[e],z.kind≠12:=by
     intro z hz;rcases yh.1 hz with hz|hz
     ·exact hd12 z hz
     ·simp at hz;rw[hz];exact hke
    have hlast:zn (d++[e])=true:=by simp[zn,g3]
    refine⟨htd,fun y hy=>?_,fun _=>hlast,hL.agr,?_,?_⟩
    ·rw[yia]at hy;exact hinit y hy
    ·intro h;have h:zn (d++[e])=false:=h;rw[hlast]at h;cases h
    ·intro _;show LR f T T1 Z _ (goR u f (zx (d++[e])) seen' w deep' Z')
     have ey:=goR_y (u:=u) (f:=f) (w:={w with inIf:=true,yield:=typesM f.types x.outs}) (w':=w) (deep:=deep') rfl rfl rfl (d++[e]) seen' Z' hall;rw[hidem,ey];exact⟨hL.agr,hL.ok,hL.zs.trans q1,hL.len,hL.key.mono q1⟩
 ·cases hr
mutual
theorem wr_node(hT:TyOk f.types){F:zA}(hF:zWa f.types F):∀(x:Node) (p:Pl) (seen seen':List Int) (w:Place) (deep deep':Int) (Z Z':Set1) (T:Tos),okN u f.types.length p x->(zy u f x seen w deep Z).1=true->Iv f.types T seen seen' Z Z'->deep'<=deep->deep'<=100→
  NR u f x (wrN F x T) T seen seen' w deep' Z Z' (zy u f x seen w deep Z).2
 |⟨k,o,n,s,a,us,ps,ks⟩,p,seen,seen',w,deep,deep',Z,Z',T,hok,hr,hi,hd,hd1=>by
  have hkk:okK u f.types.length (plIn p k us ps) ks:=by rw[okN]at hok;exact hok.2
  have hk10:k=10->ks.length=2:=by rw[okN]at hok;exact fun h=>(hok.1.k10 h).2
  rw[wrN];split
  ·rename_i c;exact nr_sum hF hi hd1 c hr
  ·rename_i c34;split
   ·rename_i c10;split
    ·exact nr_taken (x:=⟨k,o,n,s,a,us,ps,ks⟩) hT hok hi c10 hr (fun e=>wr_pick hT hF ks _ _ seen seen' _ (deep+1) deep' Z Z' T hkk (by intro h;have:=hk10 c10;rw[h]at this;simp at this) (by intro _ l h;have:=hk10 c10;rw[h]at this;simp at this) e hi (by omega))
    ·exact nr_if (x:=⟨k,o,n,s,a,us,ps,ks⟩) hok hi hd1 c10 hr (fun e=>wr_kids hT hF ks _ seen seen' _ (deep+1) (deep'+1) Z Z' T hkk e hi (by omega))
   ·rename_i c10;split
    ·rename_i c11;exact nr_loop (x:=⟨k,o,n,s,a,us,ps,ks⟩) hok hi hd1 c11 hr (fun Zp Zp' h e=>wr_kids hT hF ks _ _ _ _ (deep+1) (deep'+1) Zp Zp' T hkk e h (by omega))
    ·rename_i c11;exact nr_simple (x:=⟨k,o,n,s,a,us,ps,ks⟩) hi hd1 c10 c11 hr
theorem wr_go(hT:TyOk f.types){F:zA}(hF:zWa f.types F):∀(l:List Node) (p:Pl) (seen seen':List Int) (w:Place) (deep deep':Int) (Z Z':Set1) (T:Tos),okL u f.types.length p l->l≠ []->(goR u f l seen w deep Z).1=true->Iv f.types T seen seen' Z Z'->deep'<=deep→
  LR f T (wrGo F l T).2 Z (goR u f l seen w deep Z).2 (goR u f (zx (wrGo F l T).1) seen' w deep' Z')
 | [],p,seen,seen',w,deep,deep',Z,Z',T,hok,hne,hr,hi,hd=>absurd rfl hne
 |x::r,p,seen,seen',w,deep,deep',Z,Z',T,hok,hne,hr,hi,hd=>by
  rw[okL]at hok;rw[goR]at hr ⊢;split at hr
  ·cases hr
  rename_i h0;rw[if_neg h0];split at hr
  ·rename_i h1;rw[if_pos h1];have hN:=wr_node hT hF x p seen seen' w deep deep' Z Z' T hok.1 h1 hi hd (by omega);obtain⟨m1,m2⟩:=zZc x seen w deep Z hi.zl h1;split at hr
   ·rename_i h2;rw[if_pos h2];obtain⟨m3,m4⟩:=zvc r (seen++x.outs) w deep _ m2 hr;rw[wrGo];by_cases hc:zn (wrN F x T).1=true
    ·rw[if_pos hc];have hL:=hN.cut hc;exact⟨hL.agr,hL.ok,hL.zs.trans m3,hL.len,hL.key.mono m3⟩
    ·rw[if_neg hc];have hc:zn (wrN F x T).1=false:=by simpa using hc
     obtain⟨s1,Z1',g1,g2⟩:=hN.go hc;have hxc:zb x=false:=by
      cases hx:zb x with
      |false=>rfl
      |true=>have:=hN.cl hx;rw[hc]at this;cases this
     have hrne:r≠ []:=by
      intro h;rw[h2,h]at hxc;cases hxc
     have hR:=wr_go hT hF r p _ _ w deep deep' _ _ (wrN F x T).2 hok.2.2 hrne hr g2 hd;obtain⟨r1,r2,r3⟩:=runR_mono _ _ _ _ _ hi.zl' g1;have hwr:=(zrd F r p (wrN F x T).2 hok.2.2 hrne).tidy;simp only;rw[tidyL_td _ _ (fun y hy=>⟨hN.td y hy,r3 y hy⟩)];rw[goR_run (by omega) _ _ _ _ s1 Z1' hwr.ne g1];exact⟨hN.agr.trans m1 hR.agr,hR.ok,hR.zs,hR.len,hR.key⟩
   ·cases hr
  ·cases hr
theorem wr_kids(hT:TyOk f.types){F:zA}(hF:zWa f.types F):∀(ks:List (List Node)) (p:Pl) (seen seen':List Int) (w:Place) (deep deep':Int) (Z Z':Set1) (T:Tos),okK u f.types.length p ks->(zH u f ks seen w deep Z).1=true->Iv f.types T seen seen' Z Z'->deep'<=deep→
  LR f T (wrKs F ks T).2 Z (zH u f ks seen w deep Z).2 (zH u f (wrKs F ks T).1 seen' w deep' Z')
 | [],p,seen,seen',w,deep,deep',Z,Z',T,hok,hr,hi,hd=>by
  rw[wrKs,zH,zH];exact⟨Agr.refl _ _,rfl,hi.zs,hi.zl',hi.key⟩
 |l::r,p,seen,seen',w,deep,deep',Z,Z',T,hok,hr,hi,hd=>by
  rw[okK]at hok;rw[zH]at hr ⊢;split at hr
  ·rename_i c;rw[if_pos c];have c':=zab c;have e:(zNa l (goR u f l seen w deep Z)).2=(goR u f l seen w deep Z).2:=by unfold zNa;rw[if_pos c']
   rw[e]at hr ⊢;have hL:=wr_go hT hF l p seen seen' w deep deep' Z Z' T hok.1.2 hok.1.1 c' hi hd;obtain⟨m1,m2⟩:=zvc l seen w deep Z hi.zl c';have hne:=tidyL_ne (zrd F l p T hok.1.2 hok.1.1).ne;have hK:=wr_kids hT hF r p seen seen' w deep deep' _ _ (wrGo F l T).2 hok.2 hr (hi.step hL.agr m1 m2 hL.zs hL.len hL.key) hd;rw[wrKs];simp only;rw[zH];have e2:zNa (zx (wrGo F l T).1) (goR u f (zx (wrGo F l T).1) seen' w deep' Z')=(true,(goR u f (zx (wrGo F l T).1) seen' w deep' Z').2):=by
    unfold zNa;rw[if_pos hL.ok];cases hz:zx (wrGo F l T).1 with
    |nil=>exact absurd hz hne
    |cons _ _=>rfl
   rw[e2];simp only[if_true];exact⟨hL.agr.trans m1 hK.agr,hK.ok,hK.zs,hK.len,hK.key⟩
  ·cases hr
theorem wr_pick(hT:TyOk f.types){F:zA}(hF:zWa f.types F):∀(ks:List (List Node)) (p:Pl) (b:Bool) (seen seen':List Int) (w:Place) (deep deep':Int) (Z Z':Set1) (T:Tos),okK u f.types.length p ks->ks≠ []->(b=false->∀l,ks≠ [l])->(zH u f ks seen w deep Z).1=true->Iv f.types T seen seen' Z Z'->deep'<=deep→
  LR f T (zwa F ks b T).2 Z (zH u f ks seen w deep Z).2 (goR u f (zwa F ks b T).1 seen' w deep' Z')
 | [],p,b,seen,seen',w,deep,deep',Z,Z',T,hok,hne,hb,hr,hi,hd=>absurd rfl hne
 |l::r,p,b,seen,seen',w,deep,deep',Z,Z',T,hok,hne,hb,hr,hi,hd=>by
  rw[okK]at hok;rw[zH]at hr ⊢;split at hr
  ·rename_i c;rw[if_pos c];have c':=zab c;have e:(zNa l (goR u f l seen w deep Z)).2=(goR u f l seen w deep Z).2:=by unfold zNa;rw[if_pos c']
   rw[e]at hr ⊢;obtain⟨m1,m2⟩:=zvc l seen w deep Z hi.zl c';obtain⟨m3,m4⟩:=zma r seen w deep _ m2 hr;rw[zwa];cases b
   ·simp only[yv,if_false];cases r with
    |nil=>exact absurd rfl (hb rfl l)
    |cons y z=>
     have hP:=wr_pick hT hF (y::z) p true seen seen' w deep deep' _ Z' T hok.2 (by simp) (fun h=>by cases h) hr (hi.up m1 m2) hd;exact⟨fun v v0 hv=>hP.agr v v0 (m1 v v0 hv),hP.ok,hP.zs,hP.len,hP.key⟩
   ·simp only[if_true];have hL:=wr_go hT hF l p seen seen' w deep deep' Z Z' T hok.1.2 hok.1.1 c' hi hd;exact⟨hL.agr,hL.ok,hL.zs.trans m3,hL.len,hL.key.mono m3⟩
  ·cases hr
end
end
theorem trnIdN:∀x:Node,trnN id x=x:=by
 have key:(∀x:Node,trnN id x=x):=by
  intro x;exact trn_idN x
 exact key
where
 trn_idN:∀x:Node,trnN id x=x
  |⟨k,o,n,s,a,u,p,ks⟩=>by rw[trnN,trn_idK ks];simp
 trn_idL:∀l:List Node,trnL id l=l
  | []=>rfl
  |x::r=>by rw[trnL,trn_idN x,trn_idL r]
 trn_idK:∀l:List (List Node),trnK id l=l
  | []=>rfl
  |x::r=>by rw[trnK,trn_idL x,trn_idK r]
theorem trnIdL(l:List Node):trnL id l=l:=by
 rw[trnL_eq]
 conv=>rhs;rw[<-List.map_id l]
 exact List.map_congr_left fun x _=>trnIdN x
theorem place_map{g:Flow->Flow}(hg:∀f,(g f).name=f.name)(l:List Flow)(s:List UInt8):zZ (l.map g) s=zZ l s:=by
 unfold zZ idx;rw[List.findIdx?_map];have:((fun f:Flow=>decide (f.name=s)) ∘ g)=fun f:Flow=>decide (f.name=s):=by
  funext f;simp[hg]
 rw[this]
theorem initR_at(f:Flow)(k:Nat)(h:(k:Int)<=f.types.length):∀v∈zIa k,0<=v/\atB (zmc f k) v=true/\v<f.types.length:=by
 intro v hv;simp only[zIa,yka,yya]at hv;obtain⟨i,hi,rfl⟩:=hv;refine⟨by omega,?_,by omega⟩;have h2:i<(yf k true).length:=by simpa using hi
 have:(zmc f k)[i]? =some true:=by
  unfold zmc;rw[yn h2];simp[hi]
 simp[atB,this]
theorem tyOk_of{ty:List Int}(h:(ty.any fun t=> !tyOk t)=false):TyOk ty:=by
 intro v h0 h1;rw[<-Bool.not_eq_true,List.any_eq_true]at h;have hm:at0 ty v∈ty:=by
  unfold at0;rw[yd (by omega)];exact List.getElem_mem _
 by_cases hk:tyOk (at0 ty v)=true
 ·simpa[tyOk]using hk
 ·exact absurd ⟨_,hm,by simpa using hk⟩ h
theorem flowK_okR{u:Unt}(hU:OkU u){f:Flow}(hf:f∈u.flows)(h:zvb u f=true):zvb u (zZe f)=true:=by
 have hb:=hU.body f hf;have hp:=hU.pars f hf;unfold zvb at h ⊢;rw[ya]at h ⊢;obtain⟨h1,h2⟩:=h;refine⟨h1,?_⟩;have hT:TyOk f.types:=by
  simp only[yG,yB]at h1;exact tyOk_of h1.2
 have h3:(goR u f f.body (zIa f.params.toNat) zQa 1 (zmc f f.params.toNat)).1=true:=by
  unfold zIb zNa at h2;split at h2
  ·rename_i hg;exact hg
  ·cases h2
 have hF:=studyM_ok hT h3;have hk:((f.params.toNat:Nat):Int)<=f.types.length:=by omega
 have hin:=initR_at f f.params.toNat hk;have hI:Iv f.types [] (zIa f.params.toNat) (zIa f.params.toNat) (zmc f f.params.toNat) (zmc f f.params.toNat):=by
  refine⟨fun v hv=>⟨(hin v hv).1,(hin v hv).2.1⟩,fun v hv=>?_,zVb f _ (by omega),zVb f _ (by omega),fun v h0 hv=>hv,fun v hv=>?_⟩
  ·have:sg [] v=v:=rfl;rw[this];exact⟨hv,(hin v hv).1,(hin v hv).2.2,rfl⟩
  ·exact absurd rfl hv
 have hL:=wr_go hT hF f.body ⟨none,none,none⟩ _ _ zQa 1 1 _ _ [] hb.2 hb.1 h3 hI (by omega);have hne:=tidyL_ne (zrd (zPa f) f.body ⟨none,none,none⟩ [] hb.2 hb.1).ne;have hT2:Trn id u u f (zZe f):=⟨rfl,fun v h0 h1=>⟨h0,h1⟩,fun v w _ _ _ _ e=>e,fun v _ _=>rfl,rfl,rfl,fun s=>rfl,fun k g hg=>⟨g,hg,rfl,rfl⟩⟩
 have hZ:ZR id f.types.length (zmc f f.params.toNat) (zmc f f.params.toNat):=⟨zVb f _ (by omega),zVb f _ (by omega),fun v _ _=>rfl⟩
 have hG:=(hT2.go (zx (wrGo (zPa f) f.body []).1) (zIa f.params.toNat) zQa 1 _ _ hZ hL.ok).1;rw[trnIdL,List.map_id]at hG;show(zNa (zx (wrGo (zPa f) f.body []).1) (goR u (zZe f) (zx (wrGo (zPa f) f.body []).1) (zIa f.params.toNat) zQa 1 (zmc f f.params.toNat))).1=true
 unfold zNa;rw[if_pos hG];cases hz:zx (wrGo (zPa f) f.body []).1 with
 |nil=>exact absurd hz hne
 |cons _ _=>rfl
theorem knownM_pl(u:Unt)(s:List UInt8):zZ (zT u).flows s=zZ u.flows s:=place_map (g:=zZe) (fun _=>rfl) _ _
theorem knownM_flowR{u:Unt}{g:Flow}(h0:0<=g.params/\g.params<=g.types.length)(h:zvb u g=true):zvb (zT u) g=true:=by
 have hT:Trn id u (zT u) g g:=by
  refine⟨rfl,fun v h0 h1=>⟨h0,h1⟩,fun v w _ _ _ _ e=>e,fun v _ _=>rfl,rfl,rfl,fun s=>knownM_pl u s,fun k q hq=>⟨zZe q,?_,rfl,rfl⟩⟩;show(u.flows.map zZe)[k]? =_
  rw[yk,hq];rfl
 unfold zvb at h ⊢;rw[ya]at h ⊢;refine⟨h.1,?_⟩;have h2:=h.2;have hZ:ZR id g.types.length (zmc g g.params.toNat) (zmc g g.params.toNat):=⟨zVb g _ (by omega),zVb g _ (by omega),fun v _ _=>rfl⟩
 unfold zIb zNa at h2 ⊢;split at h2
 ·rename_i hg;have hG:=(hT.go g.body (zIa g.params.toNat) zQa 1 _ _ hZ hg).1;rw[trnIdL,List.map_id]at hG;rw[if_pos hG];exact h2
 ·cases h2
theorem knownM_head{u:Unt}(h:zcd u=true):zcd (zT u)=true:=by
 simp only[zcd,ya]at h ⊢;obtain⟨⟨⟨h1,h2⟩,h3⟩,h4⟩:=h;refine⟨⟨⟨h1,?_⟩,?_⟩,?_⟩
 ·rw[yj]at h2 ⊢;intro g hg;obtain⟨f,hf,rfl⟩:=yka.1 hg;exact h2 f hf
 ·have e:zzd (zT u)=zzd u:=by
   unfold zzd zT;rw[List.map_map];rfl
  rw[e];exact h3
 ·unfold zWd at h4 ⊢;rw[knownM_pl];have e:(zT u).flows[(zZ u.flows zw).toNat]? =(u.flows[(zZ u.flows zw).toNat]?).map zZe:=yk ..;rw[e];cases hq:u.flows[(zZ u.flows zw).toNat]? with
  |none=>rw[hq]at h4;exact h4
  |some g=>rw[hq]at h4;exact h4
theorem knownM_check{u:Unt}(hz:USz u)(h:(zJa u).1=0):zJa (zT u)=(0,0):=by
 have hU:=zcf hz h;obtain⟨h1,h2⟩:=(checkM_iff u).1 (checkM_fst h);refine(checkM_iff _).2 ⟨knownM_head h1,fun g hg=>?_⟩;obtain⟨f,hf,rfl⟩:=yka.1 hg;exact knownM_flowR (hU.pars f hf) (flowK_okR hU hf (h2 f hf))
theorem flowK_wt(f:Flow):wtL (zZe f).body<=wtL f.body:=wrL_wt _ _ _
theorem knownM_sz{u:Unt}(h:USz u):USz (zT u):=by
 refine⟨h.arrs,by simpa[zT]using h.flows,fun g hg=>?_,fun g hg=>?_⟩<;>obtain⟨f,hf,rfl⟩:=yka.1 hg
 ·exact h.types f hf
 ·have:=h.body f hf;have:=flowK_wt f;omega
theorem knownM_wt{u:Unt}{n:Nat}(h:∀f∈u.flows,wtL f.body<n):∀f∈(zT u).flows,wtL f.body<n:=by
 intro g hg;obtain⟨f,hf,rfl⟩:=yka.1 hg;have:=h f hf;have:=flowK_wt f;omega
mutual
def zKb:Node->List Int
 |⟨k,o,n,s,a,us,ps,ks⟩=>us++(ps++zCc ks)
def zAa:List Node->List Int
 | []=>[]
 |x::r=>zKb x++zAa r
def zCc:List (List Node)->List Int
 | []=>[]
 |l::r=>zAa l++zCc r
end
theorem defsN_eq(x:Node):zKb x=x.outs++(x.params++zCc x.kids):=by cases x;rw[zKb]
theorem defsL_app(a b:List Node):zAa (a++b)=zAa a++zAa b:=by
 induction a with
 |nil=>rfl
 |cons x r ih=>rw[yI,zAa,zAa,ih,yY]
theorem defsL_mem{x:Node}{l:List Node}(h:x∈l):∀o∈zKb x,o∈zAa l:=by
 induction l with
 |nil=>cases h
 |cons y r ih=>
  intro o ho;rw[zAa];rcases yA.1 h with rfl|h
  ·exact yma _ ho
  ·exact yva _ (ih h o ho)
theorem defsK_mem{x:List Node}{l:List (List Node)}(h:x∈l):∀o∈zAa x,o∈zCc l:=by
 induction l with
 |nil=>cases h
 |cons y r ih=>
  intro o ho;rw[zCc];rcases yA.1 h with rfl|h
  ·exact yma _ ho
  ·exact yva _ (ih h o ho)
theorem defs_kid0(x:Node):∀o∈zAa (kid0 x),o∈zKb x:=by
 intro o ho;rw[defsN_eq];unfold kid0 at ho;cases h:x.kids[0]? with
 |none=>rw[h]at ho;cases ho
 |some l=>
  rw[h]at ho;simp[defsK_mem (yr h) o ho]
theorem defs_kid1(x:Node):∀o∈zAa (kid1 x),o∈zKb x:=by
 intro o ho;rw[defsN_eq];unfold kid1 at ho;cases h:x.kids[1]? with
 |none=>rw[h]at ho;cases ho
 |some l=>
  rw[h]at ho;simp[defsK_mem (yr h) o ho]
def Fr(D v v1:List Int):Prop:=∀s:Int,0<=s->s ∉ D->at0 v1 s=at0 v s
theorem Fr.refl(D v:List Int):Fr D v v:=fun _ _ _=>rfl
theorem Fr.trans{D v v1 v2:List Int}(h:Fr D v v1)(k:Fr D v1 v2):Fr D v v2:=fun s h0 hs=>(k s h0 hs).trans (h s h0 hs)
theorem Fr.mono{D D' v v1:List Int}(h:Fr D v v1)(hd:∀o∈D,o∈D'):Fr D' v v1:=fun s h0 hs=>h s h0 (fun hm=>hs (hd s hm))
theorem at0_setne(v:List Int){o s:Int}(n:Int)(ho:0<=o)(hs:0<=s)(h:s≠o):at0 (v.set o.toNat n) s=at0 v s:=by
 unfold at0;rw[yx (by omega)]
theorem zAe:∀(v os ns:List Int),(∀o∈os,0<=o)->Fr os v (setW v os ns)
 |v,[],ns,h=>by rw[setW];exact Fr.refl _ _;all_goals simp
 |v,o::os,[],h=>by rw[setW];exact Fr.refl _ _;all_goals simp
 |v,o::os,n::ns,h=>by
  rw[setW];intro s h0 hs;rw[zAe (v.set o.toNat n) os ns (fun q hq=>h q (by simp[hq])) s h0 (fun hm=>hs (by simp[hm]))];exact at0_setne v n (h o (by simp)) h0 (fun e=>hs (by simp[e]))
def Pos(D:List Int):Prop:=∀o∈D,0<=o
def EvFr(ev:NEv):Prop:=∀x v S,Pos (zKb x)->Fr (zKb x) v (ev x v S).2.1
section
variable {ev:NEv} (H:EvFr ev)
include H
theorem listW_fr:∀(l:List Node) (v:List Int) (S:RS),Pos (zAa l)->Fr (zAa l) v (zB ev l v S).2.1
 | [],v,S,_=>by rw[zB];exact Fr.refl _ _
 |x::r,v,S,hp=>by
  have h1:=H x v S (fun o ho=>hp o (defsL_mem (by simp) o ho));have hx:∀o∈zKb x,o∈zAa (x::r):=fun o ho=>defsL_mem (by simp) o ho
  have hr:∀o∈zAa r,o∈zAa (x::r):=fun o ho=>by rw[zAa];exact yva _ ho
  unfold zB;generalize ev x v S=q at*;obtain⟨a,v1,S1⟩:=q;simp only at h1;cases a with
  |stop k=>exact h1.mono hx
  |ok w=>
   simp only;split
   ·exact(h1.mono hx).trans ((listW_fr r v1 S1 (fun o ho=>hp o (hr o ho))).mono hr)
   ·exact h1.mono hx
theorem choiceW_fr(x:Node)(c:Int)(v:List Int)(S:RS)(hp:Pos (zKb x)):Fr (zKb x) v (zUa ev x c v S).2.1:=by
 have hk:∀o∈zAa (if c=0 then kid1 x else kid0 x),o∈zKb x:=by
  split
  ·exact defs_kid1 x
  ·exact defs_kid0 x
 have ho:∀o∈x.outs,o∈zKb x:=fun o ho=>by rw[defsN_eq];simp[ho]
 have h1:=listW_fr H (if c=0 then kid1 x else kid0 x) v S (fun o h=>hp o (hk o h));unfold zUa;generalize zB ev (if c=0 then kid1 x else kid0 x) v S=q at*;obtain⟨a,v1,S1⟩:=q;simp only at h1;cases a with
 |stop k=>exact h1.mono hk
 |ok w=>
  simp only;split
  ·exact(h1.mono hk).trans ((zAe v1 x.outs w.l (fun o h=>hp o (ho o h))).mono ho)
  ·exact h1.mono hk
theorem loopW_fr(x:Node)(hp:Pos (zKb x)):∀(k:Nat) (l v:List Int) (S:RS),Fr (zKb x) v (zTa ev x k l v S).2.1
 |0,l,v,S=>by rw[zTa];exact Fr.refl _ _
 |k+1,l,v,S=>by
  have hk:=defs_kid0 x;have ho:∀o∈x.outs,o∈zKb x:=fun o ho=>by rw[defsN_eq];simp[ho]
  have hq:∀o∈x.params,o∈zKb x:=fun o ho=>by rw[defsN_eq];simp[ho]
  have h0:=(zAe v x.params l (fun o h=>hp o (hq o h))).mono hq;have h1:=listW_fr H (kid0 x) (setW v x.params l) S (fun o h=>hp o (hk o h));unfold zTa;generalize zB ev (kid0 x) (setW v x.params l) S=q at*;obtain⟨a,v1,S1⟩:=q;simp only at h1;have h2:=h0.trans (h1.mono hk);cases a with
  |stop k=>exact h2
  |ok w=>
   simp only;split
   ·exact h2
   ·split
    ·exact h2.trans ((zAe v1 x.outs w.l (fun o h=>hp o (ho o h))).mono ho)
    ·exact h2.trans (loopW_fr x hp k w.l v1 S1)
theorem nodeW_fr(u:Unt)(w:Nat)(x:Node)(v:List Int)(S:RS)(hp:Pos (zKb x)):Fr (zKb x) v (zmb u ev w x v S).2.1:=by
 have ho:∀o∈x.outs,o∈zKb x:=fun o ho=>by rw[defsN_eq];simp[ho]
 have hs:=fun(n:List Int)=>(zAe v x.outs n (fun o h=>hp o (ho o h))).mono ho
 unfold zmb;split
 ·exact hs _
 split
 ·exact Fr.refl _ _
 split
 ·exact choiceW_fr H x _ v S hp
 split
 ·exact loopW_fr H x hp _ _ v S
 split
 ·exact hs _
 ·exact Fr.refl _ _
end
theorem evN_fr(u:Unt):∀w,EvFr (evN u w)
 |0=>fun x v S _=>by rw[evN];exact Fr.refl _ _
 |w+1=>fun x v S hp=>by
  rw[evN];dsimp only;split
  ·exact Fr.refl _ _
  ·exact nodeW_fr (evN_fr u w) u w x v _ hp
mutual
theorem tidyN_defs:∀x:Node,∀o∈zKb (zzb x),o∈zKb x
 |⟨k,o,n,s,a,us,ps,ks⟩=>by
  intro q hq;rw[zzb]at hq;rw[zKb];split at hq<;>rw[zKb]at hq
  ·simp only[yqa,yh]at hq ⊢;rcases hq with hq|hq
   ·exact .inr (.inl hq)
   ·exact .inr (.inr (tidyK_defs ks q hq))
  ·simp only[yh]at hq ⊢;rcases hq with hq|hq|hq
   ·exact .inl hq
   ·exact .inr (.inl hq)
   ·exact .inr (.inr (tidyK_defs ks q hq))
theorem zMe:∀l:List Node,∀o∈zAa (zx l),o∈zAa l
 | []=>fun o h=>h
 |x::r=>by
  intro q hq;rw[zx]at hq;rw[zAa,yh];split at hq
  ·rw[zAa,zAa,yla]at hq;exact .inl (tidyN_defs x q hq)
  ·rw[zAa,yh]at hq;rcases hq with hq|hq
   ·exact .inl (tidyN_defs x q hq)
   ·exact .inr (zMe r q hq)
theorem tidyK_defs:∀l:List (List Node),∀o∈zCc (zhc l),o∈zCc l
 | []=>fun o h=>h
 |x::r=>by
  intro q hq;rw[zhc,zCc,yh]at hq;rw[zCc,yh];rcases hq with hq|hq
  ·exact .inl (zMe x q hq)
  ·exact .inr (tidyK_defs r q hq)
end
theorem takenW_defs{us:List Int}{q:List Node×Tos}:∀o∈zAa (zAb us q).1,o∈zAa q.1:=by
 intro o ho;unfold zAb at ho;split at ho
 ·rename_i e he;split at ho
  ·rcases yz q.1 with h|⟨d,e',h⟩
   ·rw[h]at ho;cases ho
   ·rw[h,yC]at ho ⊢;rw[yia]at ho;rw[defsL_app];exact yma _ ho
  ·exact ho
 ·exact ho
mutual
theorem wrN_defs(F:zA):∀(x:Node) (T:Tos),∀o∈zAa (wrN F x T).1,o∈zKb x
 |⟨k,o,n,s,a,us,ps,ks⟩,T=>by
  intro q hq;rw[wrN]at hq;rw[zKb];split at hq
  ·unfold sumW at hq;split at hq
   ·simp only[zAa,zKb,yla,yqa,zCc]at hq;simp[hq]
   ·simpa[zAa,zKb]using hq
  split at hq
  ·split at hq
   ·have:=takenW_defs q hq;have:=wrPick_defs F ks _ T q this;simp[this]
   ·simp only[zAa,zKb,yla,yh]at hq;rcases hq with hq|hq|hq
    ·simp[hq]
    ·simp[hq]
    ·simp[wrKs_defs F ks T q hq]
  split at hq
  ·simp only[zAa,zKb,yla,yh]at hq;rcases hq with hq|hq|hq
   ·simp[hq]
   ·simp[hq]
   ·simp[wrKs_defs F ks T q hq]
  ·simpa[zAa,zKb]using hq
theorem wrGo_defs(F:zA):∀(l:List Node) (T:Tos),∀o∈zAa (wrGo F l T).1,o∈zAa l
 | [],T=>by intro q hq;rw[wrGo]at hq;exact hq
 |x::r,T=>by
  intro q hq;rw[wrGo]at hq;rw[zAa,yh];split at hq
  ·exact .inl (wrN_defs F x T q hq)
  ·simp only[defsL_app,yh]at hq;rcases hq with hq|hq
   ·exact .inl (wrN_defs F x T q hq)
   ·exact .inr (wrGo_defs F r _ q hq)
theorem wrKs_defs(F:zA):∀(l:List (List Node)) (T:Tos),∀o∈zCc (wrKs F l T).1,o∈zCc l
 | [],T=>by intro q hq;rw[wrKs]at hq;exact hq
 |x::r,T=>by
  intro q hq;rw[wrKs]at hq;simp only[zCc,yh]at hq;rw[zCc,yh];rcases hq with hq|hq
  ·exact .inl (wrGo_defs F x T q (zMe _ q hq))
  ·exact .inr (wrKs_defs F r _ q hq)
theorem wrPick_defs(F:zA):∀(l:List (List Node)) (b:Bool) (T:Tos),∀o∈zAa (zwa F l b T).1,o∈zCc l
 | [],b,T=>by intro q hq;rw[zwa]at hq;cases hq
 |x::r,b,T=>by
  intro q hq;rw[zwa]at hq;rw[zCc,yh];split at hq
  ·exact .inl (wrGo_defs F x T q (zMe _ q hq))
  ·exact .inr (wrPick_defs F r true T q hq)
end
section
variable {u:Unt} {f:Flow}
structure OutsOk(ty:List Int)(Z Z1:Set1)(us:List Int):Prop where
 rng:∀o∈us,0<=o/\o<(ty.length:Int)
 new:∀o∈us,atB Z o=false
 set:∀o∈us,atB Z1 o=true
 nd:us.Nodup
theorem OutsOk.nil{ty:List Int}{Z Z1:Set1}:OutsOk ty Z Z1 []:=⟨by simp,by simp,by simp,by simp⟩
theorem zAc{ty:List Int}{Z:Set1}{l want:List Int}(hl:Z.length=ty.length)(h:(zD ty Z l want).1=true):OutsOk ty Z (zD ty Z l want).2 l:=by
 obtain⟨h1,h2,h3⟩:=zgf hl h;exact⟨setsR_rng h,fun o ho=>(h2 o ho).1,fun o ho=>(h2 o ho).2,h3⟩
theorem simple_outs{seen:List Int}{w:Place}{Z:Set1}{x:Node}(hl:Z.length=f.types.length)(h:(zp u f seen w Z x).1=true):OutsOk f.types Z (zp u f seen w Z x).2 x.outs:=by
 unfold zp at h ⊢;dsimp only at h ⊢;have A:∀{c:Prop} [Decidable c] {want:List Int},(if c then zD f.types Z x.outs want else(false,Z)).1=true->OutsOk f.types Z (if c then zD f.types Z x.outs want else(false,Z)).2 x.outs:=by
  intro c _ want h;split at h
  ·rename_i hc;rw[if_pos hc];exact zAc hl h
  ·cases h
 have B:∀{a b:Bool},(a&&(b&&decide (x.outs=[])))=true->OutsOk f.types Z Z x.outs:=by
  intro a b h;simp only[ya,decide_eq_true_eq]at h;rw[h.2.2];exact OutsOk.nil
 by_cases k1:x.kind=1
 ·rw[if_pos k1]at h ⊢;exact A h
 rw[if_neg k1]at h ⊢;by_cases k2:x.kind=2
 ·rw[if_pos k2]at h ⊢;exact A h
 rw[if_neg k2]at h ⊢;by_cases k3:x.kind=3
 ·rw[if_pos k3]at h ⊢;exact A h
 rw[if_neg k3]at h ⊢;by_cases k4:x.kind=4
 ·rw[if_pos k4]at h ⊢;exact A h
 rw[if_neg k4]at h ⊢;by_cases k5:x.kind=5
 ·rw[if_pos k5]at h ⊢;exact A h
 rw[if_neg k5]at h ⊢;by_cases k6:x.kind=6
 ·rw[if_pos k6]at h ⊢;exact B h
 rw[if_neg k6]at h ⊢;by_cases k7:x.kind=7
 ·rw[if_pos k7]at h ⊢;split at h
  ·rename_i g hg;exact A h
  ·cases h
 rw[if_neg k7]at h ⊢;by_cases k8:x.kind=8
 ·rw[if_pos k8]at h ⊢;exact A h
 rw[if_neg k8]at h ⊢;by_cases k9:x.kind=9
 ·rw[if_pos k9]at h ⊢;simp only[ya,decide_eq_true_eq]at h;rw[h.2];exact OutsOk.nil
 rw[if_neg k9]at h ⊢;by_cases k12:x.kind=12
 ·rw[if_pos k12]at h ⊢;exact B h
 rw[if_neg k12]at h ⊢;by_cases k13:x.kind=13
 ·rw[if_pos k13]at h ⊢;exact B h
 rw[if_neg k13]at h ⊢;by_cases k14:x.kind=14
 ·rw[if_pos k14]at h ⊢;exact B h
 rw[if_neg k14]at h ⊢;by_cases k15:x.kind=15
 ·rw[if_pos k15]at h ⊢;simp only[ya,decide_eq_true_eq]at h;rw[h.2];exact OutsOk.nil
 rw[if_neg k15]at h;cases h
theorem zUb{seen:List Int}{w:Place}{deep:Int}{Z:Set1}{x:Node}(hl:Z.length=f.types.length)(h:(zy u f x seen w deep Z).1=true):OutsOk f.types Z (zy u f x seen w deep Z).2 x.outs:=by
 rw[zsa]at h ⊢;split at h
 ·cases h
 rename_i c0;rw[if_neg c0];have fin:∀{q:Bool×Set1},ZS Z q.2->q.2.length=f.types.length->(endR f.types x q).1=true->OutsOk f.types Z (endR f.types x q).2 x.outs:=by
  intro q h1 h2 h3;obtain⟨e1,_⟩:=zZd h3;obtain⟨_,e3⟩:=zva h3;rw[e1];have o:=zAc h2 e3;refine⟨o.rng,fun v hv=>?_,o.set,o.nd⟩;cases hb:atB Z v with
  |false=>rfl
  |true=>
   have:=h1 v (o.rng v hv).1 hb;rw[o.new v hv]at this;cases this
 by_cases h10:x.kind=10
 ·rw[if_pos h10]at h ⊢;split at h
  ·rename_i c1;rw[if_pos c1];obtain⟨e1,e2⟩:=zva h;obtain⟨k1,k2⟩:=zma x.kids _ _ _ Z hl e1;exact fin k1 k2 h
  ·cases h
 rw[if_neg h10]at h ⊢;by_cases h11:x.kind=11
 ·rw[if_pos h11]at h ⊢;split at h
  ·rename_i c1;rw[if_pos c1];split at h
   ·rename_i c2;rw[if_pos c2];obtain⟨e1,e2⟩:=zva h;have m1:=zZa hl c2;obtain⟨k1,k2⟩:=zma x.kids _ _ _ _ (by rw[zfb];exact hl) e1;exact fin (m1.trans k1) k2 h
   ·cases h
  ·cases h
 rw[if_neg h11]at h ⊢;exact simple_outs hl h
def New(Z:Set1)(D:List Int):Prop:=∀o∈D,0<=o/\atB Z o=false
theorem New.back{Z Z1:Set1}{D:List Int}(h:New Z1 D)(hz:ZS Z Z1):New Z D:=by
 intro o ho;refine⟨(h o ho).1,?_⟩;cases hb:atB Z o with
 |false=>rfl
 |true=>
  have:=hz o (h o ho).1 hb;rw[(h o ho).2]at this;cases this
theorem New.app{Z:Set1}{a b:List Int}(h:New Z a)(k:New Z b):New Z (a++b):=by
 intro o ho;rcases yh.1 ho with ho|ho
 ·exact h o ho
 ·exact k o ho
theorem OutsOk.fresh{ty:List Int}{Z Z1:Set1}{us:List Int}(h:OutsOk ty Z Z1 us):New Z us:=fun o ho=>⟨(h.rng o ho).1,h.new o ho⟩
theorem New.pos{Z:Set1}{D:List Int}(h:New Z D):Pos D:=fun o ho=>(h o ho).1
theorem New.fr{Z:Set1}{D v v1:List Int}(h:New Z D)(hf:Fr D v v1):∀s:Int,0<=s->atB Z s=true->at0 v1 s=at0 v s:=by
 intro s h0 hs;refine hf s h0 (fun hm=>?_);rw[(h s hm).2]at hs;cases hs
theorem bare_simple{x:Node}(h:zca x=true)(h10:x.kind≠10)(h11:x.kind≠11):x.params=[]/\x.kids=[]:=by
 simp only[zca,ya,yw,decide_eq_true_eq]at h;obtain⟨⟨_,h1⟩,h2⟩:=h;refine⟨h1.resolve_left h11,?_⟩;unfold zXa at h2;rw[if_neg h10,if_neg h11]at h2;exact List.length_eq_zero_iff.1 (by omega)
mutual
theorem nodeR_defs:∀(x:Node) (seen:List Int) (w:Place) (deep:Int) (Z:Set1),Z.length=f.types.length->(zy u f x seen w deep Z).1=true->New Z (zKb x)
 |⟨k,o,n,s,a,us,ps,ks⟩,seen,w,deep,Z,hl,h=>by
  have ho:=(zUb hl h).fresh;simp only at ho;rw[zy]at h;split at h
  ·cases h
  rename_i c0;rw[zKb];by_cases h10:k=10
  ·rw[if_pos h10]at h;split at h
   ·rename_i c1;obtain⟨e1,e2⟩:=zva h;refine ho.app (New.app ?_ (zMd ks _ _ _ Z hl e1));have hb:zca ⟨k,o,n,s,a,us,ps,ks⟩=true:=by simpa using c0
    simp only[zca,ya,yw,decide_eq_true_eq]at hb;have:=hb.1.2.resolve_left (by omega);rw[this];intro o ho;cases ho
   ·cases h
  rw[if_neg h10]at h;by_cases h11:k=11
  ·rw[if_pos h11]at h;split at h
   ·rename_i c1;split at h
    ·rename_i c2;obtain⟨e1,e2⟩:=zva h;have m1:=zZa hl c2;have:=zMd ks _ _ _ _ (by rw[zfb];exact hl) e1;exact ho.app (New.app (zAc hl c2).fresh (this.back m1))
    ·cases h
   ·cases h
  rw[if_neg h11]at h;obtain⟨b1,b2⟩:=bare_simple (x:=⟨k,o,n,s,a,us,ps,ks⟩) (by simpa using c0) h10 h11;simp only at b1 b2;rw[b1,b2,zCc];simpa using ho
theorem zMd:∀(ks:List (List Node)) (seen:List Int) (w:Place) (deep:Int) (Z:Set1),Z.length=f.types.length->(zH u f ks seen w deep Z).1=true->New Z (zCc ks)
 | [],seen,w,deep,Z,hl,h=>by rw[zCc];intro o ho;cases ho
 |l::r,seen,w,deep,Z,hl,h=>by
  rw[zH]at h;rw[zCc];split at h
  ·rename_i c;have c':=zab c;obtain⟨h1,h2⟩:=zvc l seen w deep Z hl c';have e:(zNa l (goR u f l seen w deep Z)).2=(goR u f l seen w deep Z).2:=by unfold zNa;rw[if_pos c']
   rw[e]at h;exact(goR_defs l seen w deep Z hl c').app ((zMd r seen w deep _ h2 h).back h1)
  ·cases h
theorem goR_defs:∀(l:List Node) (seen:List Int) (w:Place) (deep:Int) (Z:Set1),Z.length=f.types.length->(goR u f l seen w deep Z).1=true->New Z (zAa l)
 | [],seen,w,deep,Z,hl,h=>by rw[zAa];intro o ho;cases ho
 |x::r,seen,w,deep,Z,hl,h=>by
  rw[goR]at h;rw[zAa];split at h
  ·cases h
  split at h
  ·rename_i c1;obtain⟨h1,h2⟩:=zZc x seen w deep Z hl c1;split at h
   ·exact(nodeR_defs x seen w deep Z hl c1).app ((goR_defs r _ w deep _ h2 h).back h1)
   ·cases h
  ·cases h
end
end
def Hold(F:zA)(l ns:List Int):Prop:=∀(i:Nat) s n,l[i]? =some s->ns[i]? =some n->∃g,getA F s=some g/\∀z,g=some z->n=z
def EnvF(F:zA)(seen v:List Int):Prop:=∀s∈seen,∃g,getA F s=some g/\∀z,g=some z->at0 v s=z
theorem EnvF.num{F:zA}{seen v:List Int}(h:EnvF F seen v){s z:Int}(hs:s∈seen)(hn:numK F s=(z,true)):at0 v s=z:=by
 obtain⟨g,h1,h2⟩:=h s hs;unfold numK at hn;rw[h1]at hn;cases g with
 |none=>cases hn
 |some y=>simp only[Prod.mk.injEq,and_true]at hn;exact h2 z (by rw[hn])
theorem EnvF.fr{F:zA}{seen v v1:List Int}(h:EnvF F seen v)(hv:∀s∈seen,at0 v1 s=at0 v s):EnvF F seen v1:=by
 intro s hs;obtain⟨g,h1,h2⟩:=h s hs;exact⟨g,h1,fun z hz=>by rw[hv s hs];exact h2 z hz⟩
theorem EnvF.app{F:zA}{a b v:List Int}(h:EnvF F a v)(k:EnvF F b v):EnvF F (a++b) v:=by
 intro s hs;rcases yh.1 hs with hs|hs
 ·exact h s hs
 ·exact k s hs
theorem meetK_st{F:zA}{v:Int}{f:Fact}(h:zod (F,false) v f=(F,false)):∃g,getA F v=some g/\(g=f\/g=none):=by
 unfold zod at h;simp only at h;split at h
 ·simp at h
 ·rename_i o ho;split at h
  ·rename_i e;exact⟨o,ho,.inl e⟩
  ·split at h
   ·rename_i e;exact⟨o,ho,.inr e⟩
   ·simp at h
theorem foldl_st{α:Type}{m:Nat}(g:KS->α->KS){F:zA}:∀(l:List α),(∀S x,x∈l->Up m S (g S x))->l.foldl g (F,false)=(F,false)->∀x∈l,g (F,false) x=(F,false)
 | [],h,e,x,hx=>by cases hx
 |y::r,h,e,x,hx=>by
  rw[yU]at e;have h1:=h (F,false) y (by simp);have h2:=foldl_up g r (g (F,false) y) (fun S z hz=>h S z (by simp[hz]));rw[e]at h2;have hf:(g (F,false) y).2=false:=by
   cases hb:(g (F,false) y).2 with
   |false=>rfl
   |true=>have:=h2.flag hb;cases this
  have e1:=h1.same hf;rcases yA.1 hx with rfl|hx
  ·exact e1
  ·rw[e1]at e;exact foldl_st g r (fun S z hz=>h S z (by simp[hz])) e x hx
theorem meetsK_st{m:Nat}{F:zA}{l fr:List Int}(hl:inR m l)(h:zka (F,false) l fr=(F,false)){seen v:List Int}(he:EnvF F seen v)(hs:∀a∈fr,a∈seen):Hold F l (ofW v fr):=by
 have hst:=foldl_st (m:=m) stepK (l.zip fr) (fun S p hp=>by
  have hp1:p.1∈l:=(List.of_mem_zip hp).1;unfold stepK;split
  ·exact meetK_up S (hl _ hp1) _
  ·exact Up.refl m S) h
 intro i s n h1 h2;unfold ofW at h2;rw[yk,yc]at h2;obtain⟨a,ha,rfl⟩:=h2;have hm:(s,a)∈l.zip fr:=yr (i:=i) (by rw[yM];exact⟨h1,ha⟩);have:=hst _ hm;obtain⟨g,g1,g2⟩:=he a (hs a (yr ha));unfold stepK at this;simp only[g1]at this;obtain⟨g',k1,k2⟩:=meetK_st this;refine⟨g',k1,fun z hz=>?_⟩;rcases k2 with k2|k2
 ·exact g2 z (by rw[<-k2];exact hz)
 ·rw[k2]at hz;cases hz
section
variable {u:Unt} {m:Nat} {F:zA}
theorem listK_st{p:Pl}{h:Hd}{x:Node}{r:List Node}(hok:okL u m p (x::r))(hh:HdR m h)(e:zta (x::r) h (F,false)=(F,false)):
  (zsb x h (F,false)).1=(F,false)/\((zsb x h (F,false)).2=true->zta r h (F,false)=(F,false)):=by
 rw[okL]at hok;have h1:=nodeK_up (m:=m) x p h (F,false) hok.1 hh;rw[zta]at e;by_cases hc:(zsb x h (F,false)).2=true
 ·rw[if_pos hc]at e;have h2:=zCd r p h (zsb x h (F,false)).1 hok.2.2 hh;rw[e]at h2;have hf:(zsb x h (F,false)).1.2=false:=by
   cases hb:(zsb x h (F,false)).1.2 with
   |false=>rfl
   |true=>have:=h2.flag hb;cases this
  have e1:=h1.same hf;rw[e1]at e;exact⟨e1,fun _=>e⟩
 ·rw[if_neg hc]at e;exact⟨e,fun h=>absurd h hc⟩
theorem choiceK_st{p:Pl}{h:Hd}{c:Int×Bool}{l0 l1:List Node}(hok:okK u m p [l0,l1])(hh:HdR m h)(e:(zza [l0,l1] h c true (F,false) false).1=(F,false)):
  (zEd c=true->zta l0 h (F,false)=(F,false))/\(zxd c=true->zta l1 h (F,false)=(F,false))∧
   (zza [l0,l1] h c true (F,false) false).2=(zEd c&&yldL F l0||zxd c&&yldL F l1):=by
 rw[okK]at hok;obtain⟨⟨_,o0⟩,o1⟩:=hok;have o1':=o1;rw[okK]at o1';have hA:=zCd l0 p h (F,false) o0 hh;rw[zza]at e ⊢;simp only[if_true]at e ⊢;by_cases g0:zEd c=true
 ·rw[if_pos g0]at e ⊢;have hB:=choiceK_up (m:=m) [l1] p h c false (zta l0 h (F,false)) (false||yldL (zta l0 h (F,false)).1 l0) o1 hh;rw[e]at hB;have hf:(zta l0 h (F,false)).2=false:=by
   cases hb:(zta l0 h (F,false)).2 with
   |false=>rfl
   |true=>have:=hB.flag hb;cases this
  have e0:=hA.same hf;rw[e0]at e ⊢;rw[zza]at e ⊢;simp only[yv,if_false]at e ⊢;by_cases g1:zxd c=true
  ·rw[if_pos g1]at e ⊢;rw[zza]at e ⊢;refine⟨fun _=>by first|exact e0|rfl|trivial,fun _=>e,?_⟩;have e:zta l1 h (F,false)=(F,false):=e;simp[g0,g1,e]
  ·rw[if_neg g1,zza];exact⟨fun _=>by first|exact e0|rfl|trivial,fun h=>absurd h g1,by simp[g0,g1]⟩
 ·rw[if_neg g0]at e ⊢;rw[zza]at e ⊢;simp only[yv,if_false]at e ⊢;by_cases g1:zxd c=true
  ·rw[if_pos g1]at e ⊢;rw[zza]at e ⊢;refine⟨fun h=>absurd h g0,fun _=>e,?_⟩;have e:zta l1 h (F,false)=(F,false):=e;simp[g0,g1,e]
  ·rw[if_neg g1,zza];exact⟨fun h=>absurd h g0,fun h=>absurd h g1,by simp[g0,g1]⟩
theorem loopK_st{p:Pl}{us ps a:List Int}{l0:List Node}(hok:okK u m p [l0])(hu:inR m us)(hp:inR m ps)(e:zfe [l0] ⟨[],ps,us⟩ (zka (F,false) ps a)=(F,false)):
  zka (F,false) ps a=(F,false)/\zta l0 ⟨[],ps,us⟩ (F,false)=(F,false):=by
 rw[okK]at hok;have hA:=meetsK_up (m:=m) (F,false) (l:=ps) (fr:=a) hp;have hB:=zCd l0 p ⟨[],ps,us⟩ (zka (F,false) ps a) hok.1.2 ⟨znc m,hp,hu⟩;rw[zfe]at e;rw[e]at hB;have hf:(zka (F,false) ps a).2=false:=by
  cases hb:(zka (F,false) ps a).2 with
  |false=>rfl
  |true=>have:=hB.flag hb;cases this
 have e0:=hA.same hf;rw[e0]at e;exact⟨e0,e⟩
end
theorem zjd:∀(v us ns:List Int) (i:Nat) (s n:Int),us.Nodup->inR v.length us->us[i]? =some s->ns[i]? =some n->at0 (setW v us ns) s=n
 |v,[],ns,i,s,n,hn,hr,h1,h2=>by cases h1
 |v,o::us,[],i,s,n,hn,hr,h1,h2=>by cases h2
 |v,o::us,y::ns,i,s,n,hn,hr,h1,h2=>by
  rw[List.nodup_cons]at hn;rw[setW];have ho:=hr o (by simp);cases i with
  |zero=>
   have h1:o=s:=by simpa using h1
   have h2:y=n:=by simpa using h2
   subst h1 h2;rw[zAe (v.set o.toNat y) us ns (fun q hq=>(hr q (by simp[hq])).1) o ho.1 hn.1];unfold at0;rw[yo (by omega)];rfl
  |succ i=>
   refine zjd (v.set o.toNat y) us ns i s n hn.2 (fun q hq=>?_) (by simpa using h1) (by simpa using h2);have:=hr q (by simp[hq]);simpa using this
theorem Hold.env{F:zA}{us ns v:List Int}(h:Hold F us ns)(hl:us.length=ns.length)(hn:us.Nodup)(hr:inR v.length us):EnvF F us (setW v us ns):=by
 intro s hs;obtain⟨i,hi⟩:=yP hs;have hlt:i<us.length:=(yb.1 hi).1;have hn':ns[i]? =some (ns[i]'(by omega)):=yd (by omega);obtain⟨g,h1,h2⟩:=h i s _ hi hn';refine⟨g,h1,fun z hz=>?_⟩;rw[zjd v us ns i s _ hn hr hi hn'];exact h2 z hz
theorem zqa{ty seen l want:List Int}(h:zC ty seen l want=true):∀a∈l,a∈seen:=by
 simp only[zC,ya,decide_eq_true_eq,yj]at h;intro a ha;obtain⟨i,hi⟩:=yP ha;have hlt:i<want.length:=by rw[<-h.1];exact(yb.1 hi).1
 have:=h.2 (a,want[i]) (yr (i:=i) (by rw[yM];exact⟨hi,yd hlt⟩));simp only[useR,ya,yAa]at this;exact this.2.2.1
theorem simple_args{u:Unt}{f:Flow}{seen:List Int}{w:Place}{Z:Set1}{x:Node}(h:(zp u f seen w Z x).1=true):∀a∈x.args,a∈seen:=by
 unfold zp at h;dsimp only at h;have A:∀{c:Prop} [Decidable c] {q:Bool×Set1},(if c then q else(false,Z)).1=true->c:=by
  intro c _ q h;split at h
  ·rename_i hc;exact hc
  ·cases h
 by_cases k1:x.kind=1
 ·rw[if_pos k1]at h;exact zqa (A h)
 rw[if_neg k1]at h;by_cases k2:x.kind=2
 ·rw[if_pos k2]at h;exact zqa (A h).2
 rw[if_neg k2]at h;by_cases k3:x.kind=3
 ·rw[if_pos k3]at h;have:=A h;rw[ya]at this;exact zqa this.2
 rw[if_neg k3]at h;by_cases k4:x.kind=4
 ·rw[if_pos k4]at h;have:=(A h).1;rw[ya]at this;exact zqa this.2
 rw[if_neg k4]at h;by_cases k5:x.kind=5
 ·rw[if_pos k5]at h;have:=A h;rw[ya]at this;exact zqa this.2
 rw[if_neg k5]at h;by_cases k6:x.kind=6
 ·rw[if_pos k6]at h;simp only[ya]at h;exact zqa h.2.1
 rw[if_neg k6]at h;by_cases k7:x.kind=7
 ·rw[if_pos k7]at h;split at h
  ·exact zqa (A h).2
  ·cases h
 rw[if_neg k7]at h;by_cases k8:x.kind=8
 ·rw[if_pos k8]at h;rw[A h];intro a ha;cases ha
 rw[if_neg k8]at h;by_cases k9:x.kind=9
 ·rw[if_pos k9]at h;simp only[ya]at h;exact zqa h.1
 rw[if_neg k9]at h;by_cases k12:x.kind=12
 ·rw[if_pos k12]at h;simp only[ya]at h;exact zqa h.2.1
 rw[if_neg k12]at h;by_cases k13:x.kind=13
 ·rw[if_pos k13]at h;simp only[ya]at h;exact zqa h.2.1
 rw[if_neg k13]at h;by_cases k14:x.kind=14
 ·rw[if_pos k14]at h;simp only[ya]at h;exact zqa h.2.1
 rw[if_neg k14]at h;by_cases k15:x.kind=15
 ·rw[if_pos k15]at h;simp only[ya]at h;exact zqa h.1
 rw[if_neg k15]at h;cases h
def FsN(F:zA)(x:Node)(h:Hd)(q:Rt Wy×List Int×RS):Prop:=∀w,q.1= .ok w→
 (w.kind=0->EnvF F x.outs q.2.1/\passN F x=true/\(zsb x h (F,false)).2=true)/\(w.kind=12->Hold F h.y w.l)/\(w.kind=13->Hold F h.x w.l)/\(w.kind=14->Hold F h.l w.l/\lvN F x=true)
def FsL(F:zA)(l:List Node)(h:Hd)(q:Rt Wy×List Int×RS):Prop:=∀w,q.1= .ok w→
 (w.kind=12->Hold F h.y w.l/\passL F l=true)/\(w.kind=13->Hold F h.x w.l)/\(w.kind=14->Hold F h.l w.l/\lvL F l=true)
structure SL(seen:List Int)(Z:Set1):Prop where
 at':∀s∈seen,0<=s/\atB Z s=true
theorem SL.fr{seen:List Int}{Z:Set1}(h:SL seen Z){D v v1:List Int}(hd:New Z D)(hf:Fr D v v1):∀s∈seen,at0 v1 s=at0 v s:=
 fun s hs=>hd.fr hf s (h.at' s hs).1 (h.at' s hs).2
theorem SL.up{seen:List Int}{Z Z1:Set1}(h:SL seen Z)(hz:ZS Z Z1):SL seen Z1:=⟨fun s hs=>⟨(h.at' s hs).1,hz s (h.at' s hs).1 (h.at' s hs).2⟩⟩
theorem SL.app{a b:List Int}{Z:Set1}(h:SL a Z)(k:SL b Z):SL (a++b) Z:=⟨fun s hs=>by
 rcases yh.1 hs with hs|hs
 ·exact h.at' s hs
 ·exact k.at' s hs⟩
theorem OutsOk.sl{ty:List Int}{Z Z1:Set1}{us:List Int}(h:OutsOk ty Z Z1 us):SL us Z1:=⟨fun s hs=>⟨(h.rng s hs).1,h.set s hs⟩⟩
theorem kids_go2{u:Unt}{f:Flow}{l0 l1:List Node}{seen:List Int}{w:Place}{deep:Int}{Z:Set1}(hl:Z.length=f.types.length)(h:(zH u f [l0,l1] seen w deep Z).1=true):
  (goR u f l0 seen w deep Z).1=true/\∃Z1,ZS Z Z1/\Z1.length=f.types.length/\(goR u f l1 seen w deep Z1).1=true:=by
 rw[zH]at h;split at h
 ·rename_i c;have c':=zab c;obtain⟨h1,h2⟩:=zvc l0 seen w deep Z hl c';have e:(zNa l0 (goR u f l0 seen w deep Z)).2=(goR u f l0 seen w deep Z).2:=by unfold zNa;rw[if_pos c']
  rw[e,zH]at h;split at h
  ·rename_i c2;exact⟨c',_,h1,h2,zab c2⟩
  ·cases h
 ·cases h
theorem kids_go1{u:Unt}{f:Flow}{l0:List Node}{seen:List Int}{w:Place}{deep:Int}{Z:Set1}(h:(zH u f [l0] seen w deep Z).1=true):(goR u f l0 seen w deep Z).1=true:=by
 rw[zH]at h;split at h
 ·rename_i c;exact zab c
 ·cases h
theorem if_parts{u:Unt}{f:Flow}{x:Node}{seen:List Int}{w:Place}{deep:Int}{Z:Set1}(h10:x.kind=10)(h:(zy u f x seen w deep Z).1=true):
  (∀a∈x.args,a∈seen)/\(zH u f x.kids seen {w with inIf:=true,yield:=typesM f.types x.outs} (deep+1) Z).1=true:=by
 rw[zsa]at h;split at h
 ·cases h
 (try rw[if_pos h10]at h)
 split at h
 ·rename_i c;exact⟨zqa c,(zva h).1⟩
 ·cases h
theorem loop_parts{u:Unt}{f:Flow}{x:Node}{seen:List Int}{w:Place}{deep:Int}{Z:Set1}(hl:Z.length=f.types.length)(h11:x.kind=11)(h:(zy u f x seen w deep Z).1=true):
  (∀a∈x.args,a∈seen)/\∃Zp,ZS Z Zp/\Zp.length=f.types.length/\OutsOk f.types Z Zp x.params/\(zH u f x.kids (seen++x.params) ⟨false,true,[],typesM f.types x.params,typesM f.types x.outs⟩ (deep+1) Zp).1=true:=by
 have h10:¬x.kind=10:=by omega
 rw[zsa]at h;split at h
 ·cases h
 split at h
 ·rename_i c;split at h
  ·rename_i c2;exact⟨zqa c,_,zZa hl c2,by rw[zfb];exact hl,zAc hl c2,(zva h).1⟩
  ·cases h
 ·cases h
theorem zSb{u:Unt}{f:Flow}{x:Node}{seen:List Int}{w:Place}{deep:Int}{Z:Set1}(h10:x.kind≠10)(h11:x.kind≠11)(h:(zy u f x seen w deep Z).1=true):
  (∀a∈x.args,a∈seen):=by
 rw[zsa]at h;split at h
 ·cases h
 (try rw[if_neg h10,if_neg h11]at h)
 exact simple_args h
theorem goes0_of{F:zA}{seen v:List Int}(he:EnvF F seen v){a:Int}(ha:a∈seen)(h:at0 v a≠0):zEd (numK F a)=true:=by
 cases hn:numK F a with
 |mk z b=>
  cases b with
  |false=>rfl
  |true=>
   have:=he.num ha hn;simp[zEd];omega
theorem goes1_of{F:zA}{seen v:List Int}(he:EnvF F seen v){a:Int}(ha:a∈seen)(h:at0 v a=0):zxd (numK F a)=true:=by
 cases hn:numK F a with
 |mk z b=>
  cases b with
  |false=>rfl
  |true=>
   have:=he.num ha hn;simp[zxd];omega
section
variable {u:Unt} {f:Flow} {F:zA} {ev:NEv}
def EvFs(u:Unt)(f:Flow)(F:zA)(ev:NEv):Prop:=∀(x:Node) (p:Pl) (seen:List Int) (w:Place) (deep:Int) (Z:Set1) (h:Hd) (v:List Int) (S:RS),
 okN u f.types.length p x->(zy u f x seen w deep Z).1=true->Z.length=f.types.length->SL seen Z->HdR f.types.length h->(zsb x h (F,false)).1=(F,false)->EnvF F seen v->v.length=f.types.length->FsN F x h (ev x v S)
variable (H:EvFs u f F ev) (Ho:EvOk u ev) (Hf:EvFr ev)
include H Ho Hf
theorem listW_fs{p:Pl}:∀(l:List Node) (seen:List Int) (w:Place) (deep:Int) (Z:Set1) (h:Hd) (v:List Int) (S:RS),okL u f.types.length p l->(goR u f l seen w deep Z).1=true->Z.length=f.types.length->SL seen Z->HdR f.types.length h->zta l h (F,false)=(F,false)->EnvF F seen v->v.length=f.types.length->FsL F l h (zB ev l v S)
 | [],seen,w,deep,Z,h,v,S,hok,hr,hl,hs,hh,hk,he,hv=>by
  intro w' e;rw[zB]at e;cases e;exact⟨fun h=>absurd h (by decide),fun h=>absurd h (by decide),fun h=>absurd h (by decide)⟩
 |x::r,seen,w,deep,Z,h,v,S,hok,hr,hl,hs,hh,hk,he,hv=>by
  obtain⟨k1,k2⟩:=listK_st hok hh hk;rw[okL]at hok;obtain⟨o1,o2,o3⟩:=hok;rw[goR]at hr;split at hr
  ·cases hr
  split at hr
  ·rename_i c1
   (try rw[if_pos o2]at hr)
   have hN:=H x p seen w deep Z h v S o1 c1 hl hs hh k1 he hv;obtain⟨n1,n2,n3⟩:=Ho _ p x v S o1 hv;have hD:=nodeR_defs x seen w deep Z hl c1;have hF:=Hf x v S hD.pos;have hO:=zUb hl c1;obtain⟨m1,m2⟩:=zZc x seen w deep Z hl c1;unfold zB;generalize ev x v S=q at*;obtain⟨a,v1,S1⟩:=q;simp only at n1 n2 n3 hF;cases a with
   |stop k=>intro w' e;cases e
   |ok w1=>
    obtain⟨a1,a2,a3,a4⟩:=hN w1 rfl;simp only;by_cases hw:w1.kind=0
    ·rw[if_pos hw];obtain⟨b1,b2,b3⟩:=a1 hw;have hR:=listW_fs r (seen++x.outs) w deep _ h v1 S1 o3 hr m2 ((hs.up m1).app hO.sl) hh (k2 b3) ((he.fr (hs.fr hD hF)).app b1) n2;intro w' e;obtain⟨c1,c2,c3⟩:=hR w' e;refine⟨fun hw=>?_,c2,fun hw=>?_⟩
     ·rw[passL,b2,(c1 hw).2];exact⟨(c1 hw).1,rfl⟩
     ·rw[lvL,b2,(c3 hw).2];exact⟨(c3 hw).1,by simp⟩
    ·rw[if_neg hw];intro w' e;cases e;obtain⟨_,n4⟩:=n3 w1 rfl;refine⟨fun hw2=>⟨a2 hw2,?_⟩,a3,fun hw2=>⟨(a4 hw2).1,by rw[lvL,(a4 hw2).2];rfl⟩⟩;rcases n4 with n4|n4
     ·exact absurd n4.1 hw
     ·have hx:=n4.2.1 hw2;have hc:=zbe hx;rw[hc]at o2;have:r=[]:=by simpa using o2.symm
      rw[this,passL,passL,passN_eq,if_neg (by omega),if_neg (by omega),hx];rfl
  ·cases hr
theorem choiceW_fs{x:Node}{p:Pl}{seen:List Int}{w:Place}{deep:Int}{Z:Set1}{h:Hd}{v:List Int}(S:RS)(h10:x.kind=10)
  (hok:okN u f.types.length p x) (hr:(zy u f x seen w deep Z).1=true) (hl:Z.length=f.types.length) (hs:SL seen Z) (hh:HdR f.types.length h) (hk:(zsb x h (F,false)).1=(F,false)) (he:EnvF F seen v) (hv:v.length=f.types.length):
  FsN F x h (zUa ev x (atA (ofW v x.args) 0) v S):=by
 have hok':=hok;rw[zhb]at hok';obtain⟨o1,o2⟩:=hok';have hkid:=kids_two (o1.k10 h10).2;obtain⟨a0,ha⟩:∃a0,x.args=[a0]:=by
  have:=(o1.k10 h10).1
  match hx:x.args,this with
  | [a],_=>exact⟨a,rfl⟩
 obtain⟨q1,q2⟩:=if_parts h10 hr;have hp:plIn p x.kind x.outs x.params={p with y:=some x.outs.length}:=by rw[h10];rfl
 rw[hp]at o2;rw[hkid]at o2 q2;rw[zib,if_neg (by omega),if_neg (by omega),if_pos h10,hkid]at hk;have hh':HdR f.types.length {h with y:=x.outs}:=⟨o1.outs,hh.2.1,hh.2.2⟩
 obtain⟨s0,s1,s2⟩:=choiceK_st o2 hh' hk;obtain⟨g0,Z1,z1,z2,g1⟩:=kids_go2 hl q2;have ha0:a0∈seen:=q1 a0 (by rw[ha];simp);have hcv:atA (ofW v x.args) 0=at0 v a0:=by rw[ha];rfl
 have hc0:at0 x.args 0=a0:=by rw[ha];rfl
 rw[hc0]at s0 s1 s2;rw[hcv];have ok0:=zjb o2 (kid0 x) (by simp);have ok1:=zjb o2 (kid1 x) (by simp);have hO:=zUb hl hr;have key:∀l,(l=kid0 x/\zEd (numK F a0)=true\/l=kid1 x/\zxd (numK F a0)=true)->FsL F l {h with y:=x.outs} (zB ev l v S)->ListRun f.types.length {p with y:=some x.outs.length} l S (zB ev l v S)→
   FsN F x h (match zB ev l v S with
    |(.ok w,v1,S1)=>if w.kind=12 then(.ok ⟨0,[]⟩,setW v1 x.outs w.l,S1)else(.ok w,v1,S1)
    |(.stop k,v1,S1)=>(.stop k,v1,S1)):=by
  intro l hlk hL hR;generalize zB ev l v S=q at*;obtain⟨a,v1,S1⟩:=q;obtain⟨r1,r2,r3⟩:=hR;simp only at r2 r3;have hy:yldL F l=true->passN F x=true/\(zsb x h (F,false)).2=true:=by
   intro hy;rw[passN_eq,if_pos h10,zib,if_neg (by omega),if_neg (by omega),if_pos h10,hkid,hc0,s2];simp only[yR,List.map_nil,yD,yO,yga];rcases hlk with⟨e,eg⟩|⟨e,eg⟩
   ·rw[<-e,hy,eg];simp
   ·rw[<-e,hy,eg];simp
  have hv':lvL F l=true->lvN F x=true:=by
   intro hy;rw[lvN_eq,h10,hkid,hc0];simp only[yR,List.map_nil,yD,yO,yga];rcases hlk with⟨e,eg⟩|⟨e,eg⟩
   ·rw[<-e,hy,eg];simp
   ·rw[<-e,hy,eg];simp
  cases a with
  |stop k=>intro w' e;cases e
  |ok w1=>
   obtain⟨b1,b2,b3⟩:=hL w1 rfl;obtain⟨e1,e2,e3,e4⟩:=r3 w1 rfl;simp only;by_cases hw:w1.kind=12
   ·rw[if_pos hw];intro w' e;cases e;refine⟨fun _=>?_,fun h=>absurd h (by decide),fun h=>absurd h (by decide),fun h=>absurd h (by decide)⟩;obtain⟨c1,c2⟩:=b1 hw;have hlen:x.outs.length=w1.l.length:=by
     rcases e2 with e2|e2|e2|e2
     ·have:=e2.2;simpa using this
     ·omega
     ·omega
     ·omega
    refine⟨c1.env hlen hO.nd (by rw[r2];exact o1.outs),?_⟩;exact hy (by unfold yldL;rw[c2,e3 hw];rfl)
   ·rw[if_neg hw];intro w' e;cases e;refine⟨fun h=>absurd h e2.ne,fun h=>absurd h hw,b2,fun h=>⟨(b3 h).1,hv' (b3 h).2⟩⟩
 unfold zUa;by_cases hc:at0 v a0=0
 ·rw[if_pos hc];have hg:=goes1_of he ha0 hc;exact key _ (.inr ⟨rfl,hg⟩) (listW_fs H Ho Hf (kid1 x) seen _ _ Z1 _ v S ok1.2 g1 z2 (hs.up z1) hh' (s1 hg) he hv) (zpb Ho (kid1 x) v S ok1.1 ok1.2 hv)
 ·rw[if_neg hc];have hg:=goes0_of he ha0 hc;exact key _ (.inl ⟨rfl,hg⟩) (listW_fs H Ho Hf (kid0 x) seen _ _ Z _ v S ok0.2 g0 hl hs hh' (s0 hg) he hv) (zpb Ho (kid0 x) v S ok0.1 ok0.2 hv)
end
theorem Hold.none{F:zA}{l ns:List Int}(h:∀s∈l,∃g,getA F s=some g/\(g:Fact)=Option.none):Hold F l ns:=by
 intro i s n h1 h2;obtain⟨g,g1,g2⟩:=h s (yr h1);exact⟨g,g1,fun z hz=>by rw[g2]at hz;cases hz⟩
section
variable {u:Unt} {f:Flow} {F:zA} {ev:NEv}
variable (H:EvFs u f F ev) (Ho:EvOk u ev) (Hf:EvFr ev)
include H Ho Hf
theorem loopW_fs{x:Node}{p:Pl}{seen:List Int}{w:Place}{deep:Int}{Z:Set1}{h:Hd}(h11:x.kind=11)
  (hok:okN u f.types.length p x) (hr:(zy u f x seen w deep Z).1=true) (hl:Z.length=f.types.length) (hs:SL seen Z) (hh:HdR f.types.length h) (hk:(zsb x h (F,false)).1=(F,false)):
  ∀(k:Nat) (l v:List Int) (S:RS),EnvF F seen v->v.length=f.types.length->Hold F x.params l->l.length=x.params.length->FsN F x h (zTa ev x k l v S)
 |0,l,v,S,he,hv,hp,hlen=>by intro w' e;cases e
 |k+1,l,v,S,he,hv,hp,hlen=>by
  have hok':=hok;rw[zhb]at hok';obtain⟨o1,o2⟩:=hok';have hkid:=zqf (o1.k11 h11).2;obtain⟨q1,Zp,z1,z2,z3,q2⟩:=loop_parts hl h11 hr;have hpl:plIn p x.kind x.outs x.params=⟨none,some x.params.length,some x.outs.length⟩:=by rw[h11];rfl
  rw[hpl]at o2;rw[hkid]at o2 q2;have hk0:=hk;rw[zib,if_neg (by omega),if_neg (by omega),if_neg (by omega),if_pos h11,hkid]at hk0;obtain⟨s0,s1⟩:=loopK_st o2 o1.outs o1.prs hk0;have ok0:=zjb o2 (kid0 x) (by simp);have g0:=kids_go1 q2;have hO:=zUb hl hr;have hD:=goR_defs (kid0 x) _ _ _ Zp z2 g0;have he1:EnvF F (seen++x.params) (setW v x.params l):=by
   refine EnvF.app (he.fr (hs.fr z3.fresh (zAe v x.params l z3.fresh.pos))) (hp.env hlen.symm z3.nd (by rw[hv];exact o1.prs))
  have hv1:(setW v x.params l).length=f.types.length:=by rw[zDa];exact hv
  have hh1:HdR f.types.length ⟨[],x.params,x.outs⟩:=⟨znc _,o1.prs,o1.outs⟩
  have hL:=listW_fs H Ho Hf (kid0 x) (seen++x.params) _ _ Zp _ (setW v x.params l) S ok0.2 g0 z2 ((hs.up z1).app z3.sl) hh1 s1 he1 hv1;have hR:=zpb Ho (kid0 x) (setW v x.params l) S ok0.1 ok0.2 hv1;have hF:=listW_fr Hf (kid0 x) (setW v x.params l) S hD.pos;have ih:=fun l v S=>loopW_fs h11 hok hr hl hs hh hk k l v S
  unfold zTa;generalize zB ev (kid0 x) (setW v x.params l) S=q at*;obtain⟨a,v1,S1⟩:=q;obtain⟨r1,r2,r3⟩:=hR;simp only at r2 r3 hF;cases a with
  |stop j=>intro w' e;cases e
  |ok w1=>
   obtain⟨b1,b2,b3⟩:=hL w1 rfl;obtain⟨e1,e2,e3,e4⟩:=r3 w1 rfl;simp only;by_cases hw:w1.kind=15
   ·rw[if_pos hw];intro w' e;cases e;exact⟨fun h=>by omega,fun h=>by omega,fun h=>by omega,fun h=>by omega⟩
   ·rw[if_neg hw];by_cases hw4:w1.kind=14
    ·rw[if_pos hw4];intro w' e;cases e;refine⟨fun _=>?_,fun h=>absurd h (by decide),fun h=>absurd h (by decide),fun h=>absurd h (by decide)⟩;obtain⟨c1,c2⟩:=b3 hw4;have hlen':x.outs.length=w1.l.length:=by
      rcases e2 with e2|e2|e2|e2
      ·omega
      ·omega
      ·have:=e2.2;simpa using this
      ·omega
     refine⟨c1.env hlen' hO.nd (by rw[r2];exact o1.outs),?_,?_⟩
     ·rw[passN_eq,if_neg (by omega),if_pos h11,hkid];simpa using c2
     ·rw[zib,if_neg (by omega),if_neg (by omega),if_neg (by omega),if_pos h11,hkid];have hk1:zfe [kid0 x] ⟨[],x.params,x.outs⟩ (zka (F,false) x.params x.args)=(F,false):=hk0;simp only;rw[hk1,lvKs_eq];simpa using c2
    ·rw[if_neg hw4];have hw3:w1.kind=13/\x.params.length=w1.l.length:=by
      rcases e2 with e2|e2|e2|e2
      ·have:=e2.2;cases this
      ·exact⟨e2.1,by have:=e2.2;simpa using this⟩
      ·exact absurd e2.1 hw4
      ·exact absurd e2.1 hw
     refine ih w1.l v1 S1 ?_ r2 (b2 hw3.1) hw3.2.symm;refine(he.fr (hs.fr z3.fresh (zAe v x.params l z3.fresh.pos))).fr ?_;exact hs.fr (hD.back z1) hF
theorem nodeW_fs{x:Node}{p:Pl}{seen:List Int}{w:Place}{deep:Int}{Z:Set1}{h:Hd}{v:List Int}(i:Nat)(S:RS)(hU:OkU u)
  (hok:okN u f.types.length p x) (hr:(zy u f x seen w deep Z).1=true) (hl:Z.length=f.types.length) (hs:SL seen Z) (hh:HdR f.types.length h) (hk:(zsb x h (F,false)).1=(F,false)) (he:EnvF F seen v) (hv:v.length=f.types.length):
  FsN F x h (zmb u ev i x v S):=by
 have hok':=hok;rw[zhb]at hok';obtain⟨o1,o2⟩:=hok';have hO:=zUb hl hr;have hx:=o1.k;unfold zmb;by_cases k1:x.kind=1\/x.kind=2
 ·rw[if_pos k1];rw[zib,if_pos k1]at hk;obtain⟨g,g1,g2⟩:=meetK_st hk;obtain⟨o,ho⟩:∃o,x.outs=[o]:=by
   have:=o1.k12 k1
   match hx:x.outs,this with
   | [a],_=>exact⟨a,rfl⟩
  have hc:zb x=false:=by
   rw[zia (by omega) (by omega)];simp only[yK,decide_eq_false_iff_not];omega
  intro w' e;cases e;refine⟨fun _=>⟨?_,?_,?_⟩,fun h=>absurd h (by decide),fun h=>absurd h (by decide),fun h=>absurd h (by decide)⟩
  ·refine Hold.env (ns:=[x.n]) ?_ (by rw[ho];rfl) hO.nd (by rw[hv];exact o1.outs);rw[ho]at g1 ⊢;intro i s n h1 h2;cases i with
   |succ i=>cases h1
   |zero=>
    cases h1;cases h2;refine⟨g,g1,fun z hz=>?_⟩;rcases g2 with g2|g2
    ·rw[g2]at hz;cases hz;rfl
    ·rw[g2]at hz;cases hz
  ·rw[passN_eq,if_neg (by omega),if_neg (by omega),hc];simp
  ·rw[zib,if_pos k1]
 rw[if_neg k1];by_cases k2:12<=x.kind/\x.kind<=15
 ·rw[if_pos k2];have ha:=zSb (by omega) (by omega) hr;intro w' e;cases e;refine⟨fun h=>by simp only at h;omega,fun h=>?_,fun h=>?_,fun h=>?_⟩<;>simp only at h ⊢
  ·rw[zib,if_neg k1,if_neg (by omega),if_neg (by omega),if_neg (by omega),if_pos h]at hk;exact meetsK_st hh.1 hk he ha
  ·rw[zib,if_neg k1,if_neg (by omega),if_neg (by omega),if_neg (by omega),if_neg (by omega),if_pos h]at hk;exact meetsK_st hh.2.1 hk he ha
  ·rw[zib,if_neg k1,if_neg (by omega),if_neg (by omega),if_neg (by omega),if_neg (by omega),if_neg (by omega),if_pos h]at hk;refine⟨meetsK_st hh.2.2 hk he ha,?_⟩;rw[lvN_eq,h];rfl
 rw[if_neg k2];by_cases k10:x.kind=10
 ·rw[if_pos k10];exact choiceW_fs H Ho Hf S k10 hok hr hl hs hh hk he hv
 rw[if_neg k10];by_cases k11:x.kind=11
 ·rw[if_pos k11];have hkid:=zqf (o1.k11 k11).2;have hpl:plIn p x.kind x.outs x.params=⟨none,some x.params.length,some x.outs.length⟩:=by rw[k11];rfl
  rw[hpl,hkid]at o2;have hk0:=hk;rw[zib,if_neg (by omega),if_neg (by omega),if_neg (by omega),if_pos k11,hkid]at hk0;obtain⟨s0,s1⟩:=loopK_st o2 o1.outs o1.prs hk0;obtain⟨q1,_⟩:=loop_parts hl k11 hr;exact loopW_fs H Ho Hf k11 hok hr hl hs hh hk _ _ v S he hv (meetsK_st o1.prs s0 he q1) (by rw[zKc];exact(o1.k11 k11).1)
 rw[if_neg k11];have hkk:3<=x.kind/\x.kind<=9:=by omega
 have ha:=zSb k10 k11 hr;have hP:=plainW_ok Ho hU o1 hkk (zKc v x.args) (zq S);have hc:zb x=false:=by
  rw[zia (by omega) (by omega)];simp only[yK,decide_eq_false_iff_not];omega
 have hpass:passN F x=true/\(zsb x h (F,false)).2=true:=by
  refine⟨by rw[passN_eq,if_neg k10,if_neg k11,hc];simp,?_⟩;rw[zib,if_neg k1];by_cases k34:x.kind=3\/x.kind=4
  ·rw[if_pos k34]
  ·rw[if_neg k34,if_neg k10,if_neg k11,if_neg (by omega),if_neg (by omega),if_neg (by omega),hc];rfl
 have hold:∀n S1,zoa u ev x (ofW v x.args) (zq S)=(.ok n,S1)->Hold F x.outs n:=by
  intro n S1 hq;by_cases k34:x.kind=3\/x.kind=4
  ·rw[zib,if_neg k1,if_pos k34]at hk;obtain⟨g,g1,g2⟩:=meetK_st hk;obtain⟨o,ho⟩:∃o,x.outs=[o]:=by
    have:x.outs.length=1:=by rcases k34 with k|k;exact(o1.k3 k).2;exact(o1.k4 k).2
    match hx:x.outs,this with
    | [a],_=>exact⟨a,rfl⟩
   rw[ho]at g1 ⊢;intro i s y h1 h2;cases i with
   |succ i=>cases h1
   |zero=>
    cases h1;refine⟨g,g1,fun z hz=>?_⟩;rcases g2 with g2|g2
    ·rw[g2]at hz;unfold madeK at hz;split at hz
     ·cases hz
     ·rename_i c0;cases hn0:numK F (at0 x.args 0)with
      |mk z0 b0=>
       simp only[hn0]at c0 hz;cases b0 with
       |false=>exact absurd rfl c0
       |true=>
        unfold zoa at hq;split at hz
        ·rename_i c3;have hz':one x.op z0=z:=by simpa using hz
         obtain⟨a0,ea⟩:∃a0,x.args=[a0]:=by
          have:=(o1.k3 c3).1
          match hx:x.args,this with
          | [a],_=>exact⟨a,rfl⟩
         have hv0:=he.num (ha a0 (by rw[ea];simp)) (by rw[ea]at hn0;exact hn0);rw[if_pos c3,ea]at hq;have hq1: [oneC x.op (at0 v a0)]=n:=by
          have:=congrArg yUa hq;simpa[ofW,atA]using this
         rw[<-hq1,hv0]at h2;have:oneC x.op z0=y:=by simpa using h2
         rw[<-this,<-hz',one_eqC]
        ·rename_i c3;have c4:x.kind=4:=k34.resolve_left c3;split at hz
         ·cases hz
         ·rename_i c1;cases hn1:numK F (at0 x.args 1)with
          |mk z1 b1=>
           simp only[hn1]at c1 hz;cases b1 with
           |false=>exact absurd rfl c1
           |true=>
            obtain⟨a0,a1,ea⟩:∃a0 a1,x.args=[a0,a1]:=by
             have:=(o1.k4 c4).1
             match hx:x.args,this with
             | [a,b],_=>exact⟨a,b,rfl⟩
            have hv0:=he.num (ha a0 (by rw[ea];simp)) (by rw[ea]at hn0;exact hn0);have hv1:=he.num (ha a1 (by rw[ea];simp)) (by rw[ea]at hn1;exact hn1);split at hz
            ·rename_i c5;have hz':(two x.op z0 z1).1=z:=by simpa using hz
             rw[if_neg c3,if_pos c4,ea]at hq;have e0:atA (ofW v [a0,a1]) 0=z0:=hv0;have e1:atA (ofW v [a0,a1]) 1=z1:=hv1;rw[e0,e1,<-two_eqC,if_pos c5]at hq;have hq1:=congrArg yUa hq;have hq2: [(two x.op z0 z1).1]=n:=by simpa using hq1
             rw[<-hq2]at h2;have:(two x.op z0 z1).1=y:=by simpa using h2
             rw[<-this,hz']
            ·cases hz
    ·rw[g2]at hz;cases hz
  ·rw[zib,if_neg k1,if_neg k34,if_neg k10,if_neg k11,if_neg (by omega),if_neg (by omega),if_neg (by omega)]at hk;refine Hold.none (fun s hs=>?_);have:=foldl_st (m:=f.types.length) (fun S v=>zod S v Option.none) x.outs (fun S o ho=>meetK_up S (o1.outs o ho) Option.none) hk s hs;obtain⟨g,g1,g2⟩:=meetK_st this;exact⟨g,g1,by rcases g2 with g2|g2<;>exact g2⟩
 generalize zoa u ev x (ofW v x.args) (zq S)=q at*;obtain⟨a,S1⟩:=q;cases a with
 |stop j=>intro w' e;cases e
 |ok l=>
  intro w' e;cases e;refine⟨fun _=>⟨?_,hpass⟩,fun h=>absurd h (by decide),fun h=>absurd h (by decide),fun h=>absurd h (by decide)⟩;exact(hold l S1 rfl).env (hP.2 l rfl).symm hO.nd (by rw[hv];exact o1.outs)
end
theorem evN_fs{u:Unt}{f:Flow}{F:zA}(hU:OkU u):∀w,EvFs u f F (evN u w)
 |0=>by
  intro x p seen w deep Z h v S _ _ _ _ _ _ _ _ w' e;cases e
 |i+1=>by
  intro x p seen w deep Z h v S h1 h2 h3 h4 h5 h6 h7 h8;rw[evN];dsimp only;split
  ·intro w' e;cases e
  ·exact nodeW_fs (evN_fs hU i) (zic hU i) (evN_fr u i) i _ hU h1 h2 h3 h4 h5 h6 h7 h8
theorem roundsK_lev{u:Unt}{m:Nat}{p:Pl}{l:List Node}(hl:okL u m p l)(v:Int):∀(w:Nat) (F:zA),lev (zHc l w F) v<=lev F v
 |0,F=>by rw[zHc];exact yg _
 |w+1,F=>by
  have hu:=zCd l p hd0 (F,false) hl (hd0_r m);have h1:=hu.le v;rw[zHc];split
  ·exact yta (roundsK_lev hl v w _) h1
  ·exact h1
theorem study_begin{u:Unt}{f:Flow}{p:Pl}(hl:okL u f.types.length p f.body):zta f.body hd0 (zPa f,false)=(zPa f,false)/\∀v,EnvF (zPa f) (zIa f.params.toNat) v:=by
 refine⟨roundsK_fix hl _ _ (by have:=levs_bound f.types.length (zWb f.params.toNat);omega),fun v s hs=>?_⟩;have h:=roundsK_lev hl s (2*f.types.length+1) (zWb f.params.toNat);have h0:lev (zWb f.params.toNat) s=0:=by
  simp only[zIa,yka,yya]at hs;obtain⟨i,hi,rfl⟩:=hs;unfold lev;rw[getA_first];rw[if_pos (by omega)]
 have h1:lev (zPa f) s=0:=by
  have:lev (zPa f) s<=0:=by rw[<-h0];exact h
  omega
 unfold lev at h1;cases hg:getA (zPa f) s with
 |none=>rw[hg]at h1;cases h1
 |some g=>
  rw[hg]at h1;cases g with
  |none=>exact⟨none,rfl,fun z hz=>by cases hz⟩
  |some z=>cases h1
structure Gw(S S1:RS):Prop where
 out:∃x,S1.out=S.out++x
 cost:S.cost<=S1.cost
 sum:S1.cost+S1.fuel<=S.cost+S.fuel
def Low(S:RS):Prop:=0<=S.cost/\S.cost+S.fuel<=1000000000000
theorem Gw.refl(S:RS):Gw S S:=⟨⟨[],by simp⟩,yQa _,yQa _⟩
theorem Gw.trans{a b c:RS}(h:Gw a b)(k:Gw b c):Gw a c:=by
 obtain⟨⟨x,h1⟩,h2,h3⟩:=h;obtain⟨⟨y,k1⟩,k2,k3⟩:=k;exact⟨⟨x++y,by rw[k1,h1];simp⟩,by omega,by omega⟩
theorem Gw.low{a b:RS}(h:Gw a b)(hl:Low a):Low b:=by
 obtain⟨h1,h2⟩:=hl;have h3:=h.2;have h4:=h.3;exact⟨by omega,by omega⟩
def EvG(ev:NEv):Prop:=∀n v S,Low S->Gw S (ev n v S).2.2
section
variable {ev:NEv} (H:EvG ev)
include H
theorem listW_G:∀(l:List Node) (v:List Int) (S:RS),Low S->Gw S (zB ev l v S).2.2
 | [],v,S,hl=>Gw.refl _
 |n::r,v,S,hl=>by
  have h:=H n v S hl;have ih:=fun v S=>listW_G r v S
  unfold zB;generalize ev n v S=q at*;obtain⟨a,v1,S1⟩:=q;cases a with
  |stop k=>exact h
  |ok w=>
   simp only;split
   ·exact h.trans (ih v1 S1 (h.low hl))
   ·exact h
theorem callW_G(f:Flow)(l:List Int)(S:RS)(hl:Low S):Gw S (zRc ev f l S).2:=by
 have h:=listW_G H f.body (l++yf (f.types.length-l.length) 0) S hl;unfold zRc;generalize zB ev f.body (l++yf (f.types.length-l.length) 0) S=q at*;obtain⟨a,v1,S1⟩:=q;cases a<;>exact h
theorem plainW_G(u:Unt)(n:Node)(l:List Int)(S:RS)(hl:Low S):Gw S (zoa u ev n l S).2:=by
 unfold zoa;by_cases k3:n.kind=3
 ·rw[if_pos k3];exact Gw.refl _
 rw[if_neg k3];by_cases k4:n.kind=4
 ·rw[if_pos k4];split<;>exact Gw.refl _
 rw[if_neg k4];by_cases k5:n.kind=5
 ·rw[if_pos k5];split<;>exact Gw.refl _
 rw[if_neg k5];by_cases k6:n.kind=6
 ·rw[if_pos k6];split
  ·rename_i S1 hp;unfold putAt at hp;split at hp
   ·cases hp
   ·rw[yN]at hp;obtain⟨row,hr,hp⟩:=hp;split at hp
    ·cases hp;exact⟨⟨[],by simp⟩,yQa _,yQa _⟩
    ·cases hp
  ·exact Gw.refl _
 rw[if_neg k6];by_cases k7:n.kind=7
 ·rw[if_pos k7];cases flowAt u n.name with
  |none=>exact Gw.refl _
  |some f=>
   simp only;have h:=callW_G H f l S hl;generalize zRc ev f l S=q at*;obtain⟨a,S1⟩:=q;cases a<;>exact h
 rw[if_neg k7];by_cases k8:n.kind=8
 ·rw[if_pos k8];cases hs:S.inp with
  |nil=>exact Gw.refl _
  |cons m r=>exact⟨⟨[],by simp⟩,yQa _,yQa _⟩
 rw[if_neg k8];by_cases k9:n.kind=9
 ·rw[if_pos k9];exact⟨⟨_,rfl⟩,yQa _,yQa _⟩
 rw[if_neg k9];exact Gw.refl _
theorem choiceW_G(n:Node)(c:Int)(v:List Int)(S:RS)(hl:Low S):Gw S (zUa ev n c v S).2.2:=by
 have h:=listW_G H (if c=0 then kid1 n else kid0 n) v S hl;unfold zUa;generalize zB ev (if c=0 then kid1 n else kid0 n) v S=q at*;obtain⟨a,v1,S1⟩:=q;cases a with
 |stop k=>exact h
 |ok w=>simp only;split<;>exact h
theorem loopW_G(n:Node):∀(k:Nat) (l v:List Int) (S:RS),Low S->Gw S (zTa ev n k l v S).2.2
 |0,l,v,S,hl=>Gw.refl _
 |k+1,l,v,S,hl=>by
  have h:=listW_G H (kid0 n) (setW v n.params l) S hl;have ih:=fun l v S=>loopW_G n k l v S
  unfold zTa;generalize zB ev (kid0 n) (setW v n.params l) S=q at*;obtain⟨a,v1,S1⟩:=q;cases a with
  |stop k=>exact h
  |ok w=>
   simp only;split
   ·exact h
   ·split
    ·exact h
    ·exact h.trans (ih _ _ _ (h.low hl))
theorem nodeW_G(u:Unt)(w:Nat)(n:Node)(v:List Int){S:RS}{k:Nat}(hf:S.fuel=k+1)(hl:Low S):Gw S (zmb u ev w n v {S with fuel:=k}).2.2:=by
 have hl1:Low {S with fuel:=k}:=⟨hl.1,by have:=hl.2;simp only;omega⟩
 have g1:Gw S {S with fuel:=k}:=⟨⟨[],by simp⟩,yQa _,by simp only;omega⟩
 unfold zmb;by_cases k1:n.kind=1\/n.kind=2
 ·rw[if_pos k1];exact g1
 rw[if_neg k1];by_cases k2:12<=n.kind/\n.kind<=15
 ·rw[if_pos k2];exact g1
 rw[if_neg k2];by_cases k10:n.kind=10
 ·rw[if_pos k10];exact g1.trans (choiceW_G H n _ v _ hl1)
 rw[if_neg k10];by_cases k11:n.kind=11
 ·rw[if_pos k11];exact g1.trans (loopW_G H n _ _ v _ hl1)
 rw[if_neg k11];have hw:yba .i64 (S.cost+1)=S.cost+1:=by
  have h1:=hl.1;have h2:=hl.2;rw[<-zY];exact zm (by omega) (by omega)
 have g2:Gw S (zq {S with fuel:=k}):=⟨⟨[],by simp[zq]⟩,by simp only[zq,hw];omega,by simp only[zq,hw];omega⟩
 have h:=plainW_G H u n (ofW v n.args) (zq {S with fuel:=k}) (g2.low hl);generalize zoa u ev n (ofW v n.args) (zq {S with fuel:=k})=q at*;obtain⟨a,S1⟩:=q;cases a<;>exact g2.trans h
end
theorem evN_G(u:Unt):∀w,EvG (evN u w)
 |0=>fun n v S _=>Gw.refl _
 |w+1=>fun n v S hl=>by
  simp only[evN];cases hf:S.fuel with
  |zero=>exact Gw.refl _
  |succ k=>exact nodeW_G (evN_G u w) u w n v hf hl
def plus(m:Nat)(S:RS):RS:={S with fuel:=S.fuel+m}
def Fol(S S1:RS):Prop:=(∃x,S1.out=S.out++x)/\S.cost<=S1.cost
theorem Fol.gw{a b c:RS}(h:Fol a b)(k:Gw b c):Fol a c:=by
 obtain⟨⟨x,h1⟩,h2⟩:=h;obtain⟨⟨y,k1⟩,k2,k3⟩:=k;exact⟨⟨x++y,by rw[k1,h1];simp⟩,by omega⟩
structure RelM{α:Type}(m:Nat)(q q':Rt α×List Int×RS):Prop where
 go:q.1= .stop 0->q.2.2.fuel=0/\Fol q.2.2 q'.2.2/\Low q'.2.2
 same:q.1≠ .stop 0->q'=(q.1,q.2.1,plus m q.2.2)
structure RelN{α:Type}(m:Nat)(q q':Rt α×RS):Prop where
 go:q.1= .stop 0->q.2.fuel=0/\Fol q.2 q'.2/\Low q'.2
 same:q.1≠ .stop 0->q'=(q.1,plus m q.2)
def EvM(u:Unt)(m B:Nat)(ev ev':NEv):Prop:=∀mm p x v S,okN u mm p x->v.length=mm->S.fuel<=B->Low (plus m S)->RelM m (ev x v S) (ev' x v (plus m S))
theorem RelM.rfl'{α:Type}{m:Nat}{a:Rt α}{v:List Int}{S:RS}(ha:a≠ .stop 0):RelM m (a,v,S) (a,v,plus m S):=⟨fun h=>absurd h ha,fun _=>rfl⟩
theorem RelN.rfl'{α:Type}{m:Nat}{a:Rt α}{S:RS}(ha:a≠ .stop 0):RelN m (a,S) (a,plus m S):=⟨fun h=>absurd h ha,fun _=>rfl⟩
theorem low_of{m:Nat}{S:RS}{q:RS}(h:Mono S q)(g:Gw S q)(hl:Low (plus m S)):Low (plus m q):=by
 obtain⟨h1,h2⟩:=hl;have h3:=g.2;have h4:=g.3;simp only[plus]at h1 h2;exact⟨by simp only[plus];omega,by simp only[plus];omega⟩
theorem low_un{m:Nat}{S:RS}(hl:Low (plus m S)):Low S:=⟨hl.1,by have:=hl.2;simp only[plus]at this;omega⟩
section
variable {u:Unt} {m B:Nat} {ev ev':NEv} (H:EvM u m B ev ev') (HO:EvOk u ev) (HG:EvG ev) (HG':EvG ev')
include H HO HG HG'
theorem listW_M{mm:Nat}{p:Pl}:∀(l:List Node) (v:List Int) (S:RS),okL u mm p l->v.length=mm->S.fuel<=B->Low (plus m S)->RelM m (zB ev l v S) (zB ev' l v (plus m S))
 | [],v,S,ho,hv,hb,hl=>RelM.rfl' (by simp)
 |n::r,v,S,ho,hv,hb,hl=>by
  rw[okL]at ho;have h:=H mm p n v S ho.1 hv hb hl;have h0:=HO mm p n v S ho.1 hv;have hg:=HG n v S (low_un hl);have ih:=fun v S=>listW_M r v S ho.2.2
  have gl:=fun v S=>listW_G HG' r v S
  unfold zB;generalize ev n v S=q at*;generalize ev' n v (plus m S)=q' at*;obtain⟨a,v1,S1⟩:=q;by_cases ha:a= .stop 0
  ·subst ha;obtain⟨g1,g2,g3⟩:=h.go rfl;obtain⟨a',v1',S1'⟩:=q';simp only at g1 g2 g3;refine⟨fun _=>⟨g1,?_,?_⟩,fun e=>absurd rfl e⟩
   ·cases a' with
    |stop k=>exact g2
    |ok w=>
     simp only;split
     ·exact g2.gw (gl _ _ g3)
     ·exact g2
   ·cases a' with
    |stop k=>exact g3
    |ok w=>
     simp only;split
     ·exact(gl _ _ g3).low g3
     ·exact g3
  ·rw[h.same ha];cases a with
   |stop k=>exact RelM.rfl' ha
   |ok w=>
    simp only;split
    ·exact ih v1 S1 h0.2.1 (by have:=h0.1.1;simp only at this;omega) (low_of h0.1 hg hl)
    ·exact RelM.rfl' (by simp)
theorem callW_M{f:Flow}(hb:okL u f.types.length ⟨none,none,none⟩ f.body){l:List Int}(hl:l.length<=f.types.length)(S:RS)(hB:S.fuel<=B)(hlo:Low (plus m S)):RelN m (zRc ev f l S) (zRc ev' f l (plus m S)):=by
 have h:=listW_M H HO HG HG' f.body (l++yf (f.types.length-l.length) 0) S hb (by simp;omega) hB hlo;unfold zRc;generalize zB ev f.body (l++yf (f.types.length-l.length) 0) S=q at*;generalize zB ev' f.body (l++yf (f.types.length-l.length) 0) (plus m S)=q' at*;obtain⟨a,v1,S1⟩:=q;by_cases ha:a= .stop 0
 ·subst ha;obtain⟨g1,g2,g3⟩:=h.go rfl;obtain⟨a',v1',S1'⟩:=q';exact⟨fun _=>⟨g1,by cases a'<;>exact g2,by cases a'<;>exact g3⟩,fun e=>absurd rfl e⟩
 ·rw[h.same ha];cases a with
  |stop k=>exact RelN.rfl' (by intro e;cases e;exact ha rfl)
  |ok w=>exact RelN.rfl' (by simp)
theorem plainW_M(hU:OkU u){mm:Nat}{p:Pl}{n:Node}(ho:okH u mm p n){l:List Int}(hl:l.length=n.args.length)(S:RS)(hB:S.fuel<=B)(hlo:Low (plus m S)):RelN m (zoa u ev n l S) (zoa u ev' n l (plus m S)):=by
 unfold zoa;by_cases k3:n.kind=3
 ·rw[if_pos k3,if_pos k3];exact RelN.rfl' (by simp)
 rw[if_neg k3,if_neg k3];by_cases k4:n.kind=4
 ·rw[if_pos k4,if_pos k4];split<;>exact RelN.rfl' (by simp)
 rw[if_neg k4,if_neg k4];by_cases k5:n.kind=5
 ·rw[if_pos k5,if_pos k5];have:cellAt u (plus m S) n.name (atA l 0)=cellAt u S n.name (atA l 0):=rfl;rw[this];split<;>exact RelN.rfl' (by simp)
 rw[if_neg k5,if_neg k5];by_cases k6:n.kind=6
 ·rw[if_pos k6,if_pos k6];have:putAt u (plus m S) n.name (atA l 0) (atA l 1)=(putAt u S n.name (atA l 0) (atA l 1)).map (plus m):=by
   unfold putAt;split
   ·rfl
   ·cases hr:S.arrs[(zFe u.arrays n.name).toNat]? with
    |none=>simp[plus,hr]
    |some row=>
     simp only[plus,hr,Option.bind_some];split<;>rfl
  rw[this];cases putAt u S n.name (atA l 0) (atA l 1)<;>exact RelN.rfl' (by simp)
 rw[if_neg k6,if_neg k6];by_cases k7:n.kind=7
 ·rw[if_pos k7,if_pos k7];obtain⟨g,hg,_,ha,hs⟩:=ho.k7 k7;rw[hg];simp only;have hgm:g∈u.flows:=yr hg;have h:=callW_M H HO HG HG' (hU.body g hgm).2 (l:=l) (by rw[hl,ha];simp[pars];omega) S hB hlo;generalize zRc ev g l S=q at*;generalize zRc ev' g l (plus m S)=q' at*;obtain⟨a,S1⟩:=q;by_cases ha:a= .stop 0
  ·subst ha;obtain⟨g1,g2,g3⟩:=h.go rfl;obtain⟨a',S1'⟩:=q';exact⟨fun _=>⟨g1,by cases a'<;>exact g2,by cases a'<;>exact g3⟩,fun e=>absurd rfl e⟩
  ·rw[h.same ha];cases a with
   |stop k=>exact RelN.rfl' (by intro e;cases e;exact ha rfl)
   |ok w=>exact RelN.rfl' (by simp)
 rw[if_neg k7,if_neg k7];by_cases k8:n.kind=8
 ·rw[if_pos k8,if_pos k8];have:(plus m S).inp=S.inp:=rfl;rw[this];cases S.inp<;>exact RelN.rfl' (by simp)
 rw[if_neg k8,if_neg k8];by_cases k9:n.kind=9
 ·rw[if_pos k9,if_pos k9];exact RelN.rfl' (by simp)
 rw[if_neg k9,if_neg k9];exact RelN.rfl' (by simp)
theorem choiceW_M{mm:Nat}{p:Pl}{n:Node}(ho:okN u mm p n)(hk:n.kind=10)(c:Int){v:List Int}(hv:v.length=mm)(S:RS)(hB:S.fuel<=B)(hlo:Low (plus m S)):RelM m (zUa ev n c v S) (zUa ev' n c v (plus m S)):=by
 rw[zhb]at ho;obtain⟨o1,o2⟩:=ho;have hkid:=kids_two (o1.k10 hk).2;have hmem:(if c=0 then kid1 n else kid0 n)∈n.kids:=by rw[hkid];split<;>simp
 obtain⟨h1,h2⟩:=zjb o2 _ hmem;have h:=listW_M H HO HG HG' _ v S h2 hv hB hlo;unfold zUa;generalize(if c=0 then kid1 n else kid0 n)=l at*;generalize zB ev l v S=q at*;generalize zB ev' l v (plus m S)=q' at*;obtain⟨a,v1,S1⟩:=q;by_cases ha:a= .stop 0
 ·subst ha;obtain⟨g1,g2,g3⟩:=h.go rfl;obtain⟨a',v1',S1'⟩:=q';refine⟨fun _=>⟨g1,?_,?_⟩,fun e=>absurd rfl e⟩
  ·cases a' with
   |stop k=>exact g2
   |ok w=>simp only;split<;>exact g2
  ·cases a' with
   |stop k=>exact g3
   |ok w=>simp only;split<;>exact g3
 ·rw[h.same ha];cases a with
  |stop k=>exact RelM.rfl' ha
  |ok w=>simp only;split<;>exact RelM.rfl' (by simp)
theorem loopW_M{mm:Nat}{p:Pl}{n:Node}(ho:okN u mm p n)(hk:n.kind=11):∀(k:Nat) {l v:List Int} (hl:l.length=n.params.length) (hv:v.length=mm) (S:RS) (hB:S.fuel<=B) (hlo:Low (plus m S)) (hK:S.fuel<k),RelM m (zTa ev n k l v S) (zTa ev' n (k+m) l v (plus m S))
 |0,l,v,hl,hv,S,hB,hlo,hK=>by omega
 |k+1,l,v,hl,hv,S,hB,hlo,hK=>by
  have ho':=ho;rw[zhb]at ho';obtain⟨o1,o2⟩:=ho';have hkid:=zqf (o1.k11 hk).2;have hp:plIn p n.kind n.outs n.params=⟨none,some n.params.length,some n.outs.length⟩:=by rw[hk];rfl
  rw[hp]at o2;have hmem:kid0 n∈n.kids:=by rw[hkid];simp
  obtain⟨h1,h2⟩:=zjb o2 _ hmem;have hok:=zpb HO _ (setW v n.params l) S h1 h2 (by rw[zDa];exact hv);have hg:=listW_G HG (kid0 n) (setW v n.params l) S (low_un hlo);have h:=listW_M H HO HG HG' _ (setW v n.params l) S h2 (by rw[zDa];exact hv) hB hlo;have ih:=fun l v hl hv S=>loopW_M ho hk k (l:=l) (v:=v) hl hv S
  have gl:=fun l v S=>loopW_G HG' n (k+m) l v S
  rw[show k+1+m=(k+m)+1 by omega];unfold zTa;generalize zB ev (kid0 n) (setW v n.params l) S=q at*;generalize zB ev' (kid0 n) (setW v n.params l) (plus m S)=q' at*;obtain⟨a,v1,S1⟩:=q;obtain⟨m1,m2,m3⟩:=hok;simp only at m1 m2 hg;by_cases ha:a= .stop 0
  ·subst ha;obtain⟨g1,g2,g3⟩:=h.go rfl;obtain⟨a',v1',S1'⟩:=q';simp only at g1 g2 g3;refine⟨fun _=>⟨g1,?_,?_⟩,fun e=>absurd rfl e⟩
   ·cases a' with
    |stop k=>exact g2
    |ok w=>
     simp only;split
     ·exact g2
     ·split
      ·exact g2
      ·exact g2.gw (gl _ _ _ g3)
   ·cases a' with
    |stop k=>exact g3
    |ok w=>
     simp only;split
     ·exact g3
     ·split
      ·exact g3
      ·exact(gl _ _ _ g3).low g3
  ·rw[h.same ha];cases a with
   |stop k=>exact RelM.rfl' ha
   |ok w=>
    obtain⟨g1,g3,g4,g5⟩:=m3 w rfl;simp only;simp only at g1;split
    ·exact RelM.rfl' (by simp)
    ·split
     ·exact RelM.rfl' (by simp)
     ·rename_i w5 w4;have hlen:w.l.length=n.params.length:=by
       rcases g3 with g3|g3|g3|g3
       ·cases g3.2
       ·have:=g3.2;simp at this;omega
       ·omega
       ·omega
      exact ih w.l v1 hlen m2 S1 (by omega) (low_of m1 hg hlo) (by omega)
theorem nodeW_M(hU:OkU u){mm:Nat}{p:Pl}{n:Node}(ho:okN u mm p n){v:List Int}(hv:v.length=mm)(w:Nat){S:RS}(hB:S.fuel<=B)(hw:S.fuel<=w)(hlo:Low (plus m S))(hlo1:Low (plus m (zq S))):
  RelM m (zmb u ev w n v S) (zmb u ev' (w+m) n v (plus m S)):=by
 have ho':=ho;rw[zhb]at ho';obtain⟨o1,o2⟩:=ho';unfold zmb;by_cases k1:n.kind=1\/n.kind=2
 ·rw[if_pos k1,if_pos k1];exact RelM.rfl' (by simp)
 rw[if_neg k1,if_neg k1];by_cases k2:12<=n.kind/\n.kind<=15
 ·rw[if_pos k2,if_pos k2];exact RelM.rfl' (by simp)
 rw[if_neg k2,if_neg k2];by_cases k10:n.kind=10
 ·rw[if_pos k10,if_pos k10];exact choiceW_M H HO HG HG' ho k10 _ hv S hB hlo
 rw[if_neg k10,if_neg k10];by_cases k11:n.kind=11
 ·rw[if_pos k11,if_pos k11];have:=loopW_M H HO HG HG' ho k11 (w+1) (l:=ofW v n.args) (by rw[zKc];exact(o1.k11 k11).1) hv S hB hlo (by omega);rw[show w+1+m=w+m+1 by omega]at this;exact this
 rw[if_neg k11,if_neg k11];have h:=plainW_M H HO HG HG' hU o1 (zKc v n.args) (zq S) hB hlo1;have he:zq (plus m S)=plus m (zq S):=rfl;rw[he];generalize zoa u ev n (ofW v n.args) (zq S)=q at*;generalize zoa u ev' n (ofW v n.args) (plus m (zq S))=q' at*;obtain⟨a,S1⟩:=q;by_cases ha:a= .stop 0
 ·subst ha;obtain⟨g1,g2,g3⟩:=h.go rfl;obtain⟨a',S1'⟩:=q';exact⟨fun _=>⟨g1,by cases a'<;>exact g2,by cases a'<;>exact g3⟩,fun e=>absurd rfl e⟩
 ·rw[h.same ha];cases a with
  |stop k=>exact RelM.rfl' (by intro e;cases e;exact ha rfl)
  |ok w=>exact RelM.rfl' (by simp)
end
theorem evN_M{u:Unt}(hU:OkU u)(m:Nat):∀w,EvM u m w (evN u w) (evN u (w+m))
 |0=>fun mm p x v S ho hv hB hl=>by
  have hg:=evN_G u (0+m) x v (plus m S) hl;refine⟨fun _=>⟨by simp only[evN];omega,⟨hg.1,hg.2⟩,hg.low hl⟩,fun e=>absurd rfl e⟩
 |w+1=>fun mm p x v S ho hv hB hl=>by
  rw[show w+1+m=(w+m)+1 by omega];have hg:=evN_G u (w+m+1) x v (plus m S) hl;cases hf:S.fuel with
  |zero=>
   refine⟨fun _=>⟨by simp only[evN,hf],?_,hg.low hl⟩,fun e=>?_⟩
   ·have:(evN u (w+1) x v S).2.2=S:=by simp only[evN,hf]
    rw[this];exact⟨hg.1,hg.2⟩
   ·simp only[evN,hf]at e;exact absurd rfl e
  |succ k=>
   have e1:evN u (w+1) x v S=zmb u (evN u w) w x v {S with fuel:=k}:=by simp only[evN,hf]
   have e2:evN u (w+m+1) x v (plus m S)=zmb u (evN u (w+m)) (w+m) x v (plus m {S with fuel:=k}):=by
    have:(plus m S).fuel=(k+m)+1:=by simp only[plus];omega
    simp only[evN,this];rfl
   rw[e1,e2];have hl1:Low (plus m {S with fuel:=k}):=⟨hl.1,by have:=hl.2;simp only[plus]at this ⊢;omega⟩
   have hw:yba .i64 (S.cost+1)=S.cost+1:=by
    have h1:=hl.1;have h2:=hl.2;simp only[plus]at h1 h2;rw[<-zY];exact zm (by omega) (by omega)
   refine nodeW_M (evN_M hU m w) (zic hU w) (evN_G u w) (evN_G u (w+m)) hU ho hv w (by simp only;omega) (by simp only;omega) hl1 ?_;have h1:=hl.1;have h2:=hl.2;simp only[plus]at h1 h2;exact⟨by simp only[plus,zq,hw];omega,by simp only[plus,zq,hw];omega⟩
mutual
def szN:Node->Nat
 |⟨k,o,n,s,a,us,ps,ks⟩=>1+szK ks
def szL:List Node->Nat
 | []=>0
 |x::r=>szN x+szL r
def szK:List (List Node)->Nat
 | []=>0
 |l::r=>szL l+szK r
end
theorem zNe(x:Node):szN x=1+szK x.kids:=by cases x;rw[szN]
section
variable {u:Unt} {f:Flow}
def Set'(Z:Set1)(D:List Int):Prop:=∀o∈D,atB Z o=true
theorem Set'.app{Z:Set1}{a b:List Int}(h:Set' Z a)(k:Set' Z b):Set' Z (a++b):=by
 intro o ho;rcases yh.1 ho with ho|ho
 ·exact h o ho
 ·exact k o ho
theorem Set'.up{Z Z1:Set1}{D:List Int}(h:Set' Z D)(hp:Pos D)(hz:ZS Z Z1):Set' Z1 D:=fun o ho=>hz o (hp o ho) (h o ho)
mutual
theorem nodeR_set:∀(x:Node) (seen:List Int) (w:Place) (deep:Int) (Z:Set1),Z.length=f.types.length->(zy u f x seen w deep Z).1=true->Set' (zy u f x seen w deep Z).2 (zKb x)
 |⟨k,o,n,s,a,us,ps,ks⟩,seen,w,deep,Z,hl,h=>by
  have ho:=(zUb hl h).set;have hall:=(nodeR_defs ⟨k,o,n,s,a,us,ps,ks⟩ seen w deep Z hl h).pos;simp only at ho;rw[zKb]at hall ⊢;refine Set'.app ho ?_;clear ho;rw[zy]at h ⊢;split at h
  ·cases h
  rename_i c0;rw[if_neg c0];have fin:∀{q:Bool×Set1},Set' q.2 (ps++zCc ks)->q.2.length=f.types.length->(endR f.types ⟨k,o,n,s,a,us,ps,ks⟩ q).1=true->Set' (endR f.types ⟨k,o,n,s,a,us,ps,ks⟩ q).2 (ps++zCc ks):=by
   intro q h1 h2 h3;obtain⟨e1,_⟩:=zZd h3;obtain⟨_,e3⟩:=zva h3;rw[e1];exact h1.up (fun o ho=>hall o (yva _ ho)) (zZa h2 e3)
  by_cases h10:k=10
  ·rw[if_pos h10]at h ⊢;split at h
   ·rename_i c1;rw[if_pos c1];obtain⟨e1,e2⟩:=zva h;obtain⟨k1,k2⟩:=zma ks _ _ _ Z hl e1;refine fin (Set'.app ?_ (kidsR_set ks _ _ _ Z hl e1)) k2 h;have hb:zca ⟨k,o,n,s,a,us,ps,ks⟩=true:=by simpa using c0
    simp only[zca,ya,yw,decide_eq_true_eq]at hb;have:=hb.1.2.resolve_left (by omega);rw[this];intro o ho;cases ho
   ·cases h
  rw[if_neg h10]at h ⊢;by_cases h11:k=11
  ·rw[if_pos h11]at h ⊢;split at h
   ·rename_i c1;rw[if_pos c1];split at h
    ·rename_i c2;rw[if_pos c2];obtain⟨e1,e2⟩:=zva h;have hl2:(zD f.types Z ps (zna ps.length)).2.length=f.types.length:=by rw[zfb];exact hl
     obtain⟨k1,k2⟩:=zma ks _ _ _ _ hl2 e1;refine fin (Set'.app ?_ (kidsR_set ks _ _ _ _ hl2 e1)) k2 h;have:=zAc hl c2;exact Set'.up this.set this.fresh.pos k1
    ·cases h
   ·cases h
  rw[if_neg h11]at h ⊢;obtain⟨b1,b2⟩:=bare_simple (x:=⟨k,o,n,s,a,us,ps,ks⟩) (by simpa using c0) h10 h11;simp only at b1 b2;rw[b1,b2,zCc];intro o ho;cases ho
theorem kidsR_set:∀(ks:List (List Node)) (seen:List Int) (w:Place) (deep:Int) (Z:Set1),Z.length=f.types.length->(zH u f ks seen w deep Z).1=true->Set' (zH u f ks seen w deep Z).2 (zCc ks)
 | [],seen,w,deep,Z,hl,h=>by rw[zCc];intro o ho;cases ho
 |l::r,seen,w,deep,Z,hl,h=>by
  have hall:=(zMd (l::r) seen w deep Z hl h).pos;rw[zH]at h ⊢;rw[zCc]at hall ⊢;split at h
  ·rename_i c;rw[if_pos c];have c':=zab c;obtain⟨h1,h2⟩:=zvc l seen w deep Z hl c';have e:(zNa l (goR u f l seen w deep Z)).2=(goR u f l seen w deep Z).2:=by unfold zNa;rw[if_pos c']
   rw[e]at h ⊢;obtain⟨h3,h4⟩:=zma r seen w deep _ h2 h;exact Set'.app ((goR_set l seen w deep Z hl c').up (fun o ho=>hall o (yma _ ho)) h3) (kidsR_set r seen w deep _ h2 h)
  ·cases h
theorem goR_set:∀(l:List Node) (seen:List Int) (w:Place) (deep:Int) (Z:Set1),Z.length=f.types.length->(goR u f l seen w deep Z).1=true->Set' (goR u f l seen w deep Z).2 (zAa l)
 | [],seen,w,deep,Z,hl,h=>by rw[zAa];intro o ho;cases ho
 |x::r,seen,w,deep,Z,hl,h=>by
  have hall:=(goR_defs (x::r) seen w deep Z hl h).pos;rw[goR]at h ⊢;rw[zAa]at hall ⊢;split at h
  ·cases h
  rename_i c0;rw[if_neg c0];split at h
  ·rename_i c1;rw[if_pos c1];obtain⟨h1,h2⟩:=zZc x seen w deep Z hl c1;split at h
   ·rename_i c2;rw[if_pos c2];obtain⟨h3,h4⟩:=zvc r _ w deep _ h2 h;exact Set'.app ((nodeR_set x seen w deep Z hl c1).up (fun o ho=>hall o (yma _ ho)) h3) (goR_set r _ w deep _ h2 h)
   ·cases h
  ·cases h
end
end
theorem takenW_T{us:List Int}{q:List Node×Tos}{s:Int}(h:s ∉ us):getA (zAb us q).2 s=getA q.2 s:=by
 unfold zAb;split
 ·split
  ·exact zYe us _ q.2 s h
  ·rfl
 ·rfl
mutual
theorem wrN_T(F:zA):∀(x:Node) (T:Tos) (s:Int),s ∉ zKb x->getA (wrN F x T).2 s=getA T s
 |⟨k,o,n,c,a,us,ps,ks⟩,T,s,h=>by
  rw[zKb]at h;simp only[yh,not_or]at h;rw[wrN];split
  ·rfl
  split
  ·split
   ·rw[takenW_T h.1];exact wrPick_T F ks _ T s h.2.2
   ·exact wrKs_T F ks T s h.2.2
  split
  ·exact wrKs_T F ks T s h.2.2
  ·rfl
theorem wrGo_T(F:zA):∀(l:List Node) (T:Tos) (s:Int),s ∉ zAa l->getA (wrGo F l T).2 s=getA T s
 | [],T,s,h=>by rw[wrGo]
 |x::r,T,s,h=>by
  rw[zAa]at h;simp only[yh,not_or]at h;rw[wrGo];split
  ·exact wrN_T F x T s h.1
  ·simp only;rw[wrGo_T F r _ s h.2];exact wrN_T F x T s h.1
theorem wrKs_T(F:zA):∀(l:List (List Node)) (T:Tos) (s:Int),s ∉ zCc l->getA (wrKs F l T).2 s=getA T s
 | [],T,s,h=>by rw[wrKs]
 |x::r,T,s,h=>by
  rw[zCc]at h;simp only[yh,not_or]at h;rw[wrKs];simp only;rw[wrKs_T F r _ s h.2];exact wrGo_T F x T s h.1
theorem wrPick_T(F:zA):∀(l:List (List Node)) (b:Bool) (T:Tos) (s:Int),s ∉ zCc l->getA (zwa F l b T).2 s=getA T s
 | [],b,T,s,h=>by rw[zwa]
 |x::r,b,T,s,h=>by
  rw[zCc]at h;simp only[yh,not_or]at h;rw[zwa];split
  ·exact wrGo_T F x T s h.1
  ·exact wrPick_T F r true T s h.2
end
theorem Keys.part{T T1:Tos}{Z Z1:Set1}{D:List Int}(h:Keys T Z)(hz:ZS Z Z1)(hp:Pos D)(hs:Set' Z1 D)(hT:∀s,s ∉ D->getA T1 s=getA T s):Keys T1 Z1:=by
 intro s hn;by_cases hd:s∈D
 ·exact⟨hp s hd,hs s hd⟩
 ·rw[hT s hd]at hn;have:=h s hn;exact⟨this.1,hz s this.1 this.2⟩
theorem Keys.none{T:Tos}{Z:Set1}(h:Keys T Z){o:Int}(ho:atB Z o=false):sg T o=o:=by
 unfold sg;cases hg:getA T o with
 |none=>rfl
 |some a=>
  have:=(h o (by rw[hg];simp)).2;rw[ho]at this;cases this
theorem sg_same{T T1:Tos}{Z:Set1}{D:List Int}(hn:New Z D)(hT:∀s,s ∉ D->getA T1 s=getA T s){s:Int}(hs:atB Z s=true):sg T1 s=sg T s:=by
 unfold sg;rw[hT s (fun hm=>by have:=(hn s hm).2;rw[hs]at this;cases this)]
theorem valW_sg(T:Tos)(l:List Int):valW T l=l.map (sg T):=rfl
theorem zUe(ev:NEv):∀(a b:List Node) (v:List Int) (S:RS) (w:Wy) (v1:List Int) (S1:RS),zB ev a v S=(.ok w,v1,S1)->w.kind=0->zB ev (a++b) v S=zB ev b v1 S1
 | [],b,v,S,w,v1,S1,h,hw=>by
  rw[zB]at h;simp only[Prod.mk.injEq]at h;obtain⟨_,rfl,rfl⟩:=h;rfl
 |x::r,b,v,S,w,v1,S1,h,hw=>by
  rw[yI,zB];rw[zB]at h;cases hx:ev x v S with
  |mk q1 q2=>
   obtain⟨v2,S2⟩:=q2;rw[hx]at h;cases q1 with
   |stop k=>simp at h
   |ok w2=>
    simp only at h ⊢;by_cases h2:w2.kind=0
    ·rw[if_pos h2]at h ⊢;exact zUe ev r b v2 S2 w v1 S1 h hw
    ·rw[if_neg h2]at h;simp only[Prod.mk.injEq,Rt.ok.injEq]at h;exact absurd (h.1 ▸ hw) h2
def Ends:Rt Wy->Prop
 | .ok w=>w.kind≠0
 | .stop _=>True
theorem listW_app1(ev:NEv):∀(a b:List Node) (v:List Int) (S:RS),Ends (zB ev a v S).1->zB ev (a++b) v S=zB ev a v S
 | [],b,v,S,h=>by rw[zB]at h;exact absurd rfl h
 |x::r,b,v,S,h=>by
  rw[yI,zB,zB];rw[zB]at h;cases hx:ev x v S with
  |mk q1 q2=>
   obtain⟨v2,S2⟩:=q2;rw[hx]at h;cases q1 with
   |stop k=>rfl
   |ok w2=>
    simp only at h ⊢;by_cases h2:w2.kind=0
    ·rw[if_pos h2]at h ⊢;rw[if_pos h2];exact listW_app1 ev r b v2 S2 h
    ·rw[if_neg h2,if_neg h2]
theorem listW_dry(u:Unt)(i:Nat)(y:Node)(r:List Node)(v:List Int){S:RS}(h:S.fuel=0):zB (evN u i) (y::r) v S=(.stop 0,v,S):=by
 rw[zB];cases i with
 |zero=>rfl
 |succ i=>
  have:evN u (i+1) y v S=(.stop 0,v,S):=by
   rw[evN];simp only[h]
  rw[this]
theorem choiceW_outs{ev:NEv}{x:Node}{c:Int}{v:List Int}{S:RS}(h:Ends (zUa ev x c v S).1):zUa ev {x with outs:=[]} c v S=zUa ev x c v S:=by
 have e0:kid0 {x with outs:=[]}=kid0 x:=rfl;have e1:kid1 {x with outs:=[]}=kid1 x:=rfl;unfold zUa at h ⊢;rw[e0,e1];generalize zB ev (if c=0 then kid1 x else kid0 x) v S=q at*;obtain⟨a,v1,S1⟩:=q;cases a with
 |stop k=>rfl
 |ok w=>
  simp only at h ⊢;by_cases hw:w.kind=12
  ·rw[if_pos hw]at h;exact absurd rfl h
  ·rw[if_neg hw,if_neg hw]
theorem loopW_outs{ev:NEv}{x:Node}:∀(k:Nat) (l v:List Int) (S:RS),Ends (zTa ev x k l v S).1->zTa ev {x with outs:=[]} k l v S=zTa ev x k l v S
 |0,l,v,S,h=>rfl
 |k+1,l,v,S,h=>by
  have e0:kid0 {x with outs:=[]}=kid0 x:=rfl;unfold zTa at h ⊢;rw[e0];simp only;generalize zB ev (kid0 x) (setW v x.params l) S=q at*;obtain⟨a,v1,S1⟩:=q;cases a with
  |stop k=>rfl
  |ok w=>
   simp only at h ⊢;by_cases hw:w.kind=15
   ·rw[if_pos hw,if_pos hw]
   ·rw[if_neg hw]at h;rw[if_neg hw,if_neg hw];by_cases hw4:w.kind=14
    ·rw[if_pos hw4]at h;exact absurd rfl h
    ·rw[if_neg hw4]at h;rw[if_neg hw4,if_neg hw4];exact loopW_outs k w.l v1 S1 h
theorem ev_outs{u:Unt}{x:Node}(hc:zb x=true):∀(i:Nat) (v:List Int) (S:RS),Ends (evN u i x v S).1->evN u i {x with outs:=[]} v S=evN u i x v S
 |0,v,S,h=>rfl
 |i+1,v,S,h=>by
  rw[evN]at h ⊢;dsimp only at h ⊢;split
  ·rfl
  ·rename_i k hk;rw[hk]at h;simp only at h;have hx:x.kind=10\/x.kind=11\/(12<=x.kind/\x.kind<=15):=by
    by_cases h10:x.kind=10
    ·exact .inl h10
    by_cases h11:x.kind=11
    ·exact .inr (.inl h11)
    rw[zia h10 h11]at hc;simp only[ya,decide_eq_true_eq]at hc;exact .inr (.inr hc)
   unfold zmb at h ⊢;simp only;rcases hx with hx|hx|hx
   ·rw[if_neg (by omega),if_neg (by omega),if_pos hx]at h;rw[if_neg (by omega),if_neg (by omega),if_pos hx,if_neg (by omega),if_neg (by omega),if_pos hx];exact choiceW_outs h
   ·rw[if_neg (by omega),if_neg (by omega),if_neg (by omega),if_pos hx]at h;rw[if_neg (by omega),if_neg (by omega),if_neg (by omega),if_pos hx,if_neg (by omega),if_neg (by omega),if_neg (by omega),if_pos hx];exact loopW_outs _ _ _ _ h
   ·rw[if_neg (by omega),if_pos hx,if_neg (by omega),if_pos hx]
theorem list_outs{u:Unt}{x:Node}(hc:zb x=true)(i:Nat):∀(d:List Node) (v:List Int) (S:RS),Ends (zB (evN u i) (d++[x]) v S).1->zB (evN u i) (d++[{x with outs:=[]}]) v S=zB (evN u i) (d++[x]) v S
 | [],v,S,h=>by
  rw[yqa,yqa,zB,zB];rw[yqa,zB]at h;have he:Ends (evN u i x v S).1:=by
   cases hx:evN u i x v S with
   |mk q1 q2=>
    obtain⟨v2,S2⟩:=q2;rw[hx]at h;cases q1 with
    |stop k=>trivial
    |ok w2=>
     simp only at h ⊢;intro hw;rw[if_pos hw,zB]at h;exact absurd rfl h
  rw[ev_outs hc i v S he]
 |y::d,v,S,h=>by
  rw[yI,yI,zB,zB];rw[yI,zB]at h;cases hx:evN u i y v S with
  |mk q1 q2=>
   obtain⟨v2,S2⟩:=q2;rw[hx]at h;cases q1 with
   |stop k=>rfl
   |ok w2=>
    simp only at h ⊢;by_cases h2:w2.kind=0
    ·rw[if_pos h2]at h;rw[if_pos h2,if_pos h2];exact list_outs hc i d v2 S2 h
    ·rw[if_neg h2,if_neg h2]
theorem tidy_last{ns:List Node}(htd:∀y∈ns,Td y)(hop:∀y∈ns.dropLast,zb y=false)(hc:zn ns=true):∃d e,ns=d++[e]/\zb e=true/\zx ns=d++[{e with outs:=[]}]:=by
 rcases yz ns with h|⟨d,e,h⟩
 ·rw[h]at hc;cases hc
 ·rw[yC]at h;subst h;have he:zb e=true:=by simpa[zn]using hc
  refine⟨d,e,rfl,he,?_⟩;rw[yia]at hop;rw[tidyL_td d [e] (fun y hy=>⟨htd y (by simp[hy]),hop y hy⟩)];have:zx [e]=[zzb e]:=by rw[zx];split<;>rfl
  rw[this,tidyN_td (htd e (by simp)),if_pos he]
theorem tidy_run{u:Unt}{i:Nat}{ns:List Node}(htd:∀y∈ns,Td y)(hop:∀y∈ns.dropLast,zb y=false)(hc:zn ns=true){v:List Int}{S:RS}(h:Ends (zB (evN u i) ns v S).1):
  zB (evN u i) (zx ns) v S=zB (evN u i) ns v S:=by
 obtain⟨d,e,rfl,he,ht⟩:=tidy_last htd hop hc;rw[ht];exact list_outs he i d v S h
theorem lastClosed_no{ns:List Node}(hop:∀y∈ns.dropLast,zb y=false)(hc:zn ns=false):∀y∈ns,zb y=false:=by
 rcases yz ns with h|⟨d,e,h⟩
 ·rw[h];intro y hy;cases hy
 ·rw[yC]at h;subst h;rw[yia]at hop;have he:zb e=false:=by simpa[zn]using hc
  intro y hy;rcases yh.1 hy with hy|hy
  ·exact hop y hy
  ·simp at hy;rw[hy];exact he
theorem wrPick_is(F:zA):∀(ks:List (List Node)) (b:Bool) (T:Tos),∃ns,(zwa F ks b T).1=zx ns
 | [],b,T=>⟨[],by rw[zwa];rfl⟩
 |l::r,b,T=>by
  rw[zwa];split
  ·exact⟨_,rfl⟩
  ·exact wrPick_is F r true T
theorem wrN_td{F:zA}{x:Node}{T:Tos}(hk:x.kind≠10->x.kind≠11->x.kids=[]):(∀y∈(wrN F x T).1,Td y)/\∀y∈(wrN F x T).1.dropLast,zb y=false:=by
 rw[wrN_eq];have one:∀y:Node,Td y->(∀z∈[y],Td z)/\∀z∈[y].dropLast,zb z=false:=by
  intro y hy;refine⟨fun z hz=>?_,fun z hz=>by cases hz⟩;simp at hz;rw[hz];exact hy
 split
 ·rename_i c;refine one _ ?_;have h0:=hk (by omega) (by omega);unfold sumW;split
  ·rfl
  ·unfold Td;rw[h0];rfl
 split
 ·split
  ·obtain⟨ns,e⟩:=wrPick_is F x.kids (decide ((numK F (at0 x.args 0)).1≠0)) T;have ht:∀z∈zx ns,Td z:=fun z hz=>td_tidy hz
   have hi:=zJd ns;unfold zAb;rw[e];split
   ·split
    ·exact⟨fun z hz=>ht z (List.dropLast_subset _ hz),fun z hz=>hi z (List.dropLast_subset _ hz)⟩
    ·rw[e];exact⟨ht,hi⟩
   ·rw[e];exact⟨ht,hi⟩
  ·exact one _ (wrKs_td F x.kids T)
 split
 ·exact one _ (wrKs_td F x.kids T)
 ·rename_i c1 c2 c3;refine one _ ?_;unfold Td;rw[hk c2 c3];rfl
structure RS2(S S':RS):Prop where
 inp:S'.inp=S.inp
 arrs:S'.arrs=S.arrs
 out:S'.out=S.out
 c0:0<=S'.cost
 c1:S'.cost<=S.cost
structure Done(u':Unt)(K:Nat)(ns:List Node)(v':List Int)(S':RS)(a sz ex:Nat)(R:RS)(b:Rt Wy)(v1':List Int)(S1':RS)(c:Nat):Prop where
 st:RS2 R S1'
 le:c+R.fuel<=a
 ge:a+ex<=R.fuel+sz+K*c
 run:∀i e,c+e<=i->zB (evN u' i) ns v' {S' with fuel:=c+e}=(b,v1',{S1' with fuel:=e})
def Dry(u':Unt)(K:Nat)(ns:List Node)(v':List Int)(S':RS)(a sz:Nat)(R:RS)(op:Prop):Prop:=
 R.fuel=0/\∃c,c<=a/\a<=sz+K*c/\∀i,c<=i->∃b v1' S1',zB (evN u' i) ns v' {S' with fuel:=c}=(b,v1',S1')/\S1'.fuel=0/\S1'.out=R.out/\0<=S1'.cost/\S1'.cost<=R.cost/\(b= .stop 0\/(op/\∃w,b= .ok w/\w.kind=0))
structure SimN(u':Unt)(K:Nat)(F:zA)(x:Node)(T:Tos)(Z1:Set1)(v':List Int)(S':RS)(a:Nat)(R:Rt Wy×List Int×RS):Prop where
 go:∀w,R.1= .ok w->w.kind=0->zn (wrN F x T).1=false/\∃w' v1' S1' c,w'.kind=0/\Done u' K (wrN F x T).1 v' S' a (szN x) 0 R.2.2 (.ok w') v1' S1' c/\v1'.length=v'.length∧
  ∀o∈x.outs,at0 v1' (sg (wrN F x T).2 o)=at0 R.2.1 o/\0<=sg (wrN F x T).2 o/\atB Z1 (sg (wrN F x T).2 o)=true
 fin:∀w,R.1= .ok w->w.kind≠0->∃v1' S1' c,Done u' K (wrN F x T).1 v' S' a (szN x) K R.2.2 (.ok w) v1' S1' c/\v1'.length=v'.length∧
  (w.kind=12->(wrN F x T).1=[{x with args:=valW T x.args}]/\x.kind=12/\v1'=v'/\S1'={S' with fuel:=0}/\a=R.2.2.fuel+1/\w.l=ofW v' (valW T x.args))/\(w.kind=14->zu (wrN F x T).1=true)
 trap:∀k,R.1= .stop k->k≠0->∃v1' S1' c,Done u' K (wrN F x T).1 v' S' a (szN x) 0 R.2.2 (.stop k) v1' S1' c
 dry:R.1= .stop 0->Dry u' K (wrN F x T).1 v' S' a (szN x) R.2.2 (zn (wrN F x T).1=false/\zb x=false)
structure SimL(u':Unt)(K:Nat)(F:zA)(l:List Node)(T:Tos)(Z1:Set1)(v':List Int)(S':RS)(a:Nat)(R:Rt Wy×List Int×RS):Prop where
 fin:∀w,R.1= .ok w->∃v1' S1' c,Done u' K (zx (wrGo F l T).1) v' S' a (szL l) K R.2.2 (.ok w) v1' S1' c/\v1'.length=v'.length∧
  (w.kind=12->zF (zx (wrGo F l T).1)=true/\∃d e w0 c0,zx (wrGo F l T).1=d++[e]/\e.kind=12/\(∀q∈e.args,0<=q/\atB Z1 q=true)/\w.l=ofW v1' e.args/\w0.kind=0/\Done u' K d v' S' a (szL l) 0 R.2.2 (.ok w0) v1' S1' c0)/\(w.kind=14->zu (zx (wrGo F l T).1)=true)
 trap:∀k,R.1= .stop k->k≠0->∃v1' S1' c,Done u' K (zx (wrGo F l T).1) v' S' a (szL l) 0 R.2.2 (.stop k) v1' S1' c
 dry:R.1= .stop 0->Dry u' K (zx (wrGo F l T).1) v' S' a (szL l) R.2.2 False
structure Val(f:Flow)(F:zA)(seen:List Int)(Z:Set1)(T:Tos)(v v':List Int):Prop where
 zl:Z.length=f.types.length
 sl:SL seen Z
 ef:EnvF F seen v
 vl:v.length=f.types.length
 vl':v'.length=f.types.length
 ky:Keys T Z
 val:∀s∈seen,at0 v' (sg T s)=at0 v s
 tgt:∀s∈seen,0<=sg T s/\atB Z (sg T s)=true
theorem Val.args{f:Flow}{F:zA}{seen:List Int}{Z:Set1}{T:Tos}{v v':List Int}(h:Val f F seen Z T v v'){a:List Int}(ha:∀s∈a,s∈seen):ofW v' (valW T a)=ofW v a:=by
 rw[valW_sg];unfold ofW;rw[List.map_map];exact List.map_congr_left fun s hs=>h.val s (ha s hs)
def EvSim(u u':Unt)(f:Flow)(F:zA)(K A:Nat):Prop:=∀(i:Nat) (x:Node) (p:Pl) (seen:List Int) (w:Place) (deep:Int) (Z:Set1) (h:Hd) (T:Tos) (v v':List Int) (S S':RS),
 S.fuel<=A->S.fuel<=i->szN x<=K->okN u f.types.length p x->(zy u f x seen w deep Z).1=true->HdR f.types.length h->(zsb x h (F,false)).1=(F,false)->Val f F seen Z T v v'->RS2 S S'->Low S→
  SimN u' K F x T (zy u f x seen w deep Z).2 v' S' S.fuel (evN u i x v S)
theorem Done.fr{u':Unt}{K:Nat}{ns:List Node}{v':List Int}{S':RS}{a sz ex:Nat}{R:RS}{b:Rt Wy}{v1':List Int}{S1':RS}{c:Nat}(h:Done u' K ns v' S' a sz ex R b v1' S1' c)(hp:Pos (zAa ns)):Fr (zAa ns) v' v1':=by
 have h1:=listW_fr (evN_fr u' c) ns v' {S' with fuel:=c+0} hp;rw[h.run c 0 (by omega)]at h1;exact h1
theorem Val.step{f:Flow}{F:zA}{seen:List Int}{Z Z1:Set1}{T T1:Tos}{v v' v1 v1':List Int}{D us:List Int}(h:Val f F seen Z T v v')
  (hz:ZS Z Z1) (hl:Z1.length=f.types.length) (hD:New Z D) (hS:Set' Z1 D) (hT:∀s,s ∉ D->getA T1 s=getA T s) (hf:Fr D v v1) (hf':Fr D v' v1') (hv:v1.length=f.types.length) (hv':v1'.length=f.types.length)
  (hO:SL us Z1) (he:EnvF F us v1) (ho:∀o∈us,at0 v1' (sg T1 o)=at0 v1 o/\0<=sg T1 o/\atB Z1 (sg T1 o)=true):Val f F (seen++us) Z1 T1 v1 v1':=by
 refine⟨hl,(h.sl.up hz).app hO,(h.ef.fr (h.sl.fr hD hf)).app he,hv,hv',h.ky.part hz hD.pos hS hT,fun s hs=>?_,fun s hs=>?_⟩
 ·rcases yh.1 hs with hs|hs
  ·rw[sg_same hD hT (h.sl.at' s hs).2,hD.fr hf' _ (h.tgt s hs).1 (h.tgt s hs).2,h.val s hs,hD.fr hf s (h.sl.at' s hs).1 (h.sl.at' s hs).2]
  ·exact(ho s hs).1
 ·rcases yh.1 hs with hs|hs
  ·rw[sg_same hD hT (h.sl.at' s hs).2];exact⟨(h.tgt s hs).1,hz _ (h.tgt s hs).1 (h.tgt s hs).2⟩
  ·exact(ho s hs).2
theorem leaves_outs(e:Node):({e with outs:=[]}:Node).leaves=e.leaves:=by cases e;rfl
theorem leavesL_tidy{ns:List Node}(htd:∀y∈ns,Td y)(hop:∀y∈ns.dropLast,zb y=false)(hc:zn ns=true)(h:zu ns=true):zu (zx ns)=true:=by
 obtain⟨d,e,rfl,he,ht⟩:=tidy_last htd hop hc;rw[ht,zbd]at*;simpa[zu,leaves_outs]using h
theorem Done.tidy{u':Unt}{K:Nat}{ns:List Node}{v':List Int}{S':RS}{a sz ex:Nat}{R:RS}{b:Rt Wy}{v1':List Int}{S1':RS}{c:Nat}(h:Done u' K ns v' S' a sz ex R b v1' S1' c)
  (htd:∀y∈ns,Td y) (hop:∀y∈ns.dropLast,zb y=false) (hc:zn ns=true) (he:Ends b):Done u' K (zx ns) v' S' a sz ex R b v1' S1' c:=by
 refine⟨h.st,h.le,h.ge,fun i e hi=>?_⟩;have h1:=h.run i e hi;rw[tidy_run htd hop hc (by rw[h1];exact he)];exact h1
theorem Done.app{u':Unt}{K:Nat}{ns ms:List Node}{v':List Int}{S':RS}{a sz ex:Nat}{R:RS}{b:Rt Wy}{v1':List Int}{S1':RS}{c:Nat}(h:Done u' K ns v' S' a sz ex R b v1' S1' c)
  (he:Ends b):Done u' K (ns++ms) v' S' a sz ex R b v1' S1' c:=by
 refine⟨h.st,h.le,h.ge,fun i e hi=>?_⟩;have h1:=h.run i e hi;rw[listW_app1 _ ns ms _ _ (by rw[h1];exact he)];exact h1
theorem Done.size{u':Unt}{K:Nat}{ns:List Node}{v':List Int}{S':RS}{a sz sz2 ex:Nat}{R:RS}{b:Rt Wy}{v1':List Int}{S1':RS}{c:Nat}(h:Done u' K ns v' S' a sz ex R b v1' S1' c)(hs:sz<=sz2):Done u' K ns v' S' a sz2 ex R b v1' S1' c:=
 ⟨h.st,h.le,by have:=h.ge;omega,h.run⟩
theorem Done.seq{u':Unt}{K:Nat}{ns ms:List Node}{v':List Int}{S':RS}{a sz sz2 ex:Nat}{R R2:RS}{w:Wy}{b:Rt Wy}{v1' v2':List Int}{S1' S2':RS}{c c2:Nat}(h:Done u' K ns v' S' a sz 0 R (.ok w) v1' S1' c)(hw:w.kind=0)
  (k:Done u' K ms v1' S1' R.fuel sz2 ex R2 b v2' S2' c2):Done u' K (ns++ms) v' S' a (sz+sz2) ex R2 b v2' S2' (c+c2):=by
 have h1:=h.le;have h2:=h.ge;have k1:=k.le;have k2:=k.ge;refine⟨k.st,by omega,by rw[ypa];omega,fun i e hi=>?_⟩;have r1:=h.run i (c2+e) (by omega);have r2:=k.run i e (by omega);rw[show c+c2+e=c+(c2+e) by omega,zUe _ ns ms _ _ w v1' _ r1 hw,r2]
theorem tidy_seq{ns ms:List Node}(htd:∀y∈ns,Td y)(hop:∀y∈ns.dropLast,zb y=false)(hc:zn ns=false):zx (ns++ms)=ns++zx ms:=
 tidyL_td _ _ fun y hy=>⟨htd y hy,lastClosed_no hop hc y hy⟩
theorem last_app(a:List Node){b:List Node}(h:b≠ []):(a++b).getLast? =b.getLast? :=by
 rcases yz b with e|⟨d,y,e⟩
 ·exact absurd e h
 ·rw[e,yC,<-yY,yEa,yEa]
section
variable {u u':Unt} {f:Flow} {F:zA} {K A:Nat}
theorem simL(hU:OkU u)(HN:EvSim u u' f F K A)(i:Nat):∀(l:List Node) (p:Pl) (seen:List Int) (w:Place) (deep:Int) (Z:Set1) (h:Hd) (T:Tos) (v v':List Int) (S S':RS),
  l≠ []->S.fuel<=A->S.fuel<=i->szL l<=K->okL u f.types.length p l->(goR u f l seen w deep Z).1=true->HdR f.types.length h->zta l h (F,false)=(F,false)->Val f F seen Z T v v'->RS2 S S'->Low S→
  SimL u' K F l T (goR u f l seen w deep Z).2 v' S' S.fuel (zB (evN u i) l v S)
 | [],p,seen,w,deep,Z,h,T,v,v',S,S',hne,_,_,_,_,_,_,_,_,_,_=>absurd rfl hne
 |x::r,p,seen,w,deep,Z,h,T,v,v',S,S',hne,hA,hi,hzK,hok,hr,hh,hk,hV,hS,hL=>by
  obtain⟨k1,k2⟩:=listK_st hok hh hk;have hmono:=zvc (x::r) seen w deep Z hV.zl hr;rw[okL]at hok;obtain⟨o1,o2,o3⟩:=hok;have hr0:=hr;rw[goR]at hr;split at hr
  ·cases hr
  rename_i c0;split at hr
  ·rename_i c1
   (try rw[if_pos o2]at hr)
   have eZ:(goR u f (x::r) seen w deep Z).2=(goR u f r (seen++x.outs) w deep (zy u f x seen w deep Z).2).2:=by
    rw[goR,if_neg c0,if_pos c1,if_pos o2]
   have hN:=HN i x p seen w deep Z h T v v' S S' hA hi (by rw[szL]at hzK;omega) o1 c1 hh k1 hV hS hL;obtain⟨n1,n2,n3⟩:=zic hU i _ p x v S o1 hV.vl;have hFs:=evN_fs hU i x p seen w deep Z h v S o1 c1 hV.zl hV.sl hh k1 hV.ef hV.vl (F:=F);have hD:=nodeR_defs x seen w deep Z hV.zl c1;have hSt:=nodeR_set x seen w deep Z hV.zl c1;have hF:=evN_fr u i x v S hD.pos;have hO:=zUb hV.zl c1;have hG:=evN_G u i x v S hL;obtain⟨m1,m2⟩:=zZc x seen w deep Z hV.zl c1;have hb:x.kind≠10->x.kind≠11->x.kids=[]:=by
    intro h10 h11;have c2:=c1;rw[zsa]at c2;split at c2
    ·cases c2
    ·rename_i hb;exact(bare_simple (by simpa using hb) h10 h11).2
   obtain⟨td,op⟩:=wrN_td (F:=F) (T:=T) hb;have hdefs:∀o∈zAa (wrN F x T).1,o∈zKb x:=wrN_defs F x T;have hsz:szN x<=szL (x::r):=by rw[szL];omega
   have hgo:wrGo F (x::r) T=if zn (wrN F x T).1 then wrN F x T else((wrN F x T).1++(wrGo F r (wrN F x T).2).1,(wrGo F r (wrN F x T).2).2):=by rw[wrGo]
   unfold zB;generalize hq:evN u i x v S=q at*;obtain⟨a,v1,S1⟩:=q;simp only at n1 n2 n3 hF hG;have ends:∀{b:Rt Wy} {ex:Nat} {v1':List Int} {S1':RS} {c:Nat},Ends b->Done u' K (wrN F x T).1 v' S' S.fuel (szN x) ex S1 b v1' S1' c->Done u' K (zx (wrGo F (x::r) T).1) v' S' S.fuel (szL (x::r)) ex S1 b v1' S1' c:=by
    intro b ex v1' S1' c hb hd;rw[hgo];cases hc:zn (wrN F x T).1 with
    |true=>
     simp only[if_true];exact(hd.tidy td op hc hb).size hsz
    |false=>
     simp only[yv,if_false];rw[tidy_seq td op hc];exact(hd.app hb).size hsz
   cases a with
   |stop k=>
    simp only;refine⟨fun w' e=>(by cases e),fun k' e hk'=>?_,fun e=>?_⟩
    ·cases e;obtain⟨v1',S1',c,hd⟩:=hN.trap _ rfl hk';exact⟨v1',S1',c,ends trivial hd⟩
    ·cases e;obtain⟨d1,c,d2,d3,d4⟩:=hN.dry rfl;refine⟨d1,c,d2,yta d3 (by omega),fun j hj=>?_⟩;obtain⟨b,v1',S1',e1,e2,e3,e4,e5,e6⟩:=d4 j hj;rw[hgo];rcases e6 with e6|⟨⟨e7,e8⟩,w',e9,e10⟩
     ·subst e6;refine⟨.stop 0,v1',S1',?_,e2,e3,e4,e5,.inl rfl⟩;cases hc:zn (wrN F x T).1 with
      |true=>
       simp only[if_true];rw[tidy_run td op hc (by rw[e1];trivial)];exact e1
      |false=>
       simp only[yv,if_false];rw[tidy_seq td op hc,listW_app1 _ _ _ _ _ (by rw[e1];trivial)];exact e1
     ·subst e9;have hrne:r≠ []:=by
       intro h;rw[h,e8]at o2;cases o2
      refine⟨.stop 0,v1',S1',?_,e2,e3,e4,e5,.inl rfl⟩;rw[e7];simp only[yv,if_false];rw[tidy_seq td op e7,zUe _ _ _ _ _ w' v1' S1' e1 e10];have hwne:=(zrd F r p (wrN F x T).2 o3 hrne).tidy.ne;cases hz:zx (wrGo F r (wrN F x T).2).1 with
      |nil=>exact absurd hz hwne
      |cons y s=>exact listW_dry u' j y s v1' e2
   |ok w1=>
    obtain⟨n4,n5⟩:=n3 w1 rfl;simp only;by_cases hw:w1.kind=0
    ·rw[if_pos hw];obtain⟨g1,w',v1',S1',c,g2,g3,g4,g5⟩:=hN.go w1 rfl hw;obtain⟨f1,f2,f3⟩:=(hFs w1 rfl).1 hw;have hcx:zb x=false:=by
      rcases n5 with n5|n5
      ·exact n5.2
      ·exact absurd hw n5.1.ne
     have hrne:r≠ []:=by
      intro h;rw[h,hcx]at o2;cases o2
     have hfr':=(g3.fr (fun o ho=>hD.pos o (hdefs o ho))).mono hdefs;have hV1:=hV.step m1 m2 hD hSt (wrN_T F x T) hF hfr' n2 (by rw[g4];exact hV.vl') hO.sl f1 g5;have hR:=simL hU HN i r p (seen++x.outs) w deep _ h (wrN F x T).2 v1 v1' S1 S1' hrne (by have:=n1.fuel;omega) (by have:=n1.fuel;omega) (by rw[szL]at hzK;omega) o3 hr hh (k2 f3) hV1 g3.st (hG.low hL);have hws:zx (wrGo F (x::r) T).1=(wrN F x T).1++zx (wrGo F r (wrN F x T).2).1:=by
      rw[hgo,g1];simp only[yv,if_false];exact tidy_seq td op g1
     have hwne:=(zrd F r p (wrN F x T).2 o3 hrne).tidy.ne;rw[eZ];generalize zB (evN u i) r v1 S1=q2 at*;refine⟨fun w2 e=>?_,fun k' e hk'=>?_,fun e=>?_⟩
     ·obtain⟨v2',S2',c2,hd,hl2,hy,hlv⟩:=hR.fin w2 e;refine⟨v2',S2',c+c2,?_,hl2.trans g4,fun h12=>?_,fun h14=>?_⟩
      ·rw[hws,szL];exact g3.seq g2 hd
      ·obtain⟨y1,d,e',w0,c0,y2,y3,y4,y5,y6,y7⟩:=hy h12;rw[hws];refine⟨?_,(wrN F x T).1++d,e',w0,c+c0,by rw[y2,yY],y3,y4,y5,y6,by rw[szL];exact g3.seq g2 y7⟩;unfold zF at y1 ⊢;rw[last_app _ hwne];exact y1
      ·rw[hws,zbd,hlv h14,Bool.or_true]
     ·obtain⟨v2',S2',c2,hd⟩:=hR.trap k' e hk';exact⟨v2',S2',c+c2,by rw[hws,szL];exact g3.seq g2 hd⟩
     ·obtain⟨d1,c2,d2,d3,d4⟩:=hR.dry e;have q1:=g3.le;have q2':=g3.ge;refine⟨d1,c+c2,by simp only at q1;omega,by rw[szL,ypa];simp only at q2';omega,fun j hj=>?_⟩;obtain⟨b,v2',S2',e1,e2,e3,e4,e5,e6⟩:=d4 j (by omega);rcases e6 with e6|⟨e6,_⟩
      ·refine⟨b,v2',S2',?_,e2,e3,e4,e5,.inl e6⟩;rw[hws,zUe _ _ _ _ _ w' v1' _ (g3.run j c2 hj) g2];exact e1
      ·exact e6.elim
    ·rw[if_neg hw];refine⟨fun w2 e=>?_,fun k' e hk'=>(by cases e),fun e=>by cases e⟩;cases e;obtain⟨v1',S1',c,hd,hl2,hy,hlv⟩:=hN.fin w1 rfl hw;refine⟨v1',S1',c,ends hw hd,hl2,fun h12=>?_,fun h14=>?_⟩
     ·obtain⟨y1,y2,y3,y4,y5,y6⟩:=hy h12;have hx12:({x with args:=valW T x.args}:Node).kind=12:=y2;have hlc:zn (wrN F x T).1=true:=by rw[y1];exact zbe hx12
      have ha:∀s∈x.args,s∈seen:=zSb (by omega) (by omega) c1;rw[hgo,hlc,if_pos rfl];obtain⟨d,e,q1,q2,q3⟩:=tidy_last td op hlc;rw[q3];rw[y1]at q1;have hd0:d=[]:=by
       cases d with
       |nil=>rfl
       |cons _ d=>have:=congrArg List.length q1;simp at this
      subst hd0;have he:e={x with args:=valW T x.args}:=by simpa using q1.symm
      subst he;refine⟨by simp[zF,y2],[],_,⟨0,[]⟩,0,rfl,y2,?_,?_,rfl,?_⟩
      ·intro q hq;simp only[valW_sg,yka]at hq;obtain⟨s,hs,rfl⟩:=hq;have:=hV.tgt s (ha s hs);exact⟨this.1,hmono.1 _ this.1 this.2⟩
      ·rw[y3];exact y6
      ·have hsz1:1<=szL (x::r):=by rw[szL,zNe];omega
       simp only at y5;refine⟨hd.st,by simp only;omega,by simp only;omega,fun j e' he'=>?_⟩;rw[zB,y3,y4];simp
     ·have hl1:=hlv h14;rw[hgo];cases hc:zn (wrN F x T).1 with
      |true=>simp only[if_true];exact leavesL_tidy td op hc hl1
      |false=>simp only[yv,if_false];rw[tidy_seq td op hc,zbd,hl1];rfl
  ·cases hr
end
theorem rs2_eta{S S':RS}(h:RS2 S S'):S'={S with cost:=S'.cost,fuel:=S'.fuel}:=by
 obtain⟨h1,h2,h3,_,_⟩:=h;obtain⟨a,b,c,d,e⟩:=S';obtain⟨a',b',c',d',e'⟩:=S;simp only at h1 h2 h3 ⊢;subst h1 h2 h3;rfl
theorem zbc{u':Unt}{K:Nat}{y:Node}{v':List Int}{S':RS}{a sz ex:Nat}{R:RS}{b:Rt Wy}{v1':List Int}{S1':RS}{c:Nat}(hst:RS2 R S1')(hle:c+1+R.fuel<=a)(hge:a+ex<=R.fuel+sz+K*(c+1))
  (hr:∀j e,c+e<=j->zmb u' (evN u' j) j y v' {S' with fuel:=c+e}=(b,v1',{S1' with fuel:=e})):
  Done u' K [y] v' S' a sz ex R (match b with
   | .ok w=>if w.kind=0 then .ok ⟨0,[]⟩else .ok w
   | .stop k=> .stop k) v1' S1' (c+1):=by
 refine⟨hst,hle,hge,fun i e hi=>?_⟩;obtain⟨j,rfl⟩:∃j,i=j+1:=⟨i-1,by omega⟩
 have h1:=hr j e (by omega);have h2:evN u' (j+1) y v' {S' with fuel:=c+1+e}=(b,v1',{S1' with fuel:=e}):=by
  rw[evN];have:c+1+e=(c+e)+1:=by omega
  simp only[this];exact h1
 rw[zB,h2];cases b with
 |stop k=>rfl
 |ok w=>
  simp only;by_cases hw:w.kind=0
  ·rw[if_pos hw,if_pos hw,zB]
  ·rw[if_neg hw,if_neg hw]
theorem one_dry{u':Unt}{K:Nat}{y:Node}{v':List Int}{S':RS}{a sz:Nat}{R:RS}{c:Nat}{op:Prop}(h0:R.fuel=0)(hle:c+1<=a)(hge:a<=sz+K*(c+1))
  (hr:∀j,c<=j->∃v1' S1',zmb u' (evN u' j) j y v' {S' with fuel:=c}=(.stop 0,v1',S1')/\S1'.fuel=0/\S1'.out=R.out/\0<=S1'.cost/\S1'.cost<=R.cost):Dry u' K [y] v' S' a sz R op:=by
 refine⟨h0,c+1,hle,hge,fun i hi=>?_⟩;obtain⟨j,rfl⟩:∃j,i=j+1:=⟨i-1,by omega⟩
 obtain⟨v1',S1',h1,h2,h3,h4,h5⟩:=hr j (by omega);refine⟨.stop 0,v1',S1',?_,h2,h3,h4,h5,.inl rfl⟩;have h6:evN u' (j+1) y v' {S' with fuel:=c+1}=(.stop 0,v1',S1'):=by
  rw[evN];exact h1
 rw[zB,h6]
theorem sim_zero{u u':Unt}{m:Nat}{p:Pl}{K:Nat}{F:zA}{x:Node}{T:Tos}{Z1:Set1}{v v':List Int}{S S':RS}(i:Nat)(hok:okN u m p x)(h0:S.fuel=0)(hS:RS2 S S'):
  SimN u' K F x T Z1 v' S' S.fuel (evN u i x v S):=by
 have he:evN u i x v S=(.stop 0,v,S):=by
  cases i with
  |zero=>rfl
  |succ i=>rw[evN];simp only[h0]
 rw[he];refine⟨fun w e=>(by cases e),fun w e=>(by cases e),fun k e hk=>?_,fun _=>⟨h0,0,by omega,by omega,fun i hi=>?_⟩⟩
 ·cases e;exact absurd rfl hk
 ·have hwn:=wrN_wn F x p T hok;cases hn:(wrN F x T).1 with
  |nil=>
   refine⟨.ok ⟨0,[]⟩,v',{S' with fuel:=0},by rw[zB],rfl,hS.out,hS.c0,hS.c1,.inr ⟨⟨rfl,?_⟩,_,rfl,rfl⟩⟩;cases hc:zb x with
   |false=>rfl
   |true=>exact absurd hn (hwn.ne hc)
  |cons y r=>
   exact⟨.stop 0,v',{S' with fuel:=0},listW_dry u' i y r v' rfl,rfl,hS.out,hS.c0,hS.c1,.inl rfl⟩
theorem low_cost{S S':RS}(hl:Low S)(h:RS2 S S'){k:Nat}(hf:S.fuel=k+1)(e:Nat):RS2 (zq {S with fuel:=k}) (zq {S' with fuel:=e}):=by
 obtain⟨l1,l2⟩:=hl;obtain⟨h1,h2,h3,h4,h5⟩:=h;have w1:yba .i64 (S.cost+1)=S.cost+1:=by
  rw[<-zY];exact zm (by omega) (by omega)
 have w2:yba .i64 (S'.cost+1)=S'.cost+1:=by
  rw[<-zY];exact zm (by omega) (by omega)
 refine⟨h1,h2,h3,?_,?_⟩<;>simp only[zq,w1,w2]<;>omega
theorem plainW_same{u u':Unt}(ha:u'.arrays=u.arrays)(ev ev':NEv){n n':Node}(hk:n'.kind=n.kind)(ho:n'.op=n.op)(hn:n'.name=n.name)(h7:n.kind≠7)(l:List Int)(S:RS)(c:Int)(φ:Nat):
  zoa u' ev' n' l {S with cost:=c,fuel:=φ}=((zoa u ev n l S).1,{(zoa u ev n l S).2 with cost:=c,fuel:=φ})/\(zoa u ev n l S).2.cost=S.cost/\(zoa u ev n l S).2.fuel=S.fuel:=by
 unfold zoa;rw[hk,ho,hn];have hc:cellAt u' {S with cost:=c,fuel:=φ} n.name (atA l 0)=cellAt u S n.name (atA l 0):=by unfold cellAt;rw[ha]
 have hp:putAt u' {S with cost:=c,fuel:=φ} n.name (atA l 0) (atA l 1)=(putAt u S n.name (atA l 0) (atA l 1)).map fun S1=>{S1 with cost:=c,fuel:=φ}:=by
  unfold putAt;rw[ha];split
  ·rfl
  ·simp only;cases S.arrs[(zFe u.arrays n.name).toNat]? with
   |none=>rfl
   |some row=>simp only[Option.bind_some];split<;>rfl
 have hp2:∀S1,putAt u S n.name (atA l 0) (atA l 1)=some S1->S1.cost=S.cost/\S1.fuel=S.fuel:=by
  intro S1 h;unfold putAt at h;split at h
  ·cases h
  ·rw[yN]at h;obtain⟨row,_,h⟩:=h;split at h
   ·cases h;exact⟨rfl,rfl⟩
   ·cases h
 by_cases k3:n.kind=3
 ·rw[if_pos k3,if_pos k3];exact⟨rfl,rfl,rfl⟩
 rw[if_neg k3,if_neg k3];by_cases k4:n.kind=4
 ·rw[if_pos k4,if_pos k4];split<;>exact⟨rfl,rfl,rfl⟩
 rw[if_neg k4,if_neg k4];by_cases k5:n.kind=5
 ·rw[if_pos k5,if_pos k5,hc];split<;>exact⟨rfl,rfl,rfl⟩
 rw[if_neg k5,if_neg k5];by_cases k6:n.kind=6
 ·rw[if_pos k6,if_pos k6,hp];cases hq:putAt u S n.name (atA l 0) (atA l 1)with
  |none=>exact⟨rfl,rfl,rfl⟩
  |some S1=>exact⟨rfl,hp2 S1 hq⟩
 rw[if_neg k6,if_neg k6,if_neg h7,if_neg h7];by_cases k8:n.kind=8
 ·rw[if_pos k8,if_pos k8];clear hc hp hp2;obtain⟨inp,ar,ou,co,fl⟩:=S;cases inp<;>exact⟨rfl,rfl,rfl⟩
 rw[if_neg k8,if_neg k8];by_cases k9:n.kind=9
 ·rw[if_pos k9,if_pos k9];exact⟨rfl,rfl,rfl⟩
 rw[if_neg k9,if_neg k9];exact⟨rfl,rfl,rfl⟩
theorem setW_both{f:Flow}{F:zA}{seen:List Int}{Z Z1:Set1}{T:Tos}{v v':List Int}{us ns:List Int}(h:Val f F seen Z T v v')(hO:OutsOk f.types Z Z1 us)(hl:us.length=ns.length):
  ∀o∈us,at0 (setW v' us ns) (sg T o)=at0 (setW v us ns) o/\0<=sg T o/\atB Z1 (sg T o)=true:=by
 intro o ho;rw[h.ky.none (hO.new o ho)];refine⟨?_,(hO.rng o ho).1,hO.set o ho⟩;obtain⟨i,hi⟩:=yP ho;have hlt:i<us.length:=(yb.1 hi).1;have hn:ns[i]? =some (ns[i]'(by omega)):=yd (by omega);rw[zjd v us ns i o _ hO.nd (by rw[h.vl];exact hO.rng) hi hn,zjd v' us ns i o _ hO.nd (by rw[h.vl'];exact hO.rng) hi hn]
section
variable {u u':Unt} {f:Flow} {F:zA} {K:Nat}
theorem wrN_simple{x:Node}{T:Tos}(h:x.kind≠3/\x.kind≠4/\x.kind≠10/\x.kind≠11):wrN F x T=([{x with args:=valW T x.args}],T):=by
 rw[wrN_eq,if_neg (by omega),if_neg (by omega),if_neg (by omega)]
theorem sim_num{p:Pl}{x:Node}{seen:List Int}{w:Place}{deep:Int}{Z:Set1}{T:Tos}{v v':List Int}{S S':RS}{k:Nat}(i:Nat)(hok:okN u f.types.length p x)(hr:(zy u f x seen w deep Z).1=true)(hV:Val f F seen Z T v v')(hS:RS2 S S')(hf:S.fuel=k+1)
  (hk:x.kind=1\/x.kind=2):SimN u' K F x T (zy u f x seen w deep Z).2 v' S' S.fuel (zmb u (evN u i) i x v {S with fuel:=k}):=by
 rw[zhb]at hok;have o1:=hok.1.k12 hk;have hO:=zUb hV.zl hr;have hw:wrN F x T=([{x with args:=valW T x.args}],T):=wrN_simple (by omega);have hc:zb ({x with args:=valW T x.args}:Node)=false:=by
  rw[closed_args,zia (by omega) (by omega)];simp only[yK,decide_eq_false_iff_not];omega
 unfold zmb;rw[if_pos hk];refine⟨fun w' e hw'=>?_,fun w' e hw'=>?_,fun _ e _=>(by cases e),fun e=>by cases e⟩
 ·cases e;rw[hw];refine⟨by simpa[zn]using hc,⟨0,[]⟩,setW v' x.outs [x.n],{S' with fuel:=0},1,rfl,?_,zDa _ _ _,setW_both hV hO (by simpa using o1)⟩;have:=zbc (u':=u') (K:=K) (y:={x with args:=valW T x.args}) (v':=v') (S':=S') (a:=S.fuel) (sz:=szN x) (ex:=0) (R:={S with fuel:=k}) (b:= .ok ⟨0,[]⟩) (v1':=setW v' x.outs [x.n]) (S1':={S' with fuel:=0}) (c:=0)
   ⟨hS.inp,hS.arrs,hS.out,hS.c0,hS.c1⟩ (by simp only;omega) (by simp only[zNe];omega) (fun j e he=>by
    unfold zmb;rw[if_pos (show({x with args:=valW T x.args}:Node).kind=1\/({x with args:=valW T x.args}:Node).kind=2 from hk)];simp)
  simpa using this
 ·cases e;exact absurd rfl hw'
theorem sim_end{p:Pl}{x:Node}{seen:List Int}{w:Place}{deep:Int}{Z:Set1}{T:Tos}{v v':List Int}{S S':RS}{k:Nat}(i:Nat)(hr:(zy u f x seen w deep Z).1=true)(hV:Val f F seen Z T v v')(hS:RS2 S S')(hf:S.fuel=k+1)
  (hk:12<=x.kind/\x.kind<=15):SimN u' K F x T (zy u f x seen w deep Z).2 v' S' S.fuel (zmb u (evN u i) i x v {S with fuel:=k}):=by
 have hw:wrN F x T=([{x with args:=valW T x.args}],T):=wrN_simple (by omega);have ha:=hV.args (zSb (by omega) (by omega) hr);unfold zmb;rw[if_neg (by omega),if_pos hk];refine⟨fun w' e hw'=>?_,fun w' e hw'=>?_,fun _ e _=>(by cases e),fun e=>by cases e⟩
 ·cases e;simp only at hw';omega
 ·cases e;rw[hw];refine⟨v',{S' with fuel:=0},1,?_,rfl,fun h=>⟨rfl,h,rfl,rfl,by simp only;omega,ha.symm⟩,fun h=>?_⟩
  ·have:=zbc (u':=u') (K:=K) (y:={x with args:=valW T x.args}) (v':=v') (S':=S') (a:=S.fuel) (sz:=szN x) (ex:=K) (R:={S with fuel:=k}) (b:= .ok ⟨x.kind,ofW v x.args⟩) (v1':=v') (S1':={S' with fuel:=0}) (c:=0)
    ⟨hS.inp,hS.arrs,hS.out,hS.c0,hS.c1⟩ (by simp only;omega) (by simp only[zNe];omega) (fun j e he=>by
     unfold zmb;simp only;rw[if_neg (by omega),if_pos hk,ha];simp)
   simp only at this;rw[if_neg (by omega)]at this;exact this
  ·simp only at h;simp[zu,zrc,h]
end
theorem plainW_stop{u:Unt}{ev:NEv}{n:Node}(h7:n.kind≠7){l:List Int}{S:RS}(h:(zoa u ev n l S).1= .stop 0):False:=by
 unfold zoa at h;by_cases k3:n.kind=3
 ·rw[if_pos k3]at h;cases h
 rw[if_neg k3]at h;by_cases k4:n.kind=4
 ·rw[if_pos k4]at h;split at h<;>simp at h
 rw[if_neg k4]at h;by_cases k5:n.kind=5
 ·rw[if_pos k5]at h;split at h<;>simp at h
 rw[if_neg k5]at h;by_cases k6:n.kind=6
 ·rw[if_pos k6]at h;split at h<;>simp at h
 rw[if_neg k6,if_neg h7]at h;by_cases k8:n.kind=8
 ·rw[if_pos k8]at h;split at h<;>simp at h
 rw[if_neg k8]at h;by_cases k9:n.kind=9
 ·rw[if_pos k9]at h;cases h
 rw[if_neg k9]at h;cases h
theorem zYc{u:Unt}{ev:NEv}{i:Nat}{x:Node}{v:List Int}{S:RS}(hk:3<=x.kind/\x.kind<=9):zmb u ev i x v S=match zoa u ev x (ofW v x.args) (zq S)with
  |(.ok m,S1)=>(.ok ⟨0,[]⟩,setW v x.outs m,S1)
  |(.stop k,S1)=>(.stop k,v,S1):=by
 unfold zmb;rw[if_neg (by omega),if_neg (by omega),if_neg (by omega),if_neg (by omega)];generalize zoa u ev x (ofW v x.args) (zq S)=q;obtain⟨a,S1⟩:=q;cases a<;>rfl
theorem open_plain{x:Node}(hk:1<=x.kind/\x.kind<=9):zb x=false:=by
 rw[zia (by omega) (by omega)];simp only[yK,decide_eq_false_iff_not];omega
section
variable {u u':Unt} {f:Flow} {F:zA} {K:Nat}
theorem sim_plain(hU:OkU u)(ha':u'.arrays=u.arrays){p:Pl}{x:Node}{seen:List Int}{w:Place}{deep:Int}{Z:Set1}{T:Tos}{v v':List Int}{S S':RS}{k:Nat}(i:Nat)(hok:okN u f.types.length p x)(hr:(zy u f x seen w deep Z).1=true)(hV:Val f F seen Z T v v')(hS:RS2 S S')(hL:Low S)(hf:S.fuel=k+1)
  (hk:3<=x.kind/\x.kind<=9) (h7:x.kind≠7) (hw:wrN F x T=([{x with args:=valW T x.args}],T)):SimN u' K F x T (zy u f x seen w deep Z).2 v' S' S.fuel (zmb u (evN u i) i x v {S with fuel:=k}):=by
 rw[zhb]at hok;have hO:=zUb hV.zl hr;have ha:=hV.args (zSb (by omega) (by omega) hr);have hc:zb ({x with args:=valW T x.args}:Node)=false:=open_plain (by simp only;omega);have hP:=plainW_ok (zic hU i) hU hok.1 hk (zKc v x.args) (zq {S with fuel:=k});have hb:∀j e,zoa u' (evN u' j) {x with args:=valW T x.args} (ofW v' (valW T x.args)) (zq {S' with fuel:=e})=
   ((zoa u (evN u i) x (ofW v x.args) (zq {S with fuel:=k})).1,{(zoa u (evN u i) x (ofW v x.args) (zq {S with fuel:=k})).2 with cost:=(zq S').cost,fuel:=e}):=by
  intro j e;have h1:=low_cost hL hS hf e;have h2:=rs2_eta h1;rw[ha];have h3:=(plainW_same (u:=u) (u':=u') ha' (evN u i) (evN u' j) (n:=x) (n':={x with args:=valW T x.args}) rfl rfl rfl h7 (ofW v x.args) (zq {S with fuel:=k}) (zq S').cost e).1;rw[<-h3];congr 1
 have hb2:=(plainW_same (u:=u) (u':=u') ha' (evN u i) (evN u' 0) (n:=x) (n':={x with args:=valW T x.args}) rfl rfl rfl h7 (ofW v x.args) (zq {S with fuel:=k}) (zq S').cost 0).2;have hst:=plainW_stop (u:=u) (ev:=evN u i) h7 (l:=ofW v x.args) (S:=zq {S with fuel:=k});have hcost:=low_cost hL hS hf 0;rw[zYc hk];generalize zoa u (evN u i) x (ofW v x.args) (zq {S with fuel:=k})=q at*;obtain⟨a,S1⟩:=q;simp only at hb hb2 hst;have hfu:S1.fuel=k:=hb2.2;have hrs:RS2 S1 {S1 with cost:=(zq S').cost,fuel:=0}:=⟨rfl,rfl,rfl,hcost.c0,by rw[hb2.1];exact hcost.c1⟩
 cases a with
 |ok l=>
  simp only;refine⟨fun w' e hw'=>?_,fun w' e hw'=>?_,fun _ e _=>(by cases e),fun e=>by cases e⟩
  ·cases e;rw[hw];refine⟨by simpa[zn]using hc,⟨0,[]⟩,setW v' x.outs l,{S1 with cost:=(zq S').cost,fuel:=0},1,rfl,?_,zDa _ _ _,setW_both hV hO (hP.2 l rfl).symm⟩;have:=zbc (u':=u') (K:=K) (y:={x with args:=valW T x.args}) (v':=v') (S':=S') (a:=S.fuel) (sz:=szN x) (ex:=0) (R:=S1) (b:= .ok ⟨0,[]⟩) (v1':=setW v' x.outs l) (S1':={S1 with cost:=(zq S').cost,fuel:=0}) (c:=0)
    hrs (by omega) (by rw[zNe];omega) (fun j e he=>by
     rw[zYc (by simp only;omega)];have:=hb j (0+e);simp only[yX]at this ⊢;rw[this])
   simpa using this
  ·cases e;exact absurd rfl hw'
 |stop j=>
  simp only;refine⟨fun w' e hw'=>(by cases e),fun w' e hw'=>(by cases e),fun j' e hj=>?_,fun e=>?_⟩
  ·cases e;rw[hw];refine⟨v',{S1 with cost:=(zq S').cost,fuel:=0},1,?_⟩;exact zbc (u':=u') (K:=K) (y:={x with args:=valW T x.args}) (v':=v') (S':=S') (a:=S.fuel) (sz:=szN x) (ex:=0) (R:=S1) (b:= .stop _) (v1':=v') (S1':={S1 with cost:=(zq S').cost,fuel:=0}) (c:=0)
    hrs (by omega) (by rw[zNe];omega) (fun j e he=>by
     rw[zYc (by simp only;omega)];have:=hb j (0+e);simp only[yX]at this ⊢;rw[this])
  ·cases e;exact(hst rfl).elim
theorem sum_ok{p:Pl}{x:Node}{seen:List Int}{w:Place}{deep:Int}{Z:Set1}{h:Hd}{T:Tos}{v v':List Int}{S:RS}{ev:NEv}{n:Int}(hok:okN u f.types.length p x)(hr:(zy u f x seen w deep Z).1=true)(hk:(zsb x h (F,false)).1=(F,false))(hV:Val f F seen Z T v v')
  (h34:x.kind=3\/x.kind=4) (hn:numK F (at0 x.outs 0)=(n,true)):∃y,zoa u ev x (ofW v x.args) S=(.ok [y],S):=by
 rw[zhb]at hok;obtain⟨o1,_⟩:=hok;have ha:=zSb (by omega) (by omega) hr;unfold zoa;by_cases k3:x.kind=3
 ·rw[if_pos k3];exact⟨_,rfl⟩
 have k4:=h34.resolve_left k3;rw[if_neg k3,if_pos k4];rw[zib,if_neg (by omega),if_pos h34]at hk;obtain⟨g,g1,g2⟩:=meetK_st hk;obtain⟨a0,a1,ea⟩:∃a0 a1,x.args=[a0,a1]:=by
  have:=(o1.k4 k4).1
  match hx:x.args,this with
  | [a,b],_=>exact⟨a,b,rfl⟩
 have hg:g=some n:=by
  unfold numK at hn;rw[g1]at hn;cases g with
  |none=>simp at hn
  |some y=>simp only[Prod.mk.injEq,and_true]at hn;rw[hn]
 rcases g2 with g2|g2
 ·rw[hg]at g2;unfold madeK at g2;rw[if_neg k3]at g2;cases hn0:numK F (at0 x.args 0)with
  |mk z0 b0=>
   cases hn1:numK F (at0 x.args 1)with
   |mk z1 b1=>
    rw[hn0,hn1]at g2;cases b0 with
    |false=>simp at g2
    |true=>
     cases b1 with
     |false=>simp at g2
     |true=>
      have hv0:=hV.ef.num (ha a0 (by rw[ea];simp)) (by rw[ea]at hn0;exact hn0);have hv1:=hV.ef.num (ha a1 (by rw[ea];simp)) (by rw[ea]at hn1;exact hn1);have e0:atA (ofW v x.args) 0=z0:=by rw[ea];exact hv0
      have e1:atA (ofW v x.args) 1=z1:=by rw[ea];exact hv1
      rw[e0,e1,<-two_eqC];simp only[Bool.true_eq_false,if_false]at g2;split at g2
      ·rename_i c;rw[if_pos c];exact⟨_,rfl⟩
      ·cases g2
 ·rw[hg]at g2;cases g2
theorem sim_sum(hU:OkU u){p:Pl}{x:Node}{seen:List Int}{w:Place}{deep:Int}{Z:Set1}{h:Hd}{T:Tos}{v v':List Int}{S S':RS}{k:Nat}(i:Nat)(hok:okN u f.types.length p x)(hr:(zy u f x seen w deep Z).1=true)(hh:HdR f.types.length h)(hk:(zsb x h (F,false)).1=(F,false))(hV:Val f F seen Z T v v')(hS:RS2 S S')(hL:Low S)(hf:S.fuel=k+1)
  (h34:x.kind=3\/x.kind=4) {n:Int} (hn:numK F (at0 x.outs 0)=(n,true)):SimN u' K F x T (zy u f x seen w deep Z).2 v' S' S.fuel (zmb u (evN u i) i x v {S with fuel:=k}):=by
 have hO:=zUb hV.zl hr;obtain⟨y,hy⟩:=sum_ok (v:=v) (ev:=evN u i) (S:=zq {S with fuel:=k}) hok hr hk hV h34 hn;have hFs:=nodeW_fs (evN_fs hU i) (zic hU i) (evN_fr u i) i {S with fuel:=k} hU hok hr hV.zl hV.sl hh hk hV.ef hV.vl (F:=F);rw[zYc (by omega),hy]at hFs ⊢;rw[zhb]at hok;obtain⟨o1,_⟩:=hok;simp only at hFs ⊢;obtain⟨o,ho⟩:∃o,x.outs=[o]:=by
  have:x.outs.length=1:=by rcases h34 with k|k;exact(o1.k3 k).2;exact(o1.k4 k).2
  match hx:x.outs,this with
  | [a],_=>exact⟨a,rfl⟩
 obtain⟨f1,_,_⟩:=(hFs _ rfl).1 rfl;have hv1:at0 (setW v x.outs [y]) o=n:=f1.num (by rw[ho];simp) (by rw[ho]at hn;exact hn);have hw:wrN F x T=([⟨if zEc x.op then 2 else 1,0,n,[],[],x.outs,[],[]⟩],T):=by
  rw[wrN_eq,if_pos h34];unfold sumW;simp only;rw[hn];rfl
 have hkk:((if zEc x.op then 2 else 1:Int)=1\/(if zEc x.op then 2 else 1:Int)=2):=by split<;>simp
 generalize(if zEc x.op then 2 else 1:Int)=kk at*;have hc:zb (⟨kk,0,n,[],[],x.outs,[],[]⟩:Node)=false:=open_plain (by simp only;omega);have hcost:=low_cost hL hS hf 0;have w1:yba .i64 (S.cost+1)=S.cost+1:=by
  have:=hL.1;have:=hL.2;rw[<-zY];exact zm (by omega) (by omega)
 refine⟨fun w' e hw'=>?_,fun w' e hw'=>?_,fun _ e _=>(by cases e),fun e=>by cases e⟩
 ·cases e;rw[hw];refine⟨by simpa[zn]using hc,⟨0,[]⟩,setW v' x.outs [n],{S' with fuel:=0},1,rfl,?_,zDa _ _ _,fun q hq=>?_⟩
  ·have:=zbc (u':=u') (K:=K) (y:=⟨kk,0,n,[],[],x.outs,[],[]⟩) (v':=v') (S':=S') (a:=S.fuel) (sz:=szN x) (ex:=0) (R:=zq {S with fuel:=k}) (b:= .ok ⟨0,[]⟩) (v1':=setW v' x.outs [n]) (S1':={S' with fuel:=0}) (c:=0)
    ⟨hS.inp,hS.arrs,hS.out,hS.c0,by have:=hS.c1;simp only[zq,w1];omega⟩ (by simp only[zq];omega) (by simp only[zNe,zq];omega) (fun j e he=>by
     unfold zmb;rw[if_pos (show(⟨kk,0,n,[],[],x.outs,[],[]⟩:Node).kind=1\/(⟨kk,0,n,[],[],x.outs,[],[]⟩:Node).kind=2 from hkk)];simp)
   simpa using this
  ·have h1:=setW_both (ns:=[n]) hV hO (by rw[ho];rfl) q hq;refine⟨?_,h1.2⟩;rw[h1.1];simp only;rw[ho]at hq ⊢;have hq:q=o:=by simpa using hq
   subst hq;rw[ho]at hv1;rw[hv1];exact zjd v [q] [n] 0 q n (by simp) (by rw[hV.vl,<-ho];exact hO.rng) rfl rfl
 ·cases e;exact absurd rfl hw'
end
def zoc(us:List Int)(q:Rt Wy×List Int×RS):Rt Wy×List Int×RS:=match q with
 |(.ok w,v1,S1)=>if w.kind=12 then(.ok ⟨0,[]⟩,setW v1 us w.l,S1)else(.ok w,v1,S1)
 |(.stop k,v1,S1)=>(.stop k,v1,S1)
theorem choiceW_br(ev:NEv)(x:Node)(c:Int)(v:List Int)(S:RS):zUa ev x c v S=zoc x.outs (zB ev (if c=0 then kid1 x else kid0 x) v S):=by
 unfold zUa zoc;generalize zB ev (if c=0 then kid1 x else kid0 x) v S=q;obtain⟨a,v1,S1⟩:=q;cases a<;>rfl
theorem nodeW_if{u:Unt}{ev:NEv}{i:Nat}{x:Node}{v:List Int}{S:RS}(hk:x.kind=10):zmb u ev i x v S=zUa ev x (atA (ofW v x.args) 0) v S:=by
 unfold zmb;rw[if_neg (by omega),if_neg (by omega),if_pos hk]
section
variable {u u':Unt} {f:Flow} {F:zA} {K:Nat}
theorem setW_back{Zk Z1:Set1}{T:Tos}{v v' us ns:List Int}(hO:OutsOk f.types Zk Z1 us)(hv:v.length=f.types.length)(hv':v'.length=f.types.length)(hT:Keys T Zk)(hl:us.length=ns.length):
  ∀o∈us,at0 (setW v' us ns) (sg T o)=at0 (setW v us ns) o/\0<=sg T o/\atB Z1 (sg T o)=true:=by
 intro o ho;rw[hT.none (hO.new o ho)];refine⟨?_,(hO.rng o ho).1,hO.set o ho⟩;obtain⟨i,hi⟩:=yP ho;have hlt:i<us.length:=(yb.1 hi).1;have hn:ns[i]? =some (ns[i]'(by omega)):=yd (by omega);rw[zjd v us ns i o _ hO.nd (by rw[hv];exact hO.rng) hi hn,zjd v' us ns i o _ hO.nd (by rw[hv'];exact hO.rng) hi hn]
theorem yields_12{w:Wy}{p:Pl}{n:Nat}(h:Ended {p with y:=some n} w)(h12:w.kind=12):n=w.l.length:=by
 rcases h with e|e|e|e
 ·have:=e.2;simpa using this
 ·omega
 ·omega
 ·omega
theorem sim_keep{p:Pl}{x y:Node}{T T1 Tl:Tos}{Zl Zk Z1:Set1}{v v':List Int}{S S':RS}{k:Nat}{l:List Node}{q:Rt Wy×List Int×RS}(hf:S.fuel=k+1)(hw:wrN F x T=([y],T1))(hy:y.kind=10)(hyo:y.outs=x.outs)
  (hk2:y.kids.length=2) (hmem:zx (wrGo F l Tl).1∈y.kids) (hsz:szL l+1<=szN x)
  (hch:∀(ev:NEv) (σ:RS),zUa ev y (atA (ofW v' y.args) 0) v' σ=zoc y.outs (zB ev (zx (wrGo F l Tl).1) v' σ))
  (hR:ListRun f.types.length {p with y:=some x.outs.length} l {S with fuel:=k} q) (hB:SimL u' K F l Tl Zl v' S' k q) (hv':v'.length=f.types.length) (hO:OutsOk f.types Zk Z1 x.outs) (hT:Keys T1 Zk):
  SimN u' K F x T Z1 v' S' S.fuel (zoc x.outs q):=by
 obtain⟨a,v1,S1⟩:=q;obtain⟨r1,r2,r3⟩:=hR;simp only at r1 r2 r3;have hnode:∀(j:Nat) (σ:RS),zmb u' (evN u' j) j y v' σ=zoc x.outs (zB (evN u' j) (zx (wrGo F l Tl).1) v' σ):=by
  intro j σ;rw[nodeW_if hy,hch,hyo]
 have hmul:K*1=K:=Nat.mul_one K;cases a with
 |stop j=>
  simp only[zoc];refine⟨fun w e=>(by cases e),fun w e=>(by cases e),fun j' e hj=>?_,fun e=>?_⟩
  ·cases e;obtain⟨v1',S1',c,hd⟩:=hB.trap _ rfl hj;have h1:=hd.le;have h2:=hd.ge;simp only at h1 h2;rw[hw];refine⟨v1',S1',c+1,?_⟩;exact zbc (b:= .stop _) hd.st (by simp only;omega) (by simp only[ypa];omega) (fun i e he=>by rw[hnode,hd.run i e he];rfl)
  ·cases e;obtain⟨d1,c,d2,d3,d4⟩:=hB.dry rfl;rw[hw];refine one_dry (c:=c) d1 (by omega) (by rw[ypa];omega) (fun i hi=>?_);obtain⟨b,v1',S1',e1,e2,e3,e4,e5,e6⟩:=d4 i hi;rcases e6 with e6|⟨e6,_⟩
   ·subst e6;exact⟨v1',S1',by rw[hnode,e1];rfl,e2,e3,e4,e5⟩
   ·exact e6.elim
 |ok w=>
  obtain⟨v1',S1',c,hd,hl2,hy12,hlv⟩:=hB.fin w rfl;obtain⟨n1,n2,n3,n4⟩:=r3 w rfl;have h1:=hd.le;have h2:=hd.ge;simp only at h1 h2;by_cases h12:w.kind=12
  ·simp only[zoc];rw[if_pos h12];have hyl:=(hy12 h12).1;have hlen:=yields_12 n2 h12;refine⟨fun w' e hw'=>?_,fun w' e hw'=>?_,fun _ e _=>(by cases e),fun e=>by cases e⟩
   ·cases e;rw[hw];refine⟨?_,⟨0,[]⟩,setW v1' x.outs w.l,S1',c+1,rfl,?_,by rw[zDa];exact hl2,setW_back hO r2 (by rw[hl2];exact hv') hT hlen⟩
    ·rw[last_one];unfold zb;rw[if_pos ⟨hy,hk2⟩,<-Bool.not_eq_true,yj];intro hall;have:=hall _ hmem;rw[hyl]at this;cases this
    ·have:=zbc (u':=u') (K:=K) (y:=y) (v':=v') (S':=S') (a:=S.fuel) (sz:=szN x) (ex:=0) (R:=S1) (b:= .ok ⟨0,[]⟩) (v1':=setW v1' x.outs w.l) (S1':=S1') (c:=c)
      hd.st (by omega) (by rw[ypa];omega) (fun i e he=>by
       rw[hnode,hd.run i e he];simp only[zoc];rw[if_pos h12])
     simpa using this
   ·cases e;exact absurd rfl hw'
  ·simp only[zoc];rw[if_neg h12];refine⟨fun w' e hw'=>?_,fun w' e hw'=>?_,fun _ e _=>(by cases e),fun e=>by cases e⟩
   ·cases e;exact absurd hw' n2.ne
   ·cases e;rw[hw];refine⟨v1',S1',c+1,?_,hl2,fun h=>absurd h h12,fun h14=>?_⟩
    ·have:=zbc (u':=u') (K:=K) (y:=y) (v':=v') (S':=S') (a:=S.fuel) (sz:=szN x) (ex:=K) (R:=S1) (b:= .ok w) (v1':=v1') (S1':=S1') (c:=c)
      hd.st (by omega) (by rw[ypa];omega) (fun i e he=>by
       rw[hnode,hd.run i e he];simp only[zoc];rw[if_neg h12])
     simp only at this;rw[if_neg hw']at this;exact this
    ·have:=hlv h14;simp only[zu,zrc,hy];simp only[decide_true,Bool.true_and,Bool.or_false,yw,List.any_eq_true];exact .inr ⟨_,hmem,this⟩
theorem drop_run{d:List Node}{e:Node}(he:e.kind=12)(i:Nat){v:List Int}{S:RS}{b:Rt Wy}{v1:List Int}{S1:RS}(h:zB (evN u' i) (d++[e]) v S=(b,v1,S1)):
  (∀w,b= .ok w->w.kind≠12)->zB (evN u' i) d v S=(b,v1,S1)\/(b= .stop 0/\∃w,w.kind=0/\zB (evN u' i) d v S=(.ok w,v1,S1)):=by
 intro hb;by_cases hE:Ends (zB (evN u' i) d v S).1
 ·rw[listW_app1 _ _ _ _ _ hE]at h;exact .inl h
 ·generalize hq:zB (evN u' i) d v S=q at*;obtain⟨a,v2,S2⟩:=q;cases a with
  |stop k=>exact absurd trivial hE
  |ok w0=>
   have hw0:w0.kind=0:=Classical.byContradiction fun hn=>hE hn
   rw[zUe _ _ _ _ _ w0 v2 S2 hq hw0,zB]at h;cases i with
   |zero=>
    have e1:evN u' 0 e v2 S2=(.stop 0,v2,S2):=rfl;rw[e1]at h;simp only[Prod.mk.injEq]at h;obtain⟨rfl,rfl,rfl⟩:=h;exact .inr ⟨rfl,w0,hw0,rfl⟩
   |succ i=>
    cases hf:S2.fuel with
    |zero=>
     have e1:evN u' (i+1) e v2 S2=(.stop 0,v2,S2):=by rw[evN];simp only[hf]
     rw[e1]at h;simp only[Prod.mk.injEq]at h;obtain⟨rfl,rfl,rfl⟩:=h;exact .inr ⟨rfl,w0,hw0,rfl⟩
    |succ k=>
     have e1:evN u' (i+1) e v2 S2=(.ok ⟨12,ofW v2 e.args⟩,v2,{S2 with fuel:=k}):=by
      rw[evN];simp only[hf];unfold zmb;rw[if_neg (by omega),if_pos (by omega),he]
     rw[e1]at h;simp only at h;rw[if_neg (by decide)]at h;simp only[Prod.mk.injEq]at h;exact absurd rfl (hb _ h.1.symm)
theorem sim_pick{p:Pl}{x:Node}{T:Tos}{Zl Zk Z1:Set1}{v v':List Int}{S S':RS}{k:Nat}{l:List Node}{q:Rt Wy×List Int×RS}(hf:S.fuel=k+1)(hw:wrN F x T=zAb x.outs (zx (wrGo F l T).1,(wrGo F l T).2))(hne:zx (wrGo F l T).1≠ [])(hsz:szL l+1<=szN x)
  (hcl:zF (zx (wrGo F l T).1)=true->zb x=false) (hzz:∀s:Int,0<=s->atB Zl s=true->atB Z1 s=true)
  (hR:ListRun f.types.length {p with y:=some x.outs.length} l {S with fuel:=k} q) (hB:SimL u' K F l T Zl v' S' k q) (hv':v'.length=f.types.length) (hO:OutsOk f.types Zk Z1 x.outs):
  SimN u' K F x T Z1 v' S' S.fuel (zoc x.outs q):=by
 obtain⟨a,v1,S1⟩:=q;obtain⟨r1,r2,r3⟩:=hR;simp only at r1 r2 r3;rcases yz (zx (wrGo F l T).1)with hz|⟨d,e,hz⟩
 ·exact absurd hz hne
 rw[yC]at hz;have hinit:=zJd (wrGo F l T).1;by_cases h12:e.kind=12
 ·have hyl:zF (zx (wrGo F l T).1)=true:=by rw[hz];simp[zF,h12]
  have hcx:=hcl hyl;have hw1:wrN F x T=(d,setsW (wrGo F l T).2 x.outs e.args):=by
   rw[hw];unfold zAb;simp only;rw[hz,yEa];simp only;rw[if_pos h12,yia]
  rw[hz,yia]at hinit;have hlc:zn d=false:=by
   rcases yz d with h|⟨d',z,h⟩
   ·rw[h];rfl
   ·rw[h,yC];have:=hinit z (by rw[h];simp);simp[zn,this]
  cases a with
  |stop j=>
   simp only[zoc];refine⟨fun w e=>(by cases e),fun w e=>(by cases e),fun j' ej hj=>?_,fun ej=>?_⟩
   ·cases ej;obtain⟨v1',S1',c,hd⟩:=hB.trap _ rfl hj;have h1:=hd.le;have h2:=hd.ge;simp only at h1 h2;rw[hw1];refine⟨v1',S1',c,hd.st,by simp only;omega,by simp only;omega,fun i e' he=>?_⟩;have h3:=hd.run i e' he;rw[hz]at h3;rcases drop_run h12 i h3 (fun w e=>by cases e)with h4|⟨h4,_⟩
    ·exact h4
    ·cases h4;exact absurd rfl hj
   ·cases ej;obtain⟨d1,c,d2,d3,d4⟩:=hB.dry rfl;rw[hw1];refine⟨d1,c,by omega,by omega,fun i hi=>?_⟩;obtain⟨b,v1',S1',e1,e2,e3,e4,e5,e6⟩:=d4 i hi;rcases e6 with e6|⟨e6,_⟩
    ·subst e6;rw[hz]at e1;rcases drop_run h12 i e1 (fun w e=>by cases e)with h4|⟨_,w,h5,h4⟩
     ·exact⟨_,v1',S1',h4,e2,e3,e4,e5,.inl rfl⟩
     ·exact⟨_,v1',S1',h4,e2,e3,e4,e5,.inr ⟨⟨hlc,hcx⟩,w,rfl,h5⟩⟩
    ·exact e6.elim
  |ok w=>
   obtain⟨v1',S1',c,hd,hl2,hy12,hlv⟩:=hB.fin w rfl;obtain⟨n1,n2,n3,n4⟩:=r3 w rfl;have h1:=hd.le;have h2:=hd.ge;simp only at h1 h2;by_cases hk:w.kind=12
   ·simp only[zoc];rw[if_pos hk];have hlen:=yields_12 n2 hk;obtain⟨_,d',e',w0,c0,y2,y3,y4,y5,y6,y7⟩:=hy12 hk;have hde:d'=d/\e'=e:=by
     rw[hz]at y2;have:=List.append_inj' y2 rfl;exact⟨this.1.symm,by simpa using this.2.symm⟩
    obtain⟨rfl,rfl⟩:=hde;have z1:=y7.le;have z2:=y7.ge;simp only at z1 z2;refine⟨fun w' ew hw'=>?_,fun w' ew hw'=>?_,fun _ ej _=>(by cases ej),fun ej=>by cases ej⟩
    ·cases ew;rw[hw1];refine⟨hlc,w0,v1',S1',c0,y6,⟨y7.st,by simp only;omega,by simp only;omega,y7.run⟩,hl2,fun o ho=>?_⟩;obtain⟨i,hi⟩:=yP ho;have hlt:i<x.outs.length:=(yb.1 hi).1;have hal:e'.args.length=x.outs.length:=by
      have:=congrArg List.length y5;rw[zKc]at this;omega
     have hai:e'.args[i]? =some (e'.args[i]'(by omega)):=yd (by omega);have hg:=ztf x.outs e'.args (wrGo F l T).2 i o _ hO.nd hi hai;have hsg:sg (setsW (wrGo F l T).2 x.outs e'.args) o=e'.args[i]'(by omega):=by unfold sg;rw[hg];rfl
     simp only;rw[hsg];have hq:=y4 (e'.args[i]'(by omega)) (List.getElem_mem _);refine⟨?_,hq.1,hzz _ hq.1 hq.2⟩;have hli:w.l[i]? =some (at0 v1' (e'.args[i]'(by omega))):=by
      rw[y5];unfold ofW;rw[yk,hai];rfl
     exact(zjd v1 x.outs w.l i o _ hO.nd (by rw[r2];exact hO.rng) hi hli).symm
    ·cases ew;exact absurd rfl hw'
   ·simp only[zoc];rw[if_neg hk];refine⟨fun w' ew hw'=>?_,fun w' ew hw'=>?_,fun _ ej _=>(by cases ej),fun ej=>by cases ej⟩
    ·cases ew;exact absurd hw' n2.ne
    ·cases ew;rw[hw1];refine⟨v1',S1',c,⟨hd.st,by simp only;omega,by simp only;omega,fun i e' he=>?_⟩,hl2,fun h=>absurd h hk,fun h14=>?_⟩
     ·have h3:=hd.run i e' he;rw[hz]at h3;rcases drop_run h12 i h3 (fun w2 e2=>by cases e2;exact hk)with h4|⟨h4,_⟩
      ·exact h4
      ·cases h4
     ·have:=hlv h14;rw[hz,zbd]at this;have hel:zu [e]=false:=by simp[zu,zrc,h12]
      rw[hel,Bool.or_false]at this;exact this
 ·have hyl:zF (zx (wrGo F l T).1)=false:=by rw[hz];simp[zF,h12]
  have hw1:wrN F x T=(zx (wrGo F l T).1,(wrGo F l T).2):=by
   rw[hw];unfold zAb;simp only;rw[hz,yEa];simp only;rw[if_neg h12]
  cases a with
  |stop j=>
   simp only[zoc];refine⟨fun w e=>(by cases e),fun w e=>(by cases e),fun j' ej hj=>?_,fun ej=>?_⟩
   ·cases ej;obtain⟨v1',S1',c,hd⟩:=hB.trap _ rfl hj;have h1:=hd.le;have h2:=hd.ge;simp only at h1 h2;rw[hw1];exact⟨v1',S1',c,hd.st,by simp only;omega,by simp only;omega,hd.run⟩
   ·cases ej;obtain⟨d1,c,d2,d3,d4⟩:=hB.dry rfl;rw[hw1];refine⟨d1,c,by omega,by omega,fun i hi=>?_⟩;obtain⟨b,v1',S1',e1,e2,e3,e4,e5,e6⟩:=d4 i hi;rcases e6 with e6|⟨e6,_⟩
    ·exact⟨b,v1',S1',e1,e2,e3,e4,e5,.inl e6⟩
    ·exact e6.elim
  |ok w=>
   obtain⟨v1',S1',c,hd,hl2,hy12,hlv⟩:=hB.fin w rfl;obtain⟨n1,n2,n3,n4⟩:=r3 w rfl;have h1:=hd.le;have h2:=hd.ge;simp only at h1 h2;have hk:w.kind≠12:=by
    intro hk;have:=(hy12 hk).1;rw[hyl]at this;cases this
   simp only[zoc];rw[if_neg hk];refine⟨fun w' ew hw'=>?_,fun w' ew hw'=>?_,fun _ ej _=>(by cases ej),fun ej=>by cases ej⟩
   ·cases ew;exact absurd hw' n2.ne
   ·cases ew;rw[hw1];exact⟨v1',S1',c,⟨hd.st,by simp only;omega,by simp only;omega,hd.run⟩,hl2,fun h=>absurd h hk,hlv⟩
end
theorem kids_go2x{u:Unt}{f:Flow}{l0 l1:List Node}{seen:List Int}{w:Place}{deep:Int}{Z:Set1}(h:(zH u f [l0,l1] seen w deep Z).1=true):
  (goR u f l0 seen w deep Z).1=true/\(goR u f l1 seen w deep (goR u f l0 seen w deep Z).2).1=true/\(zH u f [l0,l1] seen w deep Z).2=(goR u f l1 seen w deep (goR u f l0 seen w deep Z).2).2:=by
 rw[zH]at h ⊢;split at h
 ·rename_i c;rw[if_pos c];have c':=zab c;have e:(zNa l0 (goR u f l0 seen w deep Z)).2=(goR u f l0 seen w deep Z).2:=by unfold zNa;rw[if_pos c']
  rw[e,zH]at h ⊢;split at h
  ·rename_i c2;rw[if_pos c2];have c2':=zab c2;have e2:(zNa l1 (goR u f l1 seen w deep (goR u f l0 seen w deep Z).2)).2=(goR u f l1 seen w deep (goR u f l0 seen w deep Z).2).2:=by unfold zNa;rw[if_pos c2']
   rw[e2,zH];exact⟨c',c2',rfl⟩
  ·cases h
 ·cases h
theorem if_outs{u:Unt}{f:Flow}{x:Node}{seen:List Int}{w:Place}{deep:Int}{Z:Set1}(hl:Z.length=f.types.length)(h10:x.kind=10)(h:(zy u f x seen w deep Z).1=true):
  OutsOk f.types (zH u f x.kids seen {w with inIf:=true,yield:=typesM f.types x.outs} (deep+1) Z).2 (zy u f x seen w deep Z).2 x.outs/\ZS (zH u f x.kids seen {w with inIf:=true,yield:=typesM f.types x.outs} (deep+1) Z).2 (zy u f x seen w deep Z).2:=by
 obtain⟨_,q2⟩:=if_parts h10 h;obtain⟨m1,m2⟩:=zma x.kids _ _ _ Z hl q2;rw[zsa]at h ⊢;split at h
 ·cases h
 rename_i c0;rw[if_neg c0,if_pos h10]
 (try rw[if_pos h10]at h)
 split at h
 ·rename_i c;rw[if_pos c];obtain⟨e1,e2⟩:=zva h;rw[(zZd h).1];exact⟨zAc m2 e2,zZa m2 e2⟩
 ·cases h
theorem Val.at{f:Flow}{F:zA}{seen:List Int}{Z Z1:Set1}{T T1:Tos}{v v':List Int}{D:List Int}(h:Val f F seen Z T v v')(hz:ZS Z Z1)(hl:Z1.length=f.types.length)(hD:New Z D)(hS:Set' Z1 D)(hT:∀s,s ∉ D->getA T1 s=getA T s):Val f F seen Z1 T1 v v':=by
 have:=h.step (us:=[]) hz hl hD hS hT (Fr.refl D v) (Fr.refl D v') h.vl h.vl' ⟨by simp⟩ (by intro s hs;cases hs) (by intro s hs;cases hs);rw[yla]at this;exact this
section
variable {u u':Unt} {f:Flow} {F:zA} {K A:Nat}
theorem sim_if(hU:OkU u)(HN:EvSim u u' f F K A){p:Pl}{x:Node}{seen:List Int}{w:Place}{deep:Int}{Z:Set1}{h:Hd}{T:Tos}{v v':List Int}{S S':RS}{k:Nat}(i:Nat)(hA:k<=A)(hi:k<=i)
  (hok:okN u f.types.length p x) (hr:(zy u f x seen w deep Z).1=true) (hh:HdR f.types.length h) (hk:(zsb x h (F,false)).1=(F,false)) (hV:Val f F seen Z T v v') (hS:RS2 S S') (hL:Low S) (hf:S.fuel=k+1) (h10:x.kind=10) (hKz:szN x<=K):
  SimN u' K F x T (zy u f x seen w deep Z).2 v' S' S.fuel (zmb u (evN u i) i x v {S with fuel:=k}):=by
 have hok':=hok;rw[zhb]at hok';obtain⟨o1,o2⟩:=hok';have hkid:=kids_two (o1.k10 h10).2;obtain⟨a0,ha⟩:∃a0,x.args=[a0]:=by
  have:=(o1.k10 h10).1
  match hx:x.args,this with
  | [a],_=>exact⟨a,rfl⟩
 obtain⟨q1,q2⟩:=if_parts h10 hr;obtain⟨hO,hZn⟩:=if_outs hV.zl h10 hr;have hKd:=zMd x.kids _ _ _ Z hV.zl q2;have hKs:=kidsR_set x.kids _ _ _ Z hV.zl q2;obtain⟨hKm,hKl⟩:=zma x.kids _ _ _ Z hV.zl q2;have hp:plIn p x.kind x.outs x.params={p with y:=some x.outs.length}:=by rw[h10];rfl
 rw[hp]at o2;rw[hkid]at o2 q2;have hk0:=hk;rw[zib,if_neg (by omega),if_neg (by omega),if_pos h10,hkid]at hk0;have hh':HdR f.types.length {h with y:=x.outs}:=⟨o1.outs,hh.2.1,hh.2.2⟩
 obtain⟨s0,s1,s2⟩:=choiceK_st o2 hh' hk0;obtain⟨g0,g1,gz⟩:=kids_go2x q2;rw[<-hkid]at gz;have ha0:a0∈seen:=q1 a0 (by rw[ha];simp);have hcv:atA (ofW v x.args) 0=at0 v a0:=by rw[ha];rfl
 have hc0:at0 x.args 0=a0:=by rw[ha];rfl
 rw[hc0]at s0 s1;have ok0:=zjb o2 (kid0 x) (by simp);have ok1:=zjb o2 (kid1 x) (by simp);obtain⟨m0,l0⟩:=zvc (kid0 x) _ _ _ Z hV.zl g0;obtain⟨m1,l1⟩:=zvc (kid1 x) _ _ _ _ l0 g1;have d0:=goR_defs (kid0 x) _ _ _ Z hV.zl g0;have t0:=goR_set (kid0 x) _ _ _ Z hV.zl g0;have hz0:szL (kid0 x)+1<=szN x:=by rw[zNe,hkid];simp only[szK];omega
 have hz1:szL (kid1 x)+1<=szN x:=by rw[zNe,hkid];simp only[szK];omega
 have hS0:RS2 {S with fuel:=k} S':=⟨hS.inp,hS.arrs,hS.out,hS.c0,hS.c1⟩
 have hL0:Low {S with fuel:=k}:=⟨hL.1,by have:=hL.2;simp only;omega⟩
 have hl0:=zpb (zic hU i) (kid0 x) v {S with fuel:=k} ok0.1 ok0.2 hV.vl;have hl1:=zpb (zic hU i) (kid1 x) v {S with fuel:=k} ok1.1 ok1.2 hV.vl;rw[nodeW_if h10,choiceW_br,hcv];have b0:=fun hg=>simL hU HN i (kid0 x) {p with y:=some x.outs.length} seen _ _ Z {h with y:=x.outs} T v v' {S with fuel:=k} S' ok0.1 hA hi (by omega) ok0.2 g0 hh' (s0 hg) hV hS0 hL0
 have hcl:∀(l:List Node),l∈x.kids->WL {p with y:=some x.outs.length} l (zx (wrGo F l T).1)->zF (zx (wrGo F l T).1)=true->zb x=false:=by
  intro l hm hwl hy;unfold zb;rw[if_pos ⟨h10,(o1.k10 h10).2⟩,<-Bool.not_eq_true,yj];intro hall;have h1:=hall l hm;rcases yz (zx (wrGo F l T).1)with hz|⟨d,e,hz⟩
  ·exact hwl.ne hz
  ·rw[yC]at hz;rw[hz]at hy;have he:e.kind=12:=by simpa[zF]using hy
   have:=(hwl.yl e (by rw[hz];simp) he).1;rw[this]at h1;cases h1
 cases hn:numK F a0 with
 |mk z b=>
  cases b with
  |true=>
   have hz:=hV.ef.num ha0 hn;have hw:wrN F x T=zAb x.outs (zwa F x.kids (decide (z≠0)) T):=by
    rw[wrN_eq,if_neg (by omega),if_pos h10,hc0,hn];simp
   rw[hkid]at hw;by_cases hc:at0 v a0=0
   ·rw[if_pos hc];have hg:=goes1_of hV.ef ha0 hc;have hV1:Val f F seen (goR u f (kid0 x) seen {w with inIf:=true,yield:=typesM f.types x.outs} (deep+1) Z).2 T v v':=hV.at (D:=[]) m0 l0 (by intro o ho;cases ho) (by intro o ho;cases ho) (fun _ _=>rfl);have b1:=simL hU HN i (kid1 x) {p with y:=some x.outs.length} seen _ _ _ {h with y:=x.outs} T v v' {S with fuel:=k} S' ok1.1 hA hi (by omega) ok1.2 g1 hh' (s1 hg) hV1 hS0 hL0;have hw2:wrN F x T=zAb x.outs (zx (wrGo F (kid1 x) T).1,(wrGo F (kid1 x) T).2):=by
     rw[hw];have:z=0:=by rw[<-hz];exact hc
     rw[this,zwa,zwa];simp
    have hwl:=(zrd F (kid1 x) _ T ok1.2 ok1.1).tidy;exact sim_pick (v:=v) hf hw2 hwl.ne hz1 (hcl _ (by rw[hkid];simp) hwl) (fun s h0 hs=>hZn s h0 (by rw[gz];exact hs)) hl1 b1 hV.vl' hO
   ·rw[if_neg hc];have hg:=goes0_of hV.ef ha0 hc;have hw2:wrN F x T=zAb x.outs (zx (wrGo F (kid0 x) T).1,(wrGo F (kid0 x) T).2):=by
     rw[hw];have:z≠0:=by rw[<-hz];exact hc
     rw[zwa];simp[this]
    have hwl:=(zrd F (kid0 x) _ T ok0.2 ok0.1).tidy;exact sim_pick (v:=v) hf hw2 hwl.ne hz0 (hcl _ (by rw[hkid];simp) hwl) (fun s h0 hs=>hZn s h0 (by rw[gz];exact m1 s h0 hs)) hl0 (b0 hg) hV.vl' hO
  |false=>
   have hw:wrN F x T=([{x with args:=valW T x.args,kids:=(wrKs F x.kids T).1}],(wrKs F x.kids T).2):=by
    rw[wrN_eq,if_neg (by omega),if_pos h10,hc0,hn];simp
   have hks:(wrKs F x.kids T).1=[zx (wrGo F (kid0 x) T).1,zx (wrGo F (kid1 x) (wrGo F (kid0 x) T).2).1]:=by
    rw[hkid,wrKs,wrKs,wrKs]
   have hT:Keys (wrKs F x.kids T).2 (zH u f x.kids seen {w with inIf:=true,yield:=typesM f.types x.outs} (deep+1) Z).2:=hV.ky.part hKm hKd.pos hKs (wrKs_T F x.kids T);have hca:atA (ofW v' (valW T x.args)) 0=at0 v a0:=by rw[hV.args q1,hcv]
   by_cases hc:at0 v a0=0
   ·rw[if_pos hc];have hg:=goes1_of hV.ef ha0 hc;have hV1:=hV.at (T1:=(wrGo F (kid0 x) T).2) m0 l0 d0 t0 (wrGo_T F (kid0 x) T);have b1:=simL hU HN i (kid1 x) {p with y:=some x.outs.length} seen _ _ _ {h with y:=x.outs} (wrGo F (kid0 x) T).2 v v' {S with fuel:=k} S' ok1.1 hA hi (by omega) ok1.2 g1 hh' (s1 hg) hV1 hS0 hL0;refine sim_keep (v:=v) hf hw h10 rfl (by simp only;rw[hks];rfl) (by simp only;rw[hks];simp) hz1 (fun ev σ=>?_) hl1 b1 hV.vl' hO hT;rw[choiceW_br];simp only;rw[hca,if_pos hc];unfold kid1;simp only;rw[hks];rfl
   ·rw[if_neg hc];have hg:=goes0_of hV.ef ha0 hc;refine sim_keep (v:=v) hf hw h10 rfl (by simp only;rw[hks];rfl) (by simp only;rw[hks];simp) hz0 (fun ev σ=>?_) hl0 (b0 hg) hV.vl' hO hT;rw[choiceW_br];simp only;rw[hca,if_neg hc];unfold kid0;simp only;rw[hks];rfl
end
theorem nodeW_loop{u:Unt}{ev:NEv}{i:Nat}{x:Node}{v:List Int}{S:RS}(hk:x.kind=11):zmb u ev i x v S=zTa ev x (i+1) (ofW v x.args) v S:=by
 unfold zmb;rw[if_neg (by omega),if_neg (by omega),if_neg (by omega),if_pos hk]
theorem Val.keep{f:Flow}{F:zA}{seen:List Int}{Z:Set1}{T:Tos}{v v' v1 v1':List Int}{D:List Int}(h:Val f F seen Z T v v')(hD:New Z D)(hf:Fr D v v1)(hf':Fr D v' v1')(hv:v1.length=f.types.length)(hv':v1'.length=f.types.length):Val f F seen Z T v1 v1':=by
 refine⟨h.zl,h.sl,h.ef.fr (h.sl.fr hD hf),hv,hv',h.ky,fun s hs=>?_,h.tgt⟩;rw[hD.fr hf' _ (h.tgt s hs).1 (h.tgt s hs).2,h.val s hs,hD.fr hf s (h.sl.at' s hs).1 (h.sl.at' s hs).2]
structure LoopS(u':Unt)(K:Nat)(y:Node)(l v':List Int)(S':RS)(a sz:Nat)(ws:List Node)(us:List Int)(R:Rt Wy×List Int×RS):Prop where
 go:∀w,R.1= .ok w->∃v1' S1' c,RS2 R.2.2 S1'/\c+R.2.2.fuel<=a/\a<=R.2.2.fuel+K*c/\v1'.length=v'.length/\(w.kind=0->zu ws=true/\∀o∈us,at0 v1' o=at0 R.2.1 o)/\(w.kind≠0->w.kind=15)∧
  ∀j e n,c+e<=j->c+e<n->zTa (evN u' j) y n l v' {S' with fuel:=c+e}=(.ok w,v1',{S1' with fuel:=e})
 trap:∀k,R.1= .stop k->k≠0->∃v1' S1' c,RS2 R.2.2 S1'/\c+R.2.2.fuel<=a/\a<=R.2.2.fuel+sz+K*c∧
  ∀j e n,c+e<=j->c+e<n->zTa (evN u' j) y n l v' {S' with fuel:=c+e}=(.stop k,v1',{S1' with fuel:=e})
 dry:R.1= .stop 0->R.2.2.fuel=0/\∃c,c<=a/\a<=sz+K*c/\∀j n,c<=j->c<n->∃v1' S1',zTa (evN u' j) y n l v' {S' with fuel:=c}=(.stop 0,v1',S1')/\S1'.fuel=0/\S1'.out=R.2.2.out/\0<=S1'.cost/\S1'.cost<=R.2.2.cost
section
variable {u u':Unt} {f:Flow} {F:zA} {K A:Nat}
theorem loop_sim(hU:OkU u)(HN:EvSim u u' f F K A){p:Pl}{x:Node}{seen:List Int}{w:Place}{deep:Int}{Z Zp:Set1}{T:Tos}(i:Nat)
  (h11:x.kind=11) (hok:okN u f.types.length p x) (z1:ZS Z Zp) (z2:Zp.length=f.types.length) (z3:OutsOk f.types Z Zp x.params) (g0:(goR u f (kid0 x) (seen++x.params) w deep Zp).1=true) (hO:OutsOk f.types Zp Zp [])
  (hst:zta (kid0 x) ⟨[],x.params,x.outs⟩ (F,false)=(F,false)) (hnd:x.outs.Nodup) (hKz:szL (kid0 x)<=K) {y:Node} (hyk:kid0 y=zx (wrGo F (kid0 x) T).1) (hyp:y.params=x.params) (hyo:y.outs=x.outs):
  ∀(N n:Nat) (l v v':List Int) (S S':RS),S.fuel<=N->S.fuel<n->S.fuel<=A->S.fuel<=i->Hold F x.params l->l.length=x.params.length->Val f F seen Z T v v'->RS2 S S'->Low S→
   LoopS u' K y l v' S' S.fuel (szL (kid0 x)) (zx (wrGo F (kid0 x) T).1) x.outs (zTa (evN u i) x n l v S)
 |N,0,l,v,v',S,S',hN,hn,hA,hi,hp,hlen,hV,hS,hL=>by omega
 |N,n+1,l,v,v',S,S',hN,hn,hA,hi,hp,hlen,hV,hS,hL=>by
  have hok':=hok;rw[zhb]at hok';obtain⟨o1,o2⟩:=hok';have hkid:=zqf (o1.k11 h11).2;have hpl:plIn p x.kind x.outs x.params=⟨none,some x.params.length,some x.outs.length⟩:=by rw[h11];rfl
  rw[hpl,hkid]at o2;have ok0:=zjb o2 (kid0 x) (by simp);have hD:=goR_defs (kid0 x) _ _ _ Zp z2 g0;have hh1:HdR f.types.length ⟨[],x.params,x.outs⟩:=⟨znc _,o1.prs,o1.outs⟩
  have hfv:=zAe v x.params l z3.fresh.pos;have hfv':=zAe v' x.params l z3.fresh.pos;have hV1:Val f F (seen++x.params) Zp T (setW v x.params l) (setW v' x.params l):=hV.step z1 z2 z3.fresh z3.set (fun _ _=>rfl) hfv hfv' (by rw[zDa];exact hV.vl) (by rw[zDa];exact hV.vl') z3.sl (hp.env hlen.symm z3.nd (by rw[hV.vl];exact o1.prs)) (setW_both hV z3 hlen.symm);have hB:=simL hU HN i (kid0 x) ⟨none,some x.params.length,some x.outs.length⟩ (seen++x.params) w deep Zp ⟨[],x.params,x.outs⟩ T _ _ S S' ok0.1 hA hi hKz ok0.2 g0 hh1 hst hV1 hS hL;have hR:=zpb (zic hU i) (kid0 x) (setW v x.params l) S ok0.1 ok0.2 hV1.vl;have hFs:=listW_fs (evN_fs hU i) (zic hU i) (evN_fr u i) (kid0 x) (seen++x.params) w deep Zp ⟨[],x.params,x.outs⟩ (setW v x.params l) S ok0.2 g0 z2 hV1.sl hh1 hst hV1.ef hV1.vl;have hF:=listW_fr (evN_fr u i) (kid0 x) (setW v x.params l) S hD.pos;have hG:=listW_G (evN_G u i) (kid0 x) (setW v x.params l) S hL;have hdefs:∀o∈zAa (zx (wrGo F (kid0 x) T).1),o∈zAa (kid0 x):=fun o ho=>wrGo_defs F (kid0 x) T o (zMe _ o ho)
  have hy:∀(ev:NEv) (n:Nat) (σ:RS),zTa ev y (n+1) l v' σ=match zB ev (zx (wrGo F (kid0 x) T).1) (setW v' x.params l) σ with
    |(.ok w,v1,S1)=>if w.kind=15 then(.ok w,v1,S1)else if w.kind=14 then(.ok ⟨0,[]⟩,setW v1 x.outs w.l,S1)else zTa ev y n w.l v1 S1
    |(.stop j,v1,S1)=>(.stop j,v1,S1):=by
   intro ev n σ;rw[zTa,hyk,hyp,hyo];generalize zB ev (zx (wrGo F (kid0 x) T).1) (setW v' x.params l) σ=q;obtain⟨a,v1,S1⟩:=q;cases a<;>rfl
  have ih:=fun(N':Nat) (hlt:N'<N) l v v' S S'=>loop_sim hU HN i h11 hok z1 z2 z3 g0 hO hst hnd hKz hyk hyp hyo N' n l v v' S S'
  unfold zTa;generalize zB (evN u i) (kid0 x) (setW v x.params l) S=q at*;obtain⟨a,v1,S1⟩:=q;obtain⟨r1,r2,r3⟩:=hR;simp only at r1 r2 r3 hF hG;cases a with
  |stop j=>
   refine⟨fun w e=>(by cases e),fun j' e hj=>?_,fun e=>?_⟩
   ·cases e;obtain⟨v1',S1',c,hd⟩:=hB.trap _ rfl hj;refine⟨v1',S1',c,hd.st,hd.le,hd.ge,fun j e n he hn=>?_⟩;obtain⟨n',rfl⟩:∃n',n=n'+1:=⟨n-1,by omega⟩
    rw[hy,hd.run j e he]
   ·cases e;obtain⟨d1,c,d2,d3,d4⟩:=hB.dry rfl;refine⟨d1,c,d2,d3,fun j n hj hn=>?_⟩;obtain⟨n',rfl⟩:∃n',n=n'+1:=⟨n-1,by omega⟩
    obtain⟨b,v1',S1',e1,e2,e3,e4,e5,e6⟩:=d4 j hj;rcases e6 with e6|⟨e6,_⟩
    ·subst e6;exact⟨v1',S1',by rw[hy,e1],e2,e3,e4,e5⟩
    ·exact e6.elim
  |ok w1=>
   obtain⟨v1',S1',c,hd,hl2,_,hlv⟩:=hB.fin w1 rfl;obtain⟨b1,b2,b3⟩:=hFs w1 rfl;obtain⟨n1,n2,n3,n4⟩:=r3 w1 rfl;have h1:=hd.le;have h2:=hd.ge;simp only at h1 h2;have hl3:v1'.length=v'.length:=by rw[hl2,zDa]
   simp only;by_cases hw:w1.kind=15
   ·rw[if_pos hw];refine⟨fun w e=>?_,fun _ e _=>(by cases e),fun e=>by cases e⟩;cases e;refine⟨v1',S1',c,hd.st,by simp only;omega,by simp only;omega,hl3,fun h=>by omega,fun _=>hw,fun j e n he hn=>?_⟩;obtain⟨n',rfl⟩:∃n',n=n'+1:=⟨n-1,by omega⟩
    rw[hy,hd.run j e he];simp only;rw[if_pos hw]
   ·rw[if_neg hw];by_cases hw4:w1.kind=14
    ·rw[if_pos hw4];refine⟨fun w e=>?_,fun _ e _=>(by cases e),fun e=>by cases e⟩;cases e;have hlen':x.outs.length=w1.l.length:=by
      rcases n2 with e2|e2|e2|e2
      ·omega
      ·omega
      ·have:=e2.2;simpa using this
      ·omega
     refine⟨setW v1' x.outs w1.l,S1',c,hd.st,by simp only;omega,by simp only;omega,by rw[zDa];exact hl3,fun _=>⟨hlv hw4,fun o ho=>?_⟩,fun h=>absurd rfl h,fun j e n he hn=>?_⟩
     ·obtain⟨q,hq⟩:=yP ho;have hlt:q<x.outs.length:=(yb.1 hq).1;have hn:w1.l[q]? =some (w1.l[q]'(by omega)):=yd (by omega);rw[zjd v1 x.outs w1.l q o _ hnd (by rw[r2];exact o1.outs) hq hn,zjd v1' x.outs w1.l q o _ hnd (by rw[hl3,hV.vl'];exact o1.outs) hq hn]
     ·obtain⟨n',rfl⟩:∃n',n=n'+1:=⟨n-1,by omega⟩
      rw[hy,hd.run j e he];simp only;rw[if_neg hw,if_pos hw4]
    ·rw[if_neg hw4];have hw3:w1.kind=13/\x.params.length=w1.l.length:=by
      rcases n2 with e2|e2|e2|e2
      ·have:=e2.2;cases this
      ·exact⟨e2.1,by have:=e2.2;simpa using this⟩
      ·exact absurd e2.1 hw4
      ·exact absurd e2.1 hw
     have hfr1:Fr (x.params++zAa (kid0 x)) v v1:=(hfv.mono (fun o ho=>yma _ ho)).trans (hF.mono (fun o ho=>yva _ ho));have hfr2:Fr (x.params++zAa (kid0 x)) v' v1':=(hfv'.mono (fun o ho=>yma _ ho)).trans ((hd.fr (fun o ho=>hD.pos o (hdefs o ho))).mono (fun o ho=>yva _ (hdefs o ho)));have hV2:Val f F seen Z T v1 v1':=hV.keep (z3.fresh.app (hD.back z1)) hfr1 hfr2 r2 (by rw[hl3];exact hV.vl');have hI:=ih S1.fuel (by omega) w1.l v1 v1' S1 S1' (yg _) (by omega) (by omega) (by omega) (b2 hw3.1) hw3.2.symm hV2 hd.st (hG.low hL);have hc1:1<=c:=by
      rcases Nat.eq_zero_or_pos c with h0|h0
      ·subst h0;omega
      ·exact h0
     have hstep:∀j e n,c+e<=j->c+e<n+1->zTa (evN u' j) y (n+1) l v' {S' with fuel:=c+e}=zTa (evN u' j) y n w1.l v1' {S1' with fuel:=e}:=by
      intro j e n he hn;rw[hy,hd.run j e he];simp only;rw[if_neg hw,if_neg hw4]
     generalize zTa (evN u i) x n w1.l v1 S1=q2 at*;refine⟨fun w e=>?_,fun k e hk=>?_,fun e=>?_⟩
     ·obtain⟨v2',S2',c2,k1,k2,k3,k4,k5,k6,k7⟩:=hI.go w e;refine⟨v2',S2',c+c2,k1,by omega,by rw[ypa];omega,k4.trans hl3,k5,k6,fun j e n he hn=>?_⟩;obtain⟨n',rfl⟩:∃n',n=n'+1:=⟨n-1,by omega⟩
      rw[show c+c2+e=c+(c2+e) by omega,hstep j (c2+e) n' (by omega) (by omega)];exact k7 j e n' (by omega) (by omega)
     ·obtain⟨v2',S2',c2,k1,k2,k3,k7⟩:=hI.trap k e hk;refine⟨v2',S2',c+c2,k1,by omega,by rw[ypa];omega,fun j e n he hn=>?_⟩;obtain⟨n',rfl⟩:∃n',n=n'+1:=⟨n-1,by omega⟩
      rw[show c+c2+e=c+(c2+e) by omega,hstep j (c2+e) n' (by omega) (by omega)];exact k7 j e n' (by omega) (by omega)
     ·obtain⟨d1,c2,d2,d3,d4⟩:=hI.dry e;refine⟨d1,c+c2,by omega,by rw[ypa];omega,fun j n hj hn=>?_⟩;obtain⟨n',rfl⟩:∃n',n=n'+1:=⟨n-1,by omega⟩
      obtain⟨v2',S2',e1,e2⟩:=d4 j n' (by omega) (by omega);exact⟨v2',S2',by rw[hstep j c2 n' hj (by omega)];exact e1,e2⟩
end
theorem loop_outs{u:Unt}{f:Flow}{x:Node}{seen:List Int}{w:Place}{deep:Int}{Z:Set1}(hl:Z.length=f.types.length)(h11:x.kind=11)(h:(zy u f x seen w deep Z).1=true):
  (∀a∈x.args,a∈seen)/\∃Zp,ZS Z Zp/\Zp.length=f.types.length/\OutsOk f.types Z Zp x.params/\(zH u f x.kids (seen++x.params) ⟨false,true,[],typesM f.types x.params,typesM f.types x.outs⟩ (deep+1) Zp).1=true∧
   OutsOk f.types (zH u f x.kids (seen++x.params) ⟨false,true,[],typesM f.types x.params,typesM f.types x.outs⟩ (deep+1) Zp).2 (zy u f x seen w deep Z).2 x.outs:=by
 have h10:¬x.kind=10:=by omega
 rw[zsa]at h ⊢;split at h
 ·cases h
 rename_i c0;rw[if_neg c0,if_neg h10,if_pos h11]
 (try rw[if_neg h10,if_pos h11]at h)
 split at h
 ·rename_i c;rw[if_pos c];split at h
  ·rename_i c2;rw[if_pos c2];obtain⟨e1,e2⟩:=zva h;have hl2:(zD f.types Z x.params (zna x.params.length)).2.length=f.types.length:=by rw[zfb];exact hl
   obtain⟨m1,m2⟩:=zma x.kids _ _ _ _ hl2 e1;refine⟨zqa c,_,zZa hl c2,hl2,zAc hl c2,e1,?_⟩;rw[(zZd h).1];exact zAc m2 e2
  ·cases h
 ·cases h
section
variable {u u':Unt} {f:Flow} {F:zA} {K A:Nat}
theorem sim_loop(hU:OkU u)(HN:EvSim u u' f F K A){p:Pl}{x:Node}{seen:List Int}{w:Place}{deep:Int}{Z:Set1}{h:Hd}{T:Tos}{v v':List Int}{S S':RS}{k:Nat}(i:Nat)(hA:k<=A)(hi:k<=i)
  (hok:okN u f.types.length p x) (hr:(zy u f x seen w deep Z).1=true) (hh:HdR f.types.length h) (hk:(zsb x h (F,false)).1=(F,false)) (hV:Val f F seen Z T v v') (hS:RS2 S S') (hL:Low S) (hf:S.fuel=k+1) (h11:x.kind=11) (hKz:szN x<=K):
  SimN u' K F x T (zy u f x seen w deep Z).2 v' S' S.fuel (zmb u (evN u i) i x v {S with fuel:=k}):=by
 have hok':=hok;rw[zhb]at hok';obtain⟨o1,o2⟩:=hok';have hkid:=zqf (o1.k11 h11).2;obtain⟨q1,Zp,z1,z2,z3,q2,hO⟩:=loop_outs hV.zl h11 hr;have hpl:plIn p x.kind x.outs x.params=⟨none,some x.params.length,some x.outs.length⟩:=by rw[h11];rfl
 rw[hpl,hkid]at o2;have hk0:=hk;rw[zib,if_neg (by omega),if_neg (by omega),if_neg (by omega),if_pos h11,hkid]at hk0;obtain⟨s0,s1⟩:=loopK_st o2 o1.outs o1.prs hk0;have hKd:=zMd x.kids _ _ _ Zp z2 q2;have hKs:=kidsR_set x.kids _ _ _ Zp z2 q2;obtain⟨hKm,hKl⟩:=zma x.kids _ _ _ Zp z2 q2;have hT:Keys (wrKs F x.kids T).2 (zH u f x.kids (seen++x.params) ⟨false,true,[],typesM f.types x.params,typesM f.types x.outs⟩ (deep+1) Zp).2:=hV.ky.part (z1.trans hKm) hKd.pos hKs (wrKs_T F x.kids T);generalize(zH u f x.kids (seen++x.params) ⟨false,true,[],typesM f.types x.params,typesM f.types x.outs⟩ (deep+1) Zp).2=Zk at*;rw[hkid]at q2;have g0:=kids_go1 q2;have hw:wrN F x T=([{x with args:=valW T x.args,kids:=(wrKs F x.kids T).1}],(wrKs F x.kids T).2):=by
  rw[wrN_eq,if_neg (by omega),if_neg (by omega),if_pos h11]
 have hks:(wrKs F x.kids T).1=[zx (wrGo F (kid0 x) T).1]:=by
  rw[hkid,wrKs,wrKs]
 have hz:szL (kid0 x)+1<=szN x:=by rw[zNe,hkid];simp only[szK];omega
 have hS0:RS2 {S with fuel:=k} S':=⟨hS.inp,hS.arrs,hS.out,hS.c0,hS.c1⟩
 have hL0:Low {S with fuel:=k}:=⟨hL.1,by have:=hL.2;simp only;omega⟩
 have ha:=hV.args q1;have hB:=loop_sim (y:={x with args:=valW T x.args,kids:=(wrKs F x.kids T).1}) hU HN i h11 hok z1 z2 z3 g0 OutsOk.nil s1 hO.nd (by omega) (by unfold kid0;simp only;rw[hks];rfl) rfl rfl
  k (i+1) (ofW v x.args) v v' {S with fuel:=k} S' (yg _) (by simp only;omega) hA hi (meetsK_st o1.prs s0 hV.ef q1) (by rw[zKc];exact(o1.k11 h11).1) hV hS0 hL0
 have hnode:∀(j:Nat) (σ:RS),zmb u' (evN u' j) j {x with args:=valW T x.args,kids:=(wrKs F x.kids T).1} v' σ=zTa (evN u' j) {x with args:=valW T x.args,kids:=(wrKs F x.kids T).1} (j+1) (ofW v x.args) v' σ:=by
  intro j σ;rw[nodeW_loop (x:={x with args:=valW T x.args,kids:=(wrKs F x.kids T).1}) h11];simp only;rw[ha]
 rw[nodeW_loop h11];have hmono:=(loopW_ok (zic hU i) hok h11 (i+1) (l:=ofW v x.args) (by rw[zKc];exact(o1.k11 h11).1) hV.vl {S with fuel:=k}).2.1;generalize zTa (evN u i) x (i+1) (ofW v x.args) v {S with fuel:=k}=q at*;refine⟨fun w' e hw'=>?_,fun w' e hw'=>?_,fun j' e hj=>?_,fun e=>?_⟩
 ·obtain⟨v1',S1',c,k1,k2,k3,k4,k5,k6,k7⟩:=hB.go w' e;simp only at k2 k3;obtain⟨y1,y2⟩:=k5 hw';rw[hw];refine⟨?_,⟨0,[]⟩,v1',S1',c+1,rfl,?_,k4,fun o ho=>?_⟩
  ·rw[last_one];unfold zb;rw[if_neg (by simp only;omega),if_pos ⟨h11,by simp only;rw[hks];rfl⟩];simp only;rw[hks];simp[y1]
  ·have:=zbc (u':=u') (K:=K) (y:={x with args:=valW T x.args,kids:=(wrKs F x.kids T).1}) (v':=v') (S':=S') (a:=S.fuel) (sz:=szN x) (ex:=0) (R:=q.2.2) (b:= .ok w') (v1':=v1') (S1':=S1') (c:=c)
    k1 (by omega) (by rw[ypa];omega) (fun j e he=>by rw[hnode];exact k7 j e (j+1) he (by omega))
   simp only at this;rw[if_pos hw']at this;exact this
  ·simp only;rw[hT.none (hO.new o ho)];exact⟨y2 o ho,(hO.rng o ho).1,hO.set o ho⟩
 ·obtain⟨v1',S1',c,k1,k2,k3,k4,k5,k6,k7⟩:=hB.go w' e;simp only at k2 k3;have h15:=k6 hw';rw[hw];refine⟨v1',S1',c+1,?_,k4,fun h=>by omega,fun h=>by omega⟩;have:=zbc (u':=u') (K:=K) (y:={x with args:=valW T x.args,kids:=(wrKs F x.kids T).1}) (v':=v') (S':=S') (a:=S.fuel) (sz:=szN x) (ex:=K) (R:=q.2.2) (b:= .ok w') (v1':=v1') (S1':=S1') (c:=c)
   k1 (by omega) (by rw[ypa,zNe];omega) (fun j e he=>by rw[hnode];exact k7 j e (j+1) he (by omega))
  simp only at this;rw[if_neg hw']at this;exact this
 ·obtain⟨v1',S1',c,k1,k2,k3,k7⟩:=hB.trap j' e hj;simp only at k2 k3;rw[hw];exact⟨v1',S1',c+1,zbc (b:= .stop j') k1 (by omega) (by rw[ypa];omega) (fun j e he=>by rw[hnode];exact k7 j e (j+1) he (by omega))⟩
 ·obtain⟨d1,c,d2,d3,d4⟩:=hB.dry e;simp only at d2 d3;rw[hw];refine one_dry (c:=c) d1 (by omega) (by rw[ypa];omega) (fun j hj=>?_);rw[hnode];exact d4 j (j+1) hj (by omega)
end
theorem flowAt_known(u:Unt)(s:List UInt8):flowAt (zT u) s=(flowAt u s).map zZe:=by
 unfold flowAt;rw[knownM_pl];exact yk ..
theorem sim_flow{u u':Unt}{K A:Nat}(hU:OkU u){g:Flow}(hg:g∈u.flows)(hr:zvb u g=true)(HN:EvSim u u' g (zPa g) K A)(i:Nat){l:List Int}(hl:l.length<=g.types.length){S S':RS}(hA:S.fuel<=A)(hi:S.fuel<=i)(hS:RS2 S S')(hL:Low S)(hKg:szL g.body<=K):
  ∃Z1,SimL u' K (zPa g) g.body [] Z1 (l++yf (g.types.length-l.length) 0) S' S.fuel (zB (evN u i) g.body (l++yf (g.types.length-l.length) 0) S):=by
 have hb:=hU.body g hg;have hp:=hU.pars g hg;unfold zvb at hr;rw[ya]at hr;have h2:=hr.2;have h3:(goR u g g.body (zIa g.params.toNat) zQa 1 (zmc g g.params.toNat)).1=true:=by
  unfold zIb zNa at h2;split at h2
  ·rename_i hg;exact hg
  ·cases h2
 obtain⟨s1,s2⟩:=study_begin hb.2;have hin:=initR_at g g.params.toNat (by omega);have hvl:(l++yf (g.types.length-l.length) 0).length=g.types.length:=by simp;omega
 have hV:Val g (zPa g) (zIa g.params.toNat) (zmc g g.params.toNat) [] (l++yf (g.types.length-l.length) 0) (l++yf (g.types.length-l.length) 0):=
  ⟨zVb g _ (by omega),⟨fun s hs=>⟨(hin s hs).1,(hin s hs).2.1⟩⟩,s2 _,hvl,hvl,fun v hv=>absurd rfl hv,fun s hs=>rfl,fun s hs=>⟨(hin s hs).1,(hin s hs).2.1⟩⟩
 exact⟨_,simL hU HN i g.body ⟨none,none,none⟩ _ zQa 1 _ hd0 [] _ _ S S' hb.1 hA hi hKg hb.2 h3 (hd0_r _) s1 hV hS hL⟩
theorem plainW_call{u:Unt}{ev:NEv}{n:Node}{g:Flow}(h7:n.kind=7)(hg:flowAt u n.name=some g)(l:List Int)(S:RS):
  zoa u ev n l S=match zB ev g.body (l++yf (g.types.length-l.length) 0) S with
   |(.ok w,_,S1)=>(.ok [atA w.l 0],S1)
   |(.stop k,_,S1)=>(.stop k,S1):=by
 unfold zoa;rw[if_neg (by omega),if_neg (by omega),if_neg (by omega),if_neg (by omega),if_pos h7,hg];simp only;unfold zRc;generalize zB ev g.body (l++yf (g.types.length-l.length) 0) S=q;obtain⟨a,v1,S1⟩:=q;cases a<;>rfl
section
variable {u:Unt} {f:Flow} {F:zA} {K A:Nat}
theorem sim_call(hU:OkU u)(hfr:∀g∈u.flows,zvb u g=true)(HA:∀g∈u.flows,EvSim u (zT u) g (zPa g) K A)(hK:∀g∈u.flows,szL g.body+1<=K){p:Pl}{x:Node}{seen:List Int}{w:Place}{deep:Int}{Z:Set1}{T:Tos}{v v':List Int}{S S':RS}{k:Nat}(i:Nat)(hA:k<=A)(hi:k<=i)
  (hok:okN u f.types.length p x) (hr:(zy u f x seen w deep Z).1=true) (hV:Val f F seen Z T v v') (hS:RS2 S S') (hL:Low S) (hf:S.fuel=k+1) (h7:x.kind=7):
  SimN (zT u) K F x T (zy u f x seen w deep Z).2 v' S' S.fuel (zmb u (evN u i) i x v {S with fuel:=k}):=by
 rw[zhb]at hok;have hO:=zUb hV.zl hr;have ha:=hV.args (zSb (by omega) (by omega) hr);have hw:wrN F x T=([{x with args:=valW T x.args}],T):=wrN_simple (by omega);have hc:zb ({x with args:=valW T x.args}:Node)=false:=open_plain (by simp only;omega);obtain⟨g,hg,_,hgl,hgo⟩:=hok.1.k7 h7;have hgm:g∈u.flows:=yr hg;have hg':flowAt (zT u) x.name=some (zZe g):=by rw[flowAt_known,hg];rfl
 have hll:(ofW v x.args).length<=g.types.length:=by rw[zKc,hgl];simp[pars];omega
 have hKg:=hK g hgm;have hcost:=low_cost hL hS hf;have hrun:=zpb (zic hU i) g.body (ofW v x.args++yf (g.types.length-(ofW v x.args).length) 0) (zq {S with fuel:=k}) (hU.body g hgm).1 (hU.body g hgm).2 (by simp;omega);have hL1:Low (zq {S with fuel:=k}):=by
  obtain⟨l1,l2⟩:=hL;have w1:yba .i64 (S.cost+1)=S.cost+1:=by
   rw[<-zY];exact zm (by omega) (by omega)
  refine⟨?_,?_⟩<;>simp only[zq,w1]<;>omega
 obtain⟨Z1,hB⟩:=sim_flow hU hgm (hfr g hgm) (HA g hgm) i hll (S:=zq {S with fuel:=k}) (S':=zq {S' with fuel:=0}) hA hi (hcost 0) hL1 (by omega);have hnode:∀(j e:Nat),zmb (zT u) (evN (zT u) j) j {x with args:=valW T x.args} v' {S' with fuel:=e}=
   match zB (evN (zT u) j) (zx (wrGo (zPa g) g.body []).1) (ofW v x.args++yf (g.types.length-(ofW v x.args).length) 0) {zq {S' with fuel:=0}with fuel:=e}with
   |(.ok w,_,S1)=>(.ok ⟨0,[]⟩,setW v' x.outs [atA w.l 0],S1)
   |(.stop k,_,S1)=>(.stop k,v',S1):=by
  intro j e;rw[zYc (by simp only;omega),plainW_call (n:={x with args:=valW T x.args}) (g:=zZe g) h7 hg'];simp only;rw[ha];have e1:zq {S' with fuel:=e}={zq {S' with fuel:=0}with fuel:=e}:=rfl;rw[e1];have e2:(zZe g).body=zx (wrGo (zPa g) g.body []).1:=rfl;have e3:(zZe g).types=g.types:=rfl;rw[e2,e3];generalize zB (evN (zT u) j) (zx (wrGo (zPa g) g.body []).1) (ofW v x.args++yf (g.types.length-(ofW v x.args).length) 0) {zq {S' with fuel:=0}with fuel:=e}=q;obtain⟨a,v1,S1⟩:=q;cases a<;>rfl
 rw[zYc (by omega),plainW_call h7 hg];have hfu:(zq {S with fuel:=k}).fuel=k:=rfl;rw[hfu]at hB;generalize zB (evN u i) g.body (ofW v x.args++yf (g.types.length-(ofW v x.args).length) 0) (zq {S with fuel:=k})=q at*;obtain⟨a,v1,S1⟩:=q;obtain⟨r1,r2,r3⟩:=hrun;simp only at r1 r2 r3;cases a with
 |stop j=>
  simp only;refine⟨fun w e=>(by cases e),fun w e=>(by cases e),fun j' e hj=>?_,fun e=>?_⟩
  ·cases e;obtain⟨v1',S1',c,hd⟩:=hB.trap _ rfl hj;have h1:=hd.le;have h2:=hd.ge;simp only at h1 h2;rw[hw];exact⟨v',S1',c+1,zbc (b:= .stop _) hd.st (by simp only;omega) (by rw[ypa,zNe];simp only;omega) (fun j e he=>by rw[hnode,hd.run j e he])⟩
  ·cases e;obtain⟨d1,c,d2,d3,d4⟩:=hB.dry rfl;rw[hw];refine one_dry (c:=c) d1 (by omega) (by rw[ypa];omega) (fun j hj=>?_);obtain⟨b,v1',S1',e1,e2,e3,e4,e5,e6⟩:=d4 j hj;rcases e6 with e6|⟨e6,_⟩
   ·subst e6;exact⟨v',S1',by rw[hnode,e1],e2,e3,e4,e5⟩
   ·exact e6.elim
 |ok w1=>
  simp only;obtain⟨v1',S1',c,hd,_⟩:=hB.fin w1 rfl;have h1:=hd.le;have h2:=hd.ge;simp only at h1 h2;refine⟨fun w' e hw'=>?_,fun w' e hw'=>?_,fun _ e _=>(by cases e),fun e=>by cases e⟩
  ·cases e;rw[hw];refine⟨by simpa[zn]using hc,⟨0,[]⟩,setW v' x.outs [atA w1.l 0],S1',c+1,rfl,?_,zDa _ _ _,setW_both hV hO (by simpa using hgo)⟩;have:=zbc (u':=zT u) (K:=K) (y:={x with args:=valW T x.args}) (v':=v') (S':=S') (a:=S.fuel) (sz:=szN x) (ex:=0) (R:=S1) (b:= .ok ⟨0,[]⟩) (v1':=setW v' x.outs [atA w1.l 0]) (S1':=S1') (c:=c)
    hd.st (by omega) (by rw[ypa,zNe];omega) (fun j e he=>by rw[hnode,hd.run j e he])
   simpa using this
  ·cases e;exact absurd rfl hw'
end
theorem evN_sim{u:Unt}{K:Nat}(hU:OkU u)(hfr:∀g∈u.flows,zvb u g=true)(hK:∀g∈u.flows,szL g.body+1<=K):∀(A:Nat),∀f∈u.flows,EvSim u (zT u) f (zPa f) K A
 |0=>by
  intro f hf i x p seen w deep Z h T v v' S S' hA hi hz hok hr hh hk hV hS hL;exact sim_zero i hok (by omega) hS
 |A+1=>by
  intro f hf i x p seen w deep Z h T v v' S S' hA hi hz hok hr hh hk hV hS hL;have ih:=evN_sim hU hfr hK A;cases hf0:S.fuel with
  |zero=>rw[<-hf0];exact sim_zero i hok hf0 hS
  |succ k=>
   obtain⟨j,rfl⟩:∃j,i=j+1:=⟨i-1,by omega⟩
   have he:evN u (j+1) x v S=zmb u (evN u j) j x v {S with fuel:=k}:=by
    rw[evN];simp only[hf0]
   rw[he,<-hf0];have o1:=hok;rw[zhb]at o1;have hx:=o1.1.k;by_cases k1:x.kind=1\/x.kind=2
   ·exact sim_num j hok hr hV hS hf0 k1
   by_cases k2:12<=x.kind/\x.kind<=15
   ·exact sim_end (p:=p) j hr hV hS hf0 k2
   by_cases k10:x.kind=10
   ·exact sim_if hU (ih f hf) j (by omega) (by omega) hok hr hh hk hV hS hL hf0 k10 hz
   by_cases k11:x.kind=11
   ·exact sim_loop hU (ih f hf) j (by omega) (by omega) hok hr hh hk hV hS hL hf0 k11 hz
   by_cases k7:x.kind=7
   ·exact sim_call hU hfr ih hK j (by omega) (by omega) hok hr hV hS hL hf0 k7
   by_cases k34:x.kind=3\/x.kind=4
   ·cases hn:numK (zPa f) (at0 x.outs 0)with
    |mk n b=>
     cases b with
     |true=>exact sim_sum hU j hok hr hh hk hV hS hL hf0 k34 hn
     |false=>
      refine sim_plain (u':=zT u) hU rfl j hok hr hV hS hL hf0 (by omega) k7 ?_;rw[wrN_eq,if_pos k34];unfold sumW;simp only;rw[hn];rfl
   ·exact sim_plain (u':=zT u) hU rfl j hok hr hV hS hL hf0 (by omega) k7 (wrN_simple (by omega))
def zLa:List Flow->Nat
 | []=>0
 |f::r=>szL f.body+zLa r
theorem sizeF_mem{f:Flow}{l:List Flow}(h:f∈l):szL f.body<=zLa l:=by
 induction l with
 |nil=>cases h
 |cons y r ih=>
  rw[zLa];rcases yA.1 h with rfl|h
  ·omega
  ·have:=ih h;omega
theorem playM_sim{u:Unt}(hz:USz u)(hc:(zJa u).1=0)(inp:List Int)(a:Nat)(ha:a<=1000000000):
  ∃b:Nat,b<=a/\a<=zLa u.flows+(zLa u.flows+1)*b/\(zHa (zT u) inp b).status=(zHa u inp a).status/\(zHa (zT u) inp b).code=(zHa u inp a).code/\(zHa (zT u) inp b).out=(zHa u inp a).out∧
   (zHa (zT u) inp b).fuel=(zHa u inp a).fuel/\(zHa (zT u) inp b).cost<=(zHa u inp a).cost:=by
 have hU:=zcf hz hc;have hfr:=((checkM_iff u).1 (checkM_fst hc)).2;have hc1:(zJa (zT u)).1=0:=by rw[knownM_check hz hc]
 have HA:=evN_sim (K:=zLa u.flows+1) hU hfr (fun g hg=>by have:=sizeF_mem hg;omega) a;obtain⟨f,hf,hfm,hpl,hfp⟩:=hU.main;have hb:=hU.body f hfm;unfold zHa;simp only[if_pos hc,if_pos hc1];have e0:run0 (zT u) inp=run0 u inp:=rfl;have hS:RS2 (run0 u inp a) (run0 u inp 0):=⟨rfl,rfl,rfl,by simp[run0],by simp[run0]⟩
 have hL:Low (run0 u inp a):=⟨by simp[run0],by simp only[run0];omega⟩
 have hfu:(run0 u inp a).fuel=a:=by simp[run0]
 obtain⟨Z1,hB⟩:=sim_flow (K:=zLa u.flows+1) hU hfm (hfr f hfm) (HA f hfm) a (l:=[]) (by simp) (S:=run0 u inp a) (S':=run0 u inp 0) (by rw[hfu];omega) (by rw[hfu];omega) hS hL (by have:=sizeF_mem hfm;omega);have hR:=zpb (zic hU a) f.body ([]++yf (f.types.length-([]:List Int).length) 0) (run0 u inp a) hb.1 hb.2 (by simp);have hm:=sizeF_mem hfm;have hv:∀b:Nat,mainW (zT u) (run0 (zT u) inp b)=match zB (evN (zT u) b) (zx (wrGo (zPa f) f.body []).1) ([]++yf (f.types.length-([]:List Int).length) 0) {run0 u inp 0 with fuel:=b}with
   |(.ok w,_,S1)=>(.ok (atA w.l 0),S1)
   |(.stop k,_,S1)=>(.stop k,S1):=by
  intro b;unfold mainW;rw[flowAt_known,hf,e0];have e1:(run0 u inp b).fuel=b:=by simp[run0]
  have e2:run0 u inp b={run0 u inp 0 with fuel:=b}:=by simp[run0]
  rw[e1,e2];rfl
 have hu:mainW u (run0 u inp a)=match zB (evN u a) f.body ([]++yf (f.types.length-([]:List Int).length) 0) (run0 u inp a)with
   |(.ok w,_,S1)=>(.ok (atA w.l 0),S1)
   |(.stop k,_,S1)=>(.stop k,S1):=by
  unfold mainW;rw[hf,hfu];rfl
 rw[hu];rw[hfu]at hB;generalize zB (evN u a) f.body ([]++yf (f.types.length-([]:List Int).length) 0) (run0 u inp a)=q at*;obtain⟨r,v1,S1⟩:=q;cases r with
 |ok w=>
  obtain⟨v1',S1',c,hd,_⟩:=hB.fin w rfl;have h1:=hd.le;have h2:=hd.ge;simp only at h1 h2;refine⟨c+S1.fuel,h1,by rw[ypa];have:S1.fuel<=(zLa u.flows+1)*S1.fuel:=Nat.le_mul_of_pos_left _ (by omega);omega,?_⟩;rw[hv,hd.run _ S1.fuel (yg _)];exact⟨rfl,rfl,hd.st.out,rfl,hd.st.c1⟩
 |stop j=>
  by_cases hj:j=0
  ·subst hj;obtain⟨d1,c,d2,d3,d4⟩:=hB.dry rfl;obtain⟨b,v1',S1',e1,e2,e3,e4,e5,e6⟩:=d4 c (yg _);rcases e6 with e6|⟨e6,_⟩
   ·subst e6;refine⟨c,d2,by omega,?_⟩;rw[hv,e1];exact⟨rfl,rfl,e3,by simp only[runEnd];rw[e2];exact d1.symm,e5⟩
   ·exact e6.elim
  ·obtain⟨v1',S1',c,hd⟩:=hB.trap j rfl hj;have h1:=hd.le;have h2:=hd.ge;simp only at h1 h2;refine⟨c+S1.fuel,h1,by rw[ypa];have:S1.fuel<=(zLa u.flows+1)*S1.fuel:=Nat.le_mul_of_pos_left _ (by omega);omega,?_⟩;rw[hv,hd.run _ S1.fuel (yg _)];exact⟨rfl,rfl,hd.st.out,rfl,hd.st.c1⟩
def arrFrom(k:Nat):List Arr->List (PV×PV)
 | []=>[]
 |a::r=>(.str a.name,.mslice k 0 a.size.toNat 1)::arrFrom (k+1) r
def intO(l:List Int):Obj:= .arr 1 (l.map (PV.int .i64))
def zQd(l:List (List Int)):zd:=l.map intO
def runCells(u:Unt)(S:RS):List PV:=[arrs u.arrays,flows u.flows,ints S.inp,.mp 0,.int .i64 0,.int .i64 0,acc 1 (S.out.map (PV.int .i64)),.int .i64 S.cost,.int .i64 S.fuel]
def runO(u:Unt)(S:RS):Obj:= .arr 9 [.agg (runCells u S)]
def sto(u:Unt)(S:RS)(T:List (List Int)):zd:= .mp (arrFrom 2 u.arrays)::runO u S::(zQd S.arrs++zQd T)
def endV(k:Int):PV:= .iface 76 (.agg [.int .i64 k])
section
variable (u:Unt) (S:RS) (T:List (List Int))
@[simp] theorem sto_0:(sto u S T)[0]? =some (.mp (arrFrom 2 u.arrays)):=rfl
@[simp] theorem sto_1:(sto u S T)[1]? =some (.arr 9 [.agg [arrs u.arrays,flows u.flows,ints S.inp,.mp 0,.int .i64 0,.int .i64 0,acc 1 (S.out.map (PV.int .i64)),.int .i64 S.cost,.int .i64 S.fuel]]):=rfl
@[simp] theorem set_fuel(k:Nat):(sto u S T).set 1 (.arr 9 [.agg [arrs u.arrays,flows u.flows,ints S.inp,.mp 0,.int .i64 0,.int .i64 0,acc 1 (S.out.map (PV.int .i64)),.int .i64 S.cost,.int .i64 k]])=sto u {S with fuel:=k} T:=rfl
@[simp] theorem set_fuel'(k:Nat):(sto u S T).set 1 (.arr 9 [.agg [arrs u.arrays,flows u.flows,.slice .plain 1 (S.inp.map (PV.int .i64)),.mp 0,.int .i64 0,.int .i64 0,acc 1 (S.out.map (PV.int .i64)),.int .i64 S.cost,.int .i64 k]])=sto u {S with fuel:=k} T:=rfl
@[simp] theorem set_inp(l:List Int):(sto u S T).set 1 (.arr 9 [.agg [arrs u.arrays,flows u.flows,.slice .plain 1 (l.map (PV.int .i64)),.mp 0,.int .i64 0,.int .i64 0,acc 1 (S.out.map (PV.int .i64)),.int .i64 S.cost,.int .i64 S.fuel]])=sto u {S with inp:=l} T:=rfl
end
@[simp] theorem rebuild_agg(a l:List PV):zN (.agg a) l= .agg l:=ye rfl rfl
@[simp] theorem rebuild_int(k:IntKind)(n:Int)(cs:List PV):zN (.int k n) cs=cs.headD .undef:=ye rfl rfl
def FitS(u:Unt)(S:RS):Prop:=S.arrs.map List.length=u.arrays.map (fun a=>a.size.toNat)/\S.out.length+S.fuel<=1000000000000
theorem FitS.mono{u:Unt}{S S1:RS}(h:FitS u S)(m:Mono S S1):FitS u S1:=⟨m.arrs.trans h.1,yta m.out h.2⟩
theorem FitS.len{u:Unt}{S:RS}(h:FitS u S):S.arrs.length=u.arrays.length:=by
 have:=congrArg List.length h.1;simpa using this
theorem FitS.cost{u:Unt}{S:RS}(h:FitS u S):FitS u (zq S):=h
theorem arrFrom_find(nm:List UInt8):∀(l:List Arr) (k:Nat),zya true (.str nm) (arrFrom k l)=some (match l.findIdx? (fun a=>decide (a.name=nm))with
  |some i=>match l[i]? with
   |some a=>some (.mslice (k+i) 0 a.size.toNat 1)
   |none=>none
  |none=>none)
 | [],k=>rfl
 |a::r,k=>by
  have ih:=arrFrom_find nm r (k+1);rw[arrFrom,List.findIdx?_cons];by_cases h:a.name=nm
  ·simp[h]
  ·have h':¬nm=a.name:=fun e=>h e.symm
   simp only[zya,zDd,if_true,h',decide_false,h];rw[ih];cases r.findIdx? (fun a=>decide (a.name=nm))with
   |none=>simp
   |some i=>
    simp only[yT,yO,yv,if_false];cases r[i]? with
    |none=>rfl
    |some b=>simp only;congr 3;omega
theorem arr_at{u:Unt}{S:RS}{nm:List UInt8}(hS:FitS u S)(h:zsc u.arrays nm=true):∃(i:Nat) (l:List Int),zFe u.arrays nm=i/\i<S.arrs.length/\S.arrs[i]? =some l/\zya true (.str nm) (arrFrom 2 u.arrays)=some (some (.mslice (i+2) 0 l.length 1)):=by
 rw[<-arrAt_has,decide_eq_true_eq]at h;unfold zFe idx at h;cases hq:u.arrays.findIdx? (fun a=>decide (a.name=nm))with
 |none=>rw[hq]at h;simp at h
 |some i=>
  have hlt0:i<u.arrays.length:=by
   rw[List.findIdx?_eq_some_iff_getElem]at hq;exact hq.1
  have hlt:i<S.arrs.length:=by rw[hS.len];exact hlt0
  refine⟨i,S.arrs[i],by unfold zFe idx;rw[hq],hlt,yd hlt,?_⟩;have a2:u.arrays[i]? =some u.arrays[i]:=yd hlt0;rw[arrFrom_find,hq];simp only[a2];have hl:(S.arrs[i]).length=(u.arrays[i]).size.toNat:=by
   have e:=congrArg (fun l:List Nat=>l[i]?) hS.1;simp only[yk,a2,yd hlt,yT,Option.some.injEq]at e;exact e
  rw[hl,Nat.add_comm 2 i]
section
variable {u:Unt} {S:RS} {T:List (List Int)}
theorem belowL_acc(n:Nat)(l:List Int):zE n (acc 1 (l.map (PV.int .i64)))=true:=by
 cases l with
 |nil=>rfl
 |cons x r=>simp
theorem rowsO_wf(n:Nat)(l:List (List Int)):(zQd l).all (fun o=>o.below n)=true:=by
 rw[yj];intro o ho;simp only[zQd,yka]at ho;obtain⟨l,_,rfl⟩:=ho;simp[intO,Obj.below]
end
theorem setW_snoc:∀(v d:List Int) (x:Int) (ns:List Int) (n:Int),ns.length=d.length->setW v (d++[x]) (ns++[n])=(setW v d ns).set x.toNat n
 |v,[],x,[],n,_=>by simp[setW]
 |v,o::d,x,m::ns,n,h=>by
  simp only[yI,setW];exact setW_snoc _ d x ns n (by simpa using h)
 |v,[],x,_::_,n,h=>by simp at h
 |v,_::_,x,[],n,h=>by simp at h
theorem set_self{α:Type}{l:List α}{k:Nat}{x:α}(h:l[k]? =some x):l.set k x=l:=by
 have:=yb.1 h;rw[<-this.2];exact List.set_getElem_self this.1
theorem take_snoc{α:Type}{l:List α}{k:Nat}{x:α}(h:l[k]? =some x):l.take (k+1)=l.take k++[x]:=by
 rw[List.take_add_one,h];rfl
def encW(w:Wy):PV:= .agg [.int .i64 w.kind,ints w.l]
def outX(q:Rt Wy):CRes:=match q with
 | .ok w=> .ret (encW w)
 | .stop k=> .pan (endV k)
@[simp] theorem outX_ok(w:Wy):outX (.ok w)= .ret (.agg [.int .i64 w.kind,ints w.l]):=rfl
@[simp] theorem outX_stop(n:Int):outX (.stop n)= .pan (endV n):=rfl
def capE:Nat:=1099511627776
structure LSt where
 rest:List Node
 v:List Int
 S:RS
def outE(q:Rt Int):CRes:=match q with
 | .ok n=> .ret (.int .i64 n)
 | .stop k=> .pan (endV k)
@[simp] theorem outE_ok(n:Int):outE (.ok n)= .ret (.int .i64 n):=rfl
@[simp] theorem outE_stop(n:Int):outE (.stop n)= .pan (endV n):=rfl
theorem len1{l:List Int}(h:l.length=1):∃a,l=[a]:=List.length_eq_one_iff.1 h
theorem len2{l:List Int}(h:l.length=2):∃a b,l=[a,b]:=by
 match l,h with
 | [a,b],_=>exact⟨a,b,rfl⟩
structure RSt where
 k:Nat
 l:List Int
 v:List Int
 S:RS
end PE.U

namespace PE
open Go
section
variable (n:Nat) (R:CRes->zd->Prop) (s:St) (K:PV×zd->Prop) (E:Env) (H:HFn) (fr:Fr)
end
end PE

namespace PE.U
open Go PE
def zge(r:Rn):PV:= .agg [.int .i64 r.status,.int .i64 r.code,ints r.out,.int .i64 r.cost,.int .i64 r.fuel]
def outSame(a b:List Int):Bool:=decide (a=b)
theorem sameOut_spec(a b:List Int)(ha:a.length<1099511627776)(hb:b.length<1099511627776):zk E 22 [ints a,ints b] []=some (.ret (.bool (outSame a b)),[]):=by
 refine zc rfl rfl rfl (by simp[ints]) ?_;unfold outSame;by_cases hl:a.length=b.length
 ·have hl':((a.length:Int)=b.length)=True:=eqp (by omega);simp[*,F22,ints];refine zG a K22_0 B22_0 (fun d=>[(5,.int .i64 d.length)]) (fun _=>[]) (fun d=>b.take d.length=d) (by omega) (by simp) ?_ ?_
  ·intros d x r s1 hs hlt hget hget' hwr hp g1 g2 g3 g4;simp at g1 g3;obtain⟨y,hy⟩:∃y,b[d.length]? =some y:=⟨_,yd (by omega)⟩
   have hdec:decide (d.length<a.length)=true:=decide_eq_true (by omega);have htk:b.take (d.length+1)=d++[y]:=by rw[List.take_add_one,hy,hp];rfl
   by_cases hxy:x=y
   ·subst hxy;clear hs hlt hget' hl hl' hp;simp[*]
   ·have hne:¬a=b:=by
     rintro rfl
     rw[hget]at hy;exact hxy (Option.some.inj hy)
    have h1:(x=y)=False:=eqn hxy;clear hs hlt hget' hl hl' hp htk;simp[*]
  ·intros s1 hp g1 g2 g3 g4;simp at g1 g3;have:a=b:=by rw[<-hp,hl,List.take_length]
   subst this;clear hp;simp[*]
 ·have hne:¬a=b:=by rintro rfl;exact hl rfl
  have hl':((a.length:Int)=b.length)=False:=eqn (by omega);clear hl;simp[*,F22,ints]
theorem ins_spec(l:List Int)(hl:l.length<=9223372036854775807):zk E 12 [ints l] []=some (.ret (ints (l.take 10)),[]):=by
 refine zc rfl rfl rfl (by simp) ?_;by_cases h:10<l.length
 ·have h1:((10:Int)<l.length)=True:=eqp (by omega);have h2:(10<=l.length)=True:=eqp (by omega);clear hl h;simp[*,F12,ints]
 ·have h1:((10:Int)<l.length)=False:=eqn (by omega);have h2:l.take 10=l:=List.take_of_length_le (by omega);rw[h2];clear hl h h2;simp[*,F12,ints]
theorem playM_out(u:Unt)(inp:List Int)(fu:Int)(h:fu<=100000000000)(hz:USz u):(zHa u inp fu).out.length<1099511627776:=by
 unfold zHa;split
 ·rename_i h0;have hU:=zcf hz h0;obtain⟨f,hf',hfm,hp',hfp⟩:=hU.main;have hmn:=(callW_ok (zic hU (run0 u inp fu).fuel) (hU.body f hfm) (l:=[]) (by simp) (run0 u inp fu)).1;have hmw:mainW u (run0 u inp fu)=zRc (evN u (run0 u inp fu).fuel) f [] (run0 u inp fu):=by unfold mainW;rw[hf']
  rw[hmw];generalize zRc (evN u (run0 u inp fu).fuel) f [] (run0 u inp fu)=q at*;have h2:=hmn.out;have e1:(run0 u inp fu).out.length=0:=rfl;have e2:(run0 u inp fu).fuel=fu.toNat:=rfl;obtain⟨a,S1⟩:=q;simp only at h2;rw[e1,e2]at h2;cases a<;>simp only[runEnd]<;>omega
 ·simp
def inpP(x:List Int)(S:RS):RS:={S with inp:=S.inp++x}
def RelI{α:Type}(x:List Int)(q q':Rt α×List Int×RS):Prop:=q.1≠ .stop 4->q'=(q.1,q.2.1,inpP x q.2.2)
def EvI(x:List Int)(ev:NEv):Prop:=∀n v S,RelI x (ev n v S) (ev n v (inpP x S))
section
variable {x:List Int} {ev:NEv} (H:EvI x ev)
include H
end
structure HPl where
 iff:Bool
 loop:Bool
 yield:List Int
 next:List Int
 left:List Int
structure Md(α:Type) where
 n:α
 i:Nat
 ts:List Int
 left:Nat
section
variable (L:List UInt8)
def pk(i n:Nat):Nat:=if L.length<i+1\/150<i+1 then 0 else(L[i]?.getD 0).toNat%n
def some1(ts:List Int)(t:Int):List Int->Bool->Int->Int->Int
 | [],_,_,v=>v
 |x::r,f,k,v=>if atA ts x.toNat=t/\(f=true\/0<k)then some1 ts t r false (k-1) x else some1 ts t r false k v
def some2(ts:List Int)(t:Int):List Int->Int->Int
 | [],v=>v
 |x::r,v=>if atA ts v.toNat=t then v else some2 ts t r (if atA ts x.toNat=t then x else v)
def someV(ts seen:List Int)(t k:Int):Int:=some2 ts t seen (some1 ts t seen true k 0)
def zYa(ts seen:List Int):List Int->Nat->List Int
 | [],_=>[]
 |t::r,i=>someV ts seen t (pk L i 8)::zYa ts seen r (i+1)
def newV(n:Nat):Nat->List Int
 |0=>[]
 |k+1=>newV n k++[((n+k:Nat):Int)]
def tyV(i:Nat):Nat->List Int
 |0=>[]
 |k+1=>tyV i k++[1+(pk L (i+k) 2:Int)]
def zdb(i:Nat):List Int:=tyV L (i+1) (pk L i 3)
def zCa(i:Nat):Nat:=i+1+pk L i 3
abbrev nd(kind op n:Int)(name:List UInt8)(args outs:List Int):Node:=⟨kind,op,n,name,args,outs,[],[]⟩
def zL(seen ts:List Int)(i:Nat):Node×Nat×List Int:=
 match pk L i 12 with
 |0=>(nd 1 0 (atA [0,1,2,3,-1,100] (pk L (i+1) 6)) [] [] [ts.length],i+2,[1])
 |1=>(nd 2 0 (pk L (i+1) 2) [] [] [ts.length],i+2,[2])
 |2=>(nd 3 (atA [20,21,23,27] (pk L (i+1) 4)) 0 [] (zYa L ts seen [1] (i+2)) [ts.length],i+3,[1])
 |3=>(nd 3 22 0 [] (zYa L ts seen [2] (i+1)) [ts.length],i+2,[2])
 |4|5|6=>(nd 4 (1+pk L (i+1) 11) 0 [] (zYa L ts seen [1,1] (i+2)) [ts.length],i+4,[1])
 |7|8=>(nd 4 (12+pk L (i+1) 6) 0 [] (zYa L ts seen [1,1] (i+2)) [ts.length],i+4,[2])
 |9=>(nd 5 0 0 [97] (zYa L ts seen [1] (i+1)) [ts.length],i+2,[1])
 |10=>(nd 6 0 0 [97] (zYa L ts seen [1,1] (i+1)) [],i+3,[])
 |_=>match pk L (i+1) 4 with
  |0=>(nd 7 0 0 [102] (zYa L ts seen [1,2] (i+2)) [ts.length],i+4,[1])
  |1=>(nd 8 0 0 [] [] [ts.length],i+2,[1])
  |_=>(nd 9 0 0 [] (zYa L ts seen [1] (i+2)) [],i+3,[])
def endL(p:HPl)(k:Nat):Int×List Int:=if p.iff=true/\k<4 then(12,p.yield)else if p.loop=true/\k%2=0 then(13,p.next)else if p.loop=true then(14,p.left)else(15,[1])
def endG(seen ts:List Int)(p:HPl)(i:Nat):Node:=nd (endL p (pk L i 6)).1 0 0 [] (zYa L ts seen (endL p (pk L i 6)).2 (i+1)) []
def endN(p:HPl)(i:Nat):Nat:=i+1+(endL p (pk L i 6)).2.length
abbrev LG:=List Int->HPl->Nat->List Int->Nat->Md (List Node)
def zBe(n:Node)(i:Nat)(ts:List Int)(left:Nat)(t:List Int):Md Node:=
 if zb n=true then⟨n,i,ts,left⟩else⟨{n with outs:=newV ts.length t.length},i,ts++t,left⟩
def ifG(f:LG)(all:List Int)(p:HPl)(i:Nat)(ts:List Int)(left:Nat):Md Node:=
 let t:=zdb L i
 let x:HPl:=⟨true,p.loop,t,p.next,p.left⟩
 let a:=f all x (zCa L i+1) ts left
 let b:=f all x a.i a.ts a.left
 zBe ⟨10,0,0,[],zYa L ts all [2] (zCa L i),[],[],[a.n,b.n]⟩ b.i b.ts b.left t
def loopG(f:LG)(all:List Int)(i:Nat)(ts:List Int)(left:Nat):Md Node:=
 let t:=zdb L i
 let o:=zdb L (zCa L i)
 let j:=zCa L (zCa L i)
 let ps:=newV ts.length t.length
 let a:=f (all++ps) ⟨false,true,[],t,o⟩ (j+t.length) (ts++t) left
 zBe ⟨11,0,0,[],zYa L ts all t j,[],ps,[a.n]⟩ a.i a.ts a.left o
def znf(rc:Option LG)(all:List Int)(p:HPl)(i:Nat)(ts:List Int)(left:Nat):Md Node:=
 let s:=zL L all ts i
 match rc with
 |none=>⟨s.1,s.2.1+1,ts++s.2.2,left⟩
 |some f=>
  if pk L s.2.1 6=0 then ifG L f all p (s.2.1+1) (ts++s.2.2) left
  else if pk L s.2.1 6=1 then loopG L f all (s.2.1+1) (ts++s.2.2) left
  else⟨s.1,s.2.1+1,ts++s.2.2,left⟩
def finG(p:HPl)(out:List Node)(all:List Int)(i:Nat)(ts:List Int)(left:Nat):Md (List Node):=⟨out++[endG L all ts p i],endN L p i,ts,left⟩
def runG(rc:Option LG)(p:HPl):Nat->List Node->List Int->Nat->List Int->Nat->Md (List Node)
 |0,out,all,i,ts,left=>finG L p out all i ts left
 |c+1,out,all,i,ts,left=>
  if left=0 then finG L p out all i ts left
  else
   let r:=znf L rc all p i ts (left-1)
   if zb r.n=true then⟨out++[r.n],r.i,r.ts,r.left⟩else runG rc p c (out++[r.n]) (all++r.n.outs) r.i r.ts r.left
def zud:Nat->LG
 |0=>fun seen p i ts left=>runG L none p (pk L i 6) [] seen (i+1) ts left
 |d+1=>fun seen p i ts left=>runG L (some (zud d)) p (pk L i 6) [] seen (i+1) ts left
def zyd(name:List UInt8)(params:List Int)(i:Nat):Md Flow:=
 let a:=zud L 3 (newV 0 params.length++[(params.length:Int),(params.length+1:Nat)]) ⟨false,false,[],[],[]⟩ i (params++[1,2]) 30
 ⟨⟨name,1,params.length,a.ts,nd 1 0 3 [] [] [(params.length:Int)]::nd 2 0 1 [] [] [((params.length+1:Nat):Int)]::a.n⟩,a.i,a.ts,a.left⟩
def zjc:Unt:=⟨[⟨[97],4⟩],[(zyd L zw [] 0).n,(zyd L [102] [1,2] (zyd L zw [] 0).i).n]⟩
end
theorem pk_lt(L:List UInt8)(i n:Nat)(h:0<n):pk L i n<n:=by
 unfold pk;split
 ·exact h
 ·exact Nat.mod_lt _ h
theorem zxb(L:List UInt8)(ts seen:List Int):∀(l:List Int) (i:Nat),(zYa L ts seen l i).length=l.length
 | [],_=>rfl
 |t::r,i=>by simp[zYa,zxb L ts seen r (i+1)]
theorem zob(n:Nat):∀k,(newV n k).length=k
 |0=>rfl
 |k+1=>by simp[newV,zob n k]
theorem zof(n:Nat):∀k,∀x∈newV n k,(n:Int)<=x/\x<(n+k:Nat)
 |0,x,h=>by simp[newV]at h
 |k+1,x,h=>by
  simp only[newV,yh,List.mem_singleton]at h;rcases h with h|h
  ·have:=zof n k x h;omega
  ·omega
theorem tyV_len(L:List UInt8)(i:Nat):∀k,(tyV L i k).length=k
 |0=>rfl
 |k+1=>by simp[tyV,tyV_len L i k]
theorem typesV_len(L:List UInt8)(i:Nat):(zdb L i).length=pk L i 3:=tyV_len L _ _
theorem zDc(L:List UInt8)(i:Nat):(zdb L i).length<=2:=by have:=pk_lt L i 3 (by omega);rw[typesV_len];omega
theorem zJe(L:List UInt8)(i:Nat):zCa L i<=i+3:=by have:=pk_lt L i 3 (by omega);unfold zCa;omega
structure PlOk(p:HPl):Prop where
 y:p.yield.length<=2
 n:p.next.length<=2
 l:p.left.length<=2
theorem endL_le{p:HPl}(h:PlOk p)(k:Nat):(endL p k).2.length<=2:=by
 unfold endL;split
 ·exact h.y
 ·split
  ·exact h.n
  ·split
   ·exact h.l
   ·simp
theorem endN_le(L:List UInt8){p:HPl}(h:PlOk p)(i:Nat):endN L p i<=i+3:=by have:=endL_le h (pk L i 6);unfold endN;omega
theorem endG_wt(L:List UInt8)(seen ts:List Int){p:HPl}(h:PlOk p)(i:Nat):wtN (endG L seen ts p i)<=3:=by
 have:=endL_le h (pk L i 6);simp[endG,wtN,wtK,zxb];omega
structure SimOk(s:Node×Nat×List Int)(i n:Nat):Prop where
 i:s.2.1<=i+4
 t:s.2.2.length<=1
 o:∀x∈s.1.outs,0<=x/\x<(n+s.2.2.length:Nat)
 ol:s.1.outs.length<=2
 w:wtN s.1<=6
theorem simple_ok(L:List UInt8)(seen ts:List Int)(i:Nat):SimOk (zL L seen ts i) i ts.length:=by
 unfold zL;split<;>try(refine⟨by simp;try omega,by simp,?_,by simp,by simp[wtN,wtK,zxb]⟩;intro x hx;simp at hx;simp;omega)
 all_goals try(refine⟨by simp,by simp,by simp,by simp,by simp[wtN,wtK,zxb]⟩)
 split<;>try(refine⟨by simp;try omega,by simp,?_,by simp,by simp[wtN,wtK,zxb]⟩;intro x hx;simp at hx;simp;omega)
 all_goals refine⟨by simp,by simp,by simp,by simp,by simp[wtN,wtK,zxb]⟩
structure MdL(k:Nat)(m:Md (List Node))(i:Nat)(ts:List Int)(left w:Nat):Prop where
 i:m.i+100*m.left<=i+100*left+k
 t:∃x,m.ts=ts++x
 tl:m.ts.length+10*m.left<=ts.length+10*left
 w:wtL m.n+100*m.left<=w+100*left+10
structure MdN(m:Md Node)(i:Nat)(ts:List Int)(left:Nat):Prop where
 i:m.i+100*m.left<=i+100*left+60
 t:∃x,m.ts=ts++x
 tl:m.ts.length+10*m.left<=ts.length+10*left+8
 w:wtN m.n+100*m.left<=100*left+60
 o:∀x∈m.n.outs,0<=x/\x<m.ts.length
 ol:m.n.outs.length<=2
def LGok(f:LG):Prop:=∀seen p i ts left,PlOk p->MdL 10 (f seen p i ts left) i ts left 0
theorem outed_ok{n:Node}{i:Nat}{ts:List Int}{left:Nat}{t:List Int}(ht:t.length<=2)(ho:n.outs=[]){i0:Nat}{ts0:List Int}{left0:Nat}(hi:i+100*left<=i0+100*left0+60)(hx:∃x,ts=ts0++x)
  (hl:ts.length+10*left<=ts0.length+10*left0+6) (hw:wtN n+100*left<=100*left0+58):MdN (zBe n i ts left t) i0 ts0 left0:=by
 unfold zBe;split
 ·exact⟨hi,hx,by simp only;omega,by simp only;omega,by simp[ho],by simp[ho]⟩
 ·obtain⟨x,hx⟩:=hx;refine⟨hi,⟨x++t,by simp[hx]⟩,by simp only[ym];omega,?_,?_,by simp only[zob];exact ht⟩
  ·simp only;rw[zlb]at hw ⊢;simp only[zob,ho,yea]at hw ⊢;omega
  ·intro y hy;have:=zof _ _ _ hy;simp only[ym];omega
theorem nodeG_ok(L:List UInt8)(rc:Option LG)(hrc:∀f,rc=some f->LGok f)(all:List Int)(p:HPl)(hp:PlOk p)(i:Nat)(ts:List Int)(left:Nat):MdN (znf L rc all p i ts left) i ts left:=by
 have hs:=simple_ok L all ts i;have key:MdN ⟨(zL L all ts i).1,(zL L all ts i).2.1+1,ts++(zL L all ts i).2.2,left⟩ i ts left:=by
  have h1:=hs.i;have h2:=hs.t;have h3:=hs.w;refine⟨by simp only;omega,⟨_,rfl⟩,by simp only[ym];omega,by simp only;omega,?_,hs.ol⟩;intro x hx;have:=hs.o x hx;simp only[ym];omega
 unfold znf;cases rc with
 |none=>exact key
 |some f=>
  have hf:=hrc f rfl;generalize zL L all ts i=s at*;have h1:=hs.i;have h2:=hs.t;simp only;split
  ·unfold ifG;have t1:=zJe L (s.2.1+1);have t2:=zDc L (s.2.1+1);have a:=hf all ⟨true,p.loop,zdb L (s.2.1+1),p.next,p.left⟩ (zCa L (s.2.1+1)+1) (ts++s.2.2) left ⟨t2,hp.n,hp.l⟩;simp only;generalize f all ⟨true,p.loop,zdb L (s.2.1+1),p.next,p.left⟩ (zCa L (s.2.1+1)+1) (ts++s.2.2) left=A at*;have b:=hf all ⟨true,p.loop,zdb L (s.2.1+1),p.next,p.left⟩ A.i A.ts A.left ⟨t2,hp.n,hp.l⟩;generalize f all ⟨true,p.loop,zdb L (s.2.1+1),p.next,p.left⟩ A.i A.ts A.left=B at*;obtain⟨a1,⟨x,a2⟩,a3,a4⟩:=a;obtain⟨b1,⟨y,b2⟩,b3,b4⟩:=b;refine outed_ok t2 rfl (by omega) ⟨s.2.2++x++y,by rw[b2,a2];simp⟩ (by simp only[ym]at a3;omega) ?_;simp[wtN,wtK,zxb];omega
  ·split
   ·unfold loopG;have t1:=zJe L (s.2.1+1);have t2:=zDc L (s.2.1+1);have t3:=zJe L (zCa L (s.2.1+1));have t4:=zDc L (zCa L (s.2.1+1));simp only;have a:=hf (all++newV (ts++s.2.2).length (zdb L (s.2.1+1)).length) ⟨false,true,[],zdb L (s.2.1+1),zdb L (zCa L (s.2.1+1))⟩ (zCa L (zCa L (s.2.1+1))+(zdb L (s.2.1+1)).length) (ts++s.2.2++zdb L (s.2.1+1)) left ⟨by simp,t2,t4⟩;generalize f (all++newV (ts++s.2.2).length (zdb L (s.2.1+1)).length) ⟨false,true,[],zdb L (s.2.1+1),zdb L (zCa L (s.2.1+1))⟩ (zCa L (zCa L (s.2.1+1))+(zdb L (s.2.1+1)).length) (ts++s.2.2++zdb L (s.2.1+1)) left=A at*;obtain⟨a1,⟨x,a2⟩,a3,a4⟩:=a;refine outed_ok t4 rfl (by omega) ⟨s.2.2++zdb L (s.2.1+1)++x,by rw[a2];simp⟩ (by simp only[ym]at a3;omega) ?_;simp[wtN,wtK,zxb,zob];omega
   ·exact key
theorem finG_ok(L:List UInt8){p:HPl}(hp:PlOk p)(out:List Node)(all:List Int)(i:Nat)(ts:List Int)(left:Nat):MdL 5 (finG L p out all i ts left) i ts left (wtL out):=by
 have h1:=endN_le L hp i;have h2:=endG_wt L all ts hp i;refine⟨by simp only[finG];omega,⟨[],by simp[finG]⟩,by simp only[finG];omega,?_⟩;simp only[finG,zzc,wtL];omega
theorem runG_ok(L:List UInt8)(rc:Option LG)(hrc:∀f,rc=some f->LGok f)(p:HPl)(hp:PlOk p):∀c out all i ts left,MdL 5 (runG L rc p c out all i ts left) i ts left (wtL out):=by
 intro c
 induction c with
 |zero=>intro out all i ts left;exact finG_ok L hp out all i ts left
 |succ c ih=>
  intro out all i ts left;unfold runG;split
  ·exact finG_ok L hp out all i ts left
  ·rename_i h0;have hn:=nodeG_ok L rc hrc all p hp i ts (left-1);simp only;generalize znf L rc all p i ts (left-1)=r at*;obtain⟨n1,⟨x,n2⟩,n3,n4,n5,n6⟩:=hn;split
   ·refine⟨by simp only;omega,⟨x,n2⟩,by simp only;omega,?_⟩;simp only[zzc,wtL];omega
   ·have hr:=ih (out++[r.n]) (all++r.n.outs) r.i r.ts r.left;obtain⟨m1,⟨y,m2⟩,m3,m4⟩:=hr;refine⟨by omega,⟨x++y,by rw[m2,n2];simp⟩,by omega,?_⟩;simp only[zzc,wtL]at m4;omega
theorem listG_ok(L:List UInt8):∀d,LGok (zud L d):=by
 intro d
 induction d with
 |zero=>
  intro seen p i ts left hp;have:=runG_ok L none (by simp) p hp (pk L i 6) [] seen (i+1) ts left;exact⟨by have:=this.i;simp only[zud];omega,this.t,this.tl,this.w⟩
 |succ d ih=>
  intro seen p i ts left hp;have:=runG_ok L (some (zud L d)) (by intro f hf;cases hf;exact ih) p hp (pk L i 6) [] seen (i+1) ts left;exact⟨by have:=this.i;simp only[zud];omega,this.t,this.tl,this.w⟩
def u8s(l:List UInt8):PV:= .slice .plain 1 (l.map fun b=> .int .u8 b.toNat)
theorem remNat(a b:Nat):remK (a:Int) (b:Int)=((a%b:Nat):Int):=by rw[remK_eq];exact Int.ofNat_tmod a b
@[simp] theorem rebuild_agg2(a b:List PV):zN (.agg a) b= .agg b:=rfl
def gst(τ:zd)(L:List UInt8)(i:Nat)(ts:List Int)(left:Nat):zd:= .arr 4 [.agg [u8s L,.int .i64 i,acc 1 (ts.map (PV.int .i64)),.int .i64 left]]::τ
structure SoS where
 d:List Int
 r:List Int
 k:Int
 v:Int
theorem atA_get{l:List Int}{v:Int}(h0:0<=v)(h1:v<l.length):l[v.toNat]? =some (atA l v.toNat):=zid h0 h1
section
variable (τ:zd) (L:List UInt8) (hL:L.length<=9223372036854775807)
include hL
theorem zub(i n:Nat)(ts:List Int)(left:Nat)(hn:0<n/\n<=1000)(hi:i<=1000000000000):
  zk E 69 [.ptr 0 0 0,.int .i64 n] (gst τ L i ts left)=some (.ret (.int .i64 (pk L i n)),gst τ L (i+1) ts left):=by
 refine zc rfl rfl rfl (by simp) ?_;have hw:zW .i64 ((i:Int)+1)=(i:Int)+1:=zm (by omega) (by omega);by_cases h1:L.length<i+1
 ·have k1:((L.length:Int)<(i:Int)+1)=True:=eqp (by omega);have h2:pk L i n=0:=by simp[pk,h1]
  clear h1;simp[*,F69,gst,u8s]
 ·have k1:((L.length:Int)<(i:Int)+1)=False:=eqn (by omega);by_cases h3:150<i+1
  ·have k3:((150:Int)<(i:Int)+1)=True:=eqp (by omega);have h2:pk L i n=0:=by simp only[pk,h3,or_true,if_true]
   clear h1 h3;simp[*,F69,gst,u8s]
  ·have k3:((150:Int)<(i:Int)+1)=False:=eqn (by omega);obtain⟨b,hb⟩:∃b,L[i]? =some b:=⟨_,yd (by omega)⟩
   have h2:pk L i n=b.toNat%n:=by simp only[pk,h1,h3,or_self,if_false,hb,yga]
   have hr:remK (b.toNat:Int) (n:Int)=((b.toNat%n:Nat):Int):=remNat _ _;have hw2:zW .i64 (i:Int)=(i:Int):=zm (by omega) (by omega);have hn0:(n=0)=False:=eqn (by omega);clear h1 h3 hL;simp[*,F69,gst,u8s]
omit hL in
theorem fresh_spec(i:Nat)(ts:List Int)(left:Nat)(t:Int)(ht:ts.length<=1000000):
  zk E 46 [.ptr 0 0 0,.int .i64 t] (gst τ L i ts left)=some (.ret (.int .i64 ts.length),gst τ L i (ts++[t]) left):=by
 refine zc rfl rfl rfl (by simp) ?_;have q4:(ts.length+1)*8<=zo:=by simp only[zo];omega
 have hw:zW .i64 (ts.length:Int)=ts.length:=zm (by omega) (by omega);have hw0:zW .i64 0=0:=zm (by omega) (by omega);cases ts with
 |nil=>simp[zo]at q4;simp[*,F46,gst,zo]
 |cons x r=>
  simp at q4 hw;simp[*,F46,gst]
theorem gsome_spec(i:Nat)(ts:List Int)(left:Nat)(seen:List Int)(t:Int)(hs:seen.length<=1000000)(hi:i<=1000000000000)(ht:ts.length<=1000000)(hr:∀x∈seen,0<=x/\x<ts.length):
  zk E 95 [.ptr 0 0 0,ints seen,.int .i64 t] (gst τ L i ts left)=some (.ret (.int .i64 (someV ts seen t (pk L i 8))),gst τ L (i+1) ts left):=by
 refine zc rfl rfl rfl (by simp) ?_;have hp:=zub τ L hL i 8 ts left (by omega) hi;have hk:=pk_lt L i 8 (by omega);have hsv:someV ts seen t (pk L i 8)=some2 ts t seen (some1 ts t seen true (pk L i 8) 0):=rfl;generalize pk L i 8=k at*;simp at hp;simp[hp,F95,ints];clear hp hL;refine zje K95_0 B95_0 (fun c:SoS=>c.r.length) (fun c=>[(7,.int .i64 c.k),(8,.int .i64 c.v),(9,.int .i64 c.d.length)]) (fun _=>[]) (fun _=>gst τ L (i+1) ts left)
  (fun c=>seen=c.d++c.r/\some1 ts t c.r c.d.isEmpty c.k c.v=some1 ts t seen true k 0/\ -(c.d.length:Int)<=c.k/\c.k<=8/\(c.v∈seen\/c.v=0)) ⟨[],seen,k,0⟩ ⟨by simp,by simp,by simp,by simp;omega⟩ ?_
 rintro⟨d,r,k1,v⟩ s1 ⟨hd,hm,hk1,hk2,hv⟩ h1 h2 h3 h4 h5
 simp only at hd hm hk1 hk2 hv h3 h5;simp at h1 h3;clear h2 h4;cases r with
 |nil=>
  simp at hd;subst hd;simp only[some1]at hm;rw[<-hm]at hsv;clear hm;have hw1:zW .i64 (seen.length:Int)=(seen.length:Int):=zm (by omega) (by omega);simp[h1,h3,h5];clear hk1 hk2 hk h1 h3 h5;refine zje K95_1 B95_1 (fun c:SoS=>c.r.length) (fun c=>[(8,.int .i64 c.v),(10,.int .i64 c.d.length)]) (fun _=>[]) (fun _=>gst τ L (i+1) ts left)
   (fun c=>seen=c.d++c.r/\some2 ts t c.r c.v=some2 ts t seen v/\(c.v∈seen\/c.v=0)) ⟨[],seen,k,v⟩ ⟨by simp,by simp,by simp,rfl,rfl,hv⟩ ?_
  rintro⟨d,r,k2,v1⟩ s2 ⟨hd,hm,hv1⟩ h1 h2 h3 h4 h5
  simp only at hd hm hv1 h3 h5;simp at h1 h3;clear h2 h4 hv;cases r with
  |nil=>
   simp at hd;subst hd;rw[<-hm]at hsv;simp only[some2]at hsv;simp[h1,h3,h5,hsv,gst]
  |cons x r=>
   have g0:seen[d.length]? =some x:=by rw[hd];simp
   have g1:d.length<seen.length:=by rw[hd];simp
   have hx:=hr x (by rw[hd];simp);have g0':seen[d.length]'g1=x:=(yb.1 g0).2;have g2:=atA_get hx.1 hx.2;have g3:x.toNat<ts.length:=by omega
   have g2':ts[x.toNat]'g3=atA ts x.toNat:=(yb.1 g2).2;have hv2:0<=v1/\v1<ts.length:=by
    rcases hv1 with h|h
    ·exact hr _ h
    ·omega
   have f0:=hv2.1;have f2:=atA_get hv2.1 hv2.2;have f3:v1.toNat<ts.length:=by omega
   have f2':ts[v1.toNat]'f3=atA ts v1.toNat:=(yb.1 f2).2;have hw:zW .i64 ((d.length:Int)+1)=(d.length:Int)+1:=zm (by omega) (by omega);have hx0:=hx.1;have hxm:x∈seen:=by rw[hd];simp
   rw[some2]at hm;by_cases e0:atA ts v1.toNat=t
   ·rw[if_pos e0]at hm;rw[<-hm]at hsv;simp[h1,h3,h5,g0,g0',g1,g2,g2',g3,f0,f2,f2',f3,hx0,e0,hsv,gst]
   ·rw[if_neg e0]at hm;by_cases e1:atA ts x.toNat=t
    ·rw[if_pos e1]at hm;simp[h1,h3,h5,g0,g0',g1,g2,g2',g3,f0,f2,f2',f3,hw,hx0,e0,e1,gst];refine⟨⟨d++[x],r,0,x⟩,by simp,?_⟩;simp[h1,h3,h5,hw,gst]
     and_intros<;>first|exact hd|exact hm|exact .inl hxm
    ·rw[if_neg e1]at hm;simp[h1,h3,h5,g0,g0',g1,g2,g2',g3,f0,f2,f2',f3,hw,hx0,e0,e1,gst];refine⟨⟨d++[x],r,0,v1⟩,by simp,?_⟩;simp[h1,h3,h5,hw,gst]
     and_intros<;>first|exact hd|exact hm|exact hv1
 |cons x r=>
  have g0:seen[d.length]? =some x:=by rw[hd];simp
  have g1:d.length<seen.length:=by rw[hd];simp
  have hx:=hr x (by rw[hd];simp);have g0':seen[d.length]'g1=x:=(yb.1 g0).2;have g2:=atA_get hx.1 hx.2;have g3:x.toNat<ts.length:=by omega
  have g2':ts[x.toNat]'g3=atA ts x.toNat:=(yb.1 g2).2;have hw:zW .i64 ((d.length:Int)+1)=(d.length:Int)+1:=zm (by omega) (by omega);have hw2:zW .i64 (k1-1)=k1-1:=zm (by omega) (by omega);rw[some1]at hm;clear hsv;have hx0:=hx.1;have hxm:x∈seen:=by rw[hd];simp
  have h9:(d.length:Int)+1=((d++[x]).length:Int):=by simp
  have hne:(d++[x]).isEmpty=false:=by simp
  by_cases e1:atA ts x.toNat=t
  ·by_cases e0:d=[]
   ·subst e0;rw[if_pos ⟨e1,.inl rfl⟩]at hm;simp at h3 g0 g0' g1 hk1 hw hne;simp[h1,h3,h5,g0,g0',g1,g2,g2',g3,hw2,hx0,e1,gst];refine⟨⟨[x],r,k1-1,x⟩,by simp,?_⟩;simp[h1,h3,h5,hne,hw,hw2,gst]
    and_intros<;>first|exact hd|exact hm|exact hv|exact .inl hxm|(simp;omega)|omega
   ·by_cases e2:0<k1
    ·rw[if_pos ⟨e1,.inr e2⟩]at hm;simp[h1,h3,h5,g0,g0',g1,g2,g2',g3,hw,hw2,hx0,e1,e2,e0,gst];refine⟨⟨d++[x],r,k1-1,x⟩,by simp,?_⟩;simp[h1,h3,h5,hne,hw,hw2,gst]
     and_intros<;>first|exact hd|exact hm|exact hv|exact .inl hxm|(simp;omega)|omega
    ·rw[if_neg (by simp[e0,e2])]at hm;simp[h1,h3,h5,g0,g0',g1,g2,g2',g3,hw,hw2,hx0,e1,e2,e0,gst];refine⟨⟨d++[x],r,k1,v⟩,by simp,?_⟩;simp[h1,h3,h5,hne,hw,hw2,gst]
     and_intros<;>first|exact hd|exact hm|exact hv|exact .inl hxm|(simp;omega)|omega
  ·rw[if_neg (fun h=>e1 h.1)]at hm;simp[h1,h3,h5,g0,g0',g1,g2,g2',g3,hw,hw2,hx0,e1,gst];refine⟨⟨d++[x],r,k1,v⟩,by simp,?_⟩;simp[h1,h3,h5,hne,hw,hw2,gst]
   and_intros<;>first|exact hd|exact hm|exact hv|exact .inl hxm|(simp;omega)|omega
end
theorem eachV_append(L:List UInt8)(ts seen:List Int)(t:Int):∀(d:List Int) (i:Nat),zYa L ts seen (d++[t]) i=zYa L ts seen d i++[someV ts seen t (pk L (i+d.length) 8)]
 | [],i=>by simp[zYa]
 |x::r,i=>by
  have:=eachV_append L ts seen t r (i+1);simp only[yI,zYa,this,yZ];rw[show i+1+r.length=i+(r.length+1) by omega]
def zba(l:List Int):List PV:=l.map (PV.int .i64)
section
variable (τ:zd) (L:List UInt8) (hL:L.length<=9223372036854775807)
include hL
theorem zbb(i:Nat)(ts:List Int)(left:Nat)(seen types:List Int)(hs:seen.length<=1000000)(hi:i+types.length<=1000000000000)(ht:ts.length<=1000000)(hr:∀x∈seen,0<=x/\x<ts.length)(hy:types.length<=1000000):
  zk E 72 [.ptr 0 0 0,ints seen,ints types] (gst τ L i ts left)=some (.ret (ints (zYa L ts seen types i)),gst τ L (i+types.length) ts left):=by
 refine zc rfl rfl rfl (by simp) ?_;simp[F72,ints];refine zG types K72_0 B72_0 (fun d=>[(7,acc 1 (zba (zYa L ts seen d i))),(8,.int .i64 d.length)]) (fun d=>gst τ L (i+d.length) ts left) (fun _=>True) (by omega) (by simp[zYa,zba]) ?_ ?_
 ·intros d x r s hl' hlt hget hget' hw hp h1 h2 h3 h4;simp at h1 h3;clear h2;have hsm:=gsome_spec τ L hL (i+d.length) ts left seen x hs (by omega) ht hr;have he:=eachV_append L ts seen x d i;have hi2:i+d.length+1=i+(d.length+1):=by omega
  rw[hi2]at hsm;simp[ints]at hsm;have q4:((zYa L ts seen d i).length+1)*8<=zo:=by rw[zxb];simp only[zo];omega
  have q5:(zba (zYa L ts seen d i)).length=d.length:=by simp[zba,zxb]
  have q6:(d.length+1)*8<=zo:=by rwa[zxb]at q4
  have q7:zba (zYa L ts seen (d++[x]) i)=zba (zYa L ts seen d i)++[.int .i64 (someV ts seen x (pk L (i+d.length) 8))]:=by rw[he];simp[zba]
  clear hl' hs hi hr hL he;simp[*]
 ·intro s hp h1 h2 h3 h4;simp at h1 h3;clear h2 hL hr;simp[*,zba]
omit hL in
theorem zNd(i:Nat)(ts:List Int)(left:Nat)(types:List Int)(ht:ts.length+types.length<=1000000):
  zk E 45 [.ptr 0 0 0,ints types] (gst τ L i ts left)=some (.ret (acc 1 (zba (newV ts.length types.length))),gst τ L i (ts++types) left):=by
 refine pcall_wpO 4 rfl rfl rfl (by simp) ?_;simp[F45,ints];refine zG types K45_0 B45_0 (fun d=>[(5,acc 1 (zba (newV ts.length d.length))),(6,.int .i64 d.length)]) (fun d=>gst τ L i (ts++d) left) (fun _=>True) (by omega) (by simp[newV,zba]) ?_ ?_
 ·intros d x r s hl' hlt hget hget' hw hp h1 h2 h3 h4;simp at h1 h3;clear h2;have hf:=fresh_spec τ L i (ts++d) left x (by simp;omega);simp at hf;have q5:(zba (newV ts.length d.length)).length=d.length:=by simp[zba,zob]
  have q6:(d.length+1)*8<=zo:=by simp only[zo];omega
  have q7:zba (newV ts.length (d.length+1))=zba (newV ts.length d.length)++[.int .i64 ((ts.length:Int)+d.length)]:=by simp[zba,newV]
  clear hl';simp[*]
 ·intro s hp h1 h2 h3 h4;simp at h1 h3;clear h2;simp[*,zba]
structure TyS where
 j:Nat
 m:Nat
theorem gtypes_spec(i:Nat)(ts:List Int)(left:Nat)(hi:i<=100000000000):
  zk E 71 [.ptr 0 0 0] (gst τ L i ts left)=some (.ret (ints (zdb L i)),gst τ L (zCa L i) ts left):=by
 refine zc rfl rfl rfl (by simp) ?_;have hp:=zub τ L hL i 3 ts left (by omega) (by omega);have hk:=pk_lt L i 3 (by omega);have h0:zdb L i=tyV L (i+1) (pk L i 3):=rfl;have h0':zCa L i=i+1+pk L i 3:=rfl;generalize pk L i 3=k at*;simp at hp;simp[hp,F71];refine zje K71_0 B71_0 (fun c:TyS=>c.m) (fun c=>[(3,acc 1 (zba (tyV L (i+1) c.j))),(4,.int .i64 c.m)]) (fun _=>[]) (fun c=>gst τ L (i+1+c.j) ts left)
  (fun c=>c.j+c.m=k) ⟨0,k⟩ ⟨by simp[tyV,zba],by simp,by simp,by simp⟩ ?_
 rintro⟨j,m⟩ s1 hj h1 h2 h3 h4 h5
 simp only at hj h3 h5;simp at h1 h3;clear h2 h4 hp;cases m with
 |zero=>
  simp at hj h3;subst hj;rw[h0,h0'];simp[h1,h3,h5,ints,zba]
 |succ m=>
  have hq:=zub τ L hL (i+1+j) 2 ts left (by omega) (by omega);have hq2:=pk_lt L (i+1+j) 2 (by omega);have q5:(zba (tyV L (i+1) j)).length=j:=by simp[zba,tyV_len]
  have q6:(j+1)*8<=zo:=by simp only[zo];omega
  have q7:zba (tyV L (i+1) (j+1))=zba (tyV L (i+1) j)++[.int .i64 (1+(pk L (i+1+j) 2:Int))]:=by simp[zba,tyV]
  have hw:zW .i64 (1+(pk L (i+1+j) 2:Int))=1+(pk L (i+1+j) 2:Int):=zm (by omega) (by omega);have hw2:zW .i64 (m:Int)=m:=zm (by omega) (by omega);have e1:((0:Int)<(m:Int)+1)=True:=eqp (by omega);simp at hq h3;simp[h1,h3,h5,hq,q5,q6,hw,hw2,e1];refine⟨⟨j+1,m⟩,by simp,?_⟩;simp[h1,h3,h5,q7,hw,hw2]
  and_intros<;>first|omega|rfl|(congr 1)|skip
end
def zhe(p:HPl):PV:= .agg [.bool p.iff,.bool p.loop,ints p.yield,ints p.next,ints p.left]
theorem newV1(n:Nat):newV n 1=[(n:Int)]:=by simp[newV]
section
variable (τ:zd) (L:List UInt8) (hL:L.length<=9223372036854775807)
include hL
set_option maxHeartbeats 4000000 in
theorem gsimple_spec(i:Nat)(ts:List Int)(left:Nat)(seen:List Int)(hs:seen.length<=1000000)(hi:i<=100000000000)(ht:ts.length<=999990)(hr:∀x∈seen,0<=x/\x<ts.length):
  zk E 70 [.ptr 0 0 0,ints seen] (gst τ L i ts left)=some (.ret (zK (zL L seen ts i).1),gst τ L (zL L seen ts i).2.1 (ts++(zL L seen ts i).2.2) left):=by
 refine zc rfl rfl rfl (by simp) ?_;have p0:=zub τ L hL i 12 ts left (by omega) (by omega);have p1:=zub τ L hL (i+1) 6 ts left (by omega) (by omega);have p2:=zub τ L hL (i+1) 2 ts left (by omega) (by omega);have p3:=zub τ L hL (i+1) 4 ts left (by omega) (by omega);have p4:=zub τ L hL (i+1) 11 ts left (by omega) (by omega);have a1:=zbb τ L hL (i+1) ts left seen [1] hs (by simp;omega) (by omega) hr (by simp);have a2:=zbb τ L hL (i+2) ts left seen [1] hs (by simp;omega) (by omega) hr (by simp);have a3:=zbb τ L hL (i+1) ts left seen [2] hs (by simp;omega) (by omega) hr (by simp);have a4:=zbb τ L hL (i+1) ts left seen [1,1] hs (by simp;omega) (by omega) hr (by simp);have a5:=zbb τ L hL (i+2) ts left seen [1,1] hs (by simp;omega) (by omega) hr (by simp);have a6:=zbb τ L hL (i+2) ts left seen [1,2] hs (by simp;omega) (by omega) hr (by simp);have o1:=fun i=>zNd τ L i ts left [1] (by simp;omega)
 have o2:=fun i=>zNd τ L i ts left [2] (by simp;omega)
 have h12:=pk_lt L i 12 (by omega);have h6:=pk_lt L (i+1) 6 (by omega);have h4:=pk_lt L (i+1) 4 (by omega);have h11:=pk_lt L (i+1) 11 (by omega);have w1:zW .i64 (1+(pk L (i+1) 11:Int))=1+(pk L (i+1) 11:Int):=zm (by omega) (by omega);have w2:zW .i64 (12+(pk L (i+1) 6:Int))=12+(pk L (i+1) 6:Int):=zm (by omega) (by omega);simp[ints,zba,newV1]at p0 p1 p2 p3 p4 a1 a2 a3 a4 a5 a6 o1 o2;have hc:pk L i 12=0\/pk L i 12=1\/pk L i 12=2\/pk L i 12=3\/pk L i 12=4\/pk L i 12=5\/pk L i 12=6\/pk L i 12=7\/pk L i 12=8\/pk L i 12=9\/pk L i 12=10\/pk L i 12=11:=by omega
 have hc6:pk L (i+1) 6=0\/pk L (i+1) 6=1\/pk L (i+1) 6=2\/pk L (i+1) 6=3\/pk L (i+1) 6=4\/pk L (i+1) 6=5:=by omega
 have hc4:pk L (i+1) 4=0\/pk L (i+1) 4=1\/pk L (i+1) 4=2\/pk L (i+1) 4=3:=by omega
 clear hL hs hi ht hr h12 h6 h4 h11;rcases hc with h|h|h|h|h|h|h|h|h|h|h|h
 ·rcases hc6 with k|k|k|k|k|k<;>simp[h,k]at p0 p1<;>simp[*,zL,F70,za,ints,kids,atA]
 ·simp[h]at p0;simp[*,zL,F70,za,ints,kids,atA]
 ·rcases hc4 with k|k|k|k<;>simp[h,k]at p0 p3<;>simp[*,zL,F70,za,ints,kids,atA]
 ·simp[h]at p0;simp[*,zL,F70,za,ints,kids,atA]
 ·simp[h]at p0;simp[*,zL,F70,za,ints,kids,atA]
 ·simp[h]at p0;simp[*,zL,F70,za,ints,kids,atA]
 ·simp[h]at p0;simp[*,zL,F70,za,ints,kids,atA]
 ·simp[h]at p0;simp[*,zL,F70,za,ints,kids,atA]
 ·simp[h]at p0;simp[*,zL,F70,za,ints,kids,atA]
 ·simp[h]at p0;simp[*,zL,F70,za,ints,kids,atA]
 ·simp[h]at p0;simp[*,zL,F70,za,ints,kids,atA]
 ·rcases hc4 with k|k|k|k<;>simp[h,k]at p0 p3<;>simp[*,zL,F70,za,ints,kids,atA]
theorem gend_spec(i:Nat)(ts:List Int)(left:Nat)(seen:List Int)(p:HPl)(hp:PlOk p)(hs:seen.length<=1000000)(hi:i<=100000000000)(ht:ts.length<=999990)(hr:∀x∈seen,0<=x/\x<ts.length):
  zk E 74 [.ptr 0 0 0,ints seen,zhe p] (gst τ L i ts left)=some (.ret (zK (endG L seen ts p i)),gst τ L (endN L p i) ts left):=by
 refine zc rfl rfl rfl (by simp[zhe]) ?_;have p0:=zub τ L hL i 6 ts left (by omega) (by omega);have a1:=zbb τ L hL (i+1) ts left seen p.yield hs (by have:=hp.y;omega) (by omega) hr (by have:=hp.y;omega);have a2:=zbb τ L hL (i+1) ts left seen p.next hs (by have:=hp.n;omega) (by omega) hr (by have:=hp.n;omega);have a3:=zbb τ L hL (i+1) ts left seen p.left hs (by have:=hp.l;omega) (by omega) hr (by have:=hp.l;omega);have a4:=zbb τ L hL (i+1) ts left seen [1] hs (by simp;omega) (by omega) hr (by simp);have hr2:remK (pk L i 6:Int) 2=((pk L i 6%2:Nat):Int):=by have:=remNat (pk L i 6) 2;simpa using this
 simp[ints]at p0 a1 a2 a3 a4;have e1:endG L seen ts p i=nd (endL p (pk L i 6)).1 0 0 [] (zYa L ts seen (endL p (pk L i 6)).2 (i+1)) []:=rfl;have e2:endN L p i=i+1+(endL p (pk L i 6)).2.length:=rfl;rw[e1,e2];generalize pk L i 6=k at*;have hk4:((k:Int)<4)=(k<4):=by apply propext;omega
 have hk2:((k:Int)%2=0)=(k%2=0):=by apply propext;omega
 clear hL hs hi ht hr e1 e2 hp;obtain⟨iff,loop,yield,next,lft⟩:=p;simp only at a1 a2 a3;by_cases c1:k<4<;>by_cases c2:k%2=0<;>cases iff<;>cases loop<;>simp[*,endL,F74,za,ints,kids,zhe]
end
structure LsS where
 m:Nat
 out:List Node
 all:List Int
 i:Nat
 ts:List Int
 left:Nat
def rcOf(L:List UInt8):Nat->Option LG
 |0=>none
 |d+1=>some (zud L d)
theorem listG_eq(L:List UInt8)(d:Nat)(seen:List Int)(p:HPl)(i:Nat)(ts:List Int)(left:Nat):zud L d seen p i ts left=runG L (rcOf L d) p (pk L i 6) [] seen (i+1) ts left:=by
 cases d<;>rfl
theorem rcOf_ok(L:List UInt8)(d:Nat):∀f,rcOf L d=some f->LGok f:=by
 intro f h;cases d with
 |zero=>simp[rcOf]at h
 |succ d=>simp[rcOf]at h;subst h;exact listG_ok L d
structure LsPre(d i:Nat)(ts:List Int)(left:Nat)(seen:List Int)(p:HPl):Prop where
 p:PlOk p
 s:seen.length+100*d<=1000
 i:i+100*left<=10000000
 t:ts.length+10*left<=100000
 r:∀x∈seen,0<=x/\x<ts.length
def LsOk(τ:zd)(L:List UInt8)(d:Nat):Prop:=∀i ts left seen p,LsPre d i ts left seen p→
 zk E 47 [.ptr 0 0 0,ints seen,zhe p,.int .i64 d] (gst τ L i ts left)=some (.ret (zh (zud L d seen p i ts left).n),gst τ L (zud L d seen p i ts left).i (zud L d seen p i ts left).ts (zud L d seen p i ts left).left)
structure LsInv(L:List UInt8)(d:Nat)(p:HPl)(M:Md (List Node))(k:Nat)(c:LsS):Prop where
 run:runG L (rcOf L d) p c.m c.out c.all c.i c.ts c.left=M
 m:c.m<=5
 o:c.out.length+c.m<=5
 a:c.all.length+100*d+2*c.m<=1010
 i:c.i+100*c.left<=10000001
 t:c.ts.length+10*c.left<=100000
 r:∀x∈c.all,0<=x/\x<c.ts.length
theorem LsInv.step{L:List UInt8}{d:Nat}{p:HPl}{M:Md (List Node)}{k m:Nat}{out:List Node}{all:List Int}{i:Nat}{ts:List Int}{left:Nat}(hp:PlOk p)(h:LsInv L d p M k ⟨m+1,out,all,i,ts,left+1⟩){r:Md Node}(hr:znf L (rcOf L d) all p i ts left=r):
  if zb r.n=true then M=⟨out++[r.n],r.i,r.ts,r.left⟩else LsInv L d p M k ⟨m,out++[r.n],all++r.n.outs,r.i,r.ts,r.left⟩:=by
 obtain⟨h1,h2,h3,h4,h5,h6,h7⟩:=h;simp only at h1 h2 h3 h4 h5 h6 h7;have hn:=nodeG_ok L (rcOf L d) (rcOf_ok L d) all p hp i ts left;rw[hr]at hn;rw[runG]at h1;simp only[Nat.add_one_ne_zero,if_false,Nat.add_sub_cancel,hr]at h1;split
 ·rename_i hc;rw[if_pos hc]at h1;exact h1.symm
 ·rename_i hc;rw[if_neg hc]at h1;obtain⟨n1,⟨x,n2⟩,n3,n4,n5,n6⟩:=hn;refine⟨h1,by simp only;omega,by simp only[ym,List.length_singleton];omega,by simp only[ym];omega,by simp only;omega,by simp only;omega,?_⟩;intro y hy;simp only[yh]at hy;rcases hy with hy|hy
  ·have:=h7 y hy;simp only[n2,ym];omega
  ·exact n5 y hy
section
variable (τ:zd) (L:List UInt8) (hL:L.length<=9223372036854775807)
include hL
set_option maxRecDepth 20000 in
set_option maxHeartbeats 8000000 in
theorem glist_of(d:Nat)(hd:d<=3)(hrec:∀e,d=e+1->LsOk τ L e):LsOk τ L d:=by
 intro i ts left seen p hpre;obtain⟨hp,hs,hi,ht,hr⟩:=hpre;refine zc rfl rfl rfl (by simp[zhe]) ?_;have p0:=zub τ L hL i 6 ts left (by omega) (by omega);have hk:=pk_lt L i 6 (by omega);have hM:=listG_eq L d seen p i ts left;generalize zud L d seen p i ts left=M at*;generalize pk L i 6=k at*;have hsz:seen.length*8<=zo:=by simp only[zo];omega
 simp at p0;simp[p0,hsz,F47,ints,zhe];refine zje K47_0 B47_0 (fun c:LsS=>c.m) (fun c=>[(9,acc 8 (c.out.map zK)),(10,acc 1 (zba c.all)),(11,.int .i64 c.m)]) (fun _=>[]) (fun c=>gst τ L c.i c.ts c.left)
  (LsInv L d p M k) ⟨k,[],seen,i+1,ts,left⟩ ⟨by simp[zba],by simp,by simp,⟨hM.symm,by simp only;omega,by simp only[yea];omega,by simp only;omega,by simp only;omega,by simp only;omega,hr⟩⟩ ?_
 rintro⟨m,out,all,i',ts',left'⟩ s1 hinv h1 h2 h3 h4 h5
 simp only at h3 h5;simp at h1 h2 h3;clear h4 p0 hM hs hi ht hr hsz;have hoo:(out.map zK).length=out.length:=by simp
 have hol:=hinv.o;simp only at hol;have hob:(out.length+1)*136<=zo:=by simp only[zo];omega
 have hend:=gend_spec τ L hL i' ts' left' all p hp (by have:=hinv.a;simp only at this;omega) (by have:=hinv.i;simp only at this;omega) (by have:=hinv.t;simp only at this;omega) hinv.r;simp[ints,zhe,za,gst]at hend;have hfin:m=0\/left'=0->M=finG L p out all i' ts' left':=by
  intro h;have hrun:=hinv.run;simp only at hrun;rcases h with h|h
  ·subst h;exact hrun.symm
  ·subst h;cases m with
   |zero=>exact hrun.symm
   |succ m=>simp[runG]at hrun;exact hrun.symm
 cases m with
 |zero=>
  have hf:=hfin (.inl rfl);rw[hf];simp at h3;clear hinv hfin hf;simp[*,finG,gst,zh,za,ints,zba]
 |succ m=>
  have e1:((0:Int)<(m:Int)+1)=True:=eqp (by omega);cases left' with
  |zero=>
   have hf:=hfin (.inr rfl);rw[hf];simp at h3;clear hinv hfin hf;simp at hend;simp[*,finG,gst,zh,za,ints,zba]
  |succ lf=>
   have hst:=fun r hr=>hinv.step hp (r:=r) hr
   have hS:=simple_ok L all ts' i';have hsim:=gsimple_spec τ L hL i' ts' lf all (by have:=hinv.a;simp only at this;omega) (by have:=hinv.i;simp only at this;omega) (by have:=hinv.t;simp only at this;omega) hinv.r;have hpk:=zub τ L hL (zL L all ts' i').2.1 6 (ts'++(zL L all ts' i').2.2) lf (by omega) (by have:=hinv.i;have:=hS.i;simp only at*;omega);have hnd:∀rc,znf L rc all p i' ts' lf=znf L rc all p i' ts' lf:=fun _=>rfl
   have ha:=hinv.a;have hii:=hinv.i;have htt:=hinv.t;have hrr:=hinv.r;simp only at ha hii htt hrr;have hw1:zW .i64 (m:Int)=m:=zm (by omega) (by omega);have hw2:zW .i64 (lf:Int)=lf:=zm (by omega) (by omega);have e2:((0:Int)<(lf:Int)+1)=True:=eqp (by omega)
   conv at hnd=>intro rc;rhs;unfold znf
   clear hend hfin hinv;generalize zL L all ts' i'=S at*;obtain⟨n,j,x⟩:=S;simp only at hsim hpk hnd;have hj:=hS.i;have hx:=hS.t;have hw:=hS.w;have hol:=hS.ol;simp only at hj hx hw hol;clear hS;have hrT:∀y∈all,0<=y/\y<(ts'++x).length:=fun y hy=>by have:=hrr y hy;simp only[ym];omega
   have hTl:(ts'++x).length<=ts'.length+1:=by simp only[ym];omega
   generalize hT:ts'++x=T at*;clear hT;have hk6:=pk_lt L j 6 (by omega);generalize pk L j 6=k6 at*;simp[ints,za,kids,gst]at hsim hpk;have hcl:=zCb n [] (by omega);simp[za,ints,kids]at hcl;have hab:(all.length+n.outs.length)*8<=zo:=by simp only[zo];omega
   have hal:(zba all).length=all.length:=by simp[zba]
   have key:∀r:Md Node,r=⟨n,j+1,T,lf⟩->znf L (rcOf L d) all p i' ts' lf=r->(if zb n=true then M=⟨out++[n],j+1,T,lf⟩else LsInv L d p M k ⟨m,out++[n],all++n.outs,j+1,T,lf⟩):=by
    intro r hr hn;have:=hst r hn;rw[hr]at this;exact this
   have hq:(((k6:Int)=0)=True/\((k6:Int)=1)=False/\(k6=0)=True/\(k6=1)=False)\/(((k6:Int)=0)=False/\((k6:Int)=1)=True/\(k6=0)=False/\(k6=1)=True)\/(((k6:Int)=0)=False/\((k6:Int)=1)=False/\(k6=0)=False/\(k6=1)=False):=by
    by_cases h:k6=0
    ·subst h;simp
    ·by_cases h':k6=1
     ·subst h';simp
     ·refine .inr (.inr ⟨eqn (by omega),eqn (by omega),eqn h,eqn h'⟩)
   cases d with
   |zero=>
    have hk:=key _ rfl (hnd none);clear hst hnd key hrT hTl;rcases hq with⟨q1,q2,q3,q4⟩|⟨q1,q2,q3,q4⟩|⟨q1,q2,q3,q4⟩
    all_goals
     cases hc:zb n
     ·simp[hc]at hk hcl;simp[*,gst,zh,za,ints,zba,zhe,kids];refine⟨⟨m,out++[n],all++n.outs,j+1,T,lf⟩,by simp,?_⟩;simp[*,gst,zh,za,ints,zba,zhe,kids]
     ·simp[hc]at hk hcl;rw[hk];clear hk;simp[*,gst,zh,za,ints,zba,zhe,kids]
   |succ d=>
    have e3:((0:Int)<(d:Int)+1)=True:=eqp (by omega);have hw3:zW .i64 (d:Int)=d:=zm (by omega) (by omega);have hrec:=hrec d rfl;rcases hq with⟨q1,q2,q3,q4⟩|⟨q1,q2,q3,q4⟩|⟨q1,q2,q3,q4⟩
    ·have hnd:=hnd (some (zud L d));simp only[q3,if_true,ifG]at hnd;clear key hcl hw hol hab;have hty:=gtypes_spec τ L hL (j+1) T lf (by omega);have t1:=zJe L (j+1);have t2:=zDc L (j+1);generalize zdb L (j+1)=t at*;generalize zCa L (j+1)=jn at*;have hea:=zbb τ L hL jn T lf all [2] (by omega) (by simp;omega) (by omega) hrT (by simp);have hX:PlOk ⟨true,p.loop,t,p.next,p.left⟩:=⟨t2,hp.n,hp.l⟩
     have hel:(zYa L T all [2] jn).length=1:=zxb _ _ _ _ _;generalize zYa L T all [2] jn=ar at*;have hA:=hrec (jn+1) T lf all ⟨true,p.loop,t,p.next,p.left⟩ ⟨hX,by omega,by omega,by omega,hrT⟩;have hAo:=listG_ok L d all ⟨true,p.loop,t,p.next,p.left⟩ (jn+1) T lf hX;generalize zud L d all ⟨true,p.loop,t,p.next,p.left⟩ (jn+1) T lf=A at*;obtain⟨a1,⟨y,a2⟩,a3,a4⟩:=hAo;have hB:=hrec A.i A.ts A.left all ⟨true,p.loop,t,p.next,p.left⟩ ⟨hX,by omega,by omega,by omega,fun y hy=>by have:=hrT y hy;rw[a2];simp only[ym];omega⟩;have hBo:=listG_ok L d all ⟨true,p.loop,t,p.next,p.left⟩ A.i A.ts A.left hX;generalize zud L d all ⟨true,p.loop,t,p.next,p.left⟩ A.i A.ts A.left=B at*;obtain⟨b1,⟨z,b2⟩,b3,b4⟩:=hBo;have hou:=zNd τ L B.i B.ts B.left t (by omega);have hk:=hst _ hnd;have hcl:=zCb ⟨10,0,0,[],ar,[],[],[A.n,B.n]⟩ [] (by simp[wtN,wtK];omega);have hcl2:=zCb ⟨10,0,0,[],ar,newV B.ts.length t.length,[],[A.n,B.n]⟩ [] (by simp[wtN,wtK,zob];omega);have hcc:zb ⟨10,0,0,[],ar,newV B.ts.length t.length,[],[A.n,B.n]⟩=zb ⟨10,0,0,[],ar,[],[],[A.n,B.n]⟩:=rfl;have hab:(all.length+(newV B.ts.length t.length).length)*8<=zo:=by rw[zob];simp only[zo];omega
     simp[ints,zba,zhe,za,kids,zh,gst]at hty hea hA hB hcl hcl2 hou;clear a1 a2 a3 a4 b1 b2 b3 b4 hst hnd hrT hTl hrec hX t1 t2 hrr ha hii htt hel hx hj;cases hc:zb ⟨10,0,0,[],ar,[],[],[A.n,B.n]⟩
     ·rw[hc]at hcc;simp[zBe,hc,hcc]at hk hcl hcl2;generalize newV B.ts.length t.length=nw at*;simp[*,gst,zh,za,ints,zba,zhe,kids];refine⟨⟨m,out++[⟨10,0,0,[],ar,nw,[],[A.n,B.n]⟩],all++nw,B.i,B.ts++t,B.left⟩,by simp,?_⟩;simp[*,gst,zh,za,ints,zba,zhe,kids]
     ·simp[zBe,hc]at hk hcl;rw[hk];clear hk;simp[*,gst,zh,za,ints,zba,zhe,kids]
    ·have hnd:=hnd (some (zud L d));simp only[q3,q4,if_true,if_false,loopG]at hnd;clear key hcl hw hol hab;have hty:=gtypes_spec τ L hL (j+1) T lf (by omega);have t1:=zJe L (j+1);have t2:=zDc L (j+1);generalize zdb L (j+1)=t at*;generalize zCa L (j+1)=jn at*;have hty2:=gtypes_spec τ L hL jn T lf (by omega);have t3:=zJe L jn;have t4:=zDc L jn;generalize zdb L jn=o at*;generalize zCa L jn=jm at*;have hea:=zbb τ L hL jm T lf all t (by omega) (by omega) (by omega) hrT (by omega);have hX:PlOk ⟨false,true,[],t,o⟩:=⟨by simp,t2,t4⟩
     have hel:(zYa L T all t jm).length=t.length:=zxb _ _ _ _ _;generalize zYa L T all t jm=ar at*;have hop:=zNd τ L (jm+t.length) T lf t (by omega);have hpl:(newV T.length t.length).length=t.length:=zob _ _;have hpm:=zof T.length t.length;generalize newV T.length t.length=ps at*;have hrTT:∀y∈all++ps,0<=y/\y<(T++t).length:=by
      intro y hy;simp only[yh]at hy;simp only[ym];rcases hy with hy|hy
      ·have:=hrT y hy;omega
      ·have:=hpm y hy;omega
     have hTT:(T++t).length<=T.length+2:=by simp only[ym];omega
     have hapl:(all++ps).length<=all.length+2:=by simp only[ym];omega
     have hap:(all.length+ps.length)*8<=zo:=by simp only[zo];omega
     have hap0:all.length*8<=zo:=by simp only[zo];omega
     have hA:=hrec (jm+t.length) (T++t) lf (all++ps) ⟨false,true,[],t,o⟩ ⟨hX,by omega,by omega,by omega,hrTT⟩;have hAo:=listG_ok L d (all++ps) ⟨false,true,[],t,o⟩ (jm+t.length) (T++t) lf hX;generalize zud L d (all++ps) ⟨false,true,[],t,o⟩ (jm+t.length) (T++t) lf=A at*;obtain⟨a1,⟨y,a2⟩,a3,a4⟩:=hAo;have hou:=zNd τ L A.i A.ts A.left o (by omega);have hk:=hst _ hnd;have hcl:=zCb ⟨11,0,0,[],ar,[],ps,[A.n]⟩ [] (by simp[wtN,wtK];omega);have hcl2:=zCb ⟨11,0,0,[],ar,newV A.ts.length o.length,ps,[A.n]⟩ [] (by simp[wtN,wtK,zob];omega);have hcc:zb ⟨11,0,0,[],ar,newV A.ts.length o.length,ps,[A.n]⟩=zb ⟨11,0,0,[],ar,[],ps,[A.n]⟩:=rfl;have hab:(all.length+(newV A.ts.length o.length).length)*8<=zo:=by rw[zob];simp only[zo];omega
     simp[ints,zba,zhe,za,kids,zh,gst]at hty hty2 hea hop hA hcl hcl2 hou;clear a1 a2 a3 a4 hst hnd hrT hTl hrec hX t1 t2 t3 t4 hrr ha hii htt hel hx hj hrTT hTT hapl hpm hpl;cases hc:zb ⟨11,0,0,[],ar,[],ps,[A.n]⟩
     ·rw[hc]at hcc;simp[zBe,hc,hcc]at hk hcl hcl2;generalize newV A.ts.length o.length=nw at*;simp[*,gst,zh,za,ints,zba,zhe,kids];refine⟨⟨m,out++[⟨11,0,0,[],ar,nw,ps,[A.n]⟩],all++nw,A.i,A.ts++o,A.left⟩,by simp,?_⟩;simp[*,gst,zh,za,ints,zba,zhe,kids]
     ·simp[zBe,hc]at hk hcl;rw[hk];clear hk;simp[*,gst,zh,za,ints,zba,zhe,kids]
    ·have hk:=key ⟨n,j+1,T,lf⟩ rfl (by have:=hnd (some (zud L d));simp only[q3,q4,if_false]at this;exact this);clear hst hnd key hrec hrT hTl;cases hc:zb n
     ·simp[hc]at hk hcl;simp[*,gst,zh,za,ints,zba,zhe,kids];refine⟨⟨m,out++[n],all++n.outs,j+1,T,lf⟩,by simp,?_⟩;simp[*,gst,zh,za,ints,zba,zhe,kids]
     ·simp[hc]at hk hcl;rw[hk];clear hk;simp[*,gst,zh,za,ints,zba,zhe,kids]
theorem glist_spec:∀d,d<=3->LsOk τ L d:=by
 intro d
 induction d with
 |zero=>intro h;exact glist_of τ L hL 0 h (by intro e he;cases he)
 |succ d ih=>intro h;exact glist_of τ L hL (d+1) h (by intro e he;cases he;exact ih (by omega))
end
theorem runG_ne(L:List UInt8)(rc:Option LG)(p:HPl):∀c out all i ts left,(runG L rc p c out all i ts left).n≠ []:=by
 intro c
 induction c with
 |zero=>intro out all i ts left;simp[runG,finG]
 |succ c ih=>
  intro out all i ts left;rw[runG];split
  ·simp[finG]
  ·simp only;split
   ·simp
   ·exact ih _ _ _ _ _
theorem listG_ne(L:List UInt8)(d:Nat)(seen:List Int)(p:HPl)(i:Nat)(ts:List Int)(left:Nat):(zud L d seen p i ts left).n≠ []:=by
 rw[listG_eq];exact runG_ne L _ _ _ _ _ _ _ _
def noPl:HPl:=⟨false,false,[],[],[]⟩
theorem noPl_ok:PlOk noPl:=⟨by simp[noPl],by simp[noPl],by simp[noPl]⟩
def zDe(L:List UInt8)(params:List Int)(i:Nat):Md (List Node):=zud L 3 (newV 0 params.length++[(params.length:Int),((params.length+1:Nat):Int)]) noPl i (params++[1,2]) 30
theorem zFd(L:List UInt8)(name:List UInt8)(params:List Int)(i:Nat):zyd L name params i=
  ⟨⟨name,1,params.length,(zDe L params i).ts,nd 1 0 3 [] [] [(params.length:Int)]::nd 2 0 1 [] [] [((params.length+1:Nat):Int)]::(zDe L params i).n⟩,(zDe L params i).i,(zDe L params i).ts,(zDe L params i).left⟩:=rfl
theorem zkd(L:List UInt8)(params:List Int)(i:Nat):MdL 10 (zDe L params i) i (params++[1,2]) 30 0:=listG_ok L 3 _ _ _ _ _ noPl_ok
section
variable (τ:zd) (L:List UInt8) (hL:L.length<=9223372036854775807)
include hL
theorem gflow_spec(i:Nat)(ts:List Int)(left:Nat)(name:List UInt8)(params:List Int)(hp:params.length<=10)(hi:i<=1000000):
  zk E 29 [.ptr 0 0 0,.str name,ints params] (gst τ L i ts left)=some (.ret (zf (zyd L name params i).n),gst τ L (zyd L name params i).i (zyd L name params i).ts (zyd L name params i).left):=by
 refine zc rfl rfl rfl (by simp) ?_;have o1:=zNd τ L i [] 30 params (by simp;omega);have f1:=fresh_spec τ L i params 30 1 (by omega);have f2:=fresh_spec τ L i (params++[1]) 30 2 (by simp;omega);have hr:∀y∈newV 0 params.length++[(params.length:Int),((params.length+1:Nat):Int)],0<=y/\y<(params++[1,2]).length:=by
  intro y hy;simp only[yh,yA,yVa,or_false]at hy;simp only[ym,yZ,yea];rcases hy with hy|hy|hy
  ·have:=zof 0 _ y hy;omega
  ·omega
  ·omega
 have hls:=glist_spec τ L hL 3 (by omega) i (params++[1,2]) 30 (newV 0 params.length++[(params.length:Int),((params.length+1:Nat):Int)]) noPl ⟨noPl_ok,by simp[zob];omega,by omega,by simp;omega,hr⟩;have hne:=listG_ne L 3 (newV 0 params.length++[(params.length:Int),((params.length+1:Nat):Int)]) noPl i (params++[1,2]) 30;have hok:=zkd L params i;rw[zFd];change zk E _ _ _=some (.ret (zh (zDe L params i).n),gst τ L (zDe L params i).i (zDe L params i).ts (zDe L params i).left)at hls;change (zDe L params i).n≠ []at hne;generalize zDe L params i=A at*;obtain⟨a1,a2,a3,a4⟩:=hok;have hal:=zlc A.n;have q1:(params.length+2)*8<=zo:=by simp only[zo];omega
 have q2:(2+A.n.length)*136<=zo:=by simp only[zo];omega
 have q3:(newV 0 params.length).length=params.length:=zob _ _;clear a1 a2 a3 a4 hr hal;simp[ints,zba,gst,zh,zhe,noPl]at o1 f1 f2 hls;generalize newV 0 params.length=nv at*;simp[*,F29,ints,gst,zh,zf,za,kids]
end
theorem madeM_sz(L:List UInt8):USz (zjc L):=by
 have h1:=zkd L [] 0;have h2:=zkd L [1,2] (zDe L [] 0).i;obtain⟨a1,a2,a3,a4⟩:=h1;obtain⟨b1,b2,b3,b4⟩:=h2;simp only[ym,yZ,yea]at a3 b3;refine⟨?_,?_,?_,?_⟩
 ·simp[zjc]
 ·simp[zjc]
 ·intro f hf;simp only[zjc,yA,yVa,or_false]at hf;rcases hf with rfl|rfl<;>simp[zFd]<;>omega
 ·intro f hf;simp only[zjc,yA,yVa,or_false]at hf;rcases hf with rfl|rfl<;>simp[zFd,wtL,wtN,wtK]<;>omega
end PE.U
