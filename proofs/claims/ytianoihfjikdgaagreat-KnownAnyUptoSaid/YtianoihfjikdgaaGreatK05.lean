/-
  Texts joined by program: AZE14, AZE15, AZE16, AZE17, AZE18, AZE19, AZA4, AZA5, AZA6, AZA7, AZA8, PfHand, AZA9, AZB1, AZB2, AZB3, AZB4, AZB5, AZC1, AZE20, AZC2, AZW2, AZE22, PfEnd, PfRead, PfReadD, AZW3.
-/
import Derived.Test.YtianoihfjikdgaaGreatK04
import Derived.WalkKit
import Derived.ProofKit
import Derived.OpenShut
import Derived.ShutString
import Derived.ChangeOld
import Derived.Below
set_option linter.unusedVariables false
set_option linter.unusedSectionVars false
set_option linter.unusedSimpArgs false
open Bool renaming and_eq_false_iff→yY,and_eq_true→ya,false_eq_true→yE,not_eq_true'→yz,or_eq_false_iff→yw,or_eq_true→yD
open Eq renaming trans→ye
open Function renaming comp_def→yF
open List renaming all_eq_true→yi,concat_eq_append→yZ,cons_append→yaa,contains_iff_mem→yra,dropLast_concat→yCa,eq_nil_of_length_eq_zero→yU,eq_nil_or_concat→yT,getElem?_append_left→yj,getElem?_append_right→yo,getElem?_cons_succ→yX,getElem?_cons_zero→yH,getElem?_eq_getElem→yd,getElem?_eq_some_iff→yb,getElem?_map→yf,getElem?_of_mem→yW,getElem?_set_self→ym,getElem?_take→yC,getElem?_zip_eq_some→yQ,length_cons→yca,length_map→yO,length_range→yYa,map_append→yAa,map_congr_left→yxa,map_cons→yq,map_nil→yEa,map_set→yoa,mem_append→yA,mem_cons→yG,mem_map→yja,mem_of_getElem?→yu,mem_range→yya,range→yI,replicate→yn,set_append_right→yza,set_set→ySa,sum_cons→yva
open Nat renaming le_refl→yh,le_trans→yqa,strongRecOn→yfa
open Option renaming bind_eq_some_iff→yJ,getD_some→yea,map_eq_some_iff→yc,map_some→yN
open UInt8 renaming ofNat→yNa
namespace PE.U
open Go PE
mutual
theorem tidyN_leaves:∀x:Node,x.leaves=false->(zVa x).leaves=false
 |⟨k,o,n,s,a,us,ps,ks⟩,h=>by
  rw[Node.leaves,yw,yY]at h;have hk:=tidyKs_leaves ks;rw[zVa];split<;>(rw[Node.leaves,yw,yY];exact⟨h.1,h.2.imp id hk⟩)
theorem zad:∀l:List Node,zw l=false->zw (zL l)=false
 | [],h=>rfl
 |x::r,h=>by
  rw[zw,yw]at h;have h1:=tidyN_leaves x h.1;have h2:=zad r h.2;rw[zL];split
  ·rw[zw,h1];rfl
  ·rw[zw,h1,h2];rfl
theorem tidyKs_leaves:∀l:List (List Node),zpa l=false->zpa (zCb l)=false
 | [],h=>rfl
 |x::r,h=>by
  rw[zpa,yw]at h;rw[zCb,zpa,zad x h.1,tidyKs_leaves r h.2];rfl
end
theorem leavesL_app(a b:List Node):zw (a++b)=(zw a||zw b):=by
 rw[zTa,zTa,zTa,List.any_append]
theorem takenW_leaves{us:List Int}{q:List Node×Tos}(h:zw q.1=false):zw (zGc us q).1=false:=by
 unfold zGc;split
 ·split
  ·rename_i e he hk;rcases yT q.1 with h0|⟨d,z,h0⟩
   ·rw[h0];rfl
   ·rw[h0,yZ]at h ⊢;rw[leavesL_app,yw]at h;simp only[yCa];exact h.1
  ·exact h
 ·exact h
mutual
theorem wrN_leaves(F:zT):∀(x:Node) (T:Tos),x.leaves=false->zw (wrN F x T).1=false
 |⟨k,o,n,s,a,us,ps,ks⟩,T,h=>by
  have h0:=h;rw[Node.leaves,yw,yY]at h;have h14:k≠14:=by simpa using h.1
  rw[wrN];split
  ·rename_i c;rw[zw,zw,Bool.or_false,zGd];unfold sumW;split
   ·simp only;split<;>simp
   ·simp only;simp;exact⟨h14,fun e=>by omega⟩
  ·split
   ·rename_i c10;have hk:zpa ks=false:=by
     rcases h.2 with h|h
     ·simp[c10]at h
     ·exact h
    split
    ·exact takenW_leaves (wrPick_leaves F ks _ T hk)
    ·rw[zw,zw,Bool.or_false,Node.leaves,yw,yY];exact⟨by simpa using h14,.inr (wrKs_leaves F ks T hk)⟩
   ·rename_i c10;split
    ·rw[zw,zw,Bool.or_false,Node.leaves,yw,yY];exact⟨by simpa using h14,.inl (by simpa using c10)⟩
    ·rw[zw,zw,Bool.or_false,Node.leaves,yw,yY];exact⟨by simpa using h14,.inl (by simpa using c10)⟩
theorem wrGo_leaves(F:zT):∀(l:List Node) (T:Tos),zw l=false->zw (wrGo F l T).1=false
 | [],T,h=>rfl
 |x::r,T,h=>by
  rw[zw,yw]at h;have h1:=wrN_leaves F x T h.1;have h2:=wrGo_leaves F r (wrN F x T).2 h.2;rw[wrGo];split
  ·exact h1
  ·rw[leavesL_app,h1,h2];rfl
theorem wrKs_leaves(F:zT):∀(l:List (List Node)) (T:Tos),zpa l=false->zpa (wrKs F l T).1=false
 | [],T,h=>rfl
 |x::r,T,h=>by
  rw[zpa,yw]at h;rw[wrKs];simp only;rw[zpa,zad _ (wrGo_leaves F x T h.1),wrKs_leaves F r _ h.2];rfl
theorem wrPick_leaves(F:zT):∀(l:List (List Node)) (b:Bool) (T:Tos),zpa l=false->zw (zob F l b T).1=false
 | [],b,T,h=>rfl
 |x::r,b,T,h=>by
  rw[zpa,yw]at h;rw[zob];split
  ·exact zad _ (wrGo_leaves F x T h.1)
  ·exact wrPick_leaves F r true T h.2
end
section
variable {u:Unt} {f:Flow}
theorem simple_sub{T:Tos}{seen seen':List Int}{w:Place}{Z Z':Set1}(h:Iv f.types T seen seen' Z Z'){x:Node}(hv:(zu u f seen w Z x).1=true):
  ∃want,(zI f.types Z x.outs want).1=true/\zu u f seen w Z x=zI f.types Z x.outs want/\zu u f seen' w Z' {x with args:=valW T x.args}=zI f.types Z' x.outs want:=by
 unfold zu at hv ⊢;dsimp only at hv ⊢;have hn:∀{want:List Int},zA f.types seen x.args want=true->zA f.types seen' (valW T x.args) want=true:=fun hw=>h.types hw
 have B:∀{b b':Bool},b=true->x.outs=[]->b'=true->∃want,(zI f.types Z x.outs want).1=true/\(b,Z)=zI f.types Z x.outs want/\(b',Z')=zI f.types Z' x.outs want:=by
  intro b b' h1 h2 h3;rw[h1,h2,h3];exact⟨[],rfl,rfl,rfl⟩
 by_cases k1:x.kind=1
 ·simp only[if_pos k1]at hv ⊢;split at hv
  ·rename_i hc;rw[if_pos hc,if_pos (hn hc)];exact⟨_,hv,rfl,rfl⟩
  ·cases hv
 simp only[if_neg k1]at hv ⊢;by_cases k2:x.kind=2
 ·simp only[if_pos k2]at hv ⊢;split at hv
  ·rename_i hc;rw[if_pos hc,if_pos ⟨hc.1,hn hc.2⟩];exact⟨_,hv,rfl,rfl⟩
  ·cases hv
 simp only[if_neg k2]at hv ⊢;by_cases k3:x.kind=3
 ·simp only[if_pos k3]at hv ⊢;split at hv
  ·rename_i hc;rw[if_pos hc,if_pos (by simp only[ya]at hc ⊢;exact⟨hc.1,hn hc.2⟩)];exact⟨_,hv,rfl,rfl⟩
  ·cases hv
 simp only[if_neg k3]at hv ⊢;by_cases k4:x.kind=4
 ·simp only[if_pos k4]at hv ⊢;split at hv
  ·rename_i hc;rw[if_pos hc,if_pos (by
    obtain⟨h1,h2⟩:=hc;simp only[ya]at h1 ⊢;refine⟨⟨h1.1,hn h1.2⟩,?_⟩;obtain⟨a,b,ha,_⟩:=typesR_two h1.2;have h3:=h1.2;rw[ha]at h2 h3 ⊢;simp[zA,useR]at h3;have sa:=(h.sub a h3.1.2.2.1).2.2.2;have sb:=(h.sub b h3.2.2.2.1).2.2.2;show at0 f.types (sg T a)=at0 f.types (sg T b)
    rw[sa,sb];exact h2)]
   exact⟨_,hv,rfl,rfl⟩
  ·cases hv
 simp only[if_neg k4]at hv ⊢;by_cases k5:x.kind=5
 ·simp only[if_pos k5]at hv ⊢;split at hv
  ·rename_i hc;rw[if_pos hc,if_pos (by simp only[ya]at hc ⊢;exact⟨hc.1,hn hc.2⟩)];exact⟨_,hv,rfl,rfl⟩
  ·cases hv
 simp only[if_neg k5]at hv ⊢;by_cases k6:x.kind=6
 ·simp only[if_pos k6]at hv ⊢;have hv':=hv;simp only[ya,decide_eq_true_eq]at hv';exact B hv hv'.2.2 (by simp only[ya,decide_eq_true_eq];exact⟨hv'.1,hn hv'.2.1,hv'.2.2⟩)
 simp only[if_neg k6]at hv ⊢;by_cases k7:x.kind=7
 ·simp only[if_pos k7]at hv ⊢;split at hv
  ·rename_i g hg;split at hv
   ·rename_i hc;rw[if_pos hc,if_pos ⟨hc.1,hn hc.2⟩];exact⟨_,hv,rfl,rfl⟩
   ·cases hv
  ·cases hv
 simp only[if_neg k7]at hv ⊢;by_cases k8:x.kind=8
 ·simp only[if_pos k8]at hv ⊢;split at hv
  ·rename_i hc;rw[if_pos hc,if_pos (by rw[hc];rfl)];exact⟨_,hv,rfl,rfl⟩
  ·cases hv
 simp only[if_neg k8]at hv ⊢;by_cases k9:x.kind=9
 ·simp only[if_pos k9]at hv ⊢;have hv':=hv;simp only[ya,decide_eq_true_eq]at hv';exact B hv hv'.2 (by simp only[ya,decide_eq_true_eq];exact⟨hn hv'.1,hv'.2⟩)
 simp only[if_neg k9]at hv ⊢;by_cases k12:x.kind=12
 ·simp only[if_pos k12]at hv ⊢;have hv':=hv;simp only[ya,decide_eq_true_eq]at hv';exact B hv hv'.2.2 (by simp only[ya,decide_eq_true_eq];exact⟨hv'.1,hn hv'.2.1,hv'.2.2⟩)
 simp only[if_neg k12]at hv ⊢;by_cases k13:x.kind=13
 ·simp only[if_pos k13]at hv ⊢;have hv':=hv;simp only[ya,decide_eq_true_eq]at hv';exact B hv hv'.2.2 (by simp only[ya,decide_eq_true_eq];exact⟨hv'.1,hn hv'.2.1,hv'.2.2⟩)
 simp only[if_neg k13]at hv ⊢;by_cases k14:x.kind=14
 ·simp only[if_pos k14]at hv ⊢;have hv':=hv;simp only[ya,decide_eq_true_eq]at hv';exact B hv hv'.2.2 (by simp only[ya,decide_eq_true_eq];exact⟨hv'.1,hn hv'.2.1,hv'.2.2⟩)
 simp only[if_neg k14]at hv ⊢;by_cases k15:x.kind=15
 ·simp only[if_pos k15]at hv ⊢;have hv':=hv;simp only[ya,decide_eq_true_eq]at hv';exact B hv hv'.2 (by simp only[ya,decide_eq_true_eq];exact⟨hn hv'.1,hv'.2⟩)
 simp only[if_neg k15]at hv;cases hv
end
section
variable {u:Unt} {f:Flow}
structure LR(f:Flow)(T T1:Tos)(Z Z1:Set1)(q:Bool×Set1):Prop where
 agr:Agr Z T T1
 ok:q.1=true
 zs:ZS q.2 Z1
 len:q.2.length=f.types.length
 key:Keys T1 Z1
structure NR(u:Unt)(f:Flow)(x:Node)(q:List Node×Tos)(T:Tos)(seen seen':List Int)(w:Place)(deep':Int)(Z Z' Z1:Set1):Prop where
 td:∀y∈q.1,Td y
 op:∀y∈q.1.dropLast,zj y=false
 cl:zj x=true->zH q.1=true
 agr:Agr Z T q.2
 go:zH q.1=false->∃s1 Z1',zTd u f q.1 seen' w deep' Z'=some (s1,Z1')/\Iv f.types q.2 (seen++x.outs) s1 Z1 Z1'
 cut:zH q.1=true->LR f T q.2 Z Z1 (goR u f (zL q.1) seen' w deep' Z')
theorem run_one{y:Node}{seen:List Int}{w:Place}{deep:Int}{Z:Set1}(hc:zj y=false)(hn:(zaa u f y seen w deep Z).1=true):zTd u f [y] seen w deep Z=some (seen++y.outs,(zaa u f y seen w deep Z).2):=by
 rw[zTd,if_pos ⟨hc,hn⟩,zTd]
theorem go_one{y:Node}{seen:List Int}{w:Place}{deep:Int}{Z:Set1}(hd:deep<=100)(hc:zj y=true)(hn:(zaa u f y seen w deep Z).1=true):goR u f [y] seen w deep Z=(true,(zaa u f y seen w deep Z).2):=by
 rw[goR,if_neg (by omega),if_pos hn,if_pos (by rw[hc];rfl),goR]
theorem last_one(y:Node):zH [y]=zj y:=rfl
theorem endR_true{ty:List Int}{x:Node}{q:Bool×Set1}(h:(endR ty x q).1=true):endR ty x q=zI ty q.2 x.outs (zDa x.outs.length)/\(x.outs=[]\/zj x=false):=by
 unfold endR at h ⊢;split at h
 ·rename_i hc;rw[if_pos hc];refine⟨rfl,?_⟩;simp only[ya,yD,decide_eq_true_eq,yz]at hc;exact hc.2
 ·cases h
theorem simple_closed{seen:List Int}{w:Place}{Z:Set1}{x:Node}(hk:12<=x.kind/\x.kind<=15)(hv:(zu u f seen w Z x).1=true):x.outs=[]:=by
 unfold zu at hv;dsimp only at hv;rw[if_neg (by omega),if_neg (by omega),if_neg (by omega),if_neg (by omega),if_neg (by omega),if_neg (by omega),if_neg (by omega),if_neg (by omega),if_neg (by omega)]at hv;rcases(by omega:x.kind=12\/x.kind=13\/x.kind=14\/x.kind=15)with k|k|k|k<;>simp[k]at hv
 ·exact hv.2.2
 ·exact hv.2.2
 ·exact hv.2.2
 ·exact hv.2
theorem nr_open{x y:Node}{T T1:Tos}{seen seen':List Int}{w:Place}{deep':Int}{Z Z' Z1 Zk Zk':Set1}{want:List Int}(hi:Iv f.types T seen seen' Z Z')(htd:Td y)(hc:zj y=false)(hcl:zj x=true->zj y=true)
  (ha:Agr Z T T1) (hz:ZS Z Zk) (hk:Keys T1 Zk) (hs:ZS Zk' Zk) (hl:Zk.length=f.types.length) (hl':Zk'.length=f.types.length)
  (h1:(zI f.types Zk x.outs want).1=true) (e1:Z1=(zI f.types Zk x.outs want).2) (ho:y.outs=x.outs) (hn:zaa u f y seen' w deep' Z'=zI f.types Zk' x.outs want):
  NR u f x ([y],T1) T seen seen' w deep' Z Z' Z1:=by
 obtain⟨n1,n2⟩:=hi.out ha hz hk hs hl hl' h1;refine⟨?_,?_,?_,ha,?_,?_⟩
 ·intro z hz;simp at hz;rw[hz];exact htd
 ·intro z hz;simp at hz
 ·intro h;rw[last_one];exact hcl h
 ·intro _;refine⟨_,_,run_one hc (by rw[hn];exact n1),?_⟩;rw[hn,ho,e1];exact n2
 ·intro h;rw[last_one,hc]at h;cases h
theorem nr_closed{x y:Node}{T T1:Tos}{seen seen':List Int}{w:Place}{deep':Int}{Z Z' Z1 Zk Zk':Set1}(hd:deep'<=100)(htd:Td y)(hc:zj y=true)
  (ha:Agr Z T T1) (hk:Keys T1 Zk) (hs:ZS Zk' Zk) (hl':Zk'.length=f.types.length) (hz1:ZS Zk Z1)
  (hn:zaa u f {y with outs:=[]} seen' w deep' Z'=(true,Zk')):NR u f x ([y],T1) T seen seen' w deep' Z Z' Z1:=by
 refine⟨?_,?_,?_,ha,?_,?_⟩
 ·intro z hz;simp at hz;rw[hz];exact htd
 ·intro z hz;simp at hz
 ·intro _;rw[last_one];exact hc
 ·intro h;rw[last_one,hc]at h;cases h
 ·intro _;have e:zVa y={y with outs:=[]}:=by rw[tidyN_td htd,if_pos hc]
  have et:zL [y]=[{y with outs:=[]}]:=by rw[zL,e,if_pos (by rw[closed_outs];exact hc)]
  have hg:=go_one (u:=u) (f:=f) (y:={y with outs:=[]}) (seen:=seen') (w:=w) (deep:=deep') (Z:=Z') hd (by rw[closed_outs];exact hc) (by rw[hn]);rw[hn]at hg;show LR f T T1 Z Z1 (goR u f (zL [y]) seen' w deep' Z')
  rw[et,hg];exact⟨ha,rfl,hs.trans hz1,hl',hk.mono hz1⟩
theorem nr_simple{x:Node}{T:Tos}{seen seen':List Int}{w:Place}{deep deep':Int}{Z Z':Set1}(hi:Iv f.types T seen seen' Z Z')(hd:deep'<=100)(h10:x.kind≠10)(h11:x.kind≠11)(hr:(zaa u f x seen w deep Z).1=true):
  NR u f x ([{x with args:=valW T x.args}],T) T seen seen' w deep' Z Z' (zaa u f x seen w deep Z).2:=by
 rw[zXa]at hr ⊢;split at hr
 ·cases hr
 rename_i c0;rw[if_neg c0,if_neg h10,if_neg h11];have hb:zBa x=true:=by simpa using c0
 have hkids:x.kids=[]:=by
  have:=(bareM_ok hb).1;simp[zjc,h10,h11]at this;exact this
 obtain⟨want,q1,q2,q3⟩:=simple_sub hi hr;have hn:zaa u f {x with args:=valW T x.args} seen' w deep' Z'=zu u f seen' w Z' {x with args:=valW T x.args}:=by
  rw[zXa,if_neg (by show¬(!zBa {x with args:=valW T x.args})=true;exact c0),if_neg h10,if_neg h11]
 have htd:Td {x with args:=valW T x.args}:=by unfold Td;simp[hkids]
 have hce:=closed_args x (valW T x.args);by_cases hc:zj x=true
 ·have hk:=hc;rw[zMa h10 h11]at hk;simp only[ya,decide_eq_true_eq]at hk;have hou:=simple_closed hk hr;have ey:({({x with args:=valW T x.args}:Node)with outs:=[]}:Node)={x with args:=valW T x.args}:=by
   cases x;simp only at hou;subst hou;rfl
  have hw:want=[]:=by
   have:=(zWa q1).2;rw[hou]at this;simpa using this.symm
  have e1:zI f.types Z x.outs want=(true,Z):=by rw[hou,hw];rfl
  have e2:zI f.types Z' x.outs want=(true,Z'):=by rw[hou,hw];rfl
  rw[q2,e1];refine nr_closed (Zk:=Z) (Zk':=Z') hd htd (by rw[hce];exact hc) (Agr.refl _ _) hi.key hi.zs hi.zl' (ZS.refl _) ?_;rw[ey,hn,q3,e2]
 ·have hc:zj x=false:=by simpa using hc
  rw[q2];exact nr_open (want:=want) hi htd (by rw[hce];exact hc) (fun h=>by rw[hc]at h;cases h) (Agr.refl _ _) (ZS.refl _) hi.key hi.zs hi.zl hi.zl' q1 rfl rfl (by rw[hn,q3])
theorem nr_sum{F:zT}(hF:zva f.types F){x:Node}{T:Tos}{seen seen':List Int}{w:Place}{deep deep':Int}{Z Z':Set1}(hi:Iv f.types T seen seen' Z Z')(hd:deep'<=100)(h34:x.kind=3\/x.kind=4)(hr:(zaa u f x seen w deep Z).1=true):
  NR u f x ([sumW F {x with args:=valW T x.args}],T) T seen seen' w deep' Z Z' (zaa u f x seen w deep Z).2:=by
 unfold sumW;simp only;by_cases hq:(numK F (at0 x.outs 0)).2=true
 ·rw[if_pos hq];rw[zXa]at hr ⊢;split at hr
  ·cases hr
  rename_i c0;have g10:x.kind≠10:=by omega
  have g11:x.kind≠11:=by omega
  rw[if_neg c0,if_neg g10,if_neg g11];have hr:(zu u f seen w Z x).1=true:=by simpa[g10,g11]using hr
  have hs:(zI f.types Z x.outs [zqb x.op]).1=true/\zu u f seen w Z x=zI f.types Z x.outs [zqb x.op]:=by
   unfold zu at hr ⊢;dsimp only at hr ⊢;rw[if_neg (by omega),if_neg (by omega)]at hr;rw[if_neg (by omega),if_neg (by omega)];rcases h34 with k|k
   ·rw[if_pos k]at hr ⊢;split at hr
    ·rename_i hc;rw[if_pos hc];exact⟨hr,rfl⟩
    ·cases hr
   ·rw[if_neg (by omega),if_pos k]at hr ⊢;split at hr
    ·rename_i hc;rw[if_pos hc];exact⟨hr,rfl⟩
    ·cases hr
  obtain⟨hs1,hs2⟩:=hs;rw[hs2];have hcx:zj x=false:=by
   rw[zMa (by omega) (by omega)];simp only[yY,decide_eq_false_iff_not];omega
  obtain⟨v,hv⟩:=setsR_one hs1;have hmk:zqb x.op≠0:=by unfold zqb;split<;>omega
  have hty:at0 f.types v=zqb x.op:=by rw[hv]at hs1;exact setsR_ty hs1 hmk
  have hval:zqd x.op=true->(numK F (at0 x.outs 0)).1=0\/(numK F (at0 x.outs 0)).1=1:=by
   intro ht;have e0:at0 x.outs 0=v:=by rw[hv];rfl
   rw[e0]at hq ⊢;unfold numK at hq ⊢;split at hq
   ·rename_i n hn;exact hF v n hn (by rw[hty,makes_truth,if_pos ht])
   ·cases hq
  have hcy:∀k:Int,k=1\/k=2->zj ⟨k,0,(numK F (at0 x.outs 0)).1,[],[],x.outs,[],[]⟩=false:=by
   intro k hk;rw[zMa (by simp only;omega) (by simp only;omega)];simp only[yY,decide_eq_false_iff_not];omega
  refine nr_open (want:=[zqb x.op]) hi (by unfold Td;rfl) (hcy _ (by cases zqd x.op<;>simp)) (fun h=>by rw[hcx]at h;cases h) (Agr.refl _ _) (ZS.refl _) hi.key hi.zs hi.zl hi.zl' hs1 rfl rfl ?_;rw[makes_truth];cases ht:zqd x.op
  ·simp[zXa,zBa,zjc,zu,zA]
  ·rcases hval ht with e|e<;>simp[zXa,zBa,zjc,zu,zA,e]
 ·rw[if_neg hq];exact nr_simple hi hd (by omega) (by omega) hr
end
theorem wrKs_len(F:zT):∀(ks:List (List Node)) (T:Tos),(wrKs F ks T).1.length=ks.length
 | [],T=>rfl
 |l::r,T=>by rw[wrKs];simp[wrKs_len F r]
theorem tidy_noy{l:List Node}(h:zK (zL l)=false):∀z∈zL l,z.kind≠12:=by
 have hi:=tidyL_init l;rcases yT (zL l)with he|⟨d,e,he⟩
 ·rw[he];intro z hz;cases hz
 ·rw[he,yZ]at h hi ⊢;intro z hz hk;rcases yA.1 hz with hz|hz
  ·have:=hi z (by simpa using hz);rw[closed_12 hk]at this;cases this
  ·simp at hz;subst hz;simp[zK,hk]at h
theorem wrKs_noy(F:zT):∀(ks:List (List Node)) (T:Tos),(∀l∈(wrKs F ks T).1,zK l=false)->∀l∈(wrKs F ks T).1,∀z∈l,z.kind≠12
 | [],T,h=>by intro l hl;cases hl
 |l::r,T,h=>by
  rw[wrKs]at h ⊢;intro l' hl';rcases yG.1 hl' with rfl|hl'
  ·exact tidy_noy (h _ (by simp))
  ·exact wrKs_noy F r _ (fun q hq=>h q (by simp[hq])) l' hl'
theorem wrKs_y{u:Unt}{m:Nat}(F:zT):∀(ks:List (List Node)) (p:Pl) (T:Tos),okK u m p ks->(∀l∈ks,zK l=false)->∀l∈(wrKs F ks T).1,zK l=false
 | [],p,T,hok,h=>by intro l hl;cases hl
 |l::r,p,T,hok,h=>by
  rw[okK]at hok;rw[wrKs];intro l' hl';rcases yG.1 hl' with rfl|hl'
  ·have hw:=(wrGo_wl F l p T hok.1.2 hok.1.1).tidy;cases hy:zK (zL (wrGo F l T).1)with
   |false=>rfl
   |true=>
    rcases yT (zL (wrGo F l T).1)with he|⟨d,e,he⟩
    ·exact absurd he hw.ne
    ·rw[he,yZ]at hy hw;simp[zK]at hy;have:=(hw.yl e (by simp) hy).1;rw[h l (by simp)]at this;cases this
  ·exact wrKs_y F r p _ hok.2 (fun q hq=>h q (by simp[hq])) l' hl'
section
variable {u:Unt} {f:Flow}
theorem kidsR_y{w w':Place}{deep:Int}(h1:w'.inLoop=w.inLoop)(h2:w'.next=w.next)(h3:w'.left=w.left):∀(ks:List (List Node)) (seen:List Int) (Z:Set1),(∀l∈ks,∀x∈l,x.kind≠12)->zO u f ks seen w' deep Z=zO u f ks seen w deep Z
 | [],seen,Z,h=>by rw[zO,zO]
 |l::r,seen,Z,h=>by
  rw[zO,zO,goR_y h1 h2 h3 l seen Z (h l (by simp)),kidsR_y h1 h2 h3 r seen _ (fun q hq=>h q (by simp[hq]))]
theorem nr_if{p:Pl}{F:zT}{x:Node}{T:Tos}{seen seen':List Int}{w:Place}{deep deep':Int}{Z Z':Set1}(hok:okN u f.types.length p x)(hi:Iv f.types T seen seen' Z Z')(hd:deep'<=100)(h10:x.kind=10)(hr:(zaa u f x seen w deep Z).1=true)
  (hkids:(zO u f x.kids seen {w with inIf:=true,yield:=typesM f.types x.outs} (deep+1) Z).1=true→
   LR f T (wrKs F x.kids T).2 Z (zO u f x.kids seen {w with inIf:=true,yield:=typesM f.types x.outs} (deep+1) Z).2 (zO u f (wrKs F x.kids T).1 seen' {w with inIf:=true,yield:=typesM f.types x.outs} (deep'+1) Z')):
  NR u f x ([{x with args:=valW T x.args,kids:=(wrKs F x.kids T).1}],(wrKs F x.kids T).2) T seen seen' w deep' Z Z' (zaa u f x seen w deep Z).2:=by
 rw[zkd]at hok;obtain⟨ho,hkk⟩:=hok;have hk2:=(ho.k10 h10).2;rw[zXa]at hr ⊢;split at hr
 ·cases hr
 rename_i c0;rw[if_neg c0,if_pos h10];split at hr
 ·rename_i c1;rw[if_pos c1];obtain⟨e1,e2⟩:=zxc hr;obtain⟨e3,e4⟩:=endR_true hr;have hL:=hkids e1;obtain⟨m1,m2⟩:=zac x.kids seen {w with inIf:=true,yield:=typesM f.types x.outs} (deep+1) Z hi.zl e1;have hlen:=wrKs_len F x.kids T;have htd:Td {x with args:=valW T x.args,kids:=(wrKs F x.kids T).1}:=wrKs_td F x.kids T;have hcx:zj x=x.kids.all fun l=> !zK l:=by unfold zj;rw[if_pos ⟨h10,hk2⟩]
  have hcy:zj {x with args:=valW T x.args,kids:=(wrKs F x.kids T).1}=(wrKs F x.kids T).1.all fun l=> !zK l:=by
   unfold zj;rw[if_pos ⟨h10,by rw[hlen];exact hk2⟩]
  have hcl:zj x=true->zj {x with args:=valW T x.args,kids:=(wrKs F x.kids T).1}=true:=by
   intro h;rw[hcx,yi]at h;rw[hcy,yi];intro l hl;have:=wrKs_y F x.kids _ T hkk (fun q hq=>by simpa using h q hq) l hl;rw[this];rfl
  have hb:∀us:List Int,zBa {x with args:=valW T x.args,outs:=us,kids:=(wrKs F x.kids T).1}=true:=by
   intro us;have hb:zBa x=true:=by simpa using c0
   unfold zBa at hb ⊢;simp only[hlen];exact hb
  have hn:∀us:List Int,zaa u f {x with args:=valW T x.args,outs:=us,kids:=(wrKs F x.kids T).1} seen' w deep' Z'=
    endR f.types {x with args:=valW T x.args,outs:=us,kids:=(wrKs F x.kids T).1} (zO u f (wrKs F x.kids T).1 seen' {w with inIf:=true,yield:=typesM f.types us} (deep'+1) Z'):=by
   intro us;rw[zXa,hb us];simp only[Bool.not_true,yE,if_false];rw[if_pos h10,if_pos (hi.types c1)]
  generalize hks:(wrKs F x.kids T).1=ks' at*;generalize(wrKs F x.kids T).2=T1 at*;generalize hZk:(zO u f x.kids seen {w with inIf:=true,yield:=typesM f.types x.outs} (deep+1) Z).2=Zk at*;by_cases hc:zj {x with args:=valW T x.args,kids:=ks'}=true
  ·have hny:∀l∈ks',∀z∈l,z.kind≠12:=by
    rw[hcy,yi]at hc;have:=wrKs_noy F x.kids T (fun l hl=>by rw[hks]at hl;simpa using hc l hl);rw[hks]at this;exact this
   have hz1:ZS Zk (endR f.types x (zO u f x.kids seen {w with inIf:=true,yield:=typesM f.types x.outs} (deep+1) Z)).2:=by
    rw[e3];exact zDc m2 e2
   refine nr_closed (Zk:=Zk) (Zk':=(zO u f ks' seen' {w with inIf:=true,yield:=typesM f.types x.outs} (deep'+1) Z').2) hd htd hc hL.agr hL.key hL.zs hL.len hz1 ?_;have h0:=hn [];have ey:=kidsR_y (u:=u) (f:=f) (w:={w with inIf:=true,yield:=typesM f.types x.outs}) (w':={w with inIf:=true,yield:=typesM f.types []}) (deep:=deep'+1) rfl rfl rfl ks' seen' Z' hny;rw[ey]at h0;have e5:({({x with args:=valW T x.args,kids:=ks'}:Node)with outs:=[]}:Node)={x with args:=valW T x.args,outs:=[],kids:=ks'}:=rfl;rw[e5,h0];unfold endR;rw[if_pos (by rw[hL.ok];rfl)];rfl
  ·have hc:zj {x with args:=valW T x.args,kids:=ks'}=false:=by simpa using hc
   have h0:=hn x.outs;rw[e3];refine nr_open (Zk:=Zk) (Zk':=(zO u f ks' seen' {w with inIf:=true,yield:=typesM f.types x.outs} (deep'+1) Z').2) (want:=zDa x.outs.length) hi htd hc hcl hL.agr m1 hL.key hL.zs m2 hL.len e2 rfl rfl ?_;have e5:({x with args:=valW T x.args,kids:=ks'}:Node)={x with args:=valW T x.args,outs:=x.outs,kids:=ks'}:=rfl;rw[e5,h0];unfold endR;rw[if_pos (by rw[hL.ok,<-e5,hc];simp)]
 ·cases hr
theorem nr_loop{p:Pl}{F:zT}{x:Node}{T:Tos}{seen seen':List Int}{w:Place}{deep deep':Int}{Z Z':Set1}(hok:okN u f.types.length p x)(hi:Iv f.types T seen seen' Z Z')(hd:deep'<=100)(h11:x.kind=11)(hr:(zaa u f x seen w deep Z).1=true)
  (hkids:∀Zp Zp',Iv f.types T (seen++x.params) (seen'++x.params) Zp Zp'->(zO u f x.kids (seen++x.params) ⟨false,true,[],typesM f.types x.params,typesM f.types x.outs⟩ (deep+1) Zp).1=true→
   LR f T (wrKs F x.kids T).2 Zp (zO u f x.kids (seen++x.params) ⟨false,true,[],typesM f.types x.params,typesM f.types x.outs⟩ (deep+1) Zp).2 (zO u f (wrKs F x.kids T).1 (seen'++x.params) ⟨false,true,[],typesM f.types x.params,typesM f.types x.outs⟩ (deep'+1) Zp')):
  NR u f x ([{x with args:=valW T x.args,kids:=(wrKs F x.kids T).1}],(wrKs F x.kids T).2) T seen seen' w deep' Z Z' (zaa u f x seen w deep Z).2:=by
 rw[zkd]at hok;obtain⟨ho,hkk⟩:=hok;have hk1:=(ho.k11 h11).2;have h10:x.kind≠10:=by omega
 rw[zXa]at hr ⊢;split at hr
 ·cases hr
 rename_i c0;rw[if_neg c0,if_neg h10,if_pos h11];split at hr
 ·rename_i c1;rw[if_pos c1];split at hr
  ·rename_i c2;rw[if_pos c2];obtain⟨e1,e2⟩:=zxc hr;obtain⟨e3,e4⟩:=endR_true hr;obtain⟨s1,s2⟩:=hi.out (Agr.refl _ _) (ZS.refl _) hi.key hi.zs hi.zl hi.zl' c2;have mp:=zDc hi.zl c2;have hL:=hkids _ _ s2 e1;obtain⟨m1,m2⟩:=zac x.kids (seen++x.params) ⟨false,true,[],typesM f.types x.params,typesM f.types x.outs⟩ (deep+1) _ s2.zl e1;have hlen:=wrKs_len F x.kids T;have htd:Td {x with args:=valW T x.args,kids:=(wrKs F x.kids T).1}:=wrKs_td F x.kids T;have hcx:zj x=x.kids.all fun l=> !zw l:=by
    unfold zj;rw[if_neg (by intro h;exact h10 h.1),if_pos ⟨h11,hk1⟩]
   have hcy:zj {x with args:=valW T x.args,kids:=(wrKs F x.kids T).1}=(wrKs F x.kids T).1.all fun l=> !zw l:=by
    unfold zj;rw[if_neg (by intro h;exact h10 h.1),if_pos ⟨h11,by rw[hlen];exact hk1⟩]
   have hlv:(∀l∈x.kids,zw l=false)->∀l∈(wrKs F x.kids T).1,zw l=false:=by
    intro h l hl;have h1:zpa x.kids=false:=by
     rw[leavesK_eq,List.any_eq_false];intro q hq;rw[h q hq];simp
    have h2:=wrKs_leaves F x.kids T h1;rw[leavesK_eq,List.any_eq_false]at h2;simpa using h2 l hl
   have hcl:zj x=true->zj {x with args:=valW T x.args,kids:=(wrKs F x.kids T).1}=true:=by
    intro h;rw[hcx,yi]at h;rw[hcy,yi];intro l hl;rw[hlv (fun q hq=>by simpa using h q hq) l hl];rfl
   have hb:∀us:List Int,zBa {x with args:=valW T x.args,outs:=us,kids:=(wrKs F x.kids T).1}=true:=by
    intro us;have hb:zBa x=true:=by simpa using c0
    unfold zBa at hb ⊢;simp only[hlen];exact hb
   have hn:∀us:List Int,zaa u f {x with args:=valW T x.args,outs:=us,kids:=(wrKs F x.kids T).1} seen' w deep' Z'=
     endR f.types {x with args:=valW T x.args,outs:=us,kids:=(wrKs F x.kids T).1} (zO u f (wrKs F x.kids T).1 (seen'++x.params) ⟨false,true,[],typesM f.types x.params,typesM f.types us⟩ (deep'+1) (zI f.types Z' x.params (zDa x.params.length)).2):=by
    intro us;rw[zXa,hb us];simp only[Bool.not_true,yE,if_false];rw[if_neg h10,if_pos h11,if_pos (hi.types c1),if_pos s1]
   generalize(wrKs F x.kids T).1=ks' at*;generalize(wrKs F x.kids T).2=T1 at*;generalize hZk:(zO u f x.kids (seen++x.params) ⟨false,true,[],typesM f.types x.params,typesM f.types x.outs⟩ (deep+1) (zI f.types Z x.params (zDa x.params.length)).2).2=Zk at*;generalize hZp':(zI f.types Z' x.params (zDa x.params.length)).2=Zp' at*;have hagr:Agr Z T T1:=(Agr.refl Z T).trans mp hL.agr;by_cases hc:zj {x with args:=valW T x.args,kids:=ks'}=true
   ·have hnl:zpa ks'=false:=by
     rw[hcy,yi]at hc;rw[leavesK_eq,List.any_eq_false];intro q hq;have:=hc q hq;simpa using this
    have hz1:ZS Zk (endR f.types x (zO u f x.kids (seen++x.params) ⟨false,true,[],typesM f.types x.params,typesM f.types x.outs⟩ (deep+1) (zI f.types Z x.params (zDa x.params.length)).2)).2:=by
     rw[e3];exact zDc m2 e2
    refine nr_closed (Zk:=Zk) (Zk':=(zO u f ks' (seen'++x.params) ⟨false,true,[],typesM f.types x.params,typesM f.types x.outs⟩ (deep'+1) Zp').2) hd htd hc hagr hL.key hL.zs hL.len hz1 ?_;have h0:=hn [];have ey:=kidsR_l (u:=u) (f:=f) ks' (seen'++x.params) ⟨false,true,[],typesM f.types x.params,typesM f.types x.outs⟩ (typesM f.types []) (deep'+1) Zp' hnl;simp only at ey;rw[ey]at h0;have e5:({({x with args:=valW T x.args,kids:=ks'}:Node)with outs:=[]}:Node)={x with args:=valW T x.args,outs:=[],kids:=ks'}:=rfl;rw[e5,h0];unfold endR;rw[if_pos (by rw[hL.ok];rfl)];rfl
   ·have hc:zj {x with args:=valW T x.args,kids:=ks'}=false:=by simpa using hc
    have h0:=hn x.outs;rw[e3];refine nr_open (Zk:=Zk) (Zk':=(zO u f ks' (seen'++x.params) ⟨false,true,[],typesM f.types x.params,typesM f.types x.outs⟩ (deep'+1) Zp').2) (want:=zDa x.outs.length) hi htd hc hcl hagr (mp.trans m1) hL.key hL.zs m2 hL.len e2 rfl rfl ?_;have e5:({x with args:=valW T x.args,kids:=ks'}:Node)={x with args:=valW T x.args,outs:=x.outs,kids:=ks'}:=rfl;rw[e5,h0];unfold endR;rw[if_pos (by rw[hL.ok,<-e5,hc];simp)]
  ·cases hr
 ·cases hr
end
theorem td_tidy{ns:List Node}{z:Node}(h:z∈zL ns):Td z:=by
 obtain⟨y,_,rfl⟩:=tidyL_mem h;unfold Td;rw[tidyN_eq];simp only[List.map_map];exact yxa fun l _=>zyd l
theorem getA_setsW:∀(us args:List Int) (T:Tos) (v:Int),v ∉ us->getA (setsW T us args) v=getA T v
 | [],args,T,v,h=>rfl
 |x::us,[],T,v,h=>rfl
 |x::us,a::args,T,v,h=>by
  have e:setsW T (x::us) (a::args)=setsW (setA T x a) us args:=rfl;rw[e,getA_setsW us args _ v (fun hm=>h (by simp[hm])),getA_setA,if_neg (fun e=>h (by simp[e]))]
theorem getA_setsW_at:∀(us args:List Int) (T:Tos) (i:Nat) (v a:Int),us.Nodup->us[i]? =some v->args[i]? =some a->getA (setsW T us args) v=some a
 | [],args,T,i,v,a,hn,h,h'=>by cases h
 |x::us,[],T,i,v,a,hn,h,h'=>by cases h'
 |x::us,b::args,T,i,v,a,hn,h,h'=>by
  have e:setsW T (x::us) (b::args)=setsW (setA T x b) us args:=rfl;rw[List.nodup_cons]at hn;rw[e];cases i with
  |zero=>
   cases h;cases h';rw[getA_setsW us args _ x hn.1,getA_setA,if_pos rfl]
  |succ i=>exact getA_setsW_at us args _ i v a hn.2 (by simpa using h) (by simpa using h')
section
variable {u:Unt} {f:Flow}
theorem runR_mono{w:Place}{deep:Int}:∀(a:List Node) (seen:List Int) (Z:Set1) (s1:List Int) (Z1:Set1),Z.length=f.types.length->zTd u f a seen w deep Z=some (s1,Z1)->Z1.length=f.types.length/\(∀v∈seen,v∈s1)/\∀y∈a,zj y=false
 | [],seen,Z,s1,Z1,hl,h=>by
  rw[zTd]at h;cases h;exact⟨hl,fun v hv=>hv,fun y hy=>(by cases hy)⟩
 |x::a,seen,Z,s1,Z1,hl,h=>by
  rw[zTd]at h;split at h
  ·rename_i hc;obtain⟨m1,m2⟩:=nodeR_mono x seen w deep Z hl hc.2;obtain⟨h1,h2,h3⟩:=runR_mono a _ _ s1 Z1 m2 h;refine⟨h1,fun v hv=>h2 v (List.mem_append_left _ hv),fun y hy=>?_⟩;rcases yG.1 hy with rfl|hy
   ·exact hc.1
   ·exact h3 y hy
  ·cases h
theorem Iv.up{T:Tos}{seen seen':List Int}{Z Z' Zk:Set1}(h:Iv f.types T seen seen' Z Z')(hz:ZS Z Zk)(hl:Zk.length=f.types.length):Iv f.types T seen seen' Zk Z':=
 ⟨fun v hv=>⟨(h.sl v hv).1,hz v (h.sl v hv).1 (h.sl v hv).2⟩,h.sub,hl,h.zl',h.zs.trans hz,h.key.mono hz⟩
theorem Iv.step{T T1:Tos}{seen seen':List Int}{Z Z' Zk Zk':Set1}(h:Iv f.types T seen seen' Z Z')(ha:Agr Z T T1)(hz:ZS Z Zk)(hl:Zk.length=f.types.length)(hs:ZS Zk' Zk)(hl':Zk'.length=f.types.length)(hk:Keys T1 Zk):Iv f.types T1 seen seen' Zk Zk':=by
 refine⟨fun v hv=>⟨(h.sl v hv).1,hz v (h.sl v hv).1 (h.sl v hv).2⟩,fun v hv=>?_,hl,hl',hs,hk⟩;rw[ha v (h.sl v hv).1 (h.sl v hv).2];exact h.sub v hv
theorem nr_taken{p:Pl}(hT:TyOk f.types){F:zT}{x:Node}{T:Tos}{b:Bool}{seen seen':List Int}{w:Place}{deep deep':Int}{Z Z':Set1}(hok:okN u f.types.length p x)(hi:Iv f.types T seen seen' Z Z')(h10:x.kind=10)(hr:(zaa u f x seen w deep Z).1=true)
  (hpick:(zO u f x.kids seen {w with inIf:=true,yield:=typesM f.types x.outs} (deep+1) Z).1=true→
   LR f T (zob F x.kids b T).2 Z (zO u f x.kids seen {w with inIf:=true,yield:=typesM f.types x.outs} (deep+1) Z).2 (goR u f (zob F x.kids b T).1 seen' {w with inIf:=true,yield:=typesM f.types x.outs} deep' Z')):
  NR u f x (zGc x.outs (zob F x.kids b T)) T seen seen' w deep' Z Z' (zaa u f x seen w deep Z).2:=by
 rw[zkd]at hok;obtain⟨ho,hkk⟩:=hok;have hk2:=(ho.k10 h10).2;obtain⟨l,hlm,ns,T1,hq,hwl⟩:=wrPick_wl F x.kids (plIn p x.kind x.outs x.params) b T hkk (by intro h;rw[h]at hk2;simp at hk2) (by intro _ l h;rw[h]at hk2;simp at hk2);rw[zXa]at hr ⊢;split at hr
 ·cases hr
 rename_i c0;rw[if_neg c0,if_pos h10];split at hr
 ·rename_i c1;rw[if_pos c1];obtain⟨e1,e2⟩:=zxc hr;obtain⟨e3,e4⟩:=endR_true hr;have hL:=hpick e1;obtain⟨m1,m2⟩:=zac x.kids seen {w with inIf:=true,yield:=typesM f.types x.outs} (deep+1) Z hi.zl e1;have hcx:zj x=x.kids.all fun l=> !zK l:=by unfold zj;rw[if_pos ⟨h10,hk2⟩]
  rw[hq]at hL ⊢;simp only at hL;rw[e3];generalize(zO u f x.kids seen {w with inIf:=true,yield:=typesM f.types x.outs} (deep+1) Z).2=Zk at*;obtain⟨q1,q2,q3⟩:=setsR_facts m2 e2;have hur:=setsR_rng e2;have hinit:=tidyL_init ns;have htd:=fun z (hz:z∈zL ns)=>td_tidy hz
  rcases yT (zL ns)with he|⟨d,e,he⟩
  ·exact absurd he hwl.ne
  ·have hidem:=zyd ns;rw[yZ]at he;rw[he]at hL hwl hinit htd hidem ⊢;rw[yCa]at hinit;have hd12:∀z∈d,z.kind≠12:=by
    intro z hz hk;have:=hinit z hz;rw[closed_12 hk]at this;cases this
   obtain⟨sd,Zd,g1,g2,g3,g4,g5⟩:=goR_split d e seen' Z' hL.ok;obtain⟨r1,r2,r3⟩:=runR_mono d seen' Z' sd Zd hi.zl' g1;unfold zGc;simp only[List.getLast?_concat,yCa];by_cases hke:e.kind=12
   ·rw[if_pos hke];have hy:zA f.types sd e.args (typesM f.types x.outs)=true/\(zaa u f e sd {w with inIf:=true,yield:=typesM f.types x.outs} deep' Zd).2=Zd:=by
     rw[zXa]at g2 ⊢;split at g2
     ·cases g2
     rename_i d0;rw[if_neg d0,if_neg (by omega),if_neg (by omega)];have g2:(zu u f sd {w with inIf:=true,yield:=typesM f.types x.outs} Zd e).1=true:=by simpa[hke]using g2
     unfold zu at g2 ⊢;simp[hke]at g2 ⊢;exact g2.1
    rw[hy.2]at g4;have hzd:ZS Zd Zk:=by have:=hL.zs;rw[g4]at this;exact this
    have hty:=hy.1;have hur':inR f.types.length x.outs:=hur;rw[zxd hur']at hty;have hal:e.args.length=x.outs.length:=by
     have:=(zsa hty).2;simpa using this
    have hnew:∀v:Int,0<=v->atB Zk v=true->v ∉ x.outs:=by
     intro v _ hv hm;have:=(q2 v hm).1;rw[hv]at this;cases this
    have hagr:Agr Z T (setsW T1 x.outs e.args):=by
     intro v v0 hv;have:sg (setsW T1 x.outs e.args) v=sg T1 v:=by
      unfold sg;rw[getA_setsW _ _ _ _ (hnew v v0 (m1 v v0 hv))]
     rw[this];exact hL.agr v v0 hv
    have hlc:zH d=false:=by
     rcases yT d with h|⟨d',z,h⟩
     ·rw[h];rfl
     ·rw[h,yZ];have:=r3 z (by rw[h];simp);simp[zH,this]
    refine⟨fun y hy=>htd y (by simp[hy]),fun y hy=>r3 y (List.dropLast_subset d hy),?_,hagr,?_,?_⟩
    ·intro hcl;rw[hcx,yi]at hcl;have h1:=hcl l hlm;have h2:=(hwl.yl e (by simp) hke).1;rw[h2]at h1;cases h1
    ·intro _;refine⟨sd,Zd,?_,?_⟩
     ·have:=runR_y (u:=u) (f:=f) (w:={w with inIf:=true,yield:=typesM f.types x.outs}) (w':=w) (deep:=deep') rfl rfl rfl d seen' Z' hd12;rw[this];exact g1
     ·refine⟨?_,?_,by rw[zHb];exact m2,r1,hzd.trans q1,?_⟩
      ·intro v hv;rcases yA.1 hv with hv|hv
       ·obtain⟨s1,s2⟩:=hi.sl v hv;exact⟨s1,q1 v s1 (m1 v s1 s2)⟩
       ·exact⟨(hur v hv).1,(q2 v hv).2⟩
      ·intro v hv;rcases yA.1 hv with hv|hv
       ·obtain⟨s1,s2⟩:=hi.sl v hv;rw[hagr v s1 s2];obtain⟨t1,t2,t3,t4⟩:=hi.sub v hv;exact⟨r2 _ t1,t2,t3,t4⟩
       ·obtain⟨i,hi'⟩:=yW hv;have hlt:i<e.args.length:=by rw[hal];exact(yb.1 hi').1
        have ha:=yd hlt;have hg:=getA_setsW_at x.outs e.args T1 i v _ q3 hi' ha;have hs:sg (setsW T1 x.outs e.args) v=e.args[i]:=by unfold sg;rw[hg];rfl
        rw[hs];simp only[zA,ya,decide_eq_true_eq,yi]at hty;have hm:=hty.2 (e.args[i],at0 f.types v) (yu (i:=i) (by rw[yQ];exact⟨ha,by rw[yf,hi'];rfl⟩));simp only[useR,ya,yD,decide_eq_true_eq,yra]at hm;obtain⟨z1,z2⟩:=hur v hv;have:=hT v z1 z2;refine⟨hm.2.2.1,hm.1,hm.2.1,?_⟩;rcases hm.2.2.2 with h|h
        ·omega
        ·exact h
      ·intro v hv;by_cases hm:v∈x.outs
       ·exact⟨(hur v hm).1,(q2 v hm).2⟩
       ·rw[getA_setsW _ _ _ _ hm]at hv;obtain⟨k1,k2⟩:=hL.key v hv;exact⟨k1,q1 v k1 k2⟩
    ·intro h;rw[hlc]at h;cases h
   ·rw[if_neg hke];have hall:∀z∈d++[e],z.kind≠12:=by
     intro z hz;rcases yA.1 hz with hz|hz
     ·exact hd12 z hz
     ·simp at hz;rw[hz];exact hke
    have hlast:zH (d++[e])=true:=by simp[zH,g3]
    refine⟨htd,fun y hy=>?_,fun _=>hlast,hL.agr,?_,?_⟩
    ·rw[yCa]at hy;exact hinit y hy
    ·intro h;have h:zH (d++[e])=false:=h;rw[hlast]at h;cases h
    ·intro _;show LR f T T1 Z _ (goR u f (zL (d++[e])) seen' w deep' Z')
     have ey:=goR_y (u:=u) (f:=f) (w:={w with inIf:=true,yield:=typesM f.types x.outs}) (w':=w) (deep:=deep') rfl rfl rfl (d++[e]) seen' Z' hall;rw[hidem,ey];exact⟨hL.agr,hL.ok,hL.zs.trans q1,hL.len,hL.key.mono q1⟩
 ·cases hr
mutual
theorem wr_node(hT:TyOk f.types){F:zT}(hF:zva f.types F):∀(x:Node) (p:Pl) (seen seen':List Int) (w:Place) (deep deep':Int) (Z Z':Set1) (T:Tos),okN u f.types.length p x->(zaa u f x seen w deep Z).1=true->Iv f.types T seen seen' Z Z'->deep'<=deep->deep'<=100→
  NR u f x (wrN F x T) T seen seen' w deep' Z Z' (zaa u f x seen w deep Z).2
 |⟨k,o,n,s,a,us,ps,ks⟩,p,seen,seen',w,deep,deep',Z,Z',T,hok,hr,hi,hd,hd1=>by
  have hkk:okK u f.types.length (plIn p k us ps) ks:=by rw[okN]at hok;exact hok.2
  have hk10:k=10->ks.length=2:=by rw[okN]at hok;exact fun h=>(hok.1.k10 h).2
  rw[wrN];split
  ·rename_i c;exact nr_sum hF hi hd1 c hr
  ·rename_i c34;split
   ·rename_i c10;split
    ·exact nr_taken (x:=⟨k,o,n,s,a,us,ps,ks⟩) hT hok hi c10 hr (fun e=>wr_pick hT hF ks _ _ seen seen' _ (deep+1) deep' Z Z' T hkk (by intro h;have:=hk10 c10;rw[h]at this;simp at this) (by intro _ l h;have:=hk10 c10;rw[h]at this;simp at this) e hi (by omega))
    ·exact nr_if (x:=⟨k,o,n,s,a,us,ps,ks⟩) hok hi hd1 c10 hr (fun e=>wr_kids hT hF ks _ seen seen' _ (deep+1) (deep'+1) Z Z' T hkk e hi (by omega))
   ·rename_i c10;split
    ·rename_i c11;exact nr_loop (x:=⟨k,o,n,s,a,us,ps,ks⟩) hok hi hd1 c11 hr (fun Zp Zp' h e=>wr_kids hT hF ks _ _ _ _ (deep+1) (deep'+1) Zp Zp' T hkk e h (by omega))
    ·rename_i c11;exact nr_simple (x:=⟨k,o,n,s,a,us,ps,ks⟩) hi hd1 c10 c11 hr
theorem wr_go(hT:TyOk f.types){F:zT}(hF:zva f.types F):∀(l:List Node) (p:Pl) (seen seen':List Int) (w:Place) (deep deep':Int) (Z Z':Set1) (T:Tos),okL u f.types.length p l->l≠ []->(goR u f l seen w deep Z).1=true->Iv f.types T seen seen' Z Z'->deep'<=deep→
  LR f T (wrGo F l T).2 Z (goR u f l seen w deep Z).2 (goR u f (zL (wrGo F l T).1) seen' w deep' Z')
 | [],p,seen,seen',w,deep,deep',Z,Z',T,hok,hne,hr,hi,hd=>absurd rfl hne
 |x::r,p,seen,seen',w,deep,deep',Z,Z',T,hok,hne,hr,hi,hd=>by
  rw[okL]at hok;rw[goR]at hr ⊢;split at hr
  ·cases hr
  rename_i h0;rw[if_neg h0];split at hr
  ·rename_i h1;rw[if_pos h1];have hN:=wr_node hT hF x p seen seen' w deep deep' Z Z' T hok.1 h1 hi hd (by omega);obtain⟨m1,m2⟩:=nodeR_mono x seen w deep Z hi.zl h1;split at hr
   ·rename_i h2;rw[if_pos h2];obtain⟨m3,m4⟩:=goR_mono r (seen++x.outs) w deep _ m2 hr;rw[wrGo];by_cases hc:zH (wrN F x T).1=true
    ·rw[if_pos hc];have hL:=hN.cut hc;exact⟨hL.agr,hL.ok,hL.zs.trans m3,hL.len,hL.key.mono m3⟩
    ·rw[if_neg hc];have hc:zH (wrN F x T).1=false:=by simpa using hc
     obtain⟨s1,Z1',g1,g2⟩:=hN.go hc;have hxc:zj x=false:=by
      cases hx:zj x with
      |false=>rfl
      |true=>have:=hN.cl hx;rw[hc]at this;cases this
     have hrne:r≠ []:=by
      intro h;rw[h2,h]at hxc;cases hxc
     have hR:=wr_go hT hF r p _ _ w deep deep' _ _ (wrN F x T).2 hok.2.2 hrne hr g2 hd;obtain⟨r1,r2,r3⟩:=runR_mono _ _ _ _ _ hi.zl' g1;have hwr:=(wrGo_wl F r p (wrN F x T).2 hok.2.2 hrne).tidy;simp only;rw[tidyL_td _ _ (fun y hy=>⟨hN.td y hy,r3 y hy⟩)];rw[goR_run (by omega) _ _ _ _ s1 Z1' hwr.ne g1];exact⟨hN.agr.trans m1 hR.agr,hR.ok,hR.zs,hR.len,hR.key⟩
   ·cases hr
  ·cases hr
theorem wr_kids(hT:TyOk f.types){F:zT}(hF:zva f.types F):∀(ks:List (List Node)) (p:Pl) (seen seen':List Int) (w:Place) (deep deep':Int) (Z Z':Set1) (T:Tos),okK u f.types.length p ks->(zO u f ks seen w deep Z).1=true->Iv f.types T seen seen' Z Z'->deep'<=deep→
  LR f T (wrKs F ks T).2 Z (zO u f ks seen w deep Z).2 (zO u f (wrKs F ks T).1 seen' w deep' Z')
 | [],p,seen,seen',w,deep,deep',Z,Z',T,hok,hr,hi,hd=>by
  rw[wrKs,zO,zO];exact⟨Agr.refl _ _,rfl,hi.zs,hi.zl',hi.key⟩
 |l::r,p,seen,seen',w,deep,deep',Z,Z',T,hok,hr,hi,hd=>by
  rw[okK]at hok;rw[zO]at hr ⊢;split at hr
  ·rename_i c;rw[if_pos c];have c':=zHd c;have e:(zzb l (goR u f l seen w deep Z)).2=(goR u f l seen w deep Z).2:=by unfold zzb;rw[if_pos c']
   rw[e]at hr ⊢;have hL:=wr_go hT hF l p seen seen' w deep deep' Z Z' T hok.1.2 hok.1.1 c' hi hd;obtain⟨m1,m2⟩:=goR_mono l seen w deep Z hi.zl c';have hne:=tidyL_ne (wrGo_wl F l p T hok.1.2 hok.1.1).ne;have hK:=wr_kids hT hF r p seen seen' w deep deep' _ _ (wrGo F l T).2 hok.2 hr (hi.step hL.agr m1 m2 hL.zs hL.len hL.key) hd;rw[wrKs];simp only;rw[zO];have e2:zzb (zL (wrGo F l T).1) (goR u f (zL (wrGo F l T).1) seen' w deep' Z')=(true,(goR u f (zL (wrGo F l T).1) seen' w deep' Z').2):=by
    unfold zzb;rw[if_pos hL.ok];cases hz:zL (wrGo F l T).1 with
    |nil=>exact absurd hz hne
    |cons _ _=>rfl
   rw[e2];simp only[if_true];exact⟨hL.agr.trans m1 hK.agr,hK.ok,hK.zs,hK.len,hK.key⟩
  ·cases hr
theorem wr_pick(hT:TyOk f.types){F:zT}(hF:zva f.types F):∀(ks:List (List Node)) (p:Pl) (b:Bool) (seen seen':List Int) (w:Place) (deep deep':Int) (Z Z':Set1) (T:Tos),okK u f.types.length p ks->ks≠ []->(b=false->∀l,ks≠ [l])->(zO u f ks seen w deep Z).1=true->Iv f.types T seen seen' Z Z'->deep'<=deep→
  LR f T (zob F ks b T).2 Z (zO u f ks seen w deep Z).2 (goR u f (zob F ks b T).1 seen' w deep' Z')
 | [],p,b,seen,seen',w,deep,deep',Z,Z',T,hok,hne,hb,hr,hi,hd=>absurd rfl hne
 |l::r,p,b,seen,seen',w,deep,deep',Z,Z',T,hok,hne,hb,hr,hi,hd=>by
  rw[okK]at hok;rw[zO]at hr ⊢;split at hr
  ·rename_i c;rw[if_pos c];have c':=zHd c;have e:(zzb l (goR u f l seen w deep Z)).2=(goR u f l seen w deep Z).2:=by unfold zzb;rw[if_pos c']
   rw[e]at hr ⊢;obtain⟨m1,m2⟩:=goR_mono l seen w deep Z hi.zl c';obtain⟨m3,m4⟩:=zac r seen w deep _ m2 hr;rw[zob];cases b
   ·simp only[yE,if_false];cases r with
    |nil=>exact absurd rfl (hb rfl l)
    |cons y z=>
     have hP:=wr_pick hT hF (y::z) p true seen seen' w deep deep' _ Z' T hok.2 (by simp) (fun h=>by cases h) hr (hi.up m1 m2) hd;exact⟨fun v v0 hv=>hP.agr v v0 (m1 v v0 hv),hP.ok,hP.zs,hP.len,hP.key⟩
   ·simp only[if_true];have hL:=wr_go hT hF l p seen seen' w deep deep' Z Z' T hok.1.2 hok.1.1 c' hi hd;exact⟨hL.agr,hL.ok,hL.zs.trans m3,hL.len,hL.key.mono m3⟩
  ·cases hr
end
end
theorem trnIdN:∀x:Node,trnN id x=x:=by
 have key:(∀x:Node,trnN id x=x):=by
  intro x;exact trn_idN x
 exact key
where
 trn_idN:∀x:Node,trnN id x=x
  |⟨k,o,n,s,a,u,p,ks⟩=>by rw[trnN,trn_idK ks];simp
 trn_idL:∀l:List Node,trnL id l=l
  | []=>rfl
  |x::r=>by rw[trnL,trn_idN x,trn_idL r]
 trn_idK:∀l:List (List Node),trnK id l=l
  | []=>rfl
  |x::r=>by rw[trnK,trn_idL x,trn_idK r]
theorem trnIdL(l:List Node):trnL id l=l:=by
 rw[trnL_eq]
 conv=>rhs;rw[<-List.map_id l]
 exact yxa fun x _=>trnIdN x
theorem place_map{g:Flow->Flow}(hg:∀f,(g f).name=f.name)(l:List Flow)(s:List UInt8):zU (l.map g) s=zU l s:=by
 unfold zU idx;rw[List.findIdx?_map];have:((fun f:Flow=>decide (f.name=s)) ∘ g)=fun f:Flow=>decide (f.name=s):=by
  funext f;simp[hg]
 rw[this]
theorem initR_at(f:Flow)(k:Nat)(h:(k:Int)<=f.types.length):∀v∈zpb k,0<=v/\atB (zkc f k) v=true/\v<f.types.length:=by
 intro v hv;simp only[zpb,yja,yya]at hv;obtain⟨i,hi,rfl⟩:=hv;refine⟨by omega,?_,by omega⟩;have h2:i<(yn k true).length:=by simpa using hi
 have:(zkc f k)[i]? =some true:=by
  unfold zkc;rw[yj h2];simp[hi]
 simp[atB,this]
theorem tyOk_of{ty:List Int}(h:(ty.any fun t=> !tyOk t)=false):TyOk ty:=by
 intro v h0 h1;rw[<-Bool.not_eq_true,List.any_eq_true]at h;have hm:at0 ty v∈ty:=by
  unfold at0;rw[yd (by omega)];exact List.getElem_mem _
 by_cases hk:tyOk (at0 ty v)=true
 ·simpa[tyOk]using hk
 ·exact absurd ⟨_,hm,by simpa using hk⟩ h
theorem flowK_okR{u:Unt}(hU:OkU u){f:Flow}(hf:f∈u.flows)(h:zkb u f=true):zkb u (flowK f)=true:=by
 have hb:=hU.body f hf;have hp:=hU.pars f hf;unfold zkb at h ⊢;rw[ya]at h ⊢;obtain⟨h1,h2⟩:=h;refine⟨h1,?_⟩;have hT:TyOk f.types:=by
  simp only[yz,yw]at h1;exact tyOk_of h1.2
 have h3:(goR u f f.body (zpb f.params.toNat) zKa 1 (zkc f f.params.toNat)).1=true:=by
  unfold zZa zzb at h2;split at h2
  ·rename_i hg;exact hg
  ·cases h2
 have hF:=studyM_ok hT h3;have hk:((f.params.toNat:Nat):Int)<=f.types.length:=by omega
 have hin:=initR_at f f.params.toNat hk;have hI:Iv f.types [] (zpb f.params.toNat) (zpb f.params.toNat) (zkc f f.params.toNat) (zkc f f.params.toNat):=by
  refine⟨fun v hv=>⟨(hin v hv).1,(hin v hv).2.1⟩,fun v hv=>?_,zNb f _ (by omega),zNb f _ (by omega),fun v h0 hv=>hv,fun v hv=>?_⟩
  ·have:sg [] v=v:=rfl;rw[this];exact⟨hv,(hin v hv).1,(hin v hv).2.2,rfl⟩
  ·exact absurd rfl hv
 have hL:=wr_go hT hF f.body ⟨none,none,none⟩ _ _ zKa 1 1 _ _ [] hb.2 hb.1 h3 hI (by omega);have hne:=tidyL_ne (wrGo_wl (zsc f) f.body ⟨none,none,none⟩ [] hb.2 hb.1).ne;have hT2:Trn id u u f (flowK f):=⟨rfl,fun v h0 h1=>⟨h0,h1⟩,fun v w _ _ _ _ e=>e,fun v _ _=>rfl,rfl,rfl,fun s=>rfl,fun k g hg=>⟨g,hg,rfl,rfl⟩⟩
 have hZ:ZR id f.types.length (zkc f f.params.toNat) (zkc f f.params.toNat):=⟨zNb f _ (by omega),zNb f _ (by omega),fun v _ _=>rfl⟩
 have hG:=(hT2.go (zL (wrGo (zsc f) f.body []).1) (zpb f.params.toNat) zKa 1 _ _ hZ hL.ok).1;rw[trnIdL,List.map_id]at hG;show(zzb (zL (wrGo (zsc f) f.body []).1) (goR u (flowK f) (zL (wrGo (zsc f) f.body []).1) (zpb f.params.toNat) zKa 1 (zkc f f.params.toNat))).1=true
 unfold zzb;rw[if_pos hG];cases hz:zL (wrGo (zsc f) f.body []).1 with
 |nil=>exact absurd hz hne
 |cons _ _=>rfl
theorem knownM_pl(u:Unt)(s:List UInt8):zU (zic u).flows s=zU u.flows s:=place_map (g:=flowK) (fun _=>rfl) _ _
theorem knownM_flowR{u:Unt}{g:Flow}(h0:0<=g.params/\g.params<=g.types.length)(h:zkb u g=true):zkb (zic u) g=true:=by
 have hT:Trn id u (zic u) g g:=by
  refine⟨rfl,fun v h0 h1=>⟨h0,h1⟩,fun v w _ _ _ _ e=>e,fun v _ _=>rfl,rfl,rfl,fun s=>knownM_pl u s,fun k q hq=>⟨flowK q,?_,rfl,rfl⟩⟩;show(u.flows.map flowK)[k]? =_
  rw[yf,hq];rfl
 unfold zkb at h ⊢;rw[ya]at h ⊢;refine⟨h.1,?_⟩;have h2:=h.2;have hZ:ZR id g.types.length (zkc g g.params.toNat) (zkc g g.params.toNat):=⟨zNb g _ (by omega),zNb g _ (by omega),fun v _ _=>rfl⟩
 unfold zZa zzb at h2 ⊢;split at h2
 ·rename_i hg;have hG:=(hT.go g.body (zpb g.params.toNat) zKa 1 _ _ hZ hg).1;rw[trnIdL,List.map_id]at hG;rw[if_pos hG];exact h2
 ·cases h2
theorem knownM_head{u:Unt}(h:zqc u=true):zqc (zic u)=true:=by
 simp only[zqc,ya]at h ⊢;obtain⟨⟨⟨h1,h2⟩,h3⟩,h4⟩:=h;refine⟨⟨⟨h1,?_⟩,?_⟩,?_⟩
 ·rw[yi]at h2 ⊢;intro g hg;obtain⟨f,hf,rfl⟩:=yja.1 hg;exact h2 f hf
 ·have e:zFc (zic u)=zFc u:=by
   unfold zFc zic;rw[List.map_map];rfl
  rw[e];exact h3
 ·unfold zld at h4 ⊢;rw[knownM_pl];have e:(zic u).flows[(zU u.flows zF).toNat]? =(u.flows[(zU u.flows zF).toNat]?).map flowK:=yf ..;rw[e];cases hq:u.flows[(zU u.flows zF).toNat]? with
  |none=>rw[hq]at h4;exact h4
  |some g=>rw[hq]at h4;exact h4
theorem knownM_check{u:Unt}(hz:USz u)(h:(zta u).1=0):zta (zic u)=(0,0):=by
 have hU:=checkM_ok hz h;obtain⟨h1,h2⟩:=(checkM_iff u).1 (checkM_fst h);refine(checkM_iff _).2 ⟨knownM_head h1,fun g hg=>?_⟩;obtain⟨f,hf,rfl⟩:=yja.1 hg;exact knownM_flowR (hU.pars f hf) (flowK_okR hU hf (h2 f hf))
theorem flowK_wt(f:Flow):wtL (flowK f).body<=wtL f.body:=wrL_wt _ _ _
theorem knownM_sz{u:Unt}(h:USz u):USz (zic u):=by
 refine⟨h.arrs,by simpa[zic]using h.flows,fun g hg=>?_,fun g hg=>?_⟩<;>obtain⟨f,hf,rfl⟩:=yja.1 hg
 ·exact h.types f hf
 ·have:=h.body f hf;have:=flowK_wt f;omega
theorem knownM_wt{u:Unt}{n:Nat}(h:∀f∈u.flows,wtL f.body<n):∀f∈(zic u).flows,wtL f.body<n:=by
 intro g hg;obtain⟨f,hf,rfl⟩:=yja.1 hg;have:=h f hf;have:=flowK_wt f;omega
theorem zuc(l:List Int)(hl:l.length<1099511627776):zk E 36 [ints l,ints l] []=some (.ret (.bool true),[]):=by
 refine zb rfl rfl rfl (by simp[ints]) ?_;simp[F36,ints];refine zn l K36_0 B36_0 (fun d=>[(5,.int .i64 d.length)]) (fun _=>[]) (fun d=>True) (by omega) (by simp) ?_ ?_
 ·intros d x r s1 hl' hlt hget hget' hw1 hp h1 h2 h3 h4;simp at h1 h2 h3;have hdec:decide (d.length<l.length)=true:=decide_eq_true hlt;clear hl' h2 hl;simp[*]
 ·intros s1 hp h1 h2 h3 h4;simp at h1 h2 h3;simp[*]
set_option maxHeartbeats 4000000 in
theorem sameNodes_self:∀(w:Nat) (l:List Node),wtL l<=w->w<1099511000000->zk E 37 [zh l,zh l] []=some (.ret (.bool true),[]):=by
 intro w
 induction w using yfa with
 |_ w IH=>
 intro l h hw;refine zb rfl rfl rfl (by simp[zh]) ?_;have hlen:=zsb l;simp[F37,zh];refine zn l K37_1 B37_1 (fun d=>[(5,.int .i64 d.length)]) (fun _=>[]) (fun d=>True) (by omega) (by simp) ?_ ?_
 ·intros d x r s1 hl' hlt hget hget' hw1 hp h1 h2 h3 h4;simp at h1 h2 h3;have hwx:=zZc hl'.mem;have hwe:=zwa x;have ia:=zuc x.args (by omega);have io:=zuc x.outs (by omega);have ip:=zuc x.params (by omega);have hkl:=len_wtK x.kids;have hk:∀k∈x.kids,zk E 37 [zh k,zh k] []=some (.ret (.bool true),[]):=by
   intro k hk;have:=zEb hk;exact IH (wtL k) (by omega) k (yh _) (by omega)
  have hkb:x.kids.length<2^62:=by omega
  have hdec:decide (d.length<l.length)=true:=decide_eq_true hlt;clear IH hl' hwx hwe h h2 hkl hlen hw;simp[ints]at ia io ip;simp[*,za,ints,kids];refine zn x.kids K37_0 B37_0 (fun e=>[(8,.int .i64 e.length)]) (fun _=>[]) (fun e=>True) hkb (by simp) ?_ ?_
  ·intros e y r' s3 jl jlt jget jget' jw1 jp j1 j2 j3 j4;simp at j1 j2 j3;have jdec:decide (e.length<x.kids.length)=true:=decide_eq_true jlt;have iy:=hk y jl.mem;clear jl hk;simp[zh]at iy;simp[*,zh]
  ·intros s3 jp j1 j2 j3 j4;simp at j1 j2 j3;clear hk;simp[*]
 ·intros s1 hp h1 h2 h3 h4;simp at h1 h2 h3;simp[*]
set_option maxHeartbeats 4000000 in
theorem same08_self(u:Unt)(hz:USz u)(hb:∀f∈u.flows,wtL f.body<1099511000000):zk E 19 [encUnt u,encUnt u] []=some (.ret (.bool true),[]):=by
 refine zb rfl rfl rfl (by simp[encUnt]) ?_;obtain⟨ars,fs⟩:=u;obtain⟨z1,z2,z3,z4⟩:=hz;simp only at z1 z2 z3 z4 hb;clear z4;simp[F19,encUnt,arrs,flows];refine zn ars K19_0 B19_0 (fun d=>[(5,.int .i64 d.length)]) (fun _=>[]) (fun d=>True) (by omega) (by simp) ?_ ?_
 ·intros d x r s1 hl' hlt hget hget' hw1 hp h1 h2 h3 h4;simp at h1 h2 h3;have hdec:decide (d.length<ars.length)=true:=decide_eq_true hlt;clear hl' z3 hb;obtain⟨nm,sz⟩:=x;simp[*,zN]
 ·intros s1 hp h1 h2 h3 h4;simp at h1 h2 h3;simp[h1,h2,h3,h4];refine zn fs K19_1 B19_1 (fun d=>[(6,.int .i64 d.length)]) (fun _=>[]) (fun d=>True) (by omega) (by simp) ?_ ?_
  ·intros d x r s2 hl' hlt hget hget' hw1 kp k1 k2 k3 k4;simp at k1 k2 k3;have hzx:=z3 x hl'.mem;have hbx:=hb x hl'.mem;have hdec:decide (d.length<fs.length)=true:=decide_eq_true hlt;obtain⟨fnm,fty,ps,tys,body⟩:=x;simp only at hzx hbx;have ib:=sameNodes_self (wtL body) body (yh _) hbx;have it:=zuc tys hzx;simp[zh,ints]at ib it;clear hl' z3 hb;simp[*,zd,zh,ints]
  ·intros s2 kp k1 k2 k3 k4;simp at k1 k2 k3;clear z3 hb;simp[*]
set_option maxHeartbeats 4000000 in
theorem heads_spec(ars:List Arr)(fs:List Flow)(g:Flow->Flow)(hg:∀f,(g f).name=f.name/\(g f).type=f.type/\(g f).params=f.params/\(g f).types=f.types)
  (hp:∀f∈fs,f.params<=f.types.length) (hz:USz ⟨ars,fs⟩):zk E 32 [encUnt ⟨ars,fs⟩,encUnt ⟨ars,fs.map g⟩] []=some (.ret (.bool true),[]):=by
 refine zb rfl rfl rfl (by simp[encUnt]) ?_;obtain⟨z1,z2,z3,z4⟩:=hz;simp only at z1 z2 z3 z4;clear z4;simp[F32,encUnt,arrs,flows];refine zn ars K32_0 B32_0 (fun d=>[(5,.int .i64 d.length)]) (fun _=>[]) (fun d=>True) (by omega) (by simp) ?_ ?_
 ·intros d x r s1 hl' hlt hget hget' hw1 hp' h1 h2 h3 h4;simp at h1 h2 h3;have hdec:decide (d.length<ars.length)=true:=decide_eq_true hlt;clear hl' z3 hp hg;obtain⟨nm,sz⟩:=x;simp[*,zN]
 ·intros s1 hp' h1 h2 h3 h4;simp at h1 h2 h3;clear z1;simp[h1,h2,h3,h4];refine zn fs K32_2 B32_2 (fun d=>[(6,.int .i64 d.length)]) (fun _=>[]) (fun d=>True) (by omega) (by simp) ?_ ?_
  ·intros d x r s2 hl' hlt hget hget' hw1 kp k1 k2 k3 k4;simp at k1 k2 k3;have hzx:=z3 x hl'.mem;have hpx:=hp x hl'.mem;have hdec:decide (d.length<fs.length)=true:=decide_eq_true hlt;obtain⟨g1,g2,g3,g4⟩:=hg x;have hm:fs[d.length]?.map g=some (g x):=by rw[hget];rfl
   obtain⟨fnm,fty,ps,tys,body⟩:=x;generalize hgx:g ⟨fnm,fty,ps,tys,body⟩=gx at*;obtain⟨gnm,gty,gps,gtys,gbody⟩:=gx;simp only at hzx hpx g1 g2 g3 g4;subst g1 g2 g3 g4;clear hl' z3 hp hg;simp[*,zd,zh,ints];obtain⟨m,hm'⟩:∃m:Nat,m=gps.toNat:=⟨_,rfl⟩
   have htl:(gtys.take m).length=m:=by simp;omega
   refine zn (gtys.take m) K32_1 B32_1 (fun e=>[(9,.int .i64 e.length)]) (fun _=>[]) (fun e=>True) (by omega) (by simp) ?_ ?_
   ·intros e y r' s3 jl jlt jget jget' jw1 jp j1 j2 j3 j4;simp at j1 j2 j3;have jdec:((e.length:Int)<gps)=True:=eqp (by omega);have jge:((gtys.length:Int)<=e.length)=False:=eqn (by omega);have jt:gtys[e.length]? =some y:=by
     rw[yC]at jget;split at jget
     ·exact jget
     ·cases jget
    clear jl hzx hpx jlt jget jget' htl hm';simp[*]
   ·intros s3 jp j1 j2 j3 j4;rw[htl]at j3;simp at j1 j2 j3;have jdec:((m:Int)<gps)=False:=eqn (by omega);clear hzx hpx htl hm';simp[*]
  ·intros s2 kp k1 k2 k3 k4;simp at k1 k2 k3;clear z3 hp hg;simp[*]
def arrFrom(k:Nat):List Arr->List (PV×PV)
 | []=>[]
 |a::r=>(.str a.name,.mslice k 0 a.size.toNat 1)::arrFrom (k+1) r
def intO(l:List Int):Obj:= .arr 1 (l.map (PV.int .i64))
def zIc(l:List (List Int)):zc:=l.map intO
def runCells(u:Unt)(S:RS):List PV:=[arrs u.arrays,flows u.flows,ints S.inp,.mp 0,.int .i64 0,.int .i64 0,acc 1 (S.out.map (PV.int .i64)),.int .i64 S.cost,.int .i64 S.fuel]
def runO(u:Unt)(S:RS):Obj:= .arr 9 [.agg (runCells u S)]
def sto(u:Unt)(S:RS)(T:List (List Int)):zc:= .mp (arrFrom 2 u.arrays)::runO u S::(zIc S.arrs++zIc T)
def endV(k:Int):PV:= .iface 76 (.agg [.int .i64 k])
section
variable (u:Unt) (S:RS) (T:List (List Int))
@[simp] theorem sto_0:(sto u S T)[0]? =some (.mp (arrFrom 2 u.arrays)):=rfl
@[simp] theorem sto_1:(sto u S T)[1]? =some (.arr 9 [.agg [arrs u.arrays,flows u.flows,ints S.inp,.mp 0,.int .i64 0,.int .i64 0,acc 1 (S.out.map (PV.int .i64)),.int .i64 S.cost,.int .i64 S.fuel]]):=rfl
@[simp] theorem set_fuel(k:Nat):(sto u S T).set 1 (.arr 9 [.agg [arrs u.arrays,flows u.flows,ints S.inp,.mp 0,.int .i64 0,.int .i64 0,acc 1 (S.out.map (PV.int .i64)),.int .i64 S.cost,.int .i64 k]])=sto u {S with fuel:=k} T:=rfl
@[simp] theorem set_fuel'(k:Nat):(sto u S T).set 1 (.arr 9 [.agg [arrs u.arrays,flows u.flows,.slice .plain 1 (S.inp.map (PV.int .i64)),.mp 0,.int .i64 0,.int .i64 0,acc 1 (S.out.map (PV.int .i64)),.int .i64 S.cost,.int .i64 k]])=sto u {S with fuel:=k} T:=rfl
@[simp] theorem set_inp(l:List Int):(sto u S T).set 1 (.arr 9 [.agg [arrs u.arrays,flows u.flows,.slice .plain 1 (l.map (PV.int .i64)),.mp 0,.int .i64 0,.int .i64 0,acc 1 (S.out.map (PV.int .i64)),.int .i64 S.cost,.int .i64 S.fuel]])=sto u {S with inp:=l} T:=rfl
end
@[simp] theorem rebuild_agg(a l:List PV):zC (.agg a) l= .agg l:=ye rfl rfl
@[simp] theorem rebuild_int(k:IntKind)(n:Int)(cs:List PV):zC (.int k n) cs=cs.headD .undef:=ye rfl rfl
def FitS(u:Unt)(S:RS):Prop:=S.arrs.map List.length=u.arrays.map (fun a=>a.size.toNat)/\S.out.length+S.fuel<=1000000000000
theorem FitS.mono{u:Unt}{S S1:RS}(h:FitS u S)(m:Mono S S1):FitS u S1:=⟨m.arrs.trans h.1,yqa m.out h.2⟩
theorem FitS.len{u:Unt}{S:RS}(h:FitS u S):S.arrs.length=u.arrays.length:=by
 have:=congrArg List.length h.1;simpa using this
theorem FitS.cost{u:Unt}{S:RS}(h:FitS u S):FitS u (zHa S):=h
theorem arrFrom_find(nm:List UInt8):∀(l:List Arr) (k:Nat),zha true (.str nm) (arrFrom k l)=some (match l.findIdx? (fun a=>decide (a.name=nm))with
  |some i=>match l[i]? with
   |some a=>some (.mslice (k+i) 0 a.size.toNat 1)
   |none=>none
  |none=>none)
 | [],k=>rfl
 |a::r,k=>by
  have ih:=arrFrom_find nm r (k+1);rw[arrFrom,List.findIdx?_cons];by_cases h:a.name=nm
  ·simp[h]
  ·have h':¬nm=a.name:=fun e=>h e.symm
   simp only[zha,zwc,if_true,h',decide_false,h];rw[ih];cases r.findIdx? (fun a=>decide (a.name=nm))with
   |none=>simp
   |some i=>
    simp only[yN,yX,yE,if_false];cases r[i]? with
    |none=>rfl
    |some b=>simp only;congr 3;omega
theorem arr_at{u:Unt}{S:RS}{nm:List UInt8}(hS:FitS u S)(h:zPb u.arrays nm=true):∃(i:Nat) (l:List Int),zje u.arrays nm=i/\i<S.arrs.length/\S.arrs[i]? =some l/\zha true (.str nm) (arrFrom 2 u.arrays)=some (some (.mslice (i+2) 0 l.length 1)):=by
 rw[<-arrAt_has,decide_eq_true_eq]at h;unfold zje idx at h;cases hq:u.arrays.findIdx? (fun a=>decide (a.name=nm))with
 |none=>rw[hq]at h;simp at h
 |some i=>
  have hlt0:i<u.arrays.length:=by
   rw[List.findIdx?_eq_some_iff_getElem]at hq;exact hq.1
  have hlt:i<S.arrs.length:=by rw[hS.len];exact hlt0
  refine⟨i,S.arrs[i],by unfold zje idx;rw[hq],hlt,yd hlt,?_⟩;have a2:u.arrays[i]? =some u.arrays[i]:=yd hlt0;rw[arrFrom_find,hq];simp only[a2];have hl:(S.arrs[i]).length=(u.arrays[i]).size.toNat:=by
   have e:=congrArg (fun l:List Nat=>l[i]?) hS.1;simp only[yf,a2,yd hlt,yN,Option.some.injEq]at e;exact e
  rw[hl,Nat.add_comm 2 i]
section
variable {u:Unt} {S:RS} {T:List (List Int)}
theorem belowL_acc(n:Nat)(l:List Int):zp n (acc 1 (l.map (PV.int .i64)))=true:=by
 cases l with
 |nil=>rfl
 |cons x r=>simp
theorem rowsO_wf(n:Nat)(l:List (List Int)):(zIc l).all (fun o=>o.below n)=true:=by
 rw[yi];intro o ho;simp only[zIc,yja]at ho;obtain⟨l,_,rfl⟩:=ho;simp[intO,Obj.below]
end
theorem setW_snoc:∀(v d:List Int) (x:Int) (ns:List Int) (n:Int),ns.length=d.length->setW v (d++[x]) (ns++[n])=(setW v d ns).set x.toNat n
 |v,[],x,[],n,_=>by simp[setW]
 |v,o::d,x,m::ns,n,h=>by
  simp only[yaa,setW];exact setW_snoc _ d x ns n (by simpa using h)
 |v,[],x,_::_,n,h=>by simp at h
 |v,_::_,x,[],n,h=>by simp at h
theorem set_self{α:Type}{l:List α}{k:Nat}{x:α}(h:l[k]? =some x):l.set k x=l:=by
 have:=yb.1 h;rw[<-this.2];exact List.set_getElem_self this.1
theorem take_snoc{α:Type}{l:List α}{k:Nat}{x:α}(h:l[k]? =some x):l.take (k+1)=l.take k++[x]:=by
 rw[List.take_add_one,h];rfl
def encW(w:Wy):PV:= .agg [.int .i64 w.kind,ints w.l]
def outX(q:Rt Wy):CRes:=match q with
 | .ok w=> .ret (encW w)
 | .stop k=> .pan (endV k)
@[simp] theorem outX_ok(w:Wy):outX (.ok w)= .ret (.agg [.int .i64 w.kind,ints w.l]):=rfl
@[simp] theorem outX_stop(n:Int):outX (.stop n)= .pan (endV n):=rfl
def capE:Nat:=1099511627776
structure LSt where
 rest:List Node
 v:List Int
 S:RS
def outE(q:Rt Int):CRes:=match q with
 | .ok n=> .ret (.int .i64 n)
 | .stop k=> .pan (endV k)
@[simp] theorem outE_ok(n:Int):outE (.ok n)= .ret (.int .i64 n):=rfl
@[simp] theorem outE_stop(n:Int):outE (.stop n)= .pan (endV n):=rfl
theorem len1{l:List Int}(h:l.length=1):∃a,l=[a]:=List.length_eq_one_iff.1 h
theorem len2{l:List Int}(h:l.length=2):∃a b,l=[a,b]:=by
 match l,h with
 | [a,b],_=>exact⟨a,b,rfl⟩
structure RSt where
 k:Nat
 l:List Int
 v:List Int
 S:RS
end PE.U

namespace PE
open Go
section
variable (n:Nat) (R:CRes->zc->Prop) (s:St) (K:PV×zc->Prop) (E:Env) (H:HFn) (fr:Fr)
end
end PE

namespace PE.U
open Go PE
def encRn(r:Rn):PV:= .agg [.int .i64 r.status,.int .i64 r.code,ints r.out,.int .i64 r.cost,.int .i64 r.fuel]
def zhb(k:Nat):List Arr->List PV
 | []=>[]
 |a::r=> .mslice k 0 a.size.toNat 1::zhb (k+1) r
def stK:Option Int->Int
 |none=>0
 |some k=>k
def spK:Option Int->Bool
 |none=>false
 |some k=>decide (k=0)
def runR(u:Unt)(S:RS)(h:Option Int):Obj:= .arr 10 [.agg [arrs u.arrays,flows u.flows,ints S.inp,acc 1 (zhb 1 u.arrays),.int .i64 (stK h),.int .i64 0,acc 1 (S.out.map (PV.int .i64)),.int .i64 S.cost,.int .i64 S.fuel,.bool (spK h)]]
def stR(u:Unt)(S:RS)(h:Option Int)(T:List (List Int)):zc:=runR u S h::(zIc S.arrs++zIc T)
def goH{α:Type}:Rt α->Option Int
 | .ok _=>none
 | .stop k=>some k
@[simp] theorem goH_ok{α:Type}(a:α):goH (.ok a)=none:=rfl
@[simp] theorem goH_stop{α:Type}(k:Int):goH (.stop k:Rt α)=some k:=rfl
section
variable (u:Unt) (S:RS) (h:Option Int) (T:List (List Int))
@[simp] theorem stR_0:(stR u S h T)[0]? =some (.arr 10 [.agg [arrs u.arrays,flows u.flows,ints S.inp,acc 1 (zhb 1 u.arrays),.int .i64 (stK h),.int .i64 0,acc 1 (S.out.map (PV.int .i64)),.int .i64 S.cost,.int .i64 S.fuel,.bool (spK h)]]):=rfl
@[simp] theorem stK_none:stK none=0:=rfl
@[simp] theorem spK_none:spK none=false:=rfl
@[simp] theorem stK_some(k:Int):stK (some k)=k:=rfl
@[simp] theorem spK_some(k:Int):spK (some k)=decide (k=0):=rfl
@[simp] theorem setR_fuel(k:Nat):(stR u S none T).set 0 (.arr 10 [.agg [arrs u.arrays,flows u.flows,ints S.inp,acc 1 (zhb 1 u.arrays),.int .i64 0,.int .i64 0,acc 1 (S.out.map (PV.int .i64)),.int .i64 S.cost,.int .i64 k,.bool false]])=stR u {S with fuel:=k} none T:=rfl
@[simp] theorem setR_spent:(stR u S none T).set 0 (.arr 10 [.agg [arrs u.arrays,flows u.flows,ints S.inp,acc 1 (zhb 1 u.arrays),.int .i64 0,.int .i64 0,acc 1 (S.out.map (PV.int .i64)),.int .i64 S.cost,.int .i64 S.fuel,.bool true]])=stR u S (some 0) T:=rfl
@[simp] theorem setR_2:(stR u S none T).set 0 (.arr 10 [.agg [arrs u.arrays,flows u.flows,ints S.inp,acc 1 (zhb 1 u.arrays),.int .i64 2,.int .i64 0,acc 1 (S.out.map (PV.int .i64)),.int .i64 S.cost,.int .i64 S.fuel,.bool false]])=stR u S (some 2) T:=rfl
@[simp] theorem setR_3:(stR u S none T).set 0 (.arr 10 [.agg [arrs u.arrays,flows u.flows,ints S.inp,acc 1 (zhb 1 u.arrays),.int .i64 3,.int .i64 0,acc 1 (S.out.map (PV.int .i64)),.int .i64 S.cost,.int .i64 S.fuel,.bool false]])=stR u S (some 3) T:=rfl
@[simp] theorem setR_4:(stR u S none T).set 0 (.arr 10 [.agg [arrs u.arrays,flows u.flows,ints S.inp,acc 1 (zhb 1 u.arrays),.int .i64 4,.int .i64 0,acc 1 (S.out.map (PV.int .i64)),.int .i64 S.cost,.int .i64 S.fuel,.bool false]])=stR u S (some 4) T:=rfl
@[simp] theorem setR_cost':(stR u S none T).set 0 (.arr 10 [.agg [arrs u.arrays,flows u.flows,.slice .plain 1 (S.inp.map (PV.int .i64)),acc 1 (zhb 1 u.arrays),.int .i64 0,.int .i64 0,acc 1 (S.out.map (PV.int .i64)),.int .i64 (zY .i64 (S.cost+1)),.int .i64 S.fuel,.bool false]])=stR u (zHa S) none T:=by
 rw[zba];rfl
@[simp] theorem setR_st(k:Int)(hk:k≠0):(stR u S none T).set 0 (.arr 10 [.agg [arrs u.arrays,flows u.flows,.slice .plain 1 (S.inp.map (PV.int .i64)),acc 1 (zhb 1 u.arrays),.int .i64 k,.int .i64 0,acc 1 (S.out.map (PV.int .i64)),.int .i64 S.cost,.int .i64 S.fuel,.bool false]])=stR u S (some k) T:=by
 have:decide (k=0)=false:=by simp[hk]
 unfold stR runR stK spK;simp only[List.set_cons_zero,this];rfl
theorem setR_out(l:List Int):(stR u S none T).set 0 (.arr 10 [.agg [arrs u.arrays,flows u.flows,ints S.inp,acc 1 (zhb 1 u.arrays),.int .i64 0,.int .i64 0,acc 1 (l.map (PV.int .i64)),.int .i64 S.cost,.int .i64 S.fuel,.bool false]])=stR u {S with out:=l} none T:=rfl
@[simp] theorem setR_inp(l:List Int):(stR u S none T).set 0 (.arr 10 [.agg [arrs u.arrays,flows u.flows,.slice .plain 1 (l.map (PV.int .i64)),acc 1 (zhb 1 u.arrays),.int .i64 0,.int .i64 0,acc 1 (S.out.map (PV.int .i64)),.int .i64 S.cost,.int .i64 S.fuel,.bool false]])=stR u {S with inp:=l} none T:=rfl
end
theorem zFa(u:Unt)(S:RS)(h:Option Int)(T:List (List Int)):zk E 28 [.ptr 0 0 0] (stR u S h T)=some (.ret (.bool h.isSome),stR u S h T):=by
 refine zb rfl rfl rfl (by simp) ?_;cases h with
 |none=>simp[F28]
 |some k=>
  by_cases hk:k=0
  ·subst hk;simp[F28]
  ·replace hk:=eqn hk;simp[*,F28]
theorem rstep_spec(u:Unt)(S:RS)(T:List (List Int))(hf:S.fuel<=9000000000000000000):zk E 64 [.ptr 0 0 0] (stR u S none T)=some (match S.fuel with
  |0=>(.ret (.bool false),stR u S (some 0) T)
  |k+1=>(.ret (.bool true),stR u {S with fuel:=k} none T)):=by
 refine zb rfl rfl rfl (by simp) ?_;have h0:=zFa u S none T;simp at h0;cases h:S.fuel with
 |zero=>
  have hs:(stR u S none T).set 0 (.arr 10 [.agg [arrs u.arrays,flows u.flows,ints S.inp,acc 1 (zhb 1 u.arrays),.int .i64 0,.int .i64 0,acc 1 (S.out.map (PV.int .i64)),.int .i64 S.cost,.int .i64 0,.bool true]])=stR u S (some 0) T:=by
   have:=setR_spent u S T;rw[h]at this;exact this
  simp[*,F64]
 |succ k=>
  have hw:zY .i64 (((k+1:Nat):Int)-1)=(k:Int):=by rw[zq]<;>omega
  have hne:(((k+1:Nat):Int)<1)=False:=eqn (by omega);generalize hc:((k+1:Nat):Int)=c at*;simp[*,F64]
theorem rptrs_get:∀(l:List Arr) (k i:Nat),(zhb k l)[i]? =(l[i]?).map fun a=> .mslice (k+i) 0 a.size.toNat 1
 | [],k,i=>by simp[zhb]
 |a::r,k,0=>by simp[zhb]
 |a::r,k,i+1=>by
  simp only[zhb,yX];rw[rptrs_get r (k+1) i];cases r[i]? with
  |none=>rfl
  |some b=>simp;omega
theorem rptrs_len:∀(l:List Arr) (k:Nat),(zhb k l).length=l.length
 | [],k=>rfl
 |a::r,k=>by simp[zhb,rptrs_len r]
theorem rarr_at{u:Unt}{S:RS}{nm:List UInt8}(hS:FitS u S)(h:zPb u.arrays nm=true):∃(i:Nat) (l:List Int),zje u.arrays nm=i/\i<S.arrs.length/\S.arrs[i]? =some l/\(zhb 1 u.arrays)[i]? =some (.mslice (i+1) 0 l.length 1):=by
 obtain⟨i,l,a1,a2,a3,a4⟩:=arr_at hS h;refine⟨i,l,a1,a2,a3,?_⟩;rw[rptrs_get];have hlt:i<u.arrays.length:=by rw[<-hS.len];exact a2
 have e:=congrArg (fun l:List Nat=>l[i]?) hS.1;simp only[yf,a3,yd hlt,yN,Option.some.injEq]at e;rw[yd hlt,yN,<-e,Nat.add_comm 1 i]
theorem stR_row{u:Unt}{S:RS}{h:Option Int}{T:List (List Int)}{i:Nat}{l:List Int}(hl:S.arrs[i]? =some l):(stR u S h T)[i+1]? =some (.arr 1 (l.map (PV.int .i64))):=by
 have hlt:=(yb.1 hl).1;simp only[stR,yX];rw[yj (by simpa[zIc]using hlt)];simp[zIc,hl,intO]
theorem rput_row{u:Unt}{S:RS}{h:Option Int}{T:List (List Int)}{i:Nat}{l:List Int}(hl:S.arrs[i]? =some l)(k:Nat)(m:Int):(stR u S h T).set (i+1) (.arr 1 ((l.map (PV.int .i64)).set k (.int .i64 m)))=stR u {S with arrs:=S.arrs.set i (l.set k m)} h T:=by
 have hlt:=(yb.1 hl).1;have e:(l.map (PV.int .i64)).set k (.int .i64 m)=(l.set k m).map (PV.int .i64):=by rw[yoa]
 rw[e];simp only[stR,List.set_cons_succ];rw[List.set_append_left _ _ (by simpa[zIc]using hlt)];have:(zIc S.arrs).set i (.arr 1 ((l.set k m).map (PV.int .i64)))=zIc (S.arrs.set i (l.set k m)):=by simp[zIc,yoa,intO]
 rw[this];rfl
theorem rcell_spec{u:Unt}{S:RS}{T:List (List Int)}{i:Nat}{l:List Int}(n:Int)(hl:S.arrs[i]? =some l)(hm:(zhb 1 u.arrays)[i]? =some (.mslice (i+1) 0 l.length 1)):
  zk E 94 [.ptr 0 0 0,.int .i64 i,.int .i64 n] (stR u S none T)=some (if 0<=n/\n<l.length then(.ret (.bool true),stR u S none T)else(.ret (.bool false),stR u S (some 3) T)):=by
 refine zb rfl rfl rfl (by simp) ?_;by_cases h0:n<0
 ·have hn:¬(0<=n/\n<l.length):=by omega
  rw[if_neg hn];replace h0:=eqp h0;simp[*,F94]
 ·by_cases h1:(l.length:Int)<=n
  ·have hn:¬(0<=n/\n<l.length):=by omega
   rw[if_neg hn];replace h0:=eqn h0;replace h1:=eqp h1;simp[*,F94]
  ·rw[if_pos (by omega)];have h4:0<=n:=by omega
   replace h0:=eqn h0;replace h1:=eqn h1;simp[*,F94]
def nbR(u:Unt):Nat:=u.arrays.length+1
section
variable {u:Unt} {S:RS} {h:Option Int} {T:List (List Int)}
theorem stR_len(hS:FitS u S):(stR u S h T).length=nbR u+T.length:=by
 simp[stR,zIc,hS.len,nbR];omega
theorem stR_get(hS:FitS u S){j:Nat}{v:List Int}(hj:T[j]? =some v):(stR u S h T)[nbR u+j]? =some (.arr 1 (v.map (PV.int .i64))):=by
 have:nbR u+j=u.arrays.length+j+1:=by unfold nbR;omega
 rw[this];simp only[stR,yX];rw[yo (by simp[zIc,hS.len])];simp[zIc,hS.len,hj,intO]
theorem stR_set(hS:FitS u S)(j:Nat)(v:List Int):(stR u S h T).set (nbR u+j) (.arr 1 (v.map (PV.int .i64)))=stR u S h (T.set j v):=by
 have:nbR u+j=u.arrays.length+j+1:=by unfold nbR;omega
 rw[this];simp only[stR,List.set_cons_succ];rw[yza _ _ (by simp[zIc,hS.len])];simp[zIc,hS.len,yoa,intO]
theorem stR_app{v:List Int}:stR u S h T++[.arr 1 (v.map (PV.int .i64))]=stR u S h (T++[v]):=by simp[stR,zIc,intO]
theorem stR_take(hS:FitS u S)(j:Nat):(stR u S h T).take (nbR u+j)=stR u S h (T.take j):=by
 have:nbR u+j=u.arrays.length+j+1:=by unfold nbR;omega
 rw[this];simp only[stR,List.take_succ_cons];rw[List.take_append,List.take_of_length_le (by simp[zIc,hS.len])];simp[zIc,hS.len,List.map_take]
theorem rptrs_below(n:Nat):∀(l:List Arr) (k:Nat),k+l.length<=n->zP n (zhb k l)=true
 | [],_,_=>rfl
 |a::r,k,h=>by
  simp only[yca]at h;simp only[zhb,belowL_cons,below_mslice,ya,decide_eq_true_eq];exact⟨by omega,rptrs_below n r (k+1) (by omega)⟩
theorem below_acc(n sz:Nat)(l:List PV)(h:zP n l=true):zp n (acc sz l)=true:=by
 cases l with
 |nil=>rfl
 |cons x r=>simpa using h
theorem stR_wf{n:Nat}(hn:nbR u<=n):zc.wf n (stR u S h T)=true:=by
 unfold zc.wf;simp only[stR,List.all_cons,List.all_append,ya];refine⟨?_,rowsO_wf n _,rowsO_wf n _⟩;have h1:=rptrs_below n u.arrays 1 (by unfold nbR at hn;omega);simp[runR,Obj.below,belowL_acc,ints,below_acc _ _ _ h1]
end
set_option maxHeartbeats 1000000 in
theorem vof_spec{u:Unt}{S:RS}{h:Option Int}{T:List (List Int)}{j n:Nat}{v:List Int}(hS:FitS u S)(hj:T[j]? =some v)(hv:v.length=n){l:List Int}(ho:inR n l)(hz:l.length<1099511627776):
  zk E 65 [.mslice (nbR u+j) 0 n 1,ints l] (stR u S h T)=some (.ret (ints (ofW v l)),stR u S h T):=by
 refine zb rfl rfl rfl (by simp[ints]) ?_;have hgt:=stR_get (u:=u) (h:=h) hS hj;simp[F65,ints];refine zn l K65_0 B65_0 (fun d=>[(6,.int .i64 d.length),(5,acc 1 ((ofW v d).map (PV.int .i64)))]) (fun d=>stR u S h T) (fun _=>True) (by omega) (by simp[ofW]) ?_ ?_
 ·intros d x r s1 hl' hlt hget hget' hwr hp g1 g2 g3 g4;simp at g1 g3;obtain⟨x0,x1⟩:=ho x hl'.mem;have hx:=zrc (l:=v) x0 (by omega);have hxn:x.toNat<n:=by omega
  have hxv:x.toNat<v.length:=by omega
  have hx3:=zyb (l:=v) x0 (by omega) hxv;have hdec:decide (d.length<l.length)=true:=decide_eq_true hlt;have hroom:((ofW v d).length+1)*8<=zG:=by rw[ofW_len];simp only[zG];omega
  have hsn:ofW v (d++[x])=ofW v d++[at0 v x]:=by simp[ofW]
  generalize ofW v d=c at*;clear hl' hget' hp hj ho hlt;simp[*]
 ·intros s1 hp g1 g2 g3 g4;simp at g1 g3;clear hj ho;simp[*]
theorem rset_spec{u:Unt}{S:RS}{h:Option Int}{T:List (List Int)}{j n:Nat}{v:List Int}(hS:FitS u S)(hj:T[j]? =some v)(hv:v.length=n){o ns:List Int}(ho:inR n o)(hl:o.length=ns.length)(hz:o.length<1099511627776):
  zk E 66 [.mslice (nbR u+j) 0 n 1,ints o,ints ns] (stR u S h T)=some (.ret (.tup []),stR u S h (T.set j (setW v o ns))):=by
 refine zb rfl rfl rfl (by simp[ints]) ?_;have hjl:=(yb.1 hj).1;simp[F66,ints];refine zn o K66_0 B66_0 (fun d=>[(6,.int .i64 d.length)]) (fun d=>stR u S h (T.set j (setW v d (ns.take d.length)))) (fun _=>True) (by omega) (by simp[setW,set_self hj]) ?_ ?_
 ·intros d x r s1 hl' hlt hget hget' hwr hp g1 g2 g3 g4;simp at g1 g3;obtain⟨x0,x1⟩:=ho x hl'.mem;have hn:ns[d.length]? =some ns[d.length]:=yd (by omega);generalize ns[d.length]=m at hn;have hcur:(T.set j (setW v d (ns.take d.length)))[j]? =some (setW v d (ns.take d.length)):=ym hjl;have hgt:=stR_get (u:=u) (h:=h) hS hcur;have hsn:setW v (d++[x]) (ns.take (d.length+1))=(setW v d (ns.take d.length)).set x.toNat m:=by
   rw[take_snoc hn,setW_snoc _ _ _ _ _ (by simp;omega)]
  have hst:=stR_set (u:=u) (S:=S) (h:=h) (T:=T.set j (setW v d (ns.take d.length))) hS j (setW v (d++[x]) (ns.take (d.length+1)));have hlen:=zcd v d (ns.take d.length);have hx:x.toNat<n:=by omega
  have hsl:(setW v d (ns.take d.length)).length=n:=by rw[hlen,hv]
  rw[ySa]at hst;rw[hsn,yoa,<-hsn]at hst;have hgo:(stR u S h (T.set j (setW v d (ns.take d.length)))).set (nbR u+j) (.arr 1 (((setW v d (ns.take d.length)).map (PV.int .i64)).set x.toNat (.int .i64 m)))=stR u S h (T.set j (setW v (d++[x]) (ns.take (d.length+1)))):=hst;clear hst;generalize setW v d (ns.take d.length)=c at*;have hdec:decide (d.length<o.length)=true:=decide_eq_true hlt;clear hl' hget' hp hj ho hlen hsn hcur hl hlt;simp[*]
 ·intros s1 hp g1 g2 g3 g4;simp at g1 g3;have:ns.take o.length=ns:=by rw[hl];exact List.take_length
  rw[this]at g4;simp[*]
def SpecR(u:Unt)(w:Nat):Prop:=∀m p l v S T j,FitS u S->S.fuel<=w->l≠ []->okL u m p l->wtL l<capE->T[j]? =some v->v.length=m→
 ∃y:Wy,zk E 44 [.ptr 0 0 0,zh l,.mslice (nbR u+j) 0 m 1] (stR u S none T)=some (.ret (encW y),stR u (zMb (evN u w) l v S).2.2 (goH (zMb (evN u w) l v S).1) (T.set j (zMb (evN u w) l v S).2.1))∧
  ∀r,(zMb (evN u w) l v S).1= .ok r->y=r
set_option maxHeartbeats 2000000 in
theorem rcall_of{u:Unt}(hU:OkU u){w:Nat}(hL:SpecR u w){f:Flow}{k:Nat}(hf:u.flows[k]? =some f){l:List Int}{S:RS}{T:List (List Int)}(hS:FitS u S)(hw:S.fuel<=w)(hl:l.length<=f.types.length):
  ∃z:Int,zk E 26 [.ptr 0 0 0,.int .i64 k,ints l] (stR u S none T)=some (.ret (.int .i64 z),stR u (callW (evN u w) f l S).2 (goH (callW (evN u w) f l S).1) T)/\∀r,(callW (evN u w) f l S).1= .ok r->z=r:=by
 have hfm:f∈u.flows:=yu hf;have hty:=hU.sz.types f hfm;have hb:=hU.body f hfm;have hlen:=stR_len (h:=none) (T:=T) hS;have hap:=stR_app (u:=u) (S:=S) (h:=none) (T:=T) (v:=yn f.types.length 0);simp only[List.map_replicate]at hap;have l1:(0:Int)<=(f.types.length:Int):=by omega
 have l2:(f.types.length:Int)<=9223372036854775807:=by omega
 have l3:8*(f.types.length:Int)<=281474976710656:=by omega
 have hgl:(l++yn (f.types.length-l.length) 0).length=f.types.length:=by simp;omega
 have hc:=hL f.types.length ⟨none,none,none⟩ f.body (l++yn (f.types.length-l.length) 0) S (T++[l++yn (f.types.length-l.length) 0]) T.length hS hw hb.1 hb.2 (hU.sz.body f hfm) (by simp) hgl;rw[yza _ _ (yh _),Nat.sub_self,List.set_cons_zero]at hc;obtain⟨m1,m2,m3⟩:=zYd (evN_ok hU w) f.body (l++yn (f.types.length-l.length) 0) S hb.1 hb.2 hgl;have hrep:∀d x,l[d]? =some x->d<l.length->((l.take d++yn (f.types.length-d) 0).map (PV.int .i64)).set d (.int .i64 x)=(l.take (d+1)++yn (f.types.length-(d+1)) 0).map (PV.int .i64):=by
  intro d x hx hd;have e:f.types.length-d=(f.types.length-(d+1))+1:=by omega
  rw[take_snoc hx,e,List.replicate_succ,yAa,yza _ _ (by simp;omega)];simp[Nat.min_eq_left (Nat.le_of_lt hd)]
 unfold callW;generalize hq:zMb (evN u w) f.body (l++yn (f.types.length-l.length) 0) S=q at*;obtain⟨a,v1,S1⟩:=q;simp only at m1 m2 m3 hc ⊢;obtain⟨y,hc,hy⟩:=hc;have hS1:=hS.mono m1;have htk:∀h,(stR u S1 h (T++[v1])).take (nbR u+T.length)=stR u S1 h T:=by
  intro h;rw[stR_take hS1];simp
 have hwf:∀h,zc.wf (nbR u+T.length) (stR u S1 h T)=true:=fun h=>stR_wf (by omega)
 have hln:∀h,(stR u S1 h (T++[v1])).length=nbR u+(T.length+1):=by
  intro h;rw[stR_len hS1];simp
 have hov:=zFa u S1 (goH a) (T++[v1]);have hll:l.length<1099511627776:=by omega
 simp[zh]at hc;obtain⟨z,hz1,hz2⟩:∃z:Int,(∀r,a= .ok r->z=atA r.l 0)/\(∀k,a= .stop k->z=0):=by
  cases a with
  |ok r=>exact⟨atA r.l 0,(fun r' e=>by cases e;rfl),(fun k e=>by cases e)⟩
  |stop k=>exact⟨0,(fun r' e=>by cases e),(fun k e=>rfl)⟩
 refine⟨z,zb rfl rfl rfl (by simp[ints]) ?_,?_⟩
 ·have e0:l.take 0++yn (f.types.length-0) 0=yn f.types.length (0:Int):=by simp
  have hget0:∀d,(stR u S none (T++[l.take d++yn (f.types.length-d) 0]))[nbR u+T.length]? =some (.arr 1 ((l.take d++yn (f.types.length-d) 0).map (PV.int .i64))):=fun d=>stR_get hS (by simp)
  have hset0:∀d c,(stR u S none (T++[l.take d++yn (f.types.length-d) 0])).set (nbR u+T.length) (.arr 1 (c.map (PV.int .i64)))=stR u S none (T++[c]):=by
   intro d c;rw[stR_set hS,yza _ _ (yh _),Nat.sub_self,List.set_cons_zero]
  clear hU hL hb hS hw m1 hgl hfm hS1 hty;simp[*,F26,flows,zd,ints,zh];refine zn l K26_0 [7,10] (fun d=>[(9,.int .i64 d.length)]) (fun d=>stR u S none (T++[l.take d.length++yn (f.types.length-d.length) 0])) (fun _=>True) (by omega) (by simp) ?_ ?_
  ·intros d x r s1 hl' hlt hget hget' hwr hp g1 g2 g3 g4;simp at g1 g3;have h1:=hrep d.length x hget hlt;have h2:=hget0 d.length;have h3:=hset0 d.length (l.take (d.length+1)++yn (f.types.length-(d.length+1)) 0);have h4:(l.take d.length++yn (f.types.length-d.length) (0:Int)).length=f.types.length:=by simp;omega
   have hdl:d.length<f.types.length:=by omega
   obtain⟨y,hy⟩:∃y,(l.take d.length++yn (f.types.length-d.length) (0:Int))[d.length]? =some y:=⟨_,yd (by omega)⟩
   have hdec:decide (d.length<l.length)=true:=decide_eq_true hlt;rw[<-h1]at h3;generalize l.take d.length++yn (f.types.length-d.length) (0:Int)=c at*;clear hl' hget' hlt hp hrep hget0 hset0 hc hov htk hwf hln m3 hz1 hz2 hlen hap h1;simp[*,-getElem?_pos,yH]
  ·intros s1 hp g1 g2 g3 g4;simp at g1 g3;have e1:l.take l.length=l:=List.take_length;rw[e1]at g4;clear hp hrep hget0 hset0 hlen hap;cases a with
   |stop k=>
    have hz:=hz2 k rfl;simp[encW,ints]at hc;simp at hov;clear m3 hz1 hz2;simp[*,fin]
   |ok r=>
    have hz:=hz1 r rfl;obtain⟨_,m4,_⟩:=m3 r rfl;have hr:∃x,r.l=[x]:=by
     rcases m4 with m4|m4|m4|m4
     ·cases m4.2
     ·cases m4.2
     ·cases m4.2
     ·exact List.length_eq_one_iff.1 m4.2
    obtain⟨x,hr⟩:=hr;have hyr:=hy r rfl;subst hyr;rw[hr]at hz;have hz:z=x:=hz;simp[encW,ints,hr]at hc;clear hr hy;simp at hov;clear m3 hz1 hz2 m4;simp[*,fin,atA]
 ·intro r e;cases a with
  |ok w=>simp only[Rt.ok.injEq]at e;rw[<-e];exact hz1 w rfl
  |stop k=>cases e
def sumR(u:Unt)(T:List (List Int))(x:Node)(q:Rt (List Int)×RS)(r:Option (CRes×zc)):Prop:=
 ∃z:Int,r=some (.ret (.int .i64 z),stR u q.2 (goH q.1) T)/\∀m,q.1= .ok [m]->z=m
theorem rone_specC(op a:Int)(σ:zc):zk E 92 [.int .i64 op,.int .i64 a] σ=some (.ret (.int .i64 (oneC op a)),σ):=by
 rw[<-one_eqC,<-rone_eq];exact rone_spec op a σ
theorem rtwo_specC(op a b:Int)(σ:zc):zk E 93 [.int .i64 op,.int .i64 a,.int .i64 b] σ=some (.ret (.tup [.int .i64 (twoC op a b).1,.bool (twoC op a b).2]),σ):=by
 rw[<-two_eqC];exact rtwo_spec op a b σ
set_option maxHeartbeats 4000000 in
theorem rsum_of{u:Unt}(hU:OkU u){w:Nat}(hL:SpecR u w){m:Nat}{p:Pl}{x:Node}(ho:okH u m p x)(hk:3<=x.kind/\x.kind<=9){S:RS}{T:List (List Int)}(hS:FitS u S)
  (hw:S.fuel<=w) (hfu:S.out.length+S.fuel<1000000000000) {l:List Int} (hl:l.length=x.args.length):
  sumR u T x (plainW u (evN u w) x l (zHa S)) (zk E 68 [.ptr 0 0 0,zy x,ints l] (stR u S none T)):=by
 have hra:=rarray_spec u x.name [] hU.sz.arrs;obtain⟨args,outs,prs,k12,k3,k4,k5,k6,k7,k8,k9,-,-,-,-,-,-,-⟩:=ho;simp[encUnt]at hra;unfold plainW sumR;by_cases e3:x.kind=3
 ·rw[if_pos e3];obtain⟨a,ha⟩:=len1 (hl.trans (k3 e3).1);have hone:=rone_specC x.op a [];subst ha;replace e3:=eqp e3;refine⟨oneC x.op a,zb rfl rfl rfl (by simp[za,ints]) ?_,fun z e=>by cases e;rfl⟩;clear args outs prs k12 k3 k4 k5 k6 k7 k8 k9 hk hl hL hU;simp[*,F68,za,ints]
 rw[if_neg e3];replace e3:=eqn e3;by_cases e4:x.kind=4
 ·rw[if_pos e4];obtain⟨a,b,ha⟩:=len2 (hl.trans (k4 e4).1);subst ha;have htwo:=rtwo_specC x.op a b [];have e0:atA [a,b] 0=a:=rfl;have e1:atA [a,b] 1=b:=rfl;rw[e0,e1];replace e4:=eqp e4;by_cases hz:(twoC x.op a b).2=true
  ·rw[if_pos hz];refine⟨(twoC x.op a b).1,zb rfl rfl rfl (by simp[za,ints]) ?_,fun z e=>by cases e;rfl⟩;clear args outs prs k12 k3 k4 k5 k6 k7 k8 k9 hk hl hL hU;simp[*,F68,za,ints]
  ·rw[if_neg hz];simp only[Bool.not_eq_true]at hz;refine⟨(twoC x.op a b).1,zb rfl rfl rfl (by simp[za,ints]) ?_,fun z e=>by cases e⟩;clear args outs prs k12 k3 k4 k5 k6 k7 k8 k9 hk hl hL hU;simp[*,F68,za,ints]
 rw[if_neg e4];replace e4:=eqn e4;by_cases e5:x.kind=5
 ·rw[if_pos e5];obtain⟨a0,a1,a2⟩:=k5 e5;obtain⟨a,ha⟩:=len1 (hl.trans a1);subst ha;have e0:atA [a] 0=a:=rfl;rw[e0];obtain⟨i,row,b1,b2,b3,b4⟩:=rarr_at hS.cost a0;have hc:=rcell_spec (T:=T) a b3 b4;have hr:=stR_row (T:=T) (u:=u) (h:=none) b3;rw[b1]at hra;unfold cellAt;rw[b1];simp only[Int.toNat_natCast,b3,Option.bind_some];replace e5:=eqp e5;by_cases hx:0<=a/\a<row.length
  ·rw[if_pos hx]at hc;have hn:¬a<0:=by omega
   have hlt:a.toNat<row.length:=by omega
   have hx0:=hx.1;rw[if_neg hn];obtain⟨y,hy⟩:∃y,row[a.toNat]? =some y:=⟨_,yd hlt⟩
   rw[hy];refine⟨y,zb rfl rfl rfl (by simp[za,ints]) ?_,fun z e=>by cases e;rfl⟩;clear args outs prs k12 k3 k4 k5 k6 k7 k8 k9 hk hl hL hU hx hn b1 b2 b3 a0 a1 a2;simp[*,F68,za,ints,-getElem?_pos,yH]
  ·rw[if_neg hx]at hc;have hnone:(if a<0 then none else row[a.toNat]?)=none:=by
    split
    ·rfl
    ·rw[List.getElem?_eq_none];omega
   rw[hnone];refine⟨0,zb rfl rfl rfl (by simp[za,ints]) ?_,fun z e=>by cases e⟩;clear args outs prs k12 k3 k4 k5 k6 k7 k8 k9 hk hl hL hU hx hnone b1 b2 b3 a0 a1 a2;simp[*,F68,za,ints]
 rw[if_neg e5];replace e5:=eqn e5;by_cases e6:x.kind=6
 ·rw[if_pos e6];obtain⟨a0,a1,a2⟩:=k6 e6;obtain⟨a,b,ha⟩:=len2 (hl.trans a1);subst ha;have e0:atA [a,b] 0=a:=rfl;have e1:atA [a,b] 1=b:=rfl;rw[e0,e1];obtain⟨i,row,b1,b2,b3,b4⟩:=rarr_at hS.cost a0;have hc:=rcell_spec (T:=T) a b3 b4;have hr:=stR_row (T:=T) (u:=u) (h:=none) b3;rw[b1]at hra;unfold putAt;rw[b1];simp only[Int.toNat_natCast,b3,Option.bind_some];replace e6:=eqp e6;by_cases hx:0<=a/\a<row.length
  ·rw[if_pos hx]at hc;have hn:¬a<0:=by omega
   have hlt:a.toNat<row.length:=by omega
   have hx0:=hx.1;rw[if_neg hn,if_pos hlt];obtain⟨y,hy⟩:∃y,row[a.toNat]? =some y:=⟨_,yd hlt⟩
   have hput:=rput_row (T:=T) (u:=u) (h:=none) b3 a.toNat b;refine⟨0,zb rfl rfl rfl (by simp[za,ints]) ?_,fun z e=>by cases e⟩;clear args outs prs k12 k3 k4 k5 k6 k7 k8 k9 hk hl hL hU hx hn b1 b2 b3 a0 a1 a2;simp[*,F68,za,ints,-getElem?_pos,yH]
  ·rw[if_neg hx]at hc;have hnone:(if a<0 then none else if a.toNat<row.length then some {zHa S with arrs:=(zHa S).arrs.set i (row.set a.toNat b)}else none:Option RS)=none:=by
    split
    ·rfl
    ·rw[if_neg (by omega)]
   rw[hnone];refine⟨0,zb rfl rfl rfl (by simp[za,ints]) ?_,fun z e=>by cases e⟩;clear args outs prs k12 k3 k4 k5 k6 k7 k8 k9 hk hl hL hU hx hnone b1 b2 b3 a0 a1 a2;simp[*,F68,za,ints]
 rw[if_neg e6];replace e6:=eqn e6;by_cases e7:x.kind=7
 ·rw[if_pos e7];obtain⟨g,a0,a1,a2,a3⟩:=k7 e7;rw[a0];simp only;have hgm:g∈u.flows:=yu a0;have hlg:l.length<=g.types.length:=by rw[hl,a2];simp[pars];omega
  obtain⟨z,hcall,hz⟩:=rcall_of hU hL a0 (l:=l) (T:=T) hS.cost hw hlg;have hpl:=zXb u x.name [] hU.sz.flows;have hpn:(((zU u.flows x.name).toNat:Nat):Int)=zU u.flows x.name:=Int.toNat_of_nonneg a1;rw[hpn]at hcall;simp[encUnt]at hpl;generalize callW (evN u w) g l (zHa S)=q at*;obtain⟨y,S1⟩:=q;simp only at hcall hz;replace e7:=eqp e7;cases y with
  |stop k=>
   refine⟨z,zb rfl rfl rfl (by simp[za,ints]) ?_,fun z e=>by cases e⟩;simp[ints]at hcall;clear args outs prs k12 k3 k4 k5 k6 k7 k8 k9 hk hl hL hU a0 a1 a2 a3 hz;simp[*,F68,za,ints]
  |ok y=>
   have hz:=hz y rfl;subst hz;refine⟨z,zb rfl rfl rfl (by simp[za,ints]) ?_,fun z e=>by cases e;rfl⟩;simp[ints]at hcall;clear args outs prs k12 k3 k4 k5 k6 k7 k8 k9 hk hl hL hU a0 a1 a2 a3;simp[*,F68,za,ints]
 rw[if_neg e7];replace e7:=eqn e7;by_cases e8:x.kind=8
 ·rw[if_pos e8];have e9:(x.kind=9)=False:=eqn (by omega);replace e8:=eqp e8;have hic:(zHa S).inp=S.inp:=rfl;rw[hic];have hsc:=setR_cost' u S T;have hco:(zHa S).inp=S.inp:=rfl;cases hi:S.inp with
  |nil=>
   rw[hi]at hsc hco;simp only[yEa]at hsc;have hs4:=setR_4 u (zHa S) T;rw[hco]at hs4;simp only[ints,yEa]at hs4;refine⟨0,zb rfl rfl rfl (by simp[za,ints]) ?_,fun z e=>by cases e⟩;clear args outs prs k12 k3 k4 k5 k6 k7 k8 k9 hk hl hL hU;simp[*,F68,za,ints]
  |cons n r=>
   rw[hi]at hsc hco;simp only[yq]at hsc;have hne:¬((r.length:Int)+1=0):=by omega
   have ht:List.take r.length (r.map (PV.int .i64))=r.map (PV.int .i64):=by rw[List.take_of_length_le];simp
   refine⟨n,zb rfl rfl rfl (by simp[za,ints]) ?_,fun z e=>by cases e;rfl⟩;clear args outs prs k12 k3 k4 k5 k6 k7 k8 k9 hk hl hL hU;simp[*,F68,za,ints]
 rw[if_neg e8];replace e8:=eqn e8;by_cases e9:x.kind=9
 ·rw[if_pos e9];obtain⟨a1,a2⟩:=k9 e9;obtain⟨a,ha⟩:=len1 (hl.trans a1);subst ha;have e0:atA [a] 0=a:=rfl;rw[e0];have hso:=setR_out (u:=u) (S:=zHa S) (T:=T) (S.out++[a]);have hroom:(S.out.length+1)*8<=zG:=by have:=hS.2;simp only[zG];omega
  have hr4:∀X,((stR u (zHa S) none T).set 0 X)[0]? =some X:=by
   intro X;rw[ym (by rw[stR_len hS.cost];unfold nbR;omega)]
  have hao:acc 1 ((S.out++[a]).map (PV.int .i64))= .slice .own 1 (S.out.map (PV.int .i64)++[.int .i64 a]):=by
   rw[acc_ne (by simp)];simp
  have hio:isOwn (acc 1 (S.out.map (PV.int .i64)++[.int .i64 a]))=some (1,S.out.map (PV.int .i64)++[.int .i64 a]):=by
   rw[acc_ne (by simp)];rfl
  rw[hao]at hso;simp only[ints]at hso;have hco:(zHa S).out=S.out:=rfl;replace e9:=eqp e9;refine⟨0,zb rfl rfl rfl (by simp[za,ints]) ?_,fun z e=>by cases e⟩;clear args outs prs k12 k3 k4 k5 k6 k7 k8 k9 hk hl hL hU hao;simp[*,F68,za,ints]
 exact absurd hk (by simp only[eq_iff_iff,iff_false]at e3 e4 e5 e6 e7 e8;omega)
set_option maxHeartbeats 4000000 in
theorem rloop_of{u:Unt}(hU:OkU u){w:Nat}(hL:SpecR u w){m:Nat}{p:Pl}{x:Node}(ho:okN u m p x)(hk:x.kind=11){v:List Int}{S:RS}{T:List (List Int)}{j:Nat}(hS:FitS u S)(hwt:wtN x<capE)
  (hj:T[j]? =some v) (hv:v.length=m) (hw:S.fuel<=w) {l:List Int} (hl:l.length=x.params.length):
  ∃y:Wy,zk E 67 [.ptr 0 0 0,zy x,.mslice (nbR u+j) 0 m 1,ints l] (stR u S none T)=some (.ret (encW y),stR u (zWd (evN u w) x (w+1) l v S).2.2 (goH (zWd (evN u w) x (w+1) l v S).1) (T.set j (zWd (evN u w) x (w+1) l v S).2.1))∧
   ∀r,(zWd (evN u w) x (w+1) l v S).1= .ok r->y=r:=by
 have hws:=zwa x;have hjl:=(yb.1 hj).1;rw[zkd]at ho;obtain⟨o1,o2⟩:=ho;have hkid:=kids_one (o1.k11 hk).2;have hp:plIn p x.kind x.outs x.params=⟨none,some x.params.length,some x.outs.length⟩:=by rw[hk];rfl
 rw[hp]at o2;have hmem:kid0 x∈x.kids:=by rw[hkid];simp
 obtain⟨h1,h2⟩:=zYb o2 _ hmem;have hwk:=zEb hmem;unfold capE at hwt;have ou:=o1.outs;have op:=o1.prs;have hset1:∀l1 v1 S1,FitS u S1->v1.length=m->l1.length=x.params.length->zk E 66 [.mslice (nbR u+j) 0 m 1,ints x.params,ints l1] (stR u S1 none (T.set j v1))=some (.ret (.tup []),stR u S1 none (T.set j (setW v1 x.params l1))):=by
  intro l1 v1 S1 q1 q2 q3;have:=rset_spec (j:=j) (h:=none) (T:=T.set j v1) q1 (ym hjl) q2 op q3.symm (by omega);rwa[ySa]at this
 have hset2:∀l1 v1 S1,FitS u S1->v1.length=m->l1.length=x.outs.length->zk E 66 [.mslice (nbR u+j) 0 m 1,ints x.outs,ints l1] (stR u S1 none (T.set j v1))=some (.ret (.tup []),stR u S1 none (T.set j (setW v1 x.outs l1))):=by
  intro l1 v1 S1 q1 q2 q3;have:=rset_spec (j:=j) (h:=none) (T:=T.set j v1) q1 (ym hjl) q2 ou q3.symm (by omega);rwa[ySa]at this
 have hlist:∀v1 S1,FitS u S1->S1.fuel<=w->v1.length=m->∃y:Wy,zk E 44 [.ptr 0 0 0,zh (kid0 x),.mslice (nbR u+j) 0 m 1] (stR u S1 none (T.set j v1))=some (.ret (encW y),stR u (zMb (evN u w) (kid0 x) v1 S1).2.2 (goH (zMb (evN u w) (kid0 x) v1 S1).1) (T.set j (zMb (evN u w) (kid0 x) v1 S1).2.1))/\∀r,(zMb (evN u w) (kid0 x) v1 S1).1= .ok r->y=r:=by
  intro v1 S1 q1 q2 q3;have:=hL m _ _ v1 S1 (T.set j v1) j q1 q2 h1 h2 (by unfold capE;omega) (ym hjl) q3;rwa[ySa]at this
 have hrun:∀v1 S1,v1.length=m->ListRun m ⟨none,some x.params.length,some x.outs.length⟩ (kid0 x) S1 (zMb (evN u w) (kid0 x) v1 S1):=fun v1 S1 q=>zYd (evN_ok hU w) _ v1 S1 h1 h2 q
 have hself:=set_self hj;suffices H:PC (zk E 67 [.ptr 0 0 0,zy x,.mslice (nbR u+j) 0 m 1,ints l] (stR u S none T)) (fun res st=>∃y:Wy,res= .ret (encW y)/\st=stR u (zWd (evN u w) x (w+1) l v S).2.2 (goH (zWd (evN u w) x (w+1) l v S).1) (T.set j (zWd (evN u w) x (w+1) l v S).2.1)/\∀r,(zWd (evN u w) x (w+1) l v S).1= .ok r->y=r) by
  obtain⟨r,st,e,y,rfl,rfl,h⟩:=PC_iff.1 H;exact⟨y,e,h⟩
 refine pcall_wpP rfl rfl rfl (by simp[za,ints]) ?_;clear hL hU o1 o2 hp hmem h1 h2 hwk hws ou op hj;simp[F67,za,ints];refine wp_while K67_0 B67_0 (fun c:RSt=>c.S.fuel) (fun c=>[(3,ints c.l)]) (fun c=>[(8,.cells [.int .i64 0,.slice .fit 1 []])]) (fun c=>stR u c.S none (T.set j c.v))
  (fun c=>zWd (evN u w) x (w+1) l v S=zWd (evN u w) x c.k c.l c.v c.S/\FitS u c.S/\c.S.fuel<=w/\c.S.fuel<c.k/\c.v.length=m/\c.l.length=x.params.length) ⟨w+1,l,v,S⟩ ?_ ?_
 ·simp[*,ints];omega
 ·rintro⟨k,l1,v1,S1⟩ s1 ⟨d2,d3,d4,d5,d6,d7⟩ g1 g2 g3 g4 g5
  simp at d2 d3 d4 d5 d6 d7 g1 g2 g3 g4 g5;rw[d2];cases k with
  |zero=>omega
  |succ k=>
   have hs1:=hset1 l1 v1 S1 d3 d6 d7;have hvl:(setW v1 x.params l1).length=m:=by rw[zcd];exact d6
   obtain⟨y,hc,hy⟩:=hlist (setW v1 x.params l1) S1 d3 d4 hvl;obtain⟨r1,r2,r3⟩:=hrun (setW v1 x.params l1) S1 hvl;simp only[zWd];simp only[zWd]at d2;generalize zMb (evN u w) (kid0 x) (setW v1 x.params l1) S1=q at*;obtain⟨a,v2,S2⟩:=q;simp only at r1 r2 r3 hc d2 hy;have hS2:=d3.mono r1;have hset2:=fun z hz=>hset2 z v2 S2 hS2 r2 hz
   have hov:=zFa u S2 (goH a) (T.set j v2);clear hlist hrun hset1;simp[ints]at hs1;simp[encW,zh,ints]at hc;cases a with
   |stop q=>
    simp at hov hc;have hfin:∃y':Wy,encW y=encW y':=⟨y,rfl⟩
    simp[encW,ints]at hfin;clear d2 hset2 r3 d7 hy;simp[*,za,kids,zh,ints,encW]
   |ok r=>
    obtain⟨r4,r5,_⟩:=r3 r rfl;have hyr:=hy r rfl;subst hyr;clear r3 hy;simp at hov hc;simp only at d2 ⊢;by_cases h15:y.kind=15
    ·rw[if_pos h15];have hfin:∃y':Wy,((15:Int)=y'.kind/\y.l.map (PV.int .i64)=y'.l.map (PV.int .i64))/\y'=y:=⟨y,⟨h15.symm,rfl⟩,rfl⟩
     rw[h15]at hc;clear d2 hset2 d7 r5;simp[*,za,kids,zh,ints,encW]
    ·by_cases h14:y.kind=14
     ·rw[if_neg h15,if_pos h14];have hyl:y.l.length=x.outs.length:=by
       rcases r5 with r5|r5|r5|r5
       ·omega
       ·omega
       ·have:=r5.2;simp at this;exact this.symm
       ·omega
      have hs2:=hset2 y.l hyl;simp[ints]at hs2;rw[h14]at hc;clear d2 hset2 r5 d7 hyl;simp[*,za,kids,zh,ints,encW]
     ·rw[if_neg h15,if_neg h14];rw[if_neg h15,if_neg h14]at d2;have hyl:y.l.length=x.params.length:=by
       rcases r5 with r5|r5|r5|r5
       ·cases r5.2
       ·have:=r5.2;simp at this;exact this.symm
       ·omega
       ·omega
      have h13:y.kind=13:=by
       rcases r5 with r5|r5|r5|r5
       ·cases r5.2
       ·exact r5.1
       ·omega
       ·omega
      rw[h13]at hc;have hfu:S2.fuel<S1.fuel:=r4;have hm:FitS u S2/\S2.fuel<=w/\S2.fuel<k:=⟨hS2,by omega,by omega⟩
      clear hset2 r5 d7 h15 h14 h13;simp[*,za,kids,zh,ints];refine⟨⟨k,y.l,v2,S2⟩,?_⟩;simp[*,ints]
theorem evN_zero(u:Unt)(w:Nat)(x:Node)(v:List Int)(S:RS)(h:S.fuel=0):evN u w x v S=(.stop 0,v,S):=by
 cases w with
 |zero=>rfl
 |succ w=>simp only[evN,h]
set_option maxHeartbeats 8000000 in
theorem rlist_of{u:Unt}(hU:OkU u){w:Nat}(hL:∀w',w=w'+1->SpecR u w'):SpecR u w:=by
 intro m p l v S T j hS hf hne ho hw hj hv;have hlen:=zsb l;have hjl:=(yb.1 hj).1;have hE:=evN_ok hU w;have hself:=set_self hj;suffices H:PC (zk E 44 [.ptr 0 0 0,zh l,.mslice (nbR u+j) 0 m 1] (stR u S none T)) (fun res st=>∃y:Wy,res= .ret (encW y)/\st=stR u (zMb (evN u w) l v S).2.2 (goH (zMb (evN u w) l v S).1) (T.set j (zMb (evN u w) l v S).2.1)/\∀r,(zMb (evN u w) l v S).1= .ok r->y=r) by
  obtain⟨r,st,e,y,rfl,rfl,h⟩:=PC_iff.1 H;exact⟨y,e,h⟩
 unfold capE at hw;refine pcall_wpP rfl rfl rfl (by simp[zh]) ?_;simp[F44,zh];refine wp_while K44_0 B44_0 (fun c:LSt=>c.rest.length) (fun c=>[(7,.int .i64 ((l.length-c.rest.length:Nat):Int))]) (fun c=>[(6,.cells [.int .i64 0,.slice .fit 1 []])]) (fun c=>stR u c.S none (T.set j c.v))
  (fun c=>(∃d,l=d++c.rest)/\zMb (evN u w) l v S=zMb (evN u w) c.rest c.v c.S/\FitS u c.S/\c.S.fuel<=w/\c.v.length=m/\okL u m p c.rest/\c.rest≠ []) ⟨l,v,S⟩ ?_ ?_
 ·simp[*]
 ·rintro⟨rest,v1,S1⟩ s1 ⟨⟨d,d1⟩,d2,d3,d4,d5,d6,d7⟩ g1 g2 g3 g4 g5
  simp at d1 d2 d3 d4 d5 d6 d7 g1 g2 g3 g4 g5;rw[d2];cases rest with
  |nil=>exact absurd rfl d7
  |cons x rest=>
   have hdl:l.length-(rest.length+1)=d.length:=by rw[d1];simp
   have hdl2:l.length-rest.length=d.length+1:=by rw[d1];simp;omega
   have hx:l[d.length]? =some x:=by rw[d1];simp
   have hlt:(d.length:Int)<l.length:=by rw[d1];simp;omega
   have hwx:wtN x<capE:=by have:=zZc (show x∈l by rw[d1];simp);unfold capE;omega
   have hws:=zwa x;rw[okL]at d6;obtain⟨o0,oc,or⟩:=d6;have hwr:zY .i64 ((d.length:Int)+1)=(d.length:Int)+1:=zq (by omega) (by omega);have hdd:∃d',l=d'++rest:=⟨d++[x],by rw[d1];simp⟩
   have hnode:=hE m p x v1 S1 o0 d5;have hstep:=rstep_spec u S1 (T.set j v1) (by have:=d3.2;omega);simp only[zMb];simp only[zMb]at d2;cases hfu:S1.fuel with
   |zero=>
    rw[hfu]at hstep;rw[evN_zero u w x v1 S1 hfu]at d2 ⊢;simp only at hstep;clear hL hE hS hf ho hj hv hself d3 d4 d5 d7 o0 oc or hnode d2 hws hwx d1;simp[*,za,ints,encW];exact⟨⟨0,[]⟩,rfl,rfl⟩
   |succ k=>
    obtain⟨w',rfl⟩:∃w',w=w'+1:=⟨w-1,by omega⟩
    have hL:=hL w' rfl;rw[hfu]at hstep;simp only at hstep;obtain⟨n1,n2,n3⟩:=hnode;simp only[evN,hfu]at d2 n1 n2 n3 ⊢;have hS0:FitS u {S1 with fuel:=k}:=⟨d3.1,by have:=d3.2;simp only;omega⟩
    have hf0:({S1 with fuel:=k}:RS).fuel<=w':=by simp only;omega
    have hlt0:({S1 with fuel:=k}:RS).out.length+({S1 with fuel:=k}:RS).fuel<1000000000000:=by have:=d3.2;simp only;omega
    have hcur:(T.set j v1)[j]? =some v1:=ym hjl;have ho':=o0;rw[zkd]at ho';obtain⟨o1,o2⟩:=ho';unfold capE at hwx;have hof:=vof_spec (u:=u) (h:=none) hS0 hcur d5 o1.args (by omega);have hol:=ofW_len v1 x.args;have hlo:=fun(h:x.kind=11)=>rloop_of hU hL o0 h hS0 (by unfold capE;omega) hcur d5 hf0 (l:=ofW v1 x.args) (by rw[hol];exact(o1.k11 h).1)
    have hsm:=fun(h:3<=x.kind/\x.kind<=9)=>rsum_of hU hL o1 h (T:=T.set j v1) hS0 hf0 hlt0 hol
    have hset1:∀o z S2 h,FitS u S2->x.outs=[o]->inR m [o]->(stR u S2 h (T.set j v1)).set (nbR u+j) (.arr 1 ((v1.map (PV.int .i64)).set o.toNat (.int .i64 z)))=stR u S2 h (T.set j (setW v1 x.outs [z])):=by
     intro o z S2 h q1 q2 q3;have:=stR_set (u:=u) (S:=S2) (h:=h) (T:=T.set j v1) q1 j (v1.set o.toNat z);rw[ySa,yoa]at this;rw[this,q2];rfl
    have hgt1:∀S2 h,FitS u S2->(stR u S2 h (T.set j v1))[nbR u+j]? =some (.arr 1 (v1.map (PV.int .i64))):=fun S2 h q=>stR_get q hcur
    have hin1:∀o,x.outs=[o]->0<=o/\o.toNat<m/\∃y,v1[o.toNat]? =some y:=by
     intro o q;have:=o1.outs o (by rw[q];simp);exact⟨this.1,by omega,_,yd (by omega)⟩
    have hcont:∀r v2 S2,(nodeW u (evN u w') w' x v1 {S1 with fuel:=k})=(.ok r,v2,S2)->r.kind=0->FitS u S2/\S2.fuel<=w'+1/\v2.length=m/\rest≠ []:=by
     intro r v2 S2 e hr0;rw[e]at n1 n2 n3;obtain⟨m1,m2⟩:=n3 _ rfl;refine⟨d3.mono n1,by have:=n1.fuel;simp only at this;omega,n2,?_⟩
     rintro rfl
     rcases m2 with m2|m2
     ·rw[m2.2]at oc;cases oc
     ·exact m2.1.ne hr0
    have hov0:=zFa u {S1 with fuel:=k} none (T.set j v1);have hch:x.kind=10->∃a,ofW v1 x.args=[a]:=fun h=>len1 (by rw[hol];exact(o1.k10 h).1)
    clear hE n1 n2 n3 hself hS hf ho hj hv d7 hlen d1;generalize hSS:({S1 with fuel:=k}:RS)=S0 at*;generalize hoo:ofW v1 x.args=la at*;unfold nodeW at d2 hcont ⊢;rw[hoo]at d2 hcont ⊢;simp[ints]at hof hov0;have hkk:=o1.k;have e0:(x.kind=0)=False:=eqn (by omega);by_cases k1:x.kind=1\/x.kind=2
    ·rw[if_pos k1]at d2 hcont ⊢;obtain⟨o,hou⟩:=len1 (o1.k12 k1);obtain⟨i1,i2,y,i3⟩:=hin1 o hou;have f1:=hset1 o x.n S0 none hS0 hou (by rw[<-hou];exact o1.outs);have f2:=hgt1 S0 none hS0;obtain⟨c1,c2,c3,c4⟩:=hcont _ _ _ rfl rfl;have hov1:=zFa u S0 none (T.set j (setW v1 x.outs [x.n]));simp at hov1;clear hcont hch hlo hsm hset1 hgt1 hin1 hL o0 o1 o2 oc hkk d3 d4 hS0 hf0 hlt0 hcur hol hSS hfu;rcases k1 with k1|k1
     ·replace k1:=eqp k1;rw[hou]at hov1 f1 c3;simp[*,za,ints,encW,-getElem?_pos,yH];refine⟨⟨rest,setW v1 x.outs [x.n],S0⟩,?_⟩;simp[*]
     ·have k0:(x.kind=1)=False:=eqn (by omega);replace k1:=eqp k1;rw[hou]at hov1 f1 c3;simp[*,za,ints,encW,-getElem?_pos,yH];refine⟨⟨rest,setW v1 x.outs [x.n],S0⟩,?_⟩;simp[*]
    rw[if_neg k1]at d2 hcont ⊢;have e1:(x.kind=1)=False:=eqn (by omega);have e2:(x.kind=2)=False:=eqn (by omega);clear k1;by_cases kE:12<=x.kind/\x.kind<=15
    ·rw[if_pos kE]at d2 hcont ⊢;have h4:x.kind=12\/x.kind=13\/x.kind=14\/x.kind=15:=by omega
     clear hcont hch hlo hsm hset1 hgt1 hin1 hL o0 o1 o2 oc hkk d2 d3 d4 hS0 hf0 hlt0 hcur hol hSS hfu kE;have hfin:∃y:Wy,(x.kind=y.kind/\la.map (PV.int .i64)=y.l.map (PV.int .i64))/\y=⟨x.kind,la⟩:=⟨_,⟨rfl,rfl⟩,rfl⟩
     rcases h4 with h4|h4|h4|h4
     ·simp[*,za,ints,encW]
     ·simp[*,za,ints,encW]
     ·simp[*,za,ints,encW]
     ·simp[*,za,ints,encW]
    rw[if_neg kE]at d2 hcont ⊢;have e12:(x.kind=12)=False:=eqn (by omega);have e13:(x.kind=13)=False:=eqn (by omega);have e14:(x.kind=14)=False:=eqn (by omega);have e15:(x.kind=15)=False:=eqn (by omega);clear kE;by_cases k10:x.kind=10
    ·rw[if_pos k10]at d2 hcont ⊢;obtain⟨a,ha⟩:=hch k10;subst ha;have a0:atA [a] 0=a:=rfl;rw[a0]at d2 hcont ⊢;have hkid:=kids_two (o1.k10 k10).2;have hp:plIn p x.kind x.outs x.params={p with y:=some x.outs.length}:=by rw[k10];rfl
     rw[hp]at o2;have hmem:(if a=0 then kid1 x else kid0 x)∈x.kids:=by rw[hkid];split<;>simp
     obtain⟨h1,h2⟩:=zYb o2 _ hmem;have hwk:=zEb hmem;obtain⟨y,hc,hy⟩:=hL m _ _ v1 S0 (T.set j v1) j hS0 hf0 h1 h2 (by unfold capE;omega) hcur d5;rw[ySa]at hc;obtain⟨r1,r2,r3⟩:=zYd (evN_ok hU w') _ v1 S0 h1 h2 d5;have hif:(a=0)=True/\(if a=0 then kid1 x else kid0 x)=kid1 x\/(a=0)=False/\(if a=0 then kid1 x else kid0 x)=kid0 x:=by
      by_cases h:a=0<;>simp[h]
     unfold choiceW at d2 hcont ⊢;have hou:=o1.outs;have holn:x.outs.length<1099511627776:=by omega
     generalize(if a=0 then kid1 x else kid0 x)=kl at*;generalize zMb (evN u w') kl v1 S0=q at*;obtain⟨b,v2,S2⟩:=q;simp only at r1 r2 r3 hc hy d2 hcont ⊢;have hS2:=hS0.mono r1;have hov1:=zFa u S2 (goH b) (T.set j v2);simp[zh,encW,ints]at hc;clear hch hlo hsm hset1 hgt1 hin1 hL o0 o1 o2 oc hkk d3 d4 hS0 hf0 hlt0 hcur hol hSS hfu hwk hmem h1 h2 hp r1;replace k10:=eqp k10;cases b with
     |stop q=>
      simp at hov1 hc;clear hcont d2 r3 hy r2;rcases hif with⟨hc0,hl⟩|⟨hc0,hl⟩<;>subst hl<;>(simp[*,za,kids,zh,ints,encW];exact⟨y,⟨rfl,rfl⟩⟩)
     |ok r=>
      have hyr:=hy r rfl;subst hyr;obtain⟨_,r4,_⟩:=r3 y rfl;simp at hov1 hc;simp only at d2 hcont ⊢;clear hy r3;by_cases hk:y.kind=12
      ·rw[if_pos hk]at d2 hcont ⊢;have hyl:x.outs.length=y.l.length:=by
        rcases r4 with r4|r4|r4|r4
        ·have:=r4.2;simp at this;exact this
        ·omega
        ·omega
        ·omega
       have hset:=rset_spec (j:=j) (h:=none) (T:=T.set j v2) hS2 (ym hjl) r2 hou hyl holn;rw[ySa]at hset;simp[ints]at hset;obtain⟨c1,c2,c3,c4⟩:=hcont _ _ _ rfl rfl;have hov2:=zFa u S2 none (T.set j (setW v2 x.outs y.l));simp at hov2;replace hk:=eqp hk;clear hcont r4 hyl holn hou r2;rcases hif with⟨hc0,hl⟩|⟨hc0,hl⟩<;>subst hl<;>(simp[*,za,kids,zh,ints,encW];refine⟨⟨rest,setW v2 x.outs y.l,S2⟩,?_⟩;simp[*])
      ·rw[if_neg hk]at d2 hcont ⊢;have hk0:(y.kind=0)=False:=eqn r4.ne;replace hk:=eqn hk;clear hcont r4 holn hou r2 d2;rcases hif with⟨hc0,hl⟩|⟨hc0,hl⟩<;>subst hl<;>(simp[*,za,kids,zh,ints,encW])
    rw[if_neg k10]at d2 hcont ⊢;by_cases k11:x.kind=11
    ·rw[if_pos k11]at d2 hcont ⊢;obtain⟨y,hc,hy⟩:=hlo k11;rw[ySa]at hc;have hlk:=(loopW_ok (evN_ok hU w') o0 k11 (w'+1) (l:=la) (v:=v1) (by rw[hol];exact(o1.k11 k11).1) d5 S0).2.2;generalize zWd (evN u w') x (w'+1) la v1 S0=q at*;obtain⟨b,v2,S2⟩:=q;simp only at hc hy hlk;have hov1:=zFa u S2 (goH b) (T.set j v2);simp[za,encW,ints]at hc;clear hch hlo hsm hset1 hgt1 hin1 hL o0 o1 o2 oc hkk d3 d4 hS0 hf0 hlt0 hcur hol hSS hfu;replace k10:=eqn k10;replace k11:=eqp k11;cases b with
     |stop q=>
      simp at hov1 hc;clear hcont d2 hy hlk;simp[*,za,zh,ints,encW];exact⟨y,⟨rfl,rfl⟩⟩
     |ok r=>
      have hyr:=hy r rfl;subst hyr;simp at hov1 hc;simp only at d2 hcont ⊢;clear hy;by_cases hk:y.kind=0
      ·rw[if_pos hk]at d2 ⊢;obtain⟨c1,c2,c3,c4⟩:=hcont _ _ _ rfl hk;clear hcont hlk;rw[hk]at hc;clear hk;simp[*,za,zh,ints,encW];refine⟨⟨rest,v2,S2⟩,?_⟩;simp[*]
      ·rw[if_neg hk]at d2 ⊢;replace hk:=eqn hk;clear hcont d2 hlk;simp[*,za,zh,ints,encW]
    rw[if_neg k11]at d2 hcont ⊢;have h39:3<=x.kind/\x.kind<=9:=by
     have a1:=of_eq_false e1;have a2:=of_eq_false e2;have a3:=of_eq_false e12;have a4:=of_eq_false e13;have a5:=of_eq_false e14;have a6:=of_eq_false e15;omega
    obtain⟨z,hc,hz⟩:=hsm h39;have hpm:=plainW_ok (evN_ok hU w') hU o1 h39 hol (zHa S0);have hou:=o1.outs;have hol1:x.outs.length<=1:=by
     have q:=o1.k3;have q4:=o1.k4;have q5:=o1.k5;have q6:=o1.k6;have q8:=o1.k8;have q9:=o1.k9;rcases(show x.kind=3\/x.kind=4\/x.kind=5\/x.kind=6\/x.kind=7\/x.kind=8\/x.kind=9 from by omega)with e|e|e|e|e|e|e
     ·have:=(q e).2;omega
     ·have:=(q4 e).2;omega
     ·have:=(q5 e).2.2;omega
     ·have:=(q6 e).2.2;omega
     ·obtain⟨_,_,_,_,t⟩:=o1.k7 e;omega
     ·have:=q8 e;omega
     ·have:=(q9 e).2;omega
    have hfs:=fun S2 (h:Mono1 (zHa S0) S2)=>(⟨h.arrs.trans hS0.1,by have:=h.out;have:=hlt0;simp only[zHa]at*;omega⟩:FitS u S2)
    generalize plainW u (evN u w') x la (zHa S0)=q at*;obtain⟨b,S2⟩:=q;simp only at hc hz hpm;have hS2:=hfs S2 hpm.1;have hov1:=zFa u S2 (goH b) (T.set j v1);simp[za,ints]at hc;replace k10:=eqn k10;replace k11:=eqn k11;clear hch hlo hsm hL o0 o2 oc hkk d3 d4 hf0 hlt0 hcur hol hSS hfu hfs;cases b with
    |stop q=>
     simp at hov1 hc;clear hcont d2 hz hpm o1 hset1 hgt1 hin1 hou;simp[*,za,zh,ints,encW];exact⟨⟨0,[]⟩,⟨rfl,rfl⟩⟩
    |ok r=>
     simp at hov1 hc;simp only at d2 hcont ⊢;obtain⟨c1,c2,c3,c4⟩:=hcont _ _ _ rfl rfl;have hrl:=hpm.2 r rfl;clear hcont hpm
     match hx1:x.outs with
     | []=>
      rw[hx1]at hrl c3 d2;have hr0:r=[]:=yU hrl;subst hr0;clear hz o1 hset1 hgt1 hin1 hou hol1 hrl;simp only[setW]at d2 c3;rw[hx1]at hc;simp only[yEa]at hc;simp[*,za,zh,ints,encW,setW];refine⟨⟨rest,v1,S2⟩,?_⟩;simp[*]
     | [o]=>
      rw[hx1]at hrl;obtain⟨mm,hmm⟩:=len1 hrl;subst hmm;have hzz:=hz mm rfl;subst hzz;obtain⟨i1,i2,y,i3⟩:=hin1 o hx1;have f1:=hset1 o z S2 none hS2 hx1 (by rw[<-hx1];exact hou);have f2:=hgt1 S2 none hS2;have hov2:=zFa u S2 none (T.set j (setW v1 x.outs [z]));simp at hov2;rw[hx1]at hov2 f1 c3 d2 hc;simp only[yq,yEa]at hc;clear hz o1 hset1 hgt1 hin1 hou hol1 hrl;simp[*,za,zh,ints,encW,-getElem?_pos,yH];refine⟨⟨rest,setW v1 [o] [z],S2⟩,?_⟩;simp[*]
     |_::_::_=>rw[hx1]at hol1;simp at hol1
theorem rspecs{u:Unt}(hU:OkU u):∀w,SpecR u w
 |0=>rlist_of hU (fun w' h=>by cases h)
 |w+1=>rlist_of hU (fun w' h=>by cases h;exact rspecs hU w)
theorem rptrs_snoc(x:Arr):∀(d:List Arr) (b:Nat),zhb b (d++[x])=zhb b d++[.mslice (b+d.length) 0 x.size.toNat 1]
 | [],b=>by simp[zhb]
 |y::d,b=>by
  simp only[yaa,zhb,rptrs_snoc x d,yca];rw[show b+1+d.length=b+(d.length+1)from by omega]
set_option maxHeartbeats 4000000 in
theorem refplay_spec(u:Unt)(hz:USz u)(hb:∀f∈u.flows,wtL f.body<1099511000000)(inp:List Int)(fu:Int)(hf:fu<=100000000000):zk E 13 [encUnt u,ints inp,.int .i64 fu] []=some (.ret (encRn (playM u inp fu)),[]):=by
 have hck:=rcheck_spec u hz hb;rw[<-check_eq]at hck;refine zb rfl rfl rfl (by simp[encUnt,ints]) ?_;unfold playM;by_cases h0:(zta u).1=0
 ·rw[if_pos h0];have hU:=checkM_ok hz h0;have hS0:FitS u (run0 u inp fu):=by
   refine⟨?_,?_⟩
   ·simp[run0,List.map_map,yF]
   ·simp[run0];omega
  obtain⟨f,hf',hfm,hp',hfp⟩:=hU.main;have hpl:=zXb u zF [] hz.flows;have hpn:(((zU u.flows zF).toNat:Nat):Int)=zU u.flows zF:=Int.toNat_of_nonneg hp';obtain⟨z,hc,hzz⟩:=rcall_of hU (rspecs hU (run0 u inp fu).fuel) hf' (l:=[]) (T:=[]) hS0 (yh _) (by simp);rw[hpn]at hc;have hm:=(callW_ok (evN_ok hU (run0 u inp fu).fuel) (hU.body f hfm) (l:=[]) (by simp) (run0 u inp fu)).1;have hmw:mainW u (run0 u inp fu)=callW (evN u (run0 u inp fu).fuel) f [] (run0 u inp fu):=by unfold mainW;rw[hf']
  rw[hmw];clear hmw;generalize callW (evN u (run0 u inp fu).fuel) f [] (run0 u inp fu)=q at*;obtain⟨a,S1⟩:=q;simp only at hc hm hzz;have hS1:=hS0.mono hm;have hov:=zFa u S1 (goH a) [];have hr4:∀h X,((stR u S1 h []).set 0 X)[0]? =some X:=by
   intro h X;rw[ym (by rw[stR_len hS1];unfold nbR;omega)]
  have hmx:(if fu<0 then 0 else fu)=max fu 0:=by split<;>omega
  generalize zta u=ck at*;obtain⟨c0,c1⟩:=ck;simp only at h0;subst h0;simp[encUnt,arrs]at hck;simp[encUnt,arrs,zF]at hpl;simp only[zF]at hc;unfold stR at hc;simp[runR,run0,zIc,arrs,ints]at hc;simp[*,F13,encUnt,arrs,ints];refine zn u.arrays K13_0 B13_0 (fun d=>[(10,.int .i64 d.length)]) (fun d=> .arr 10 [.agg [.slice .plain 2 (u.arrays.map zN),flows u.flows,.slice .plain 1 (inp.map (PV.int .i64)),acc 1 (zhb 1 d),.int .i64 0,.int .i64 0,.slice .fit 1 [],.int .i64 0,.int .i64 (max fu 0),.bool false]]::d.map (fun x=>intO (yn x.size.toNat 0))) (fun d=>True) (by have:=hz.arrs;omega) (by simp[zhb]) ?_ ?_
  ·intros d x r s1 hl' hlt hget hget' hwr hp g1 g2 g3 g4;simp at g1 g3;have hsz:=hU.arrs x hl'.mem;have hsn:=rptrs_snoc x d 1;rw[show 1+d.length=d.length+1 from by omega]at hsn;have hdec:decide (d.length<u.arrays.length)=true:=decide_eq_true hlt;have hs1:(x.size<0)=False:=eqn (by omega);have hs2:(0<=x.size)=True:=eqp (by omega);have hs3:(x.size<=9223372036854775807)=True:=eqp (by omega);have hs4:(8*x.size<=281474976710656)=True:=eqp (by omega);have hrow:Obj.arr 1 (yn x.size.toNat (PV.int .i64 0))=intO (yn x.size.toNat 0):=by simp[intO]
   have hroom:((zhb 1 d).length+1)*24<=zG:=by
    rw[rptrs_len];have:=hz.arrs;simp only[zG];omega
   have hao:acc 1 (zhb 1 d++[.mslice (d.length+1) 0 x.size.toNat 1])= .slice .own 1 (zhb 1 d++[.mslice (d.length+1) 0 x.size.toNat 1]):=acc_ne (by simp);have hio:isOwn (acc 1 (zhb 1 d++[.mslice (d.length+1) 0 x.size.toNat 1]))=some (1,zhb 1 d++[.mslice (d.length+1) 0 x.size.toNat 1]):=by
    rw[acc_ne (by simp)];rfl
   clear hl' hget' hlt hp hsz hU hS0 hm hr4 hck hS1 hc hov hpl hzz hf' hfm hp' hfp hpn;simp[*,zN]
   try rw[hao]
  ·intros s1 hp g1 g2 g3 g4;simp at g1 g3;have hdec:(u.arrays.map (fun x=>intO (yn x.size.toNat 0)))=List.map (intO ∘ fun a=>yn a.size.toNat 0) u.arrays:=rfl;rw[hdec]at g4;clear hdec hU hS0 hp hck hm hS1 hf' hfm hp' hfp hpn;cases a with
   |stop k=>
    simp at hc;simp[stR,runR,zIc,arrs,ints]at hov;clear hzz;simp[*,encRn,runEnd,ints]
   |ok n=>
    replace hzz:=hzz n rfl;subst hzz;simp at hc;simp[stR,runR,zIc,arrs,ints]at hov;simp[*,encRn,runEnd,ints]
 ·rw[if_neg h0];generalize zta u=ck at*;obtain⟨c0,c1⟩:=ck;simp only at h0;simp[encUnt]at hck;replace h0:=eqn h0;simp[*,F13,encUnt,encRn,ints]
def awK:Unt:=⟨[],[⟨zF,1,0,[1,1],[⟨1,0,2,[],[],[0],[],[]⟩,⟨4,3,0,[],[0,0],[1],[],[]⟩,⟨15,0,0,[],[1],[],[],[]⟩]⟩]⟩
def awV:Unt:=⟨[],[⟨zF,1,0,[1,1],[⟨1,0,2,[],[],[0],[],[]⟩,⟨1,0,4,[],[],[1],[],[]⟩,⟨15,0,0,[],[1],[],[],[]⟩]⟩]⟩
theorem two_22:two 3 2 2=(4,true):=by
 rw[two_eqC];decide+kernel
theorem awK_1:zic awK=awV:=by
 have h4:=two_22;simp[zic,awK,awV,flowK,zsc,roundsK,zdb,zOc,zPc,getA,setA,madeK,numK,at0,zRb,h4,wrL,wrGo,wrN,sumW,valW,zH,zL,zVa,zCb,zj,zqd,Node.ends]
theorem awK_0:(zta awK).1=0:=by decide+kernel
theorem awV_1:(playM awV [] 3).status=1/\(playM awV [] 3).code=4:=by decide+kernel
theorem awK_sz:USz awK:=⟨by decide,by decide,by decide+kernel,by decide+kernel⟩
theorem awV_sz:USz awV:=⟨by decide,by decide,by decide+kernel,by decide+kernel⟩
theorem nilU_sz:USz ⟨[],[]⟩:=⟨by decide,by decide,by simp,by simp⟩
theorem plain_true(l:List Node)(hl:l.length<1099511627776)(h:∀x∈l,x.kind<=4\/x.kind=15):zk E 48 [zh l] []=some (.ret (.bool true),[]):=by
 refine zb rfl rfl rfl (by simp[zh]) ?_;simp[F48,zh];refine zn l K48_0 B48_0 (fun d=>[(3,.int .i64 d.length)]) (fun _=>[]) (fun d=>True) (by omega) (by simp) ?_ ?_
 ·intros d x r s1 hl' hlt hget hget' hw1 hp h1 h2 h3 h4;simp at h1 h2 h3;have hx:=h x hl'.mem;have hdec:decide (d.length<l.length)=true:=decide_eq_true hlt;obtain⟨k,o,n,s,a,us,ps,ks⟩:=x;simp only at hx;clear hl' h;by_cases hk:(4:Int)<k
  ·have e1:((4:Int)<k)=True:=eqp hk;have e2:(k=15)=True:=eqp (by omega);clear hx hk;simp[*,za]
  ·have e1:((4:Int)<k)=False:=eqn hk;clear hx hk;simp[*,za]
 ·intros s1 hp h1 h2 h3 h4;simp at h1 h2 h3;clear h;simp[*]
set_option maxHeartbeats 2000000 in
theorem right_true(ars:List Arr)(f g:Flow)(hn:f.name=zF)(hlf:f.body.length<1099511627776)(hlg:g.body.length<1099511627776)(hf:∀x∈f.body,x.kind<=4\/x.kind=15)(hg:∀x∈g.body,x.kind≠3/\x.kind≠4):
  zk E 31 [encUnt ⟨ars,[f]⟩,encUnt ⟨ars,[g]⟩] []=some (.ret (.bool true),[]):=by
 refine zb rfl rfl rfl (by simp[encUnt]) ?_;have hp:=plain_true f.body hlf hf;obtain⟨fn,ft,fp,fts,fb⟩:=f;obtain⟨gn,gt,gp,gts,gb⟩:=g;simp only at hn hlf hlg hf hg hp;subst hn;simp[F31,encUnt,flows];refine zn [()] K31_1 B31_1 (fun d=>[(5,.int .i64 d.length)]) (fun _=>[]) (fun d=>True) (by simp) (by simp) ?_ ?_
 ·intros d x r s1 hl' hlt hget hget' hw1 hp' h1 h2 h3 h4;have hd:d.length=0:=by have:d.length<1:=hlt;omega
  have w1:zY .i64 1=1:=zq (by omega) (by omega);simp[hd]at h1 h2 h3;clear hl' hlt hget hget' hw1;simp[zh]at hp;simp[*,zd,zh,zF];refine zn gb K31_0 B31_0 (fun e=>[(7,.int .i64 e.length)]) (fun _=>[]) (fun e=>True) (by omega) (by simp) ?_ ?_
  ·intros e y r' s3 jl jlt jget jget' jw1 jp j1 j2 j3 j4;simp at j1 j2 j3;have jdec:decide (e.length<gb.length)=true:=decide_eq_true jlt;obtain⟨y3,y4⟩:=hg y jl.mem;obtain⟨k,o,n,s,a,us,ps,ks⟩:=y;simp only at y3 y4;have e3:(k=3)=False:=eqn y3;have e4:(k=4)=False:=eqn y4;clear jl hg hf y3 y4;simp[*,za,zF,zh]
  ·intros s3 jp j1 j2 j3 j4;simp at j1 j2 j3;clear hg hf;simp[*,zF,zh]
 ·intros s1 hp' h1 h2 h3 h4;simp at h1 h2 h3;clear hg hf;simp[*]
theorem unit12_spec(t:List Int)(l:List Node):zk E 30 [ints t,zh l] []=some (.ret (encUnt ⟨[],[⟨zF,1,0,t,l⟩]⟩),[]):=by
 refine zb rfl rfl rfl (by simp[ints,zh]) ?_;simp[F30,ints,zh,encUnt,arrs,flows,zd,zF]
set_option maxHeartbeats 4000000 in
theorem awake12_spec:zk E 15 [] []=some (.ret (.bool true),[]):=by
 refine zb rfl rfl rfl (by simp) ?_;have k1:=known_spec awK awK_sz (by decide+kernel);rw[awK_0,awK_1]at k1;have k2:=known_spec ⟨[],[]⟩ nilU_sz (by simp);have k0:(zta ⟨[],[]⟩).1=1:=by decide+kernel
 rw[k0]at k2;have u1:=unit12_spec [1,1] [⟨1,0,2,[],[],[0],[],[]⟩,⟨4,3,0,[],[0,0],[1],[],[]⟩,⟨15,0,0,[],[1],[],[],[]⟩];have r1:=refplay_spec awV awV_sz (by decide+kernel) [] 3 (by omega);have rt:=right_true [] ⟨zF,1,0,[1,1],[⟨1,0,2,[],[],[0],[],[]⟩,⟨4,3,0,[],[0,0],[1],[],[]⟩,⟨15,0,0,[],[1],[],[],[]⟩]⟩ ⟨zF,1,0,[1,1],[⟨1,0,2,[],[],[0],[],[]⟩,⟨1,0,4,[],[],[1],[],[]⟩,⟨15,0,0,[],[1],[],[],[]⟩]⟩ rfl (by decide) (by decide) (by decide) (by decide);obtain⟨a1,a2⟩:=awV_1;generalize playM awV [] 3=m1 at*;obtain⟨s1,c1,o1,k1',f1⟩:=m1;simp only at a1 a2;subst a1 a2;simp[encRn,ints,encUnt,awK,awV,arrs,flows,zd,zh,za,kids,zF]at k1 k2 r1 rt u1;simp[*,F15,ints,sealSt,sealBx,zla,killAll]
mutual
def wgN:Node->Nat
 |⟨_,_,_,s,a,u,p,ks⟩=>a.length+u.length+p.length+s.length+wgK ks
def wgS:List Node->Nat
 | []=>0
 |x::r=>wgN x+wgS r
def wgK:List (List Node)->Nat
 | []=>0
 |l::r=>1+(l.length+wgS l)+wgK r
end
theorem wgN_eq(x:Node):wgN x=x.args.length+x.outs.length+x.params.length+x.name.length+wgK x.kids:=by cases x;rfl
theorem wgS_append(a b:List Node):wgS (a++b)=wgS a+wgS b:=by
 induction a with
 |nil=>simp[wgS]
 |cons x r ih=>simp[wgS,ih];omega
theorem wgK_append(a b:List (List Node)):wgK (a++b)=wgK a+wgK b:=by
 induction a with
 |nil=>simp[wgK]
 |cons x r ih=>simp[wgK,ih];omega
mutual
theorem wgN_le:∀x:Node,wgN x<=wtN x
 |⟨_,_,_,s,a,u,p,ks⟩=>by have:=wgK_le ks;simp only[wgN,wtN];omega
theorem wgS_le:∀l:List Node,l.length+wgS l<=wtL l
 | []=>by simp[wgS,wtL]
 |x::r=>by have h1:=wgN_le x;have h2:=wgS_le r;simp only[wgS,wtL,yca];omega
theorem wgK_le:∀l:List (List Node),wgK l<=wtK l
 | []=>by simp[wgK,wtK]
 |x::r=>by have h1:=wgS_le x;have h2:=wgK_le r;simp only[wgK,wtK];omega
end
theorem split_wgS{l d:List Node}{x:Node}{r:List Node}(h:Split l d x r):wgS l=wgS d+wgN x+wgS r:=by
 have:=h.eq;subst this;simp[wgS_append,PE.U.wgS];omega
theorem split_wgK{l d:List (List Node)}{x:List Node}{r:List (List Node)}(h:Split l d x r):PE.U.wgK l=PE.U.wgK d+(1+(x.length+PE.U.wgS x))+PE.U.wgK r:=by
 have:=h.eq;subst this;simp[wgK_append,PE.U.wgK];omega
theorem wnodes_spec:∀(N:Nat) (l:List Node) (σ:zc),wtL l<=N->N<1099511627776->zk E 20 [zh l] σ=some (.ret (.int .i64 ((l.length:Int)+(wgS l:Int))),σ):=by
 intro N
 induction N using yfa with
 |ind N ih=>
  intro l σ hl hN;refine zb rfl rfl rfl (by simp) ?_;have hll:=zsb l;have hgl:=wgS_le l;simp[F20,zh];refine zn l K20_1 B20_1 (fun d=>[(3,.int .i64 ((l.length:Int)+(wgS d:Int))),(4,.int .i64 d.length)]) (fun _=>σ) (fun d=>True) (by omega) (by simp[wgS]) ?_ ?_
  ·intros d x r s hl' hlt hget hget' hw hp h1 h2 h3 h4;simp at h1 h3;clear h2;have hx:=hl'.mem;have hs:=split_wgS hl';have hwx:=zZc hx;have hne:=wgN_eq x;have hxk:=zwa x;have hlk:=len_wtK x.kids;have hgk:=wgK_le x.kids;have w1:zY .i64 ((l.length:Int)+(wgS d:Int)+(x.args.length:Int))=(l.length:Int)+(wgS d:Int)+(x.args.length:Int):=zq (by omega) (by omega);have w2:zY .i64 ((l.length:Int)+(wgS d:Int)+(x.args.length:Int)+(x.outs.length:Int))=(l.length:Int)+(wgS d:Int)+(x.args.length:Int)+(x.outs.length:Int):=zq (by omega) (by omega);have w3:zY .i64 ((l.length:Int)+(wgS d:Int)+(x.args.length:Int)+(x.outs.length:Int)+(x.params.length:Int))=(l.length:Int)+(wgS d:Int)+(x.args.length:Int)+(x.outs.length:Int)+(x.params.length:Int):=zq (by omega) (by omega);have w4:zY .i64 ((l.length:Int)+(wgS d:Int)+(x.args.length:Int)+(x.outs.length:Int)+(x.params.length:Int)+(x.name.length:Int))=(l.length:Int)+(wgS d:Int)+(x.args.length:Int)+(x.outs.length:Int)+(x.params.length:Int)+(x.name.length:Int):=zq (by omega) (by omega);have hk:∀q∈x.kids,zk E 20 [zh q] []=some (.ret (.int .i64 ((q.length:Int)+(wgS q:Int))),[]):=fun q hq=>ih (wtL q) (by have:=zEb hq;omega) q [] (yh _) (by have:=zEb hq;omega)
   have he:(wgS (d++[x]):Int)=(wgS d:Int)+(x.args.length:Int)+(x.outs.length:Int)+(x.params.length:Int)+(x.name.length:Int)+(wgK x.kids:Int):=by rw[wgS_append];simp only[wgS];omega
   have hb:(l.length:Int)+(wgS d:Int)+(x.args.length:Int)+(x.outs.length:Int)+(x.params.length:Int)+(x.name.length:Int)+(wgK x.kids:Int)<9000000000000:=by omega
   have hkl:x.kids.length<1099511627776:=by omega
   clear hs hwx hne hxk hgk hgl;simp[*,za,ints,kids];generalize hA:(l.length:Int)+(wgS d:Int)+(x.args.length:Int)+(x.outs.length:Int)+(x.params.length:Int)+(x.name.length:Int)=A at*;have hA0:0<=A:=by omega
   clear w1 w2 w3 w4;refine zn x.kids K20_0 B20_0 (fun d=>[(3,.int .i64 (A+(wgK d:Int))),(5,.int .i64 d.length)]) (fun _=>σ) (fun d=>True) (by omega) (by simp[wgK]) ?_ ?_
   ·intros e y r' s' hl2 hlt2 hget2 hget2' hw2 hp' k1 k2 k3 k4;simp at k1 k3;clear k2;have hy:=hl2.mem;have hsk:=split_wgK hl2;have hv:=hk y hy;have v1:zY .i64 (A+(wgK e:Int)+1)=A+(wgK e:Int)+1:=zq (by omega) (by omega);have v2:zY .i64 (A+(wgK e:Int)+1+((y.length:Int)+(wgS y:Int)))=A+(wgK e:Int)+1+((y.length:Int)+(wgS y:Int)):=zq (by omega) (by omega);have hf:(wgK (e++[y]):Int)=(wgK e:Int)+1+((y.length:Int)+(wgS y:Int)):=by rw[wgK_append];simp only[wgK];omega
    clear hsk hb hA0 hl2 hk he;simp[zh]at hv
    (simp[*,zh,kids,za])<;>(repeat' (first|((first|refine sP _ ?_ ?_|refine gP _ ?_ ?_|refine sN _ ?_ ?_|refine gN _ ?_ ?_)<;>intro hc<;>(first|replace hc:=eqn hc|replace hc:=eqp hc)<;>simp[*,zh,kids,za])|((first|refine sM _ ?_ ?_|refine gM _ ?_ ?_|refine sB _ ?_ ?_|refine gB _ ?_ ?_)<;>intro hc<;>simp[*,zh,kids,za])))
    all_goals omega
   ·intros s' hp' k1 k2 k3 k4;simp at k1 k3;clear k2
    (simp[*,zh,kids,za])<;>(repeat' (first|((first|refine sP _ ?_ ?_|refine gP _ ?_ ?_|refine sN _ ?_ ?_|refine gN _ ?_ ?_)<;>intro hc<;>(first|replace hc:=eqn hc|replace hc:=eqp hc)<;>simp[*,zh,kids,za])|((first|refine sM _ ?_ ?_|refine gM _ ?_ ?_|refine sB _ ?_ ?_|refine gB _ ?_ ?_)<;>intro hc<;>simp[*,zh,kids,za])))
    all_goals omega
  ·intros s hp h1 h2 h3 h4;simp at h1 h3
   (simp[*,zh])<;>(repeat' (first|((first|refine sP _ ?_ ?_|refine gP _ ?_ ?_|refine sN _ ?_ ?_|refine gN _ ?_ ?_)<;>intro hc<;>(first|replace hc:=eqn hc|replace hc:=eqp hc)<;>simp[*,zh])|((first|refine sM _ ?_ ?_|refine gM _ ?_ ?_|refine sB _ ?_ ?_|refine gB _ ?_ ?_)<;>intro hc<;>simp[*,zh])))
def wgF:List Flow->Nat
 | []=>0
 |f::r=>f.name.length+f.types.length+(f.body.length+wgS f.body)+wgF r
def wgA:List Arr->Nat
 | []=>0
 |a::r=>a.name.length+wgA r
theorem wgF_append(a b:List Flow):wgF (a++b)=wgF a+wgF b:=by
 induction a with
 |nil=>simp[wgF]
 |cons x r ih=>simp[wgF,ih];omega
theorem wgA_append(a b:List Arr):wgA (a++b)=wgA a+wgA b:=by
 induction a with
 |nil=>simp[wgA]
 |cons x r ih=>simp[wgA,ih];omega
def weightM(u:Unt):Nat:=u.arrays.length+u.flows.length+wgA u.arrays+wgF u.flows
theorem weight_spec(u:Unt)(h:weightM u<1099511627776)(hb:∀f∈u.flows,wtL f.body<1099511627776):zk E 8 [encUnt u] []=some (.ret (.int .i64 (weightM u)),[]):=by
 refine zb rfl rfl rfl (by simp[encUnt]) ?_;unfold weightM at h ⊢;have w0:zY .i64 ((u.arrays.length:Int)+(u.flows.length:Int))=(u.arrays.length:Int)+(u.flows.length:Int):=zq (by omega) (by omega);simp[F8,encUnt,arrs,flows,w0];generalize hA:(u.arrays.length:Int)+(u.flows.length:Int)=A at*;have hA0:0<=A:=by omega
 have hA1:A+(wgA u.arrays:Int)+(wgF u.flows:Int)<1099511627776:=by omega
 refine zn u.arrays K8_0 B8_0 (fun d=>[(3,.int .i64 (A+(wgA d:Int))),(4,.int .i64 d.length)]) (fun _=>[]) (fun d=>True) (by omega) (by simp[wgA]) ?_ ?_
 ·intros d x r s hl' hlt hget hget' hw hp h1 h2 h3 h4;simp at h1 h3;have hs:wgA u.arrays=wgA d+x.name.length+wgA r:=by rw[hl'.eq,wgA_append];simp only[wgA];omega
  have v1:zY .i64 (A+(wgA d:Int)+(x.name.length:Int))=A+(wgA d:Int)+(x.name.length:Int):=zq (by omega) (by omega);have hf:(wgA (d++[x]):Int)=(wgA d:Int)+(x.name.length:Int):=by rw[wgA_append];simp only[wgA];omega
  clear hs hA hA0 hA1 h
  (simp[*,zN,arrs,encUnt,flows])<;>(repeat' (first|((first|refine sP _ ?_ ?_|refine gP _ ?_ ?_|refine sN _ ?_ ?_|refine gN _ ?_ ?_)<;>intro hc<;>(first|replace hc:=eqn hc|replace hc:=eqp hc)<;>simp[*,zN,arrs,encUnt,flows])|((first|refine sM _ ?_ ?_|refine gM _ ?_ ?_|refine sB _ ?_ ?_|refine gB _ ?_ ?_)<;>intro hc<;>simp[*,zN,arrs,encUnt,flows])))
  all_goals omega
 ·intros s hp h1 h2 h3 h4;simp at h1 h3
  (simp[*,zN,arrs,encUnt,flows])<;>(repeat' (first|((first|refine sP _ ?_ ?_|refine gP _ ?_ ?_|refine sN _ ?_ ?_|refine gN _ ?_ ?_)<;>intro hc<;>(first|replace hc:=eqn hc|replace hc:=eqp hc)<;>simp[*,zN,arrs,encUnt,flows])|((first|refine sM _ ?_ ?_|refine gM _ ?_ ?_|refine sB _ ?_ ?_|refine gB _ ?_ ?_)<;>intro hc<;>simp[*,zN,arrs,encUnt,flows])))
  refine zn u.flows K8_1 B8_1 (fun d=>[(3,.int .i64 (A+(wgA u.arrays:Int)+(wgF d:Int))),(5,.int .i64 d.length)]) (fun _=>[]) (fun d=>True) (by omega) (by simp[wgF]) ?_ ?_
  ·intros d x r s hl' hlt hget hget' hw hp h1 h2 h3 h4;simp at h1 h3;have hs:wgF u.flows=wgF d+(x.name.length+x.types.length+(x.body.length+wgS x.body))+wgF r:=by rw[hl'.eq,wgF_append];simp only[wgF];omega
   have v1:zY .i64 (A+(wgA u.arrays:Int)+(wgF d:Int)+(x.name.length:Int))=A+(wgA u.arrays:Int)+(wgF d:Int)+(x.name.length:Int):=zq (by omega) (by omega);have v2:zY .i64 (A+(wgA u.arrays:Int)+(wgF d:Int)+(x.name.length:Int)+(x.types.length:Int))=A+(wgA u.arrays:Int)+(wgF d:Int)+(x.name.length:Int)+(x.types.length:Int):=zq (by omega) (by omega);have v3:zY .i64 (A+(wgA u.arrays:Int)+(wgF d:Int)+(x.name.length:Int)+(x.types.length:Int)+((x.body.length:Int)+(wgS x.body:Int)))=A+(wgA u.arrays:Int)+(wgF d:Int)+(x.name.length:Int)+(x.types.length:Int)+((x.body.length:Int)+(wgS x.body:Int)):=zq (by omega) (by omega);have hf:(wgF (d++[x]):Int)=(wgF d:Int)+(x.name.length:Int)+(x.types.length:Int)+((x.body.length:Int)+(wgS x.body:Int)):=by rw[wgF_append];simp only[wgF];omega
   have hv:=wnodes_spec (wtL x.body) x.body [] (yh _) (hb x hl'.mem);simp[zh]at hv;clear hs hA hA0 hA1 h
   (simp[*,zd,zh,ints,arrs,encUnt,flows])<;>(repeat' (first|((first|refine sP _ ?_ ?_|refine gP _ ?_ ?_|refine sN _ ?_ ?_|refine gN _ ?_ ?_)<;>intro hc<;>(first|replace hc:=eqn hc|replace hc:=eqp hc)<;>simp[*,zd,zh,ints,arrs,encUnt,flows])|((first|refine sM _ ?_ ?_|refine gM _ ?_ ?_|refine sB _ ?_ ?_|refine gB _ ?_ ?_)<;>intro hc<;>simp[*,zd,zh,ints,arrs,encUnt,flows])))
   all_goals omega
  ·intros s hp h1 h2 h3 h4;simp at h1 h3
   (simp[*,zN,arrs,encUnt,flows])<;>(repeat' (first|((first|refine sP _ ?_ ?_|refine gP _ ?_ ?_|refine sN _ ?_ ?_|refine gN _ ?_ ?_)<;>intro hc<;>(first|replace hc:=eqn hc|replace hc:=eqp hc)<;>simp[*,zN,arrs,encUnt,flows])|((first|refine sM _ ?_ ?_|refine gM _ ?_ ?_|refine sB _ ?_ ?_|refine gB _ ?_ ?_)<;>intro hc<;>simp[*,zN,arrs,encUnt,flows])))
   all_goals omega
theorem check08_spec{u:Unt}(hz:USz u)(hb:∀f∈u.flows,wtL f.body<100000000):zk E 25 [encUnt u] []=some (.ret (.tup [.int .i64 (zta u).1,.int .i64 (zta u).2]),[]):=by
 have d:=rcheck_spec u hz (fun f hf=>by have:=hb f hf;omega);rw[<-check_eq]at d;exact d
theorem fits_spec(u:Unt)(hz:USz u)(hb:∀f∈u.flows,wtL f.body<100000000):zk E 16 [encUnt u] []=some (.ret (.bool true),[]):=by
 refine zb rfl rfl rfl (by simp[encUnt]) ?_;have k:=known_spec u hz hb;have c:=check08_spec hz hb;by_cases h:(zta u).1=0
 ·have hz1:=knownM_sz hz;have hw1:=knownM_wt hb;have c1:=check08_spec hz1 hw1;rw[knownM_check hz h]at c1;rw[checkM_fst h]at c;rw[if_pos h,if_pos h]at k;have hs:=heads_spec u.arrays u.flows flowK (fun f=>⟨rfl,rfl,rfl,rfl⟩) (fun f hf=>((checkM_ok hz h).pars f hf).2) hz;rw[show(⟨u.arrays,u.flows⟩:Unt)=u from rfl,show(⟨u.arrays,u.flows.map flowK⟩:Unt)=zic u from rfl]at hs;generalize zic u=v at*;clear hz hb hz1 hw1 h;simp[encUnt]at k c c1 hs;simp[*,F16,encUnt]
 ·rw[if_neg h,if_neg h]at k;have hs:=same08_self ⟨[],[]⟩ nilU_sz (by simp);have h':=eqn h;generalize(zta u).1=a at*;generalize(zta u).2=b at*;clear hz hb h;simp[encUnt,arrs,flows]at k c hs;simp[*,F16,encUnt,arrs,flows]
theorem knownAny_spec(u:Unt)(hz:USz u)(hb:∀f∈u.flows,wtL f.body<100000000)(hw:weightM u<1099511627776):zk E 5 [encUnt u] []=some (.ret (.bool true),[]):=by
 refine zb rfl rfl rfl (by simp[encUnt]) ?_;have ha:=awake12_spec;have hwt:=weight_spec u hw (fun f hf=>by have:=hb f hf;omega);have hf:=fits_spec u hz hb;simp[encUnt]at hwt hf;by_cases c1:(1000:Int)<weightM u
 ·have c1':=eqp c1;clear hw hz hb
  (simp[*,F5,encUnt])<;>(repeat' (first|((first|refine sP _ ?_ ?_|refine gP _ ?_ ?_|refine sN _ ?_ ?_|refine gN _ ?_ ?_)<;>intro hc<;>(first|replace hc:=eqn hc|replace hc:=eqp hc)<;>simp[*,F5,encUnt])|((first|refine sM _ ?_ ?_|refine gM _ ?_ ?_|refine sB _ ?_ ?_|refine gB _ ?_ ?_)<;>intro hc<;>simp[*,F5,encUnt])))
 ·have c1':=eqn c1;clear hw hz hb
  (simp[*,F5,encUnt])<;>(repeat' (first|((first|refine sP _ ?_ ?_|refine gP _ ?_ ?_|refine sN _ ?_ ?_|refine gN _ ?_ ?_)<;>intro hc<;>(first|replace hc:=eqn hc|replace hc:=eqp hc)<;>simp[*,F5,encUnt])|((first|refine sM _ ?_ ?_|refine gM _ ?_ ?_|refine sB _ ?_ ?_|refine gB _ ?_ ?_)<;>intro hc<;>simp[*,F5,encUnt])))
end PE.U

namespace PE
open Go Go.RowKit
def Kept(w w':World):Prop:=w.keptBut w' (fun _=>False)/\∀k,k<w.heap.size->w'.heap[k]? =w.heap[k]?
theorem Kept.frame{w w':World}(h:Kept w w')(X:MemPlace->Prop):w.keptBut w' X:=World.keptBut_mono (fun p hp=>hp.elim) h.1
theorem kept_of_ext{w w':World}{G':Gh}{st':zc}(h:Ext (gh0 w) [] w G' st' w'):Kept w w':=
 ⟨by
  refine⟨h.os,h.output,fun i hi=>?_⟩;have hb:=(h.prot i (by simp[gh0,hi])).2.2;rw[hb];cases w.heap[i]? with
  |none=>rfl
  |some o=>cases o<;>first|exact⟨rfl,rfl,rfl,fun _ _=>rfl⟩|exact .inr ⟨rfl,rfl⟩|rfl,fun k hk=>(h.prot k (by simp[gh0,hk])).2.2⟩
theorem Kept.same{W w':World}(h:Kept W w'){p:MemPlace}(hp:p.block<W.heap.size):W.sameAt w' p:=by
 cases p with
 |cell b o=>exact World.cell?_of_block (w:=W) (h.2 b hp)
 |map b=>exact h.2 b hp
theorem Kept.trod{H:Type}{enc:TypeId×Value->H}{P:Program}{t:TypeId}(hl:laidOutB P=true)(hr:P.readableRec t=true)(hrow:t<P.types.size){W W':World}{v:Value}{d:DataW H}{ps:List MemPlace}
  (h:DataW.Trod enc P W 0 (fun _=>true) true t v d ps) (hb:Kept W W') (hlt:∀x∈ps,x.block<W.heap.size):
  DataW.Trod enc P W' 0 (fun b=>decide (b<W.heap.size)) true t v d ps:=
 WideElems.Trod_stays hl hr hrow h (fun x hx=>hb.same (hlt x hx)) (fun x hx=>by simpa using hlt x hx)
theorem walk_kept{P:Program}{T:Tabs}{E:Env}(hE:EnvOk P T E){f:Nat}{args:List PV}{margs:Array Value}{w:World}{st':zc}(hT:T.In (gh0 w) w)
  (h:zk E f args []=some (.ret (.bool true),st')) (hsz:margs.size=args.length)
  (hv:∀(j:Nat) c x,args[j]? =some c->margs[j]? =some x->VR ((gh0 w).im w) (fun _=>none) c x):
  Calls P f margs w fun e w'=>e= .returned (.bool true)/\Kept w w':=by
 obtain⟨n,hn⟩:=zKc.1 h;have hloc:zg (gh0 w).lc []=fun _=>none:=by funext l;simp[zg]
 refine((callF_good hE n _ _ _ _ _ hn (gh0 w) w margs rfl hT (gh0_sim w) hsz (by rw[hloc];exact hv)).2).mono ?_;intro e w' he;cases e with
 |returned mv=>
  obtain⟨G',q1,q2,q3⟩:=he;exact⟨by rw[VR.bool_inv q3],kept_of_ext q2⟩
 |panicked ch=>exact he.elim
 |outgrown=>exact he.elim
def IsRow(k:IntKind)(w:World)(a:Option Addr)(len cap:Nat)(zs:List Int):Prop:=
 (a=none/\len=0/\cap=0/\zs=[])∨
 ∃x,a=some x/\len<=cap/\cap<=maxLen/\zs.length=cap/\(∀i,i<zs.length->w.cell? (x.add i)=some (.int k (zs.getD i 0)))/\∀n∈zs,(Lit.int k n).wf=true
theorem row_vr{k:IntKind}{w:World}{a:Option Addr}{len cap:Nat}{zs:List Int}(h:IsRow k w a len cap zs):VR ((gh0 w).im w) (fun _=>none) (.slice .plain 1 ((zs.take len).map (PV.int k))) (.slice a len cap):=by
 rcases h with⟨rfl,rfl,rfl,rfl⟩|⟨x,rfl,hl,hm,hz,hcell,hwz⟩
 ·exact .slice0 _ _ _ _ (by simp) (by simp)
 ·by_cases h0:len=0
  ·subst h0;exact .slice0 _ _ _ _ (by simp) (by simp)
  ·obtain⟨b,off,spot⟩:=x;have hc:=hcell 0 (by omega);have hspot:spot=none:=by simpa[Addr.add]using World.cell?_spot hc
   subst hspot;have hlen:((zs.take len).map (PV.int k)).length=len:=by simp;omega
   have hget:∀(i:Nat) e,((zs.take len).map (PV.int k))[i]? =some e->i<len/\e= .int k (zs.getD i 0):=by
    intro i e he;rw[yf,yc]at he;obtain⟨n,hn,rfl⟩:=he;rw[yC]at hn;split at hn
    ·rename_i hi;refine⟨hi,?_⟩;rw[List.getD_eq_getElem?_getD,hn];rfl
    ·cases hn
   have:=VR.slice (I:=(gh0 w).im w) (L:=fun _=>none) (k:= .plain) (sz:=1) (l:=(zs.take len).map (PV.int k)) (b:=b) (o:=off) (cap:=cap)
    (by simp) (by simp) (by rw[hlen];exact hl) (fun i _=> .int k (zs.getD i 0)) ?_ ?_ ?_
   ·rw[hlen]at this;exact this
   ·intro i e he;obtain⟨_,rfl⟩:=hget i e he;exact⟨rfl,rfl⟩
   ·intro i e j c he hc;obtain⟨hi,rfl⟩:=hget i e he;cases j with
    |zero=>
     refine⟨gh0_im ?_,rfl⟩;have:=hcell i (by omega);have e:(⟨b,off,none⟩:Addr).add i=⟨b,off+i*1+0,none⟩:=by
      unfold Addr.add;by_cases hi0:i=0<;>simp[hi0]
     rw[<-e];exact this
    |succ j=>simp[cellsOf]at hc
   ·intro i e j c he hc;obtain⟨hi,rfl⟩:=hget i e he;cases j with
    |zero=>simp[cellsOf]at hc;subst hc;exact .int _ _
    |succ j=>simp[cellsOf]at hc
theorem row_len{k:IntKind}{w:World}{a:Option Addr}{len cap:Nat}{zs:List Int}(h:IsRow k w a len cap zs):(zs.take len).length<=maxLen:=by
 rcases h with⟨rfl,rfl,rfl,rfl⟩|⟨x,rfl,hl,hm,hz,hcell,hwz⟩
 ·simp
 ·rw[List.length_take];omega
def bytesOf(zs:List Int):List UInt8:=zs.map fun n=>yNa n.toNat
theorem row_u8{w:World}{a:Option Addr}{len cap:Nat}{zs:List Int}(h:IsRow .u8 w a len cap zs):VR ((gh0 w).im w) (fun _=>none) (.slice .plain 1 ((bytesOf (zs.take len)).map fun b=> .int .u8 b.toNat)) (.slice a len cap):=by
 have hv:=row_vr h;have:(bytesOf (zs.take len)).map (fun b=>PV.int .u8 b.toNat)=(zs.take len).map (PV.int .u8):=by
  unfold bytesOf;rw[List.map_map];apply yxa;intro n hn;have hwf:(Lit.int .u8 n).wf=true:=by
   rcases h with⟨rfl,rfl,rfl,rfl⟩|⟨x,rfl,hl,hm,hz,hcell,hwz⟩
   ·simp at hn
   ·exact hwz n (List.mem_of_mem_take hn)
  have hb:0<=n/\n<=255:=by
   simp only[Lit.wf,ya,decide_eq_true_eq]at hwf;exact hwf
  simp only[Function.comp_apply,PV.int.injEq,true_and];have:(yNa n.toNat).toNat=n.toNat:=by
   rw[UInt8.toNat_ofNat'];omega
  omega
 rw[this];exact hv
theorem bytes_len{w:World}{a:Option Addr}{len cap:Nat}{zs:List Int}(h:IsRow .u8 w a len cap zs):(bytesOf (zs.take len)).length<=maxLen:=by
 unfold bytesOf;rw[yO];exact row_len h
theorem str_vr(I:Im)(L:Loc){b:ByteArray}:VR I L (.str b.data.toList) (.string b):=VR.str b.data.toList
theorem str_len{b:ByteArray}(h:b.size<=maxLen):b.data.toList.length<=maxLen:=by
 rw[Array.length_toList];exact h
theorem maxLen_eq:maxLen=9223372036854775807:=by decide
def packT(P:Program)(e:TypeId)(l:List PV):PV:=match P.underlying e with
 |some (.struct _)=> .agg l
 |_=>l.headD .undef
def CellsT(P:Program):Nat->TypeId->List PV->Prop
 |0,_,_=>False
 |n+1,t,l=>match P.underlying t with
  |some (.int k)=>∃z,l=[.int k z]/\(Lit.int k z).wf=true
  |some .bool=>∃b,l=[.bool b]
  |some .string=>∃s:List UInt8,l=[.str s]/\s.length<=maxLen
  |some (.struct fs)=>l.length=P.cellsOf t/\∀f∈fs.toList,CellsT P n f.type ((l.drop f.offset).take (P.cellsOf f.type))
  |some (.slice e)=>∃es:List (List PV),l=[.slice .plain (P.cellsOf e) (es.map (packT P e))]/\es.length<=maxLen/\∀c∈es,CellsT P n e c
  |_=>False
def layB(P:Program):List Field->Nat->Nat->Bool
 | [],o,total=>o==total
 |f::r,o,total=>f.offset==o&&layB P r (o+P.cellsOf f.type) total
def plainB(P:Program)(S:List TypeId):Bool:=S.all fun t=>match P.underlying t with
 |some (.int _)=>P.cellsOf t==1
 |some .bool=>P.cellsOf t==1
 |some .string=>P.cellsOf t==1
 |some (.struct fs)=>fs.toList.all (fun f=>S.contains f.type)&&layB P fs.toList 0 (P.cellsOf t)
 |some (.slice e)=>S.contains e&&decide (0<P.cellsOf e)&&(P.cellsOf t==1)
 |_=>false
def R1(w:World)(c:PV)(v:Value):Prop:=VR ((gh0 w).im w) (fun _=>none) c v/\zQc c=true/\v.oneCell'=true
def Rs(w:World)(l:List PV)(cs:List Value):Prop:=l.length=cs.length/\∀(j:Nat) c v,l[j]? =some c->cs[j]? =some v->R1 w c v
theorem Rs.one{w:World}{c:PV}{v:Value}(h:R1 w c v):Rs w [c] [v]:=by
 refine⟨rfl,fun j c' v' hc hv=>?_⟩;cases j with
 |zero=>cases hc;cases hv;exact h
 |succ j=>simp at hc
theorem Rs.append{w:World}{l l':List PV}{cs cs':List Value}(h:Rs w l cs)(h':Rs w l' cs'):Rs w (l++l') (cs++cs'):=by
 refine⟨by simp[h.1,h'.1],fun j c v hc hv=>?_⟩;by_cases hj:j<l.length
 ·rw[yj hj]at hc;rw[yj (by rw[<-h.1];exact hj)]at hv;exact h.2 j c v hc hv
 ·rw[yo (by omega)]at hc;rw[yo (by rw[<-h.1];omega)]at hv;rw[<-h.1]at hv;exact h'.2 _ c v hc hv
theorem lay_join{P:Program}{w:World}{n:Nat}{cs:List Value}:∀(fs:List Field) (o total:Nat),layB P fs o total=true->total=cs.length→
  (∀f∈fs,∃l,Rs w l ((cs.drop f.offset).take (P.cellsOf f.type))/\CellsT P n f.type l)→
  ∃l,Rs w l (cs.drop o)/\∀f∈fs,o<=f.offset/\CellsT P n f.type ((l.drop (f.offset-o)).take (P.cellsOf f.type)):=by
 intro fs
 induction fs with
 |nil=>
  intro o total hl ht _;simp only[layB,beq_iff_eq]at hl;refine⟨[],⟨?_,fun j c v hc=>by simp at hc⟩,fun f hf=>by simp at hf⟩;simp;omega
 |cons f r ih=>
  intro o total hl ht hf;simp only[layB,ya,beq_iff_eq]at hl;obtain⟨ho,hl⟩:=hl;obtain⟨l1,h1,c1⟩:=hf f (by simp);obtain⟨l2,h2,c2⟩:=ih _ _ hl ht (fun g hg=>hf g (by simp[hg]));have hle:∀(fs:List Field) (o total:Nat),layB P fs o total=true->o<=total:=by
   intro fs
   induction fs with
   |nil=>intro o total h;simp only[layB,beq_iff_eq]at h;omega
   |cons g s ihs=>
    intro o total h;simp only[layB,ya,beq_iff_eq]at h;have:=ihs _ _ h.2;omega
  have hn:=hle _ _ _ hl;have hlen1:l1.length=P.cellsOf f.type:=by
   rw[h1.1,List.length_take,List.length_drop,ho];omega
  refine⟨l1++l2,?_,?_⟩
  ·have:cs.drop o=(cs.drop f.offset).take (P.cellsOf f.type)++cs.drop (o+P.cellsOf f.type):=by
    rw[ho,<-List.drop_drop,List.take_append_drop]
   rw[this];exact h1.append h2
  ·intro g hg;rcases yG.1 hg with rfl|hg
   ·refine⟨by omega,?_⟩;rw[ho,Nat.sub_self,List.drop_zero,List.take_append_of_le_length (by omega),<-hlen1,List.take_length];exact c1
   ·obtain⟨h3,h4⟩:=c2 g hg;refine⟨by omega,?_⟩;have:(l1++l2).drop (g.offset-o)=l2.drop (g.offset-(o+P.cellsOf f.type)):=by
     rw[List.drop_append,List.drop_of_length_le (by omega),List.nil_append];congr 1;omega
    rw[this];exact h4
theorem cells_packed{P:Program}{n:Nat}{e:TypeId}{l:List PV}{w:World}{cs:List Value}(hr:Rs w l cs)(h:CellsT P n e l)(hsz:cs.length=P.cellsOf e):cellsOf (packT P e l)=l/\zx (packT P e l)=true:=by
 cases n with
 |zero=>exact h.elim
 |succ n=>
  unfold CellsT at h;unfold packT;split at h
  ·rename_i hu;rw[hu];obtain⟨z,rfl,_⟩:=h;exact⟨rfl,rfl⟩
  ·rename_i hu;rw[hu];obtain⟨z,rfl⟩:=h;exact⟨rfl,rfl⟩
  ·rename_i hu;rw[hu];obtain⟨z,rfl,_⟩:=h;exact⟨rfl,rfl⟩
  ·rename_i hu;rw[hu];exact⟨rfl,rfl⟩
  ·rename_i hu;rw[hu];obtain⟨z,rfl,_⟩:=h;exact⟨rfl,rfl⟩
  ·exact h.elim
theorem cells?_get{w:World}{a:Addr}{n:Nat}{cs:List Value}(h:w.cells? 0 a n=some cs):cs.length=n/\∀(j:Nat) v,cs[j]? =some v->w.cell? (a.add j)=some v:=by
 unfold World.cells? at h;rw[if_pos (Nat.zero_le _)]at h;have hl:=mapM_some_length h;rw[yYa]at hl;refine⟨hl,fun j v hv=>?_⟩;have hj:j<n:=by rw[<-hl];exact(yb.1 hv).1
 have:=mapM_some_get h j j (by rw[List.getElem?_range hj]);rw[this,hv]
theorem add_add(a:Addr)(ha:a.spot=none)(x:Nat):a.add x=⟨a.block,a.off+x,none⟩:=by
 obtain⟨b,o,s⟩:=a;simp only at ha;subst ha;unfold Addr.add;by_cases h:x=0<;>simp[h]
theorem read_cells{P:Program}{S:List TypeId}(hp:plainB P S=true){H:Type}{enc:TypeId×Value->H}{w:World}{sp:Nat->Bool}:∀(n:Nat) (t:TypeId) (cs:List Value) (x:DataW H×List MemPlace),t∈S→
  DataW.trod enc P w 0 sp true n t cs=some x->∃l,Rs w l cs/\CellsT P n t l/\cs.length=P.cellsOf t:=by
 intro n
 induction n with
 |zero=>intro t cs x _ h;simp[DataW.trod]at h
 |succ n ih=>
  intro t cs x ht h;have hp':=yi.1 hp t ht;split at hp'
  ·rename_i k hu;obtain⟨z,rfl,_,hw⟩:=DataW.trod_int hu h;simp only[beq_iff_eq]at hp';exact⟨[.int k z],Rs.one ⟨.int _ _,rfl,rfl⟩,by unfold CellsT;rw[hu];exact⟨z,rfl,hw⟩,by simp[hp']⟩
  ·rename_i hu;obtain⟨z,rfl,_⟩:=DataW.trod_bool hu h;simp only[beq_iff_eq]at hp';exact⟨[.bool z],Rs.one ⟨.bool _,rfl,rfl⟩,by unfold CellsT;rw[hu];exact⟨z,rfl⟩,by simp[hp']⟩
  ·rename_i hu;obtain⟨s,rfl,_,hm⟩:=DataW.trod_string hu h;simp only[beq_iff_eq]at hp';exact⟨[.str s.data.toList],Rs.one ⟨str_vr _ _,rfl,rfl⟩,by unfold CellsT;rw[hu];exact⟨_,rfl,str_len hm⟩,by simp[hp']⟩
  ·rename_i fs hu;simp only[ya,yi,yra]at hp';obtain⟨hS,hlay⟩:=hp';obtain⟨xs,m,hm,_,hlen,hxs,hget⟩:=DataW.trod_struct hu h;cases hm;obtain⟨l,hl,hc⟩:=lay_join (w:=w) (n:=n) (cs:=cs) fs.toList 0 _ hlay hlen.symm (by
    intro f hf;obtain⟨i,hi⟩:=yW hf;have hi':fs[i]? =some f:=by simpa using hi
    have hg:=hget i f hi';have hlt:i<xs.length:=by rw[hxs];simpa using(yb.1 hi).1
    rw[yd hlt]at hg;obtain⟨l,h1,h2,_⟩:=ih _ _ _ (hS f hf) hg;exact⟨l,h1,h2⟩)
   rw[List.drop_zero]at hl;refine⟨l,hl,?_,hlen⟩;unfold CellsT;rw[hu];exact⟨by rw[hl.1,hlen],fun f hf=>by have:=(hc f hf).2;rwa[Nat.sub_zero]at this⟩
  ·rename_i e hu;simp only[ya,yra,decide_eq_true_eq,beq_iff_eq]at hp';obtain⟨⟨hS,hpos⟩,h1⟩:=hp';rcases DataW.trod_slice hu h with⟨rfl,_⟩|⟨a,len,cap,elems,rest,m,hm,rfl,_,_,hle,hcap,hel,hget,_,_⟩
   ·exact⟨[.slice .plain (P.cellsOf e) []],Rs.one ⟨.slice0 _ _ _ _ (by simp) (by simp),rfl,rfl⟩,by unfold CellsT;rw[hu];exact⟨[],rfl,by simp,by simp⟩,by simp[h1]⟩
   ·cases hm;have key:∀i,i<len->∃l:List PV,l.length=P.cellsOf e/\CellsT P n e l/\cellsOf (packT P e l)=l/\zx (packT P e l)=true/\∀(j:Nat) c,l[j]? =some c->∃v,w.cell? ((a.add (i*P.cellsOf e)).add j)=some v/\R1 w c v:=by
     intro i hi;have hg:=hget i hi;have hlt:i<elems.length:=by omega
     rw[yd hlt,yJ]at hg;obtain⟨cs',h2,h3⟩:=hg;obtain⟨l,h4,h5,h6⟩:=ih _ _ _ hS h3;obtain⟨h7,h8⟩:=cells?_get h2;obtain⟨h9,h10⟩:=cells_packed h4 h5 h6;refine⟨l,by rw[h4.1,h6],h5,h9,h10,fun j c hc=>?_⟩;have hj:j<cs'.length:=by rw[<-h4.1];exact(yb.1 hc).1
     exact⟨cs'[j],h8 j _ (yd hj),h4.2 j c _ hc (yd hj)⟩
    let g:Nat->List PV:=fun i=>if hi:i<len then(key i hi).choose else[]
    have hg:∀i,i<len->(g i).length=P.cellsOf e/\CellsT P n e (g i)/\cellsOf (packT P e (g i))=g i/\zx (packT P e (g i))=true/\∀(j:Nat) c,(g i)[j]? =some c->∃v,w.cell? ((a.add (i*P.cellsOf e)).add j)=some v/\R1 w c v:=by
     intro i hi;have:=(key i hi).choose_spec;simp only[g,dif_pos hi];exact this
    have hel':∀(i:Nat) x,(((yI len).map g).map (packT P e))[i]? =some x->i<len/\x=packT P e (g i):=by
     intro i x hx;rw[List.map_map,yf,yc]at hx;obtain⟨k,hk,rfl⟩:=hx;obtain⟨hk1,hk2⟩:=yb.1 hk;rw[yYa]at hk1;rw[List.getElem_range]at hk2;subst hk2;exact⟨hk1,rfl⟩
    refine⟨[.slice .plain (P.cellsOf e) (((yI len).map g).map (packT P e))],Rs.one ⟨?_,rfl,rfl⟩,?_,by simp[h1]⟩
    ·by_cases h0:len=0
     ·subst h0;exact .slice0 _ _ _ _ (by simp) (by simp)
     ·obtain⟨q1,q2,q3,q4,q5⟩:=hg 0 (by omega);have hspot:a.spot=none:=by
       have hlt:0<(g 0).length:=by omega
       obtain⟨v,hv,_⟩:=q5 0 _ (yd hlt);have hsp:=World.cell?_spot hv;obtain⟨b,o,s⟩:=a;simpa[Addr.add]using hsp
      obtain⟨b,o,s⟩:=a;simp only at hspot;subst hspot;have hcell:∀(i:Nat) x (j:Nat) c,(((yI len).map g).map (packT P e))[i]? =some x->(cellsOf x)[j]? =some c->∃v,(gh0 w).im w b (o+i*P.cellsOf e+j)=some v/\R1 w c v:=by
       intro i x j c hx hc;obtain⟨hi,rfl⟩:=hel' i x hx;obtain⟨r1,r2,r3,r4,r5⟩:=hg i hi;rw[r3]at hc;obtain⟨v,hv,hr⟩:=r5 j c hc;refine⟨v,gh0_im ?_,hr⟩;rw[add_add ⟨b,o,none⟩ rfl,add_add ⟨b,o+i*P.cellsOf e,none⟩ rfl]at hv;exact hv
      have hlen:(((yI len).map g).map (packT P e)).length=len:=by simp
      have:=VR.slice (I:=(gh0 w).im w) (L:=fun _=>none) (k:= .plain) (sz:=P.cellsOf e) (l:=((yI len).map g).map (packT P e)) (b:=b) (o:=o) (cap:=cap)
       (by simp) (by simp) (by rw[hlen];exact hle) (fun i j=>((gh0 w).im w b (o+i*P.cellsOf e+j)).getD (.bool false)) ?_ ?_ ?_
      ·rw[hlen]at this;exact this
      ·intro i x hx;obtain⟨hi,rfl⟩:=hel' i x hx;obtain⟨r1,r2,r3,r4,r5⟩:=hg i hi;exact⟨by rw[r3,r1],r4⟩
      ·intro i x j c hx hc;obtain⟨v,hv,hr⟩:=hcell i x j c hx hc;simp only[hv,yea];exact⟨trivial,hr.2.2⟩
      ·intro i x j c hx hc;obtain⟨v,hv,hr⟩:=hcell i x j c hx hc;simp only[hv,yea];exact hr.1
    ·unfold CellsT;rw[hu];refine⟨(yI len).map g,rfl,by simp;omega,?_⟩;intro c hc;rw[yja]at hc;obtain⟨i,hi,rfl⟩:=hc;exact(hg i (yya.1 hi)).2.1
  ·cases hp'
theorem packT_struct{P:Program}{e:TypeId}{fs:Array Field}(hu:P.underlying e=some (.struct fs))(l:List PV):packT P e l= .agg l:=by
 unfold packT;rw[hu]
theorem le_max{n:Nat}(h:n<=maxLen):n<=9223372036854775807:=by rw[maxLen_eq]at h;exact h
theorem read_row{P:Program}{S:List TypeId}(hp:plainB P S=true){H:Type}{enc:TypeId×Value->H}{w:World}{sp:Nat->Bool}{t e:TypeId}(hu:P.underlying t=some (.slice e))(ht:t∈S){v:Value}{d:DataW H}{ps:List MemPlace}(h:DataW.Trod enc P w 0 sp true t v d ps){a:Option Addr}{len cap:Nat}(hv:v= .slice a len cap):
  ∃(n:Nat) (es:List (List PV)),VR ((gh0 w).im w) (fun _=>none) (.slice .plain (P.cellsOf e) (es.map (packT P e))) v/\es.length<=maxLen/\∀c∈es,CellsT P n e c:=by
 subst hv;obtain⟨n,hf⟩:=h;obtain⟨l,h1,h2,h3⟩:=read_cells hp n t _ _ ht hf;cases n with
 |zero=>exact h2.elim
 |succ n=>
  unfold CellsT at h2;rw[hu]at h2;obtain⟨es,rfl,hm,hc⟩:=h2;exact⟨n,es,(h1.2 0 _ _ rfl (by simp[Value.cells])).1,hm,hc⟩
def CellsD(P:Program){H:Type}:Nat->TypeId->List PV->DataW H->Prop
 |0,_,_,_=>False
 |n+1,t,l,d=>match P.underlying t with
  |some (.int k)=>∃z,l=[.int k z]/\(Lit.int k z).wf=true
  |some .bool=>∃b,l=[.bool b]
  |some .string=>∃s:List UInt8,l=[.str s]/\s.length<=maxLen/\d= .lit (.string s)
  |some (.struct fs)=>l.length=P.cellsOf t/\∃ds,d= .agg ds/\∀(i:Nat) f,fs.toList[i]? =some f->∃y,ds[i]? =some y/\CellsD P n f.type ((l.drop f.offset).take (P.cellsOf f.type)) y
  |some (.slice e)=>∃(es:List (List PV)) (ds:List (DataW H)),l=[.slice .plain (P.cellsOf e) (es.map (packT P e))]/\es.length<=maxLen/\es.length=ds.length/\(ds=[]\/∃sp,d= .slice ds sp)/\∀(i:Nat) c y,es[i]? =some c->ds[i]? =some y->CellsD P n e c y
  |_=>False
theorem CellsD.toT{P:Program}{H:Type}:∀(n:Nat) (t:TypeId) (l:List PV) (d:DataW H),CellsD P n t l d->CellsT P n t l:=by
 intro n
 induction n with
 |zero=>intro t l d h;exact h.elim
 |succ n ih=>
  intro t l d h;unfold CellsD at h;unfold CellsT;split at h
  ·rename_i hu;(try rw[hu]);exact h
  ·rename_i hu;(try rw[hu]);exact h
  ·rename_i hu;(try rw[hu]);obtain⟨s,h1,h2,_⟩:=h;exact⟨s,h1,h2⟩
  ·rename_i hu;(try rw[hu]);obtain⟨h1,ds,h2,h3⟩:=h
   refine⟨h1,fun f hf=>?_⟩;obtain⟨i,hi⟩:=yW hf;obtain⟨y,_,hy⟩:=h3 i f hi;exact ih _ _ _ hy
  ·rename_i hu;(try rw[hu]);obtain⟨es,ds,h1,h2,h3,h4,h5⟩:=h
   refine⟨es,h1,h2,fun c hc=>?_⟩;obtain⟨i,hi⟩:=yW hc;have hlt:i<ds.length:=by rw[<-h3];exact(yb.1 hi).1
   exact ih _ _ _ (h5 i c _ hi (yd hlt))
  ·exact h.elim
theorem lay_joinD{P:Program}{w:World}{cs:List Value}{Φ:Field->List PV->Prop}:∀(fs:List Field) (o total:Nat),layB P fs o total=true->total=cs.length→
  (∀f∈fs,∃l,Rs w l ((cs.drop f.offset).take (P.cellsOf f.type))/\Φ f l)→
  ∃l,Rs w l (cs.drop o)/\∀f∈fs,o<=f.offset/\Φ f ((l.drop (f.offset-o)).take (P.cellsOf f.type)):=by
 intro fs
 induction fs with
 |nil=>
  intro o total hl ht _;simp only[layB,beq_iff_eq]at hl;refine⟨[],⟨?_,fun j c v hc=>by simp at hc⟩,fun f hf=>by simp at hf⟩;simp;omega
 |cons f r ih=>
  intro o total hl ht hf;simp only[layB,ya,beq_iff_eq]at hl;obtain⟨ho,hl⟩:=hl;obtain⟨l1,h1,c1⟩:=hf f (by simp);obtain⟨l2,h2,c2⟩:=ih _ _ hl ht (fun g hg=>hf g (by simp[hg]));have hle:∀(fs:List Field) (o total:Nat),layB P fs o total=true->o<=total:=by
   intro fs
   induction fs with
   |nil=>intro o total h;simp only[layB,beq_iff_eq]at h;omega
   |cons g s ihs=>
    intro o total h;simp only[layB,ya,beq_iff_eq]at h;have:=ihs _ _ h.2;omega
  have hn:=hle _ _ _ hl;have hlen1:l1.length=P.cellsOf f.type:=by
   rw[h1.1,List.length_take,List.length_drop,ho];omega
  refine⟨l1++l2,?_,?_⟩
  ·have:cs.drop o=(cs.drop f.offset).take (P.cellsOf f.type)++cs.drop (o+P.cellsOf f.type):=by
    rw[ho,<-List.drop_drop,List.take_append_drop]
   rw[this];exact h1.append h2
  ·intro g hg;rcases yG.1 hg with rfl|hg
   ·refine⟨by omega,?_⟩;rw[ho,Nat.sub_self,List.drop_zero,List.take_append_of_le_length (by omega),<-hlen1,List.take_length];exact c1
   ·obtain⟨h3,h4⟩:=c2 g hg;refine⟨by omega,?_⟩;have:(l1++l2).drop (g.offset-o)=l2.drop (g.offset-(o+P.cellsOf f.type)):=by
     rw[List.drop_append,List.drop_of_length_le (by omega),List.nil_append];congr 1;omega
    rw[this];exact h4
theorem read_cellsD{P:Program}{S:List TypeId}(hp:plainB P S=true){H:Type}{enc:TypeId×Value->H}{w:World}{sp:Nat->Bool}:∀(n:Nat) (t:TypeId) (cs:List Value) (x:DataW H×List MemPlace),t∈S→
  DataW.trod enc P w 0 sp true n t cs=some x->∃l,Rs w l cs/\CellsD P n t l x.1/\cs.length=P.cellsOf t:=by
 intro n
 induction n with
 |zero=>intro t cs x _ h;simp[DataW.trod]at h
 |succ n ih=>
  intro t cs x ht h;have hp':=yi.1 hp t ht;split at hp'
  ·rename_i k hu;obtain⟨z,rfl,_,hw⟩:=DataW.trod_int hu h;simp only[beq_iff_eq]at hp';exact⟨[.int k z],Rs.one ⟨.int _ _,rfl,rfl⟩,by unfold CellsD;rw[hu];exact⟨z,rfl,hw⟩,by simp[hp']⟩
  ·rename_i hu;obtain⟨z,rfl,_⟩:=DataW.trod_bool hu h;simp only[beq_iff_eq]at hp';exact⟨[.bool z],Rs.one ⟨.bool _,rfl,rfl⟩,by unfold CellsD;rw[hu];exact⟨z,rfl⟩,by simp[hp']⟩
  ·rename_i hu;obtain⟨s,rfl,hx,hm⟩:=DataW.trod_string hu h;simp only[beq_iff_eq]at hp';exact⟨[.str s.data.toList],Rs.one ⟨str_vr _ _,rfl,rfl⟩,by unfold CellsD;rw[hu];exact⟨_,rfl,str_len hm,by rw[hx]⟩,by simp[hp']⟩
  ·rename_i fs hu;simp only[ya,yi,yra]at hp';obtain⟨hS,hlay⟩:=hp';obtain⟨xs,m,hm,hx,hlen,hxs,hget⟩:=DataW.trod_struct hu h;cases hm;obtain⟨l,hl,hc⟩:=lay_joinD (w:=w) (cs:=cs) (Φ:=fun f l=>∀(i:Nat),fs.toList[i]? =some f->∃y,(xs.map (·.1))[i]? =some y/\CellsD P n f.type l y) fs.toList 0 _ hlay hlen.symm (by
    intro f hf;have key:∀(i:Nat),fs.toList[i]? =some f->∃l y,Rs w l ((cs.drop f.offset).take (P.cellsOf f.type))/\(xs.map (·.1))[i]? =some y/\CellsD P n f.type l y:=by
     intro i hi;have hi':fs[i]? =some f:=by simpa using hi
     have hg:=hget i f hi';have hlt:i<xs.length:=by rw[hxs];simpa using(yb.1 hi).1
     rw[yd hlt]at hg;obtain⟨l,h1,h2,_⟩:=ih _ _ _ (hS f hf) hg;exact⟨l,_,h1,by rw[yf,yd hlt];rfl,h2⟩
    have same:∀(i j:Nat),fs.toList[i]? =some f->fs.toList[j]? =some f->i=j\/True:=fun _ _ _ _=> .inr trivial
    obtain⟨i,hi⟩:=yW hf;obtain⟨l,y,h1,h2,h3⟩:=key i hi;refine⟨l,h1,fun j hj=>?_⟩;have gi:=hget i f (by simpa using hi);have gj:=hget j f (by simpa using hj);have e:xs[i]? =xs[j]? :=gi.symm.trans gj;refine⟨y,?_,h3⟩;rw[yf,<-e,<-yf];exact h2)
   rw[List.drop_zero]at hl;refine⟨l,hl,?_,hlen⟩;unfold CellsD;rw[hu];refine⟨by rw[hl.1,hlen],xs.map (·.1),by rw[hx],fun i f hi=>?_⟩;have:=(hc f (yu hi)).2 i hi;rwa[Nat.sub_zero]at this
  ·rename_i e hu;simp only[ya,yra,decide_eq_true_eq,beq_iff_eq]at hp';obtain⟨⟨hS,hpos⟩,h1⟩:=hp';rcases DataW.trod_slice hu h with⟨rfl,_⟩|⟨a,len,cap,elems,rest,m,hm,rfl,hx,_,hle,hcap,hel,hget,_,_⟩
   ·exact⟨[.slice .plain (P.cellsOf e) []],Rs.one ⟨.slice0 _ _ _ _ (by simp) (by simp),rfl,rfl⟩,by unfold CellsD;rw[hu];exact⟨[],[],rfl,by simp,rfl,.inl rfl,by simp⟩,by simp[h1]⟩
   ·cases hm;have key:∀i,i<len->∃l:List PV,l.length=P.cellsOf e/\(∃y,(elems.map (·.1))[i]? =some y/\CellsD P n e l y)/\cellsOf (packT P e l)=l/\zx (packT P e l)=true/\∀(j:Nat) c,l[j]? =some c->∃v,w.cell? ((a.add (i*P.cellsOf e)).add j)=some v/\R1 w c v:=by
     intro i hi;have hg:=hget i hi;have hlt:i<elems.length:=by omega
     rw[yd hlt,yJ]at hg;obtain⟨cs',h2,h3⟩:=hg;obtain⟨l,h4,h5,h6⟩:=ih _ _ _ hS h3;obtain⟨h7,h8⟩:=cells?_get h2;obtain⟨h9,h10⟩:=cells_packed h4 (CellsD.toT _ _ _ _ h5) h6;refine⟨l,by rw[h4.1,h6],⟨_,by rw[yf,yd hlt];rfl,h5⟩,h9,h10,fun j c hc=>?_⟩;have hj:j<cs'.length:=by rw[<-h4.1];exact(yb.1 hc).1
     exact⟨cs'[j],h8 j _ (yd hj),h4.2 j c _ hc (yd hj)⟩
    let g:Nat->List PV:=fun i=>if hi:i<len then(key i hi).choose else[]
    have hg:∀i,i<len->(g i).length=P.cellsOf e/\(∃y,(elems.map (·.1))[i]? =some y/\CellsD P n e (g i) y)/\cellsOf (packT P e (g i))=g i/\zx (packT P e (g i))=true/\∀(j:Nat) c,(g i)[j]? =some c->∃v,w.cell? ((a.add (i*P.cellsOf e)).add j)=some v/\R1 w c v:=by
     intro i hi;have:=(key i hi).choose_spec;simp only[g,dif_pos hi];exact this
    have hel':∀(i:Nat) x,(((yI len).map g).map (packT P e))[i]? =some x->i<len/\x=packT P e (g i):=by
     intro i x hx;rw[List.map_map,yf,yc]at hx;obtain⟨k,hk,rfl⟩:=hx;obtain⟨hk1,hk2⟩:=yb.1 hk;rw[yYa]at hk1;rw[List.getElem_range]at hk2;subst hk2;exact⟨hk1,rfl⟩
    refine⟨[.slice .plain (P.cellsOf e) (((yI len).map g).map (packT P e))],Rs.one ⟨?_,rfl,rfl⟩,?_,by simp[h1]⟩
    ·by_cases h0:len=0
     ·subst h0;exact .slice0 _ _ _ _ (by simp) (by simp)
     ·obtain⟨q1,q2,q3,q4,q5⟩:=hg 0 (by omega);have hspot:a.spot=none:=by
       have hlt:0<(g 0).length:=by omega
       obtain⟨v,hv,_⟩:=q5 0 _ (yd hlt);have hsp:=World.cell?_spot hv;obtain⟨b,o,s⟩:=a;simpa[Addr.add]using hsp
      obtain⟨b,o,s⟩:=a;simp only at hspot;subst hspot;have hcell:∀(i:Nat) x (j:Nat) c,(((yI len).map g).map (packT P e))[i]? =some x->(cellsOf x)[j]? =some c->∃v,(gh0 w).im w b (o+i*P.cellsOf e+j)=some v/\R1 w c v:=by
       intro i x j c hx hc;obtain⟨hi,rfl⟩:=hel' i x hx;obtain⟨r1,r2,r3,r4,r5⟩:=hg i hi;rw[r3]at hc;obtain⟨v,hv,hr⟩:=r5 j c hc;refine⟨v,gh0_im ?_,hr⟩;rw[add_add ⟨b,o,none⟩ rfl,add_add ⟨b,o+i*P.cellsOf e,none⟩ rfl]at hv;exact hv
      have hlen:(((yI len).map g).map (packT P e)).length=len:=by simp
      have:=VR.slice (I:=(gh0 w).im w) (L:=fun _=>none) (k:= .plain) (sz:=P.cellsOf e) (l:=((yI len).map g).map (packT P e)) (b:=b) (o:=o) (cap:=cap)
       (by simp) (by simp) (by rw[hlen];exact hle) (fun i j=>((gh0 w).im w b (o+i*P.cellsOf e+j)).getD (.bool false)) ?_ ?_ ?_
      ·rw[hlen]at this;exact this
      ·intro i x hx;obtain⟨hi,rfl⟩:=hel' i x hx;obtain⟨r1,r2,r3,r4,r5⟩:=hg i hi;exact⟨by rw[r3,r1],r4⟩
      ·intro i x j c hx hc;obtain⟨v,hv,hr⟩:=hcell i x j c hx hc;simp only[hv,yea];exact⟨trivial,hr.2.2⟩
      ·intro i x j c hx hc;obtain⟨v,hv,hr⟩:=hcell i x j c hx hc;simp only[hv,yea];exact hr.1
    ·unfold CellsD;rw[hu];refine⟨(yI len).map g,elems.map (·.1),rfl,by simp;omega,by simp[hel],.inr ⟨_,by rw[hx]⟩,?_⟩;intro i c y hc hy;rw[yf,yc]at hc;obtain⟨k,hk,rfl⟩:=hc;obtain⟨hk1,hk2⟩:=yb.1 hk;rw[yYa]at hk1;rw[List.getElem_range]at hk2;subst hk2;obtain⟨_,⟨z,hz,hd⟩,_⟩:=hg i hk1;rw[hz]at hy;cases hy;exact hd
  ·cases hp'
theorem CellsD.struct{P:Program}{H:Type}{n t:Nat}{l:List PV}{d:DataW H}{fs:Array Field}(h:CellsD P n t l d)(hu:P.underlying t=some (.struct fs)):∃m ds,n=m+1/\l.length=P.cellsOf t/\d= .agg ds/\∀(i:Nat) f,fs.toList[i]? =some f->∃y,ds[i]? =some y/\CellsD P m f.type ((l.drop f.offset).take (P.cellsOf f.type)) y:=by
 cases n with
 |zero=>exact h.elim
 |succ n=>unfold CellsD at h;rw[hu]at h;obtain⟨h1,ds,h2,h3⟩:=h;exact⟨n,ds,rfl,h1,h2,h3⟩
theorem CellsD.int{P:Program}{H:Type}{n t:Nat}{l:List PV}{d:DataW H}{k:IntKind}(h:CellsD P n t l d)(hu:P.underlying t=some (.int k)):∃z,l=[.int k z]/\(Lit.int k z).wf=true:=by
 cases n with
 |zero=>exact h.elim
 |succ n=>unfold CellsD at h;rw[hu]at h;exact h
theorem CellsD.string{P:Program}{H:Type}{n t:Nat}{l:List PV}{d:DataW H}(h:CellsD P n t l d)(hu:P.underlying t=some .string):∃s:List UInt8,l=[.str s]/\s.length<=maxLen/\d= .lit (.string s):=by
 cases n with
 |zero=>exact h.elim
 |succ n=>unfold CellsD at h;rw[hu]at h;exact h
theorem CellsD.row{P:Program}{H:Type}{n t e:Nat}{l:List PV}{d:DataW H}(h:CellsD P n t l d)(hu:P.underlying t=some (.slice e)):∃(m:Nat) (es:List (List PV)) (ds:List (DataW H)),n=m+1/\l=[.slice .plain (P.cellsOf e) (es.map (packT P e))]/\es.length=ds.length/\(ds=[]\/∃sp,d= .slice ds sp)/\∀(i:Nat) c y,es[i]? =some c->ds[i]? =some y->CellsD P m e c y:=by
 cases n with
 |zero=>exact h.elim
 |succ n=>unfold CellsD at h;rw[hu]at h;obtain⟨es,ds,h1,h2,h3,h4,h5⟩:=h;exact⟨n,es,ds,rfl,h1,h3,h4,h5⟩
theorem read_rec{P:Program}{S:List TypeId}(hp:plainB P S=true){H:Type}{enc:TypeId×Value->H}{w:World}{sp:Nat->Bool}{t:TypeId}(ht:t∈S){d:DataW H}{ps:List MemPlace}{cs:Array Value}(h:DataW.Trod enc P w 0 sp true t (.agg cs) d ps):
  ∃(n:Nat) (l:List PV),VR ((gh0 w).im w) (fun _=>none) (.agg l) (.agg cs)/\CellsD P n t l d:=by
 obtain⟨n,hf⟩:=h;obtain⟨l,h1,h2,h3⟩:=read_cellsD hp n t _ _ ht hf;simp only[Value.cells]at h1;refine⟨n,l,.agg (by have:=h1.1;simpa using this.symm) ?_ ?_,h2⟩
 ·intro j v hv;have hv':cs.toList[j]? =some v:=by simpa using hv
  have hj:j<l.length:=by rw[h1.1];exact(yb.1 hv').1
  exact(h1.2 j _ _ (yd hj) hv').2.2
 ·intro j c v hc hv;have hv':cs.toList[j]? =some v:=by simpa using hv
  exact(h1.2 j _ _ hc hv').1
end PE

namespace PE.U
open Go PE Go.Proofs
section
variable {H:Type} {bk:DataW H->Nat}
structure Bulk(bk:DataW H->Nat):Prop where
 one:∀d,1<=bk d
 agg:∀ds,bk (.agg ds)=(ds.map bk).sum+1
 slice:∀ds sp,(ds.map bk).sum+1<=bk (.slice ds sp)
 str:∀s,s.length+1<=bk (.lit (.string s))
theorem many{α:Type}(enc:α->PV)(wt:α->Nat)(pk:List PV->PV){R:List PV->DataW H->Prop}(hR:∀c y,R c y->∃x,pk c=enc x/\wt x<=bk y):
  ∀(es:List (List PV)) (ds:List (DataW H)),es.length=ds.length->(∀(i:Nat) c y,es[i]? =some c->ds[i]? =some y->R c y)→
   ∃xs:List α,es.map pk=xs.map enc/\(xs.map wt).sum<=(ds.map bk).sum:=by
 intro es
 induction es with
 |nil=>intro ds hl _;exact⟨[],rfl,by simp⟩
 |cons c r ih=>
  intro ds hl h
  match ds,hl with
  |y::s,hl=>
   obtain⟨x,h1,h2⟩:=hR c y (h 0 c y rfl rfl);obtain⟨xs,h3,h4⟩:=ih s (by simpa using hl) (fun i c' y' hc hy=>h (i+1) c' y' (by simpa using hc) (by simpa using hy));exact⟨x::xs,by rw[yq,yq,h1,h3],by simp only[yq,yva];omega⟩
theorem row_of{α:Type}(hb:Bulk bk)(enc:α->PV)(wt:α->Nat){P:Program}{n t e:Nat}{l:List PV}{d:DataW H}(h:CellsD P n t l d)(hu:P.underlying t=some (.slice e))
  (hR:∀m c y,m<n->CellsD P m e c y->∃x,packT P e c=enc x/\wt x<=bk y):∃xs:List α,l=[.slice .plain (P.cellsOf e) (xs.map enc)]/\(xs.map wt).sum+1<=bk d:=by
 obtain⟨m,es,ds,rfl,rfl,hl,hd,hc⟩:=h.row hu;obtain⟨xs,h1,h2⟩:=many (bk:=bk) enc wt (packT P e) (fun c y hcy=>hR m c y (by omega) hcy) es ds hl hc;refine⟨xs,by rw[h1],?_⟩;rcases hd with rfl|⟨sp,rfl⟩
 ·simp at h2;have:=hb.one d;omega
 ·have:=hb.slice ds sp;omega
theorem cells8{l:List PV}{a b c d e f g h:PV}(hl:l.length=8)(h0:(l.drop 0).take 1=[a])(h1:(l.drop 1).take 1=[b])(h2:(l.drop 2).take 1=[c])(h3:(l.drop 3).take 1=[d])(h4:(l.drop 4).take 1=[e])(h5:(l.drop 5).take 1=[f])(h6:(l.drop 6).take 1=[g])(h7:(l.drop 7).take 1=[h]):l=[a,b,c,d,e,f,g,h]:=by
 match l,hl with
 | [_,_,_,_,_,_,_,_],_=>simp at h0 h1 h2 h3 h4 h5 h6 h7;rw[h0,h1,h2,h3,h4,h5,h6,h7]
theorem cells5{l:List PV}{a b c d e:PV}(hl:l.length=5)(h0:(l.drop 0).take 1=[a])(h1:(l.drop 1).take 1=[b])(h2:(l.drop 2).take 1=[c])(h3:(l.drop 3).take 1=[d])(h4:(l.drop 4).take 1=[e]):l=[a,b,c,d,e]:=by
 match l,hl with
 | [_,_,_,_,_],_=>simp at h0 h1 h2 h3 h4;rw[h0,h1,h2,h3,h4]
theorem cells2{l:List PV}{a b:PV}(hl:l.length=2)(h0:(l.drop 0).take 1=[a])(h1:(l.drop 1).take 1=[b]):l=[a,b]:=by
 match l,hl with
 | [_,_],_=>simp at h0 h1;rw[h0,h1]
theorem get_sum:∀(ds:List (DataW H)) (is:List (Nat×DataW H)),(∀p∈is,ds[p.1]? =some p.2)->(is.map (·.1)).Pairwise (· < ·)->(is.map fun p=>bk p.2).sum<=(ds.map bk).sum:=by
 intro ds
 induction ds with
 |nil=>
  intro is h _;cases is with
  |nil=>simp
  |cons p r=>have:=h p (by simp);simp at this
 |cons d r ih=>
  intro is h hp;have shift:∀js:List (Nat×DataW H),(∀p∈js,0<p.1)->(∀p∈js,(d::r)[p.1]? =some p.2)->(js.map (·.1)).Pairwise (· < ·)->(js.map fun p=>bk p.2).sum<=(r.map bk).sum:=by
   intro js hj h hp;have:=ih (js.map fun p=>(p.1-1,p.2)) (by
    intro p hp;rw[yja]at hp;obtain⟨q,hq,rfl⟩:=hp;have h1:=hj q hq;have h2:=h q hq;rw[List.getElem?_cons]at h2;rw[if_neg (by omega)]at h2;exact h2) (by
    rw[List.map_map,List.pairwise_map];rw[List.pairwise_map]at hp;refine hp.imp_of_mem ?_;intro a b ha hb hab;have:=hj a ha;have:=hj b hb;simp only[Function.comp_apply];omega)
   rw[List.map_map]at this;exact this
  cases is with
  |nil=>simp
  |cons p q=>
   rw[yq,List.pairwise_cons]at hp;have hq:∀x∈q,p.1<x.1:=fun x hx=>hp.1 x.1 (List.mem_map_of_mem hx)
   by_cases h0:p.1=0
   ·have h1:=h p (by simp);rw[h0]at h1;simp at h1;have:=shift q (fun x hx=>by have:=hq x hx;omega) (fun x hx=>h x (by simp[hx])) hp.2;simp only[yq,yva];rw[h1];omega
   ·have hpos:∀x∈p::q,0<x.1:=by
     intro x hx;rcases yG.1 hx with rfl|hx
     ·omega
     ·have:=hq x hx;omega
    have:=shift (p::q) hpos h (by rw[yq,List.pairwise_cons];exact hp);simp only[yq,yva]at this ⊢;omega
theorem ints_of(hb:Bulk bk){n:Nat}{l:List PV}{d:DataW H}(h:CellsD Tryz.prog n 26 l d):∃zs:List Int,l=[ints zs]/\zs.length+1<=bk d:=by
 obtain⟨xs,h1,h2⟩:=row_of hb (PV.int .i64) (fun _=>1) h Tryz.underlying26 (fun m c y _ hc=>by
  obtain⟨z,rfl,_⟩:=hc.int Tryz.underlying3;refine⟨z,?_,hb.one y⟩;unfold packT;rw[Tryz.underlying3];rfl)
 refine⟨xs,?_,?_⟩
 ·rw[h1,show Tryz.prog.cellsOf 3=1 from by kernel_rfl];rfl
 ·have e:∀l:List Int,(l.map fun _=>1).sum=l.length:=by
   intro l
   induction l with
   |nil=>rfl
   |cons a r ih=>rw[yq,yva,ih,yca];omega
  rw[e]at h2;exact h2
theorem one_int:Tryz.prog.cellsOf 3=1:=by kernel_rfl
theorem one_str:Tryz.prog.cellsOf 9=1:=by kernel_rfl
theorem one_ints:Tryz.prog.cellsOf 26=1:=by kernel_rfl
theorem one_kids:Tryz.prog.cellsOf 51=1:=by kernel_rfl
theorem one_list:Tryz.prog.cellsOf 47=1:=by kernel_rfl
theorem one_flows:Tryz.prog.cellsOf 23=1:=by kernel_rfl
theorem one_arrs:Tryz.prog.cellsOf 22=1:=by kernel_rfl
theorem c_node:Tryz.prog.cellsOf 53=8:=by kernel_rfl
theorem c_flow:Tryz.prog.cellsOf 49=5:=by kernel_rfl
theorem c_arr:Tryz.prog.cellsOf 46=2:=by kernel_rfl
theorem c_unt:Tryz.prog.cellsOf 25=2:=by kernel_rfl
theorem sum_wtL(l:List Node):(l.map fun x=>1+wtN x).sum=wtL l:=by
 induction l with
 |nil=>rfl
 |cons a r ih=>rw[yq,yva,ih,wtL]
theorem sum_wtK(l:List (List Node)):(l.map fun x=>1+wtL x).sum=wtK l:=by
 induction l with
 |nil=>rfl
 |cons a r ih=>rw[yq,yva,ih,wtK]
theorem inode_of(hb:Bulk bk):∀(n:Nat) (l:List PV) (d:DataW H),CellsD Tryz.prog n 53 l d->∃x:Node,PV.agg l=zy x/\1+wtN x<=bk d:=by
 intro n
 induction n using yfa with
 |ind n ih=>
  intro l d h;obtain⟨m,ds,rfl,hl,rfl,hf⟩:=h.struct Tryz.underlying53;rw[c_node]at hl;obtain⟨y0,g0,c0⟩:=hf 0 ⟨_,_,0,_,_,_,_⟩ rfl;obtain⟨y1,g1,c1⟩:=hf 1 ⟨_,_,1,_,_,_,_⟩ rfl;obtain⟨y2,g2,c2⟩:=hf 2 ⟨_,_,2,_,_,_,_⟩ rfl;obtain⟨y3,g3,c3⟩:=hf 3 ⟨_,_,3,_,_,_,_⟩ rfl;obtain⟨y4,g4,c4⟩:=hf 4 ⟨_,_,4,_,_,_,_⟩ rfl;obtain⟨y5,g5,c5⟩:=hf 5 ⟨_,_,5,_,_,_,_⟩ rfl;obtain⟨y6,g6,c6⟩:=hf 6 ⟨_,_,6,_,_,_,_⟩ rfl;obtain⟨y7,g7,c7⟩:=hf 7 ⟨_,_,7,_,_,_,_⟩ rfl;obtain⟨k,e0,_⟩:=c0.int Tryz.underlying3;obtain⟨o,e1,_⟩:=c1.int Tryz.underlying3;obtain⟨q,e2,_⟩:=c2.int Tryz.underlying3;obtain⟨s,e3,_,b3⟩:=c3.string Tryz.underlying9;obtain⟨a,e4,b4⟩:=ints_of hb c4;obtain⟨us,e5,b5⟩:=ints_of hb c5;obtain⟨ps,e6,b6⟩:=ints_of hb c6;obtain⟨ks,e7,b7⟩:=row_of hb zh (fun x=>1+wtL x) c7 Tryz.underlying51 (fun m1 c y hm1 hc=>by
   obtain⟨xs,f1,f2⟩:=row_of hb zy (fun x=>1+wtN x) hc Tryz.underlying47 (fun m2 c2 y2 hm2 hc2=>by
    obtain⟨x,w1,w2⟩:=ih m2 (by omega) c2 y2 hc2;exact⟨x,by rw[packT_struct Tryz.underlying53,w1],w2⟩)
   refine⟨xs,?_,by rw[sum_wtL]at f2;omega⟩;unfold packT;rw[Tryz.underlying47,f1,c_node];rfl)
  rw[sum_wtK]at b7;rw[one_int]at e0 e1 e2;rw[one_str]at e3;rw[one_ints]at e4 e5 e6;rw[one_kids,one_list]at e7;refine⟨⟨k,o,q,s,a,us,ps,ks⟩,?_,?_⟩
  ·rw[cells8 hl e0 e1 e2 e3 e4 e5 e6 e7,za];rfl
  ·have hs:=get_sum (bk:=bk) ds [(0,y0),(1,y1),(2,y2),(3,y3),(4,y4),(5,y5),(6,y6),(7,y7)] (by simp[g0,g1,g2,g3,g4,g5,g6,g7]) (by simp);simp only[yq,yEa,yva,List.sum_nil]at hs;have s3:=hb.str s;rw[<-b3]at s3;rw[hb.agg,zwa];simp only;have:=hb.one y0;have:=hb.one y1;omega
theorem iflow_of(hb:Bulk bk){n:Nat}{l:List PV}{d:DataW H}(h:CellsD Tryz.prog n 49 l d):∃f:Flow,PV.agg l=zd f/\1+(f.name.length+f.types.length+wtL f.body)<=bk d:=by
 obtain⟨m,ds,rfl,hl,rfl,hf⟩:=h.struct Tryz.underlying49;rw[c_flow]at hl;obtain⟨y0,g0,c0⟩:=hf 0 ⟨_,_,0,_,_,_,_⟩ rfl;obtain⟨y1,g1,c1⟩:=hf 1 ⟨_,_,1,_,_,_,_⟩ rfl;obtain⟨y2,g2,c2⟩:=hf 2 ⟨_,_,2,_,_,_,_⟩ rfl;obtain⟨y3,g3,c3⟩:=hf 3 ⟨_,_,3,_,_,_,_⟩ rfl;obtain⟨y4,g4,c4⟩:=hf 4 ⟨_,_,4,_,_,_,_⟩ rfl;obtain⟨s,e0,_,b0⟩:=c0.string Tryz.underlying9;obtain⟨t,e1,_⟩:=c1.int Tryz.underlying3;obtain⟨p,e2,_⟩:=c2.int Tryz.underlying3;obtain⟨ty,e3,b3⟩:=ints_of hb c3;obtain⟨xs,e4,b4⟩:=row_of hb zy (fun x=>1+wtN x) c4 Tryz.underlying47 (fun m2 c2 y2 hm2 hc2=>by
  obtain⟨x,w1,w2⟩:=inode_of hb m2 c2 y2 hc2;exact⟨x,by rw[packT_struct Tryz.underlying53,w1],w2⟩)
 rw[sum_wtL]at b4;rw[one_str]at e0;rw[one_int]at e1 e2;rw[one_ints]at e3;rw[one_list,c_node]at e4;refine⟨⟨s,t,p,ty,xs⟩,?_,?_⟩
 ·rw[cells5 hl e0 e1 e2 e3 e4];rfl
 ·have hs:=get_sum (bk:=bk) ds [(0,y0),(1,y1),(2,y2),(3,y3),(4,y4)] (by simp[g0,g1,g2,g3,g4]) (by simp);simp only[yq,yEa,yva,List.sum_nil]at hs;have s0:=hb.str s;rw[<-b0]at s0;rw[hb.agg];simp only;omega
theorem iarr_of(hb:Bulk bk){n:Nat}{l:List PV}{d:DataW H}(h:CellsD Tryz.prog n 46 l d):∃f:Arr,PV.agg l=zN f/\1+f.name.length<=bk d:=by
 obtain⟨m,ds,rfl,hl,rfl,hf⟩:=h.struct Tryz.underlying46;rw[c_arr]at hl;obtain⟨y0,g0,c0⟩:=hf 0 ⟨_,_,0,_,_,_,_⟩ rfl;obtain⟨y1,g1,c1⟩:=hf 1 ⟨_,_,1,_,_,_,_⟩ rfl;obtain⟨s,e0,_,b0⟩:=c0.string Tryz.underlying9;obtain⟨t,e1,_⟩:=c1.int Tryz.underlying3;rw[one_str]at e0;rw[one_int]at e1;refine⟨⟨s,t⟩,?_,?_⟩
 ·rw[cells2 hl e0 e1];rfl
 ·have hs:=get_sum (bk:=bk) ds [(0,y0),(1,y1)] (by simp[g0,g1]) (by simp);simp only[yq,yEa,yva,List.sum_nil]at hs;have s0:=hb.str s;rw[<-b0]at s0;rw[hb.agg];simp only;omega
theorem sum_flow:∀(l:List Flow),l.length+wgF l<=(l.map fun f=>1+(f.name.length+f.types.length+wtL f.body)).sum/\∀f∈l,f.types.length+wtL f.body<=(l.map fun f=>1+(f.name.length+f.types.length+wtL f.body)).sum
 | []=>⟨by simp[wgF],fun f hf=>by cases hf⟩
 |a::r=>by
  obtain⟨h1,h2⟩:=sum_flow r;have h3:=wgS_le a.body;rw[yq,yva,wgF,yca];refine⟨by omega,fun f hf=>?_⟩;rcases yG.1 hf with rfl|hf
  ·omega
  ·have:=h2 f hf;omega
theorem sum_arr:∀(l:List Arr),l.length+wgA l=(l.map fun f=>1+f.name.length).sum
 | []=>rfl
 |a::r=>by
  have h1:=sum_arr r;rw[yq,yva,wgA,yca];omega
theorem unit_read(hb:Bulk bk){n:Nat}{l:List PV}{d:DataW H}(h:CellsD Tryz.prog n 25 l d)(hd:bk d<=1048576):
  ∃u:Unt,PV.agg l=encUnt u/\USz u/\(∀f∈u.flows,wtL f.body<100000000)/\weightM u<1099511627776:=by
 obtain⟨m,ds,rfl,hl,rfl,hf⟩:=h.struct Tryz.underlying25;rw[c_unt]at hl;obtain⟨y0,g0,c0⟩:=hf 0 ⟨_,_,0,_,_,_,_⟩ rfl;obtain⟨y1,g1,c1⟩:=hf 1 ⟨_,_,1,_,_,_,_⟩ rfl;obtain⟨ars,e0,b0⟩:=row_of hb zN (fun f=>1+f.name.length) c0 Tryz.underlying22 (fun m2 c2 y2 hm2 hc2=>by
  obtain⟨x,w1,w2⟩:=iarr_of hb hc2;exact⟨x,by rw[packT_struct Tryz.underlying46,w1],w2⟩)
 obtain⟨fs,e1,b1⟩:=row_of hb zd (fun f=>1+(f.name.length+f.types.length+wtL f.body)) c1 Tryz.underlying23 (fun m2 c2 y2 hm2 hc2=>by
  obtain⟨x,w1,w2⟩:=iflow_of hb hc2;exact⟨x,by rw[packT_struct Tryz.underlying49,w1],w2⟩)
 rw[one_arrs,c_arr]at e0;rw[one_flows,c_flow]at e1;have hs:=get_sum (bk:=bk) ds [(0,y0),(1,y1)] (by simp[g0,g1]) (by simp);simp only[yq,yEa,yva,List.sum_nil]at hs;rw[hb.agg]at hd;have ha:=sum_arr ars;obtain⟨f1,f2⟩:=sum_flow fs;refine⟨⟨ars,fs⟩,?_,⟨?_,?_,?_,?_⟩,?_,?_⟩
 ·rw[cells2 hl e0 e1];rfl
 ·simp only;omega
 ·simp only;omega
 ·intro f hf;have:=f2 f hf;omega
 ·intro f hf;have:=f2 f hf;omega
 ·intro f hf;have:=f2 f hf;omega
 ·simp only[weightM];omega
end
end PE.U
