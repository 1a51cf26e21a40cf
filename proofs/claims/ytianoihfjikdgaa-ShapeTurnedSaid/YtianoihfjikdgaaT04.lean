/-
  Texts joined by program: ASH5, ASH6, ASI1, ASI2, ASG1, ASG2, ASG3, ASG4, ASA2, ASA3, ASG5, ASG6, ASI3, ASI4, ASI5, PfEnd, PfRead.
-/
import Derived.Test.YtianoihfjikdgaaT03
import Derived.WalkKit
import Derived.ProofKit
import Derived.OpenShut
import Derived.ShutString
import Derived.ChangeOld
import Derived.Below
set_option linter.unusedVariables false
set_option linter.unusedSectionVars false
set_option linter.unusedSimpArgs false
open Bool renaming and_eq_true→ya,not_eq_true'→yA,or_eq_true→yy,true_and→yBa
open Eq renaming trans→yd
open Function renaming comp_def→yw
open Int renaming toNat_natCast→yGa
open List renaming all_eq_true→yn,append_assoc→yV,contains_iff_mem→yDa,ext_getElem?→yka,findIdx?_cons→yna,findIdx?_eq_none_iff→yW,getElem?_append_left→yg,getElem?_append_right→yj,getElem?_cons_succ→yZ,getElem?_cons_zero→yT,getElem?_eq_getElem→ye,getElem?_eq_some_iff→yb,getElem?_map→yk,getElem?_of_mem→ypa,getElem?_replicate→yqa,getElem?_set_ne→yp,getElem?_take→yr,getElem?_zip_eq_some→yba,length_append→yh,length_cons→yP,length_map→yG,length_nil→yN,map_congr_left→yja,map_cons→yda,map_eq_nil_iff→yua,mem_append→yx,mem_cons→yz,mem_cons_of_mem→yH,mem_map→yxa,mem_of_getElem?→yO,mem_range→yga,not_mem_nil→yia,range→yS,replicate→yE
open Nat renaming add_assoc→yla,le_refl→yl
open Option renaming bind_eq_some_iff→yL,getD_some→yJ,map_eq_some_iff→yc
open UInt8 renaming ofNat→yya
namespace PE.U
open Go PE
structure LsS where
 m:Nat
 out:List Node
 all:List Int
 i:Nat
 ts:List Int
 left:Nat
def rcOf(L:List UInt8):Nat->Option LG
 |0=>none
 |d+1=>some (zBb L d)
theorem listG_eq(L:List UInt8)(d:Nat)(seen:List Int)(p:HPl)(i:Nat)(ts:List Int)(left:Nat):zBb L d seen p i ts left=runG L (rcOf L d) p (pk L i 6) [] seen (i+1) ts left:=by
 cases d<;>rfl
theorem rcOf_ok(L:List UInt8)(d:Nat):∀f,rcOf L d=some f->LGok f:=by
 intro f h;cases d with
 |zero=>simp[rcOf]at h
 |succ d=>simp[rcOf]at h;subst h;exact listG_ok L d
structure LsPre(d i:Nat)(ts:List Int)(left:Nat)(seen:List Int)(p:HPl):Prop where
 p:PlOk p
 s:seen.length+100*d<=1000
 i:i+100*left<=10000000
 t:ts.length+10*left<=100000
 r:∀x∈seen,0<=x/\x<ts.length
def LsOk(τ:zb)(L:List UInt8)(d:Nat):Prop:=∀i ts left seen p,LsPre d i ts left seen p→
 zn E 37 [.ptr 0 0 0,ints seen,zhc p,.int .i64 d] (gst τ L i ts left)=some (.ret (zj (zBb L d seen p i ts left).n),gst τ L (zBb L d seen p i ts left).i (zBb L d seen p i ts left).ts (zBb L d seen p i ts left).left)
structure LsInv(L:List UInt8)(d:Nat)(p:HPl)(M:Md (List Node))(k:Nat)(c:LsS):Prop where
 run:runG L (rcOf L d) p c.m c.out c.all c.i c.ts c.left=M
 m:c.m<=5
 o:c.out.length+c.m<=5
 a:c.all.length+100*d+2*c.m<=1010
 i:c.i+100*c.left<=10000001
 t:c.ts.length+10*c.left<=100000
 r:∀x∈c.all,0<=x/\x<c.ts.length
theorem LsInv.step{L:List UInt8}{d:Nat}{p:HPl}{M:Md (List Node)}{k m:Nat}{out:List Node}{all:List Int}{i:Nat}{ts:List Int}{left:Nat}(hp:PlOk p)(h:LsInv L d p M k ⟨m+1,out,all,i,ts,left+1⟩){r:Md Node}(hr:zZc L (rcOf L d) all p i ts left=r):
  if zi r.n=true then M=⟨out++[r.n],r.i,r.ts,r.left⟩else LsInv L d p M k ⟨m,out++[r.n],all++r.n.outs,r.i,r.ts,r.left⟩:=by
 obtain⟨h1,h2,h3,h4,h5,h6,h7⟩:=h;simp only at h1 h2 h3 h4 h5 h6 h7;have hn:=nodeG_ok L (rcOf L d) (rcOf_ok L d) all p hp i ts left;rw[hr]at hn;rw[runG]at h1;simp only[Nat.add_one_ne_zero,if_false,Nat.add_sub_cancel,hr]at h1;split
 ·rename_i hc;rw[if_pos hc]at h1;exact h1.symm
 ·rename_i hc;rw[if_neg hc]at h1;obtain⟨n1,⟨x,n2⟩,n3,n4,n5,n6⟩:=hn;refine⟨h1,by simp only;omega,by simp only[yh,List.length_singleton];omega,by simp only[yh];omega,by simp only;omega,by simp only;omega,?_⟩;intro y hy;simp only[yx]at hy;rcases hy with hy|hy
  ·have:=h7 y hy;simp only[n2,yh];omega
  ·exact n5 y hy
section
variable (τ:zb) (L:List UInt8) (hL:L.length<=9223372036854775807)
include hL
set_option maxRecDepth 20000 in
set_option maxHeartbeats 8000000 in
theorem glist_of(d:Nat)(hd:d<=3)(hrec:∀e,d=e+1->LsOk τ L e):LsOk τ L d:=by
 intro i ts left seen p hpre;obtain⟨hp,hs,hi,ht,hr⟩:=hpre;refine ze rfl rfl rfl (by simp[zhc]) ?_;have p0:=zta τ L hL i 6 ts left (by omega) (by omega);have hk:=pk_lt L i 6 (by omega);have hM:=listG_eq L d seen p i ts left;generalize zBb L d seen p i ts left=M at*;generalize pk L i 6=k at*;have hsz:seen.length*8<=zl:=by simp only[zl];omega
 simp at p0;simp[p0,hsz,F37,ints,zhc];refine wp_while K37_0 B37_0 (fun c:LsS=>c.m) (fun c=>[(9,acc 8 (c.out.map zQ)),(10,acc 1 (zE c.all)),(11,.int .i64 c.m)]) (fun _=>[]) (fun c=>gst τ L c.i c.ts c.left)
  (LsInv L d p M k) ⟨k,[],seen,i+1,ts,left⟩ ⟨by simp[zE],by simp,by simp,⟨hM.symm,by simp only;omega,by simp only[yN];omega,by simp only;omega,by simp only;omega,by simp only;omega,hr⟩⟩ ?_
 rintro⟨m,out,all,i',ts',left'⟩ s1 hinv h1 h2 h3 h4 h5
 simp only at h3 h5;simp at h1 h2 h3;clear h4 p0 hM hs hi ht hr hsz;have hoo:(out.map zQ).length=out.length:=by simp
 have hol:=hinv.o;simp only at hol;have hob:(out.length+1)*136<=zl:=by simp only[zl];omega
 have hend:=gend_spec τ L hL i' ts' left' all p hp (by have:=hinv.a;simp only at this;omega) (by have:=hinv.i;simp only at this;omega) (by have:=hinv.t;simp only at this;omega) hinv.r;simp[ints,zhc,za,gst]at hend;have hfin:m=0\/left'=0->M=finG L p out all i' ts' left':=by
  intro h;have hrun:=hinv.run;simp only at hrun;rcases h with h|h
  ·subst h;exact hrun.symm
  ·subst h;cases m with
   |zero=>exact hrun.symm
   |succ m=>simp[runG]at hrun;exact hrun.symm
 cases m with
 |zero=>
  have hf:=hfin (.inl rfl);rw[hf];simp at h3;clear hinv hfin hf;simp[*,finG,gst,zj,za,ints,zE]
 |succ m=>
  have e1:((0:Int)<(m:Int)+1)=True:=eqp (by omega);cases left' with
  |zero=>
   have hf:=hfin (.inr rfl);rw[hf];simp at h3;clear hinv hfin hf;simp at hend;simp[*,finG,gst,zj,za,ints,zE]
  |succ lf=>
   have hst:=fun r hr=>hinv.step hp (r:=r) hr
   have hS:=simple_ok L all ts' i';have hsim:=gsimple_spec τ L hL i' ts' lf all (by have:=hinv.a;simp only at this;omega) (by have:=hinv.i;simp only at this;omega) (by have:=hinv.t;simp only at this;omega) hinv.r;have hpk:=zta τ L hL (zu L all ts' i').2.1 6 (ts'++(zu L all ts' i').2.2) lf (by omega) (by have:=hinv.i;have:=hS.i;simp only at*;omega);have hnd:∀rc,zZc L rc all p i' ts' lf=zZc L rc all p i' ts' lf:=fun _=>rfl
   have ha:=hinv.a;have hii:=hinv.i;have htt:=hinv.t;have hrr:=hinv.r;simp only at ha hii htt hrr;have hw1:zX .i64 (m:Int)=m:=zo (by omega) (by omega);have hw2:zX .i64 (lf:Int)=lf:=zo (by omega) (by omega);have e2:((0:Int)<(lf:Int)+1)=True:=eqp (by omega)
   conv at hnd=>intro rc;rhs;unfold zZc
   clear hend hfin hinv;generalize zu L all ts' i'=S at*;obtain⟨n,j,x⟩:=S;simp only at hsim hpk hnd;have hj:=hS.i;have hx:=hS.t;have hw:=hS.w;have hol:=hS.ol;simp only at hj hx hw hol;clear hS;have hrT:∀y∈all,0<=y/\y<(ts'++x).length:=fun y hy=>by have:=hrr y hy;simp only[yh];omega
   have hTl:(ts'++x).length<=ts'.length+1:=by simp only[yh];omega
   generalize hT:ts'++x=T at*;clear hT;have hk6:=pk_lt L j 6 (by omega);generalize pk L j 6=k6 at*;simp[ints,za,kids,gst]at hsim hpk;have hcl:=zxb n [] (by omega);simp[za,ints,kids]at hcl;have hab:(all.length+n.outs.length)*8<=zl:=by simp only[zl];omega
   have hal:(zE all).length=all.length:=by simp[zE]
   have key:∀r:Md Node,r=⟨n,j+1,T,lf⟩->zZc L (rcOf L d) all p i' ts' lf=r->(if zi n=true then M=⟨out++[n],j+1,T,lf⟩else LsInv L d p M k ⟨m,out++[n],all++n.outs,j+1,T,lf⟩):=by
    intro r hr hn;have:=hst r hn;rw[hr]at this;exact this
   have hq:(((k6:Int)=0)=True/\((k6:Int)=1)=False/\(k6=0)=True/\(k6=1)=False)\/(((k6:Int)=0)=False/\((k6:Int)=1)=True/\(k6=0)=False/\(k6=1)=True)\/(((k6:Int)=0)=False/\((k6:Int)=1)=False/\(k6=0)=False/\(k6=1)=False):=by
    by_cases h:k6=0
    ·subst h;simp
    ·by_cases h':k6=1
     ·subst h';simp
     ·refine .inr (.inr ⟨eqn (by omega),eqn (by omega),eqn h,eqn h'⟩)
   cases d with
   |zero=>
    have hk:=key _ rfl (hnd none);clear hst hnd key hrT hTl;rcases hq with⟨q1,q2,q3,q4⟩|⟨q1,q2,q3,q4⟩|⟨q1,q2,q3,q4⟩
    all_goals
     cases hc:zi n
     ·simp[hc]at hk hcl;simp[*,gst,zj,za,ints,zE,zhc,kids];refine⟨⟨m,out++[n],all++n.outs,j+1,T,lf⟩,by simp,?_⟩;simp[*,gst,zj,za,ints,zE,zhc,kids]
     ·simp[hc]at hk hcl;rw[hk];clear hk;simp[*,gst,zj,za,ints,zE,zhc,kids]
   |succ d=>
    have e3:((0:Int)<(d:Int)+1)=True:=eqp (by omega);have hw3:zX .i64 (d:Int)=d:=zo (by omega) (by omega);have hrec:=hrec d rfl;rcases hq with⟨q1,q2,q3,q4⟩|⟨q1,q2,q3,q4⟩|⟨q1,q2,q3,q4⟩
    ·have hnd:=hnd (some (zBb L d));simp only[q3,if_true,ifG]at hnd;clear key hcl hw hol hab;have hty:=gtypes_spec τ L hL (j+1) T lf (by omega);have t1:=zCc L (j+1);have t2:=zZa L (j+1);generalize zja L (j+1)=t at*;generalize zW L (j+1)=jn at*;have hea:=zia τ L hL jn T lf all [2] (by omega) (by simp;omega) (by omega) hrT (by simp);have hX:PlOk ⟨true,p.loop,t,p.next,p.left⟩:=⟨t2,hp.n,hp.l⟩
     have hel:(zga L T all [2] jn).length=1:=zwa _ _ _ _ _;generalize zga L T all [2] jn=ar at*;have hA:=hrec (jn+1) T lf all ⟨true,p.loop,t,p.next,p.left⟩ ⟨hX,by omega,by omega,by omega,hrT⟩;have hAo:=listG_ok L d all ⟨true,p.loop,t,p.next,p.left⟩ (jn+1) T lf hX;generalize zBb L d all ⟨true,p.loop,t,p.next,p.left⟩ (jn+1) T lf=A at*;obtain⟨a1,⟨y,a2⟩,a3,a4⟩:=hAo;have hB:=hrec A.i A.ts A.left all ⟨true,p.loop,t,p.next,p.left⟩ ⟨hX,by omega,by omega,by omega,fun y hy=>by have:=hrT y hy;rw[a2];simp only[yh];omega⟩;have hBo:=listG_ok L d all ⟨true,p.loop,t,p.next,p.left⟩ A.i A.ts A.left hX;generalize zBb L d all ⟨true,p.loop,t,p.next,p.left⟩ A.i A.ts A.left=B at*;obtain⟨b1,⟨z,b2⟩,b3,b4⟩:=hBo;have hou:=zPb τ L B.i B.ts B.left t (by omega);have hk:=hst _ hnd;have hcl:=zxb ⟨10,0,0,[],ar,[],[],[A.n,B.n]⟩ [] (by simp[wtN,wtK];omega);have hcl2:=zxb ⟨10,0,0,[],ar,newV B.ts.length t.length,[],[A.n,B.n]⟩ [] (by simp[wtN,wtK,zoa];omega);have hcc:zi ⟨10,0,0,[],ar,newV B.ts.length t.length,[],[A.n,B.n]⟩=zi ⟨10,0,0,[],ar,[],[],[A.n,B.n]⟩:=rfl;have hab:(all.length+(newV B.ts.length t.length).length)*8<=zl:=by rw[zoa];simp only[zl];omega
     simp[ints,zE,zhc,za,kids,zj,gst]at hty hea hA hB hcl hcl2 hou;clear a1 a2 a3 a4 b1 b2 b3 b4 hst hnd hrT hTl hrec hX t1 t2 hrr ha hii htt hel hx hj;cases hc:zi ⟨10,0,0,[],ar,[],[],[A.n,B.n]⟩
     ·rw[hc]at hcc;simp[zxc,hc,hcc]at hk hcl hcl2;generalize newV B.ts.length t.length=nw at*;simp[*,gst,zj,za,ints,zE,zhc,kids];refine⟨⟨m,out++[⟨10,0,0,[],ar,nw,[],[A.n,B.n]⟩],all++nw,B.i,B.ts++t,B.left⟩,by simp,?_⟩;simp[*,gst,zj,za,ints,zE,zhc,kids]
     ·simp[zxc,hc]at hk hcl;rw[hk];clear hk;simp[*,gst,zj,za,ints,zE,zhc,kids]
    ·have hnd:=hnd (some (zBb L d));simp only[q3,q4,if_true,if_false,loopG]at hnd;clear key hcl hw hol hab;have hty:=gtypes_spec τ L hL (j+1) T lf (by omega);have t1:=zCc L (j+1);have t2:=zZa L (j+1);generalize zja L (j+1)=t at*;generalize zW L (j+1)=jn at*;have hty2:=gtypes_spec τ L hL jn T lf (by omega);have t3:=zCc L jn;have t4:=zZa L jn;generalize zja L jn=o at*;generalize zW L jn=jm at*;have hea:=zia τ L hL jm T lf all t (by omega) (by omega) (by omega) hrT (by omega);have hX:PlOk ⟨false,true,[],t,o⟩:=⟨by simp,t2,t4⟩
     have hel:(zga L T all t jm).length=t.length:=zwa _ _ _ _ _;generalize zga L T all t jm=ar at*;have hop:=zPb τ L (jm+t.length) T lf t (by omega);have hpl:(newV T.length t.length).length=t.length:=zoa _ _;have hpm:=zad T.length t.length;generalize newV T.length t.length=ps at*;have hrTT:∀y∈all++ps,0<=y/\y<(T++t).length:=by
      intro y hy;simp only[yx]at hy;simp only[yh];rcases hy with hy|hy
      ·have:=hrT y hy;omega
      ·have:=hpm y hy;omega
     have hTT:(T++t).length<=T.length+2:=by simp only[yh];omega
     have hapl:(all++ps).length<=all.length+2:=by simp only[yh];omega
     have hap:(all.length+ps.length)*8<=zl:=by simp only[zl];omega
     have hap0:all.length*8<=zl:=by simp only[zl];omega
     have hA:=hrec (jm+t.length) (T++t) lf (all++ps) ⟨false,true,[],t,o⟩ ⟨hX,by omega,by omega,by omega,hrTT⟩;have hAo:=listG_ok L d (all++ps) ⟨false,true,[],t,o⟩ (jm+t.length) (T++t) lf hX;generalize zBb L d (all++ps) ⟨false,true,[],t,o⟩ (jm+t.length) (T++t) lf=A at*;obtain⟨a1,⟨y,a2⟩,a3,a4⟩:=hAo;have hou:=zPb τ L A.i A.ts A.left o (by omega);have hk:=hst _ hnd;have hcl:=zxb ⟨11,0,0,[],ar,[],ps,[A.n]⟩ [] (by simp[wtN,wtK];omega);have hcl2:=zxb ⟨11,0,0,[],ar,newV A.ts.length o.length,ps,[A.n]⟩ [] (by simp[wtN,wtK,zoa];omega);have hcc:zi ⟨11,0,0,[],ar,newV A.ts.length o.length,ps,[A.n]⟩=zi ⟨11,0,0,[],ar,[],ps,[A.n]⟩:=rfl;have hab:(all.length+(newV A.ts.length o.length).length)*8<=zl:=by rw[zoa];simp only[zl];omega
     simp[ints,zE,zhc,za,kids,zj,gst]at hty hty2 hea hop hA hcl hcl2 hou;clear a1 a2 a3 a4 hst hnd hrT hTl hrec hX t1 t2 t3 t4 hrr ha hii htt hel hx hj hrTT hTT hapl hpm hpl;cases hc:zi ⟨11,0,0,[],ar,[],ps,[A.n]⟩
     ·rw[hc]at hcc;simp[zxc,hc,hcc]at hk hcl hcl2;generalize newV A.ts.length o.length=nw at*;simp[*,gst,zj,za,ints,zE,zhc,kids];refine⟨⟨m,out++[⟨11,0,0,[],ar,nw,ps,[A.n]⟩],all++nw,A.i,A.ts++o,A.left⟩,by simp,?_⟩;simp[*,gst,zj,za,ints,zE,zhc,kids]
     ·simp[zxc,hc]at hk hcl;rw[hk];clear hk;simp[*,gst,zj,za,ints,zE,zhc,kids]
    ·have hk:=key ⟨n,j+1,T,lf⟩ rfl (by have:=hnd (some (zBb L d));simp only[q3,q4,if_false]at this;exact this);clear hst hnd key hrec hrT hTl;cases hc:zi n
     ·simp[hc]at hk hcl;simp[*,gst,zj,za,ints,zE,zhc,kids];refine⟨⟨m,out++[n],all++n.outs,j+1,T,lf⟩,by simp,?_⟩;simp[*,gst,zj,za,ints,zE,zhc,kids]
     ·simp[hc]at hk hcl;rw[hk];clear hk;simp[*,gst,zj,za,ints,zE,zhc,kids]
theorem glist_spec:∀d,d<=3->LsOk τ L d:=by
 intro d
 induction d with
 |zero=>intro h;exact glist_of τ L hL 0 h (by intro e he;cases he)
 |succ d ih=>intro h;exact glist_of τ L hL (d+1) h (by intro e he;cases he;exact ih (by omega))
end
theorem runG_ne(L:List UInt8)(rc:Option LG)(p:HPl):∀c out all i ts left,(runG L rc p c out all i ts left).n≠ []:=by
 intro c
 induction c with
 |zero=>intro out all i ts left;simp[runG,finG]
 |succ c ih=>
  intro out all i ts left;rw[runG];split
  ·simp[finG]
  ·simp only;split
   ·simp
   ·exact ih _ _ _ _ _
theorem listG_ne(L:List UInt8)(d:Nat)(seen:List Int)(p:HPl)(i:Nat)(ts:List Int)(left:Nat):(zBb L d seen p i ts left).n≠ []:=by
 rw[listG_eq];exact runG_ne L _ _ _ _ _ _ _ _
def noPl:HPl:=⟨false,false,[],[],[]⟩
theorem noPl_ok:PlOk noPl:=⟨by simp[noPl],by simp[noPl],by simp[noPl]⟩
def zyc(L:List UInt8)(params:List Int)(i:Nat):Md (List Node):=zBb L 3 (newV 0 params.length++[(params.length:Int),((params.length+1:Nat):Int)]) noPl i (params++[1,2]) 30
theorem zJb(L:List UInt8)(name:List UInt8)(params:List Int)(i:Nat):zzb L name params i=
  ⟨⟨name,1,params.length,(zyc L params i).ts,nd 1 0 3 [] [] [(params.length:Int)]::nd 2 0 1 [] [] [((params.length+1:Nat):Int)]::(zyc L params i).n⟩,(zyc L params i).i,(zyc L params i).ts,(zyc L params i).left⟩:=rfl
theorem zwb(L:List UInt8)(params:List Int)(i:Nat):MdL 10 (zyc L params i) i (params++[1,2]) 30 0:=listG_ok L 3 _ _ _ _ _ noPl_ok
section
variable (τ:zb) (L:List UInt8) (hL:L.length<=9223372036854775807)
include hL
theorem gflow_spec(i:Nat)(ts:List Int)(left:Nat)(name:List UInt8)(params:List Int)(hp:params.length<=10)(hi:i<=1000000):
  zn E 22 [.ptr 0 0 0,.str name,ints params] (gst τ L i ts left)=some (.ret (zg (zzb L name params i).n),gst τ L (zzb L name params i).i (zzb L name params i).ts (zzb L name params i).left):=by
 refine ze rfl rfl rfl (by simp) ?_;have o1:=zPb τ L i [] 30 params (by simp;omega);have f1:=fresh_spec τ L i params 30 1 (by omega);have f2:=fresh_spec τ L i (params++[1]) 30 2 (by simp;omega);have hr:∀y∈newV 0 params.length++[(params.length:Int),((params.length+1:Nat):Int)],0<=y/\y<(params++[1,2]).length:=by
  intro y hy;simp only[yx,yz,yia,or_false]at hy;simp only[yh,yP,yN];rcases hy with hy|hy|hy
  ·have:=zad 0 _ y hy;omega
  ·omega
  ·omega
 have hls:=glist_spec τ L hL 3 (by omega) i (params++[1,2]) 30 (newV 0 params.length++[(params.length:Int),((params.length+1:Nat):Int)]) noPl ⟨noPl_ok,by simp[zoa];omega,by omega,by simp;omega,hr⟩;have hne:=listG_ne L 3 (newV 0 params.length++[(params.length:Int),((params.length+1:Nat):Int)]) noPl i (params++[1,2]) 30;have hok:=zwb L params i;rw[zJb];change zn E _ _ _=some (.ret (zj (zyc L params i).n),gst τ L (zyc L params i).i (zyc L params i).ts (zyc L params i).left)at hls;change (zyc L params i).n≠ []at hne;generalize zyc L params i=A at*;obtain⟨a1,a2,a3,a4⟩:=hok;have hal:=len_wtL A.n;have q1:(params.length+2)*8<=zl:=by simp only[zl];omega
 have q2:(2+A.n.length)*136<=zl:=by simp only[zl];omega
 have q3:(newV 0 params.length).length=params.length:=zoa _ _;clear a1 a2 a3 a4 hr hal;simp[ints,zE,gst,zj,zhc,noPl]at o1 f1 f2 hls;generalize newV 0 params.length=nv at*;simp[*,F22,ints,gst,zj,zg,za,kids]
end
theorem madeM_sz(L:List UInt8):USz (zXb L):=by
 have h1:=zwb L [] 0;have h2:=zwb L [1,2] (zyc L [] 0).i;obtain⟨a1,a2,a3,a4⟩:=h1;obtain⟨b1,b2,b3,b4⟩:=h2;simp only[yh,yP,yN]at a3 b3;refine⟨?_,?_,?_,?_⟩
 ·simp[zXb]
 ·simp[zXb]
 ·intro f hf;simp only[zXb,yz,yia,or_false]at hf;rcases hf with rfl|rfl<;>simp[zJb]<;>omega
 ·intro f hf;simp only[zXb,yz,yia,or_false]at hf;rcases hf with rfl|rfl<;>simp[zJb,wtL,wtN,wtK]<;>omega
mutual
def trnN(π:Int->Int):Node->Node
 |⟨k,o,n,s,a,u,p,ks⟩=>⟨k,o,n,s,a.map π,u.map π,p.map π,trnK π ks⟩
def trnL(π:Int->Int):List Node->List Node
 | []=>[]
 |x::r=>trnN π x::trnL π r
def trnK(π:Int->Int):List (List Node)->List (List Node)
 | []=>[]
 |l::r=>trnL π l::trnK π r
end
theorem trnL_eq(π:Int->Int):∀l:List Node,trnL π l=l.map (trnN π)
 | []=>rfl
 |x::r=>by rw[trnL,trnL_eq π r];rfl
theorem trnK_eq(π:Int->Int):∀l:List (List Node),trnK π l=l.map (trnL π)
 | []=>rfl
 |x::r=>by rw[trnK,trnK_eq π r];rfl
theorem trnN_eq(π:Int->Int)(x:Node):trnN π x=⟨x.kind,x.op,x.n,x.name,x.args.map π,x.outs.map π,x.params.map π,x.kids.map (trnL π)⟩:=by
 cases x;rw[trnN,trnK_eq]
theorem trn_yields(π:Int->Int)(l:List Node):zpa (trnL π l)=zpa l:=by
 unfold zpa;rw[trnL_eq,List.getLast?_map];cases l.getLast? with
 |none=>rfl
 |some x=>simp[trnN_eq]
mutual
theorem trn_leavesN(π:Int->Int):∀x:Node,(trnN π x).leaves=x.leaves
 |⟨k,o,n,s,a,u,p,ks⟩=>by rw[trnN,Node.leaves,Node.leaves,trn_leavesK π ks]
theorem trn_leavesL(π:Int->Int):∀l:List Node,zP (trnL π l)=zP l
 | []=>rfl
 |x::r=>by rw[trnL,zP,zP,trn_leavesN π x,trn_leavesL π r]
theorem trn_leavesK(π:Int->Int):∀l:List (List Node),leavesK (trnK π l)=leavesK l
 | []=>rfl
 |x::r=>by rw[trnK,leavesK,leavesK,trn_leavesL π x,trn_leavesK π r]
end
theorem trn_closed(π:Int->Int)(x:Node):zi (trnN π x)=zi x:=by
 rw[trnN_eq];simp only[zi,yG,List.all_map,yw,trn_yields,trn_leavesL,Node.ends]
theorem trn_bare(π:Int->Int)(x:Node):zxa (trnN π x)=zxa x:=by
 rw[trnN_eq];simp[zxa]
structure Trn(π:Int->Int)(u u':Unt)(f f':Flow):Prop where
 len:f'.types.length=f.types.length
 rng:∀v:Int,0<=v->v<f.types.length->0<=π v/\π v<f.types.length
 inj:∀v w:Int,0<=v->v<f.types.length->0<=w->w<f.types.length->π v=π w->v=w
 ty:∀v:Int,0<=v->v<f.types.length->at0 f'.types (π v)=at0 f.types v
 rt:f'.type=f.type
 arr:u'.arrays=u.arrays
 pl:∀s,zZ u'.flows s=zZ u.flows s
 fl:∀(k:Nat) g,u.flows[k]? =some g->∃g',u'.flows[k]? =some g'/\pars g'=pars g/\g'.type=g.type
structure ZR(π:Int->Int)(n:Nat)(Z Z':Set1):Prop where
 l1:Z.length=n
 l2:Z'.length=n
 at':∀v:Int,0<=v->v<n->atB Z' (π v)=atB Z v
section
variable {π:Int->Int} {u u':Unt} {f f':Flow}
theorem Trn.val(h:Trn π u u' f f'){v t:Int}(hv:valM f.types v t=true):valM f'.types (π v) t=true:=by
 obtain⟨r0,r1⟩:=zqa hv;obtain⟨p0,p1⟩:=h.rng v r0 r1;simp only[valM,ya,yy,decide_eq_true_eq]at hv ⊢;rw[h.len,h.ty v r0 r1];exact⟨p0,p1,hv.2.2⟩
theorem Trn.use(h:Trn π u u' f f'){seen:List Int}{v t:Int}(hv:useR f.types seen v t=true):useR f'.types (seen.map π) (π v) t=true:=by
 simp only[useR,ya,yy,decide_eq_true_eq,yDa]at hv ⊢;obtain⟨r0,r1,r2,r3⟩:=hv;obtain⟨p0,p1⟩:=h.rng v r0 r1;rw[h.len,h.ty v r0 r1];exact⟨p0,p1,List.mem_map_of_mem r2,r3⟩
theorem Trn.types(h:Trn π u u' f f'){seen l want:List Int}(hv:zL f.types seen l want=true):zL f'.types (seen.map π) (l.map π) want=true:=by
 simp only[zL,ya,decide_eq_true_eq,yn,yG]at hv ⊢;refine⟨hv.1,fun p hp=>?_⟩;obtain⟨i,hi⟩:=ypa hp;obtain⟨h1,h2⟩:=zip_get (d:=l) (q:=i) (v:=p.1) (t:=p.2) hi;rw[yk,yc]at h1;obtain⟨v,h3,h4⟩:=h1;have:=hv.2 (v,p.2) (yO (i:=i) (by rw[yba];exact⟨h3,h2⟩));rw[<-h4];exact h.use this
theorem Trn.typesM(h:Trn π u u' f f'){l:List Int}(hl:∀v∈l,0<=v/\v<f.types.length):PE.U.typesM f'.types (l.map π)=PE.U.typesM f.types l:=by
 unfold PE.U.typesM;rw[if_pos,if_pos]
 ·rw[List.map_map];exact yja fun v hv=>h.ty v (hl v hv).1 (hl v hv).2
 ·rw[yn];intro v hv;obtain⟨r0,r1⟩:=hl v hv;simp[valM,r0,r1]
 ·rw[yn];intro v hv;rw[yxa]at hv;obtain⟨w,hw,rfl⟩:=hv;obtain⟨r0,r1⟩:=hl w hw;obtain⟨p0,p1⟩:=h.rng w r0 r1;simp[valM,p0,p1,h.len]
theorem atB_setI{Z:Set1}{v w:Int}(h0:0<=v)(h1:v<Z.length)(h2:0<=w):atB (Z.set v.toNat true) w=if v=w then true else atB Z w:=by
 unfold atB;rw[List.getElem?_set];by_cases h:v=w
 ·subst h;rw[if_pos rfl,if_pos (by omega),if_pos rfl];rfl
 ·rw[if_neg (by omega),if_neg h]
theorem Trn.setG(h:Trn π u u' f f'){Z Z':Set1}(hz:ZR π f.types.length Z Z'){v t:Int}(hv:(zHb f.types Z v t).1=true):
  (zHb f'.types Z' (π v) t).1=true/\ZR π f.types.length (zHb f.types Z v t).2 (zHb f'.types Z' (π v) t).2/\0<=v/\v<f.types.length:=by
 by_cases hc:(valM f.types v t&& !atB Z v)=true
 ·have hc0:=hc;simp only[ya]at hc;obtain⟨r0,r1⟩:=zqa hc.1;obtain⟨p0,p1⟩:=h.rng v r0 r1;have hc':(valM f'.types (π v) t&& !atB Z' (π v))=true:=by
   rw[h.val hc.1,hz.at' v r0 r1,hc.2];rfl
  have e1:zHb f.types Z v t=(true,Z.set v.toNat true):=if_pos hc0;have e2:zHb f'.types Z' (π v) t=(true,Z'.set (π v).toNat true):=if_pos hc';rw[e1,e2];refine⟨rfl,⟨by simp[hz.l1],by simp[hz.l2],fun w w0 w1=>?_⟩,r0,r1⟩;obtain⟨q0,q1⟩:=h.rng w w0 w1;rw[atB_setI p0 (by rw[hz.l2];exact p1) q0,atB_setI r0 (by rw[hz.l1];exact r1) w0];by_cases e:v=w
  ·rw[if_pos e,if_pos (by rw[e])]
  ·rw[if_neg e,if_neg (fun e'=>e (h.inj v w r0 r1 w0 w1 e')),hz.at' w w0 w1]
 ·rw[zHb,if_neg hc]at hv;cases hv
theorem Trn.eqGo(h:Trn π u u' f f'):∀(l:List (Int×Int)) (Z Z':Set1),ZR π f.types.length Z Z'->(PE.U.eqGo (zHb f.types) Z l).1=true→
  (PE.U.eqGo (zHb f'.types) Z' (l.map fun p=>(π p.1,p.2))).1=true/\ZR π f.types.length (PE.U.eqGo (zHb f.types) Z l).2 (PE.U.eqGo (zHb f'.types) Z' (l.map fun p=>(π p.1,p.2))).2/\∀p∈l,0<=p.1/\p.1<f.types.length
 | [],Z,Z',hz,_=>⟨rfl,hz,fun p hp=>by cases hp⟩
 |p::r,Z,Z',hz,hg=>by
  simp only[PE.U.eqGo,yda]at hg ⊢;by_cases hc:(zHb f.types Z p.1 p.2).1=true
  ·rw[if_pos hc]at hg ⊢;obtain⟨h1,h2,h3,h4⟩:=h.setG hz hc;obtain⟨h5,h6,h7⟩:=h.eqGo r _ _ h2 hg;rw[if_pos h1];refine⟨h5,h6,fun q hq=>?_⟩;rcases yz.1 hq with rfl|hq
   ·exact⟨h3,h4⟩
   ·exact h7 q hq
  ·rw[if_neg hc]at hg;cases hg
theorem Trn.sets(h:Trn π u u' f f'){Z Z':Set1}(hz:ZR π f.types.length Z Z'){l want:List Int}(hv:(zra f.types Z l want).1=true):
  (zra f'.types Z' (l.map π) want).1=true/\ZR π f.types.length (zra f.types Z l want).2 (zra f'.types Z' (l.map π) want).2/\∀v∈l,0<=v/\v<f.types.length:=by
 unfold zra eqM at hv ⊢;rw[yG];split at hv
 ·rename_i hl;rw[if_pos hl,if_pos hl];obtain⟨h1,h2,h3⟩:=h.eqGo _ _ _ hz hv;have e:(l.map π).zip want=(l.zip want).map fun p=>(π p.1,p.2):=by
   rw[List.zip_map_left];rfl
  rw[e];refine⟨h1,h2,fun v hv=>?_⟩;obtain⟨i,hi⟩:=ypa hv;have hlt:i<want.length:=by rw[<-hl];exact(yb.1 hi).1
  exact h3 (v,want[i]) (yO (i:=i) (by rw[yba];exact⟨hi,ye hlt⟩))
 ·cases hv
theorem Trn.endR(h:Trn π u u' f f'){x:Node}{q q':Bool×Set1}(hz:ZR π f.types.length q.2 q'.2)(h1:q.1=true->q'.1=true)(hv:(endR f.types x q).1=true):
  (PE.U.endR f'.types (trnN π x) q').1=true/\ZR π f.types.length (PE.U.endR f.types x q).2 (PE.U.endR f'.types (trnN π x) q').2:=by
 unfold PE.U.endR at hv ⊢;split at hv
 ·rename_i hc;rw[if_pos hc];have ho:(trnN π x).outs=x.outs.map π:=by rw[trnN_eq]
  simp only[ya]at hc;have hc':(q'.1&&(decide ((trnN π x).outs=[])|| !zi (trnN π x)))=true:=by
   rw[trn_closed,ho,h1 hc.1];simpa using hc.2
  rw[if_pos hc',ho,yG];obtain⟨a,b,_⟩:=h.sets hz hv;exact⟨a,b⟩
 ·cases hv
theorem endR_pre{ty:List Int}{x:Node}{q:Bool×Set1}(hv:(PE.U.endR ty x q).1=true):q.1=true/\(zra ty q.2 x.outs (zmb x.outs.length)).1=true:=by
 unfold PE.U.endR at hv;split at hv
 ·rename_i hc;simp only[ya]at hc;exact⟨hc.1,hv⟩
 ·cases hv
theorem eqGo_rng{ty:List Int}:∀(l:List (Int×Int)) (Z:Set1),(PE.U.eqGo (zHb ty) Z l).1=true->∀p∈l,0<=p.1/\p.1<ty.length
 | [],Z,_=>fun p hp=>by cases hp
 |p::r,Z,hg=>by
  simp only[PE.U.eqGo]at hg;by_cases hc:(zHb ty Z p.1 p.2).1=true
  ·rw[if_pos hc]at hg;intro q hq;rcases yz.1 hq with rfl|hq
   ·by_cases hx:(valM ty q.1 q.2&& !atB Z q.1)=true
    ·simp only[ya]at hx;exact zqa hx.1
    ·rw[zHb,if_neg hx]at hc;cases hc
   ·exact eqGo_rng r _ hg q hq
  ·rw[if_neg hc]at hg;cases hg
theorem zGa{ty:List Int}{Z:Set1}{l want:List Int}(hv:(zra ty Z l want).1=true):∀v∈l,0<=v/\v<ty.length:=by
 unfold zra eqM at hv;split at hv
 ·rename_i hl;intro v hv';obtain⟨i,hi⟩:=ypa hv';have hlt:i<want.length:=by rw[<-hl];exact(yb.1 hi).1
  exact eqGo_rng _ _ hv (v,want[i]) (yO (i:=i) (by rw[yba];exact⟨hi,ye hlt⟩))
 ·cases hv
theorem Trn.at2(h:Trn π u u' f f'){seen l:List Int}{t t':Int}(hl:zL f.types seen l [t,t']=true)(he:at0 f.types (at0 l 0)=at0 f.types (at0 l 1)):at0 f'.types (at0 (l.map π) 0)=at0 f'.types (at0 (l.map π) 1):=by
 obtain⟨a,b,rfl,a0,a1,b0,b1⟩:=typesR_two hl;have h1:=h.ty a a0 a1;have h2:=h.ty b b0 b1;simp only[at0]at he;simp only[at0,yda,List.map_nil];simp only[at0]at h1 h2;simp at he ⊢;rw[h1,h2];exact he
theorem Trn.simple(h:Trn π u u' f f'){seen:List Int}{w:Place}{Z Z':Set1}(hz:ZR π f.types.length Z Z'){x:Node}(hv:(zN u f seen w Z x).1=true):
  (zN u' f' (seen.map π) w Z' (trnN π x)).1=true/\ZR π f.types.length (zN u f seen w Z x).2 (zN u' f' (seen.map π) w Z' (trnN π x)).2:=by
 unfold zN at hv ⊢;dsimp only at hv ⊢;have e:trnN π x=⟨x.kind,x.op,x.n,x.name,x.args.map π,x.outs.map π,x.params.map π,x.kids.map (trnL π)⟩:=trnN_eq π x;rw[e];dsimp only;have hn:∀{want:List Int},zL f.types seen x.args want=true->zL f'.types (seen.map π) (x.args.map π) want=true:=fun hw=>h.types hw
 by_cases k1:x.kind=1
 ·rw[if_pos k1]at hv;rw[if_pos k1,if_pos k1];split at hv
  ·rename_i hc;rw[if_pos hc,if_pos (hn hc)];obtain⟨a,b,_⟩:=h.sets hz hv;exact⟨a,b⟩
  ·cases hv
 rw[if_neg k1]at hv;rw[if_neg k1,if_neg k1];by_cases k2:x.kind=2
 ·rw[if_pos k2]at hv;rw[if_pos k2,if_pos k2];split at hv
  ·rename_i hc;rw[if_pos hc,if_pos ⟨hc.1,hn hc.2⟩];obtain⟨a,b,_⟩:=h.sets hz hv;exact⟨a,b⟩
  ·cases hv
 rw[if_neg k2]at hv;rw[if_neg k2,if_neg k2];by_cases k3:x.kind=3
 ·rw[if_pos k3]at hv;rw[if_pos k3,if_pos k3];split at hv
  ·rename_i hc;rw[if_pos hc,if_pos (by simp only[ya]at hc ⊢;exact⟨hc.1,hn hc.2⟩)];obtain⟨a,b,_⟩:=h.sets hz hv;exact⟨a,b⟩
  ·cases hv
 rw[if_neg k3]at hv;rw[if_neg k3,if_neg k3];by_cases k4:x.kind=4
 ·rw[if_pos k4]at hv;rw[if_pos k4,if_pos k4];split at hv
  ·rename_i hc;rw[if_pos hc,if_pos (by
    obtain⟨h1,h2⟩:=hc;simp only[ya]at h1 ⊢;exact⟨⟨h1.1,hn h1.2⟩,h.at2 h1.2 h2⟩)]
   obtain⟨a,b,_⟩:=h.sets hz hv;exact⟨a,b⟩
  ·cases hv
 rw[if_neg k4]at hv;rw[if_neg k4,if_neg k4];by_cases k5:x.kind=5
 ·rw[if_pos k5]at hv;rw[if_pos k5,if_pos k5,h.arr];split at hv
  ·rename_i hc;rw[if_pos hc,if_pos (by simp only[ya]at hc ⊢;exact⟨hc.1,hn hc.2⟩)];obtain⟨a,b,_⟩:=h.sets hz hv;exact⟨a,b⟩
  ·cases hv
 rw[if_neg k5]at hv;rw[if_neg k5,if_neg k5];by_cases k6:x.kind=6
 ·rw[if_pos k6]at hv;rw[if_pos k6,if_pos k6,h.arr];simp only[ya,decide_eq_true_eq,yua]at hv ⊢;exact⟨⟨hv.1,hn hv.2.1,hv.2.2⟩,hz⟩
 rw[if_neg k6]at hv;rw[if_neg k6,if_neg k6];by_cases k7:x.kind=7
 ·rw[if_pos k7]at hv;rw[if_pos k7,if_pos k7,h.pl];split at hv
  ·rename_i g hg;obtain⟨g',hg',hp,ht⟩:=h.fl _ g hg;rw[hg'];dsimp only;split at hv
   ·rename_i hc;rw[if_pos hc,hp,ht,if_pos ⟨hc.1,hn hc.2⟩];obtain⟨a,b,_⟩:=h.sets hz hv;exact⟨a,b⟩
   ·cases hv
  ·cases hv
 rw[if_neg k7]at hv;rw[if_neg k7,if_neg k7];by_cases k8:x.kind=8
 ·rw[if_pos k8]at hv;rw[if_pos k8,if_pos k8];split at hv
  ·rename_i hc;rw[if_pos hc,if_pos (by rw[hc];rfl)];obtain⟨a,b,_⟩:=h.sets hz hv;exact⟨a,b⟩
  ·cases hv
 rw[if_neg k8]at hv;rw[if_neg k8,if_neg k8];by_cases k9:x.kind=9
 ·rw[if_pos k9]at hv;rw[if_pos k9,if_pos k9];simp only[ya,decide_eq_true_eq,yua]at hv ⊢;exact⟨⟨hn hv.1,hv.2⟩,hz⟩
 rw[if_neg k9]at hv;rw[if_neg k9,if_neg k9];by_cases k12:x.kind=12
 ·rw[if_pos k12]at hv;rw[if_pos k12,if_pos k12];simp only[ya,decide_eq_true_eq,yua]at hv ⊢;exact⟨⟨hv.1,hn hv.2.1,hv.2.2⟩,hz⟩
 rw[if_neg k12]at hv;rw[if_neg k12,if_neg k12];by_cases k13:x.kind=13
 ·rw[if_pos k13]at hv;rw[if_pos k13,if_pos k13];simp only[ya,decide_eq_true_eq,yua]at hv ⊢;exact⟨⟨hv.1,hn hv.2.1,hv.2.2⟩,hz⟩
 rw[if_neg k13]at hv;rw[if_neg k13,if_neg k13];by_cases k14:x.kind=14
 ·rw[if_pos k14]at hv;rw[if_pos k14,if_pos k14];simp only[ya,decide_eq_true_eq,yua]at hv ⊢;exact⟨⟨hv.1,hn hv.2.1,hv.2.2⟩,hz⟩
 rw[if_neg k14]at hv;rw[if_neg k14,if_neg k14];by_cases k15:x.kind=15
 ·rw[if_pos k15]at hv;rw[if_pos k15,if_pos k15];simp only[ya,decide_eq_true_eq,yua,h.rt]at hv ⊢;exact⟨⟨hn hv.1,hv.2⟩,hz⟩
 rw[if_neg k15]at hv;cases hv
theorem trn_lastE{l l':List Node}{q q':Bool×Set1}(hl:l'.isEmpty=l.isEmpty)(hv:(zJc l q).1=true)(h1:q.1=true->q'.1=true/\ZR π f.types.length q.2 q'.2):
  (zJc l' q').1=true/\ZR π f.types.length (zJc l q).2 (zJc l' q').2:=by
 unfold zJc at hv ⊢;split at hv
 ·rename_i hc;obtain⟨a,b⟩:=h1 hc;rw[if_pos hc,if_pos a,hl];exact⟨hv,b⟩
 ·cases hv
mutual
theorem Trn.node(h:Trn π u u' f f'):∀(x:Node) (seen:List Int) (w:Place) (deep:Int) (Z Z':Set1),ZR π f.types.length Z Z'->(zha u f x seen w deep Z).1=true→
  (zha u' f' (trnN π x) (seen.map π) w deep Z').1=true/\ZR π f.types.length (zha u f x seen w deep Z).2 (zha u' f' (trnN π x) (seen.map π) w deep Z').2
 |⟨k,o,n,s,a,us,ps,ks⟩,seen,w,deep,Z,Z',hz,hv=>by
  have hb:=trn_bare π ⟨k,o,n,s,a,us,ps,ks⟩;have ho:=fun(q q':Bool×Set1)=>h.endR (x:=⟨k,o,n,s,a,us,ps,ks⟩) (q:=q) (q':=q')
  have hs:=h.simple (seen:=seen) (w:=w) hz (x:=⟨k,o,n,s,a,us,ps,ks⟩);rw[trnN]at hb ho hs ⊢;rw[zha]at hv ⊢;rw[zha,hb];split at hv
  ·cases hv
  rename_i c0;rw[if_neg c0,if_neg c0];split at hv
  ·rename_i c1;rw[if_pos c1,if_pos c1];split at hv
   ·rename_i c2;rw[if_pos c2,if_pos (h.types c2)];obtain⟨e1,e2⟩:=endR_pre hv;have hout:∀v∈us,0<=v/\v<f.types.length:=zGa e2;rw[h.typesM hout];obtain⟨k1,k2⟩:=h.kids ks seen {w with inIf:=true,yield:=PE.U.typesM f.types us} (deep+1) Z Z' hz e1;exact ho _ _ k2 (fun _=>k1) hv
   ·cases hv
  ·rename_i c1;rw[if_neg c1,if_neg c1];split at hv
   ·rename_i c2;rw[if_pos c2,if_pos c2];split at hv
    ·rename_i c3;rw[if_pos c3];split at hv
     ·rename_i c4;rw[if_pos c4];obtain⟨p1,p2,p3⟩:=h.sets hz c4;obtain⟨e1,e2⟩:=endR_pre hv;have hout:∀v∈us,0<=v/\v<f.types.length:=zGa e2;rw[yG,h.typesM p3,h.typesM hout,if_pos (h.types c3),if_pos p1];obtain⟨k1,k2⟩:=h.kids ks (seen++ps) ⟨false,true,[],PE.U.typesM f.types ps,PE.U.typesM f.types us⟩ (deep+1) _ _ p2 e1;rw[List.map_append]at k1 k2;exact ho _ _ k2 (fun _=>k1) hv
     ·cases hv
    ·cases hv
   ·rename_i c2;rw[if_neg c2,if_neg c2];exact hs hv
theorem Trn.kids(h:Trn π u u' f f'):∀(ks:List (List Node)) (seen:List Int) (w:Place) (deep:Int) (Z Z':Set1),ZR π f.types.length Z Z'->(zYb u f ks seen w deep Z).1=true→
  (zYb u' f' (trnK π ks) (seen.map π) w deep Z').1=true/\ZR π f.types.length (zYb u f ks seen w deep Z).2 (zYb u' f' (trnK π ks) (seen.map π) w deep Z').2
 | [],seen,w,deep,Z,Z',hz,hv=>by
  rw[trnK,zYb,zYb];exact⟨rfl,hz⟩
 |l::r,seen,w,deep,Z,Z',hz,hv=>by
  rw[trnK];rw[zYb]at hv ⊢;rw[zYb];split at hv
  ·rename_i c;rw[if_pos c];obtain⟨k1,k2⟩:=trn_lastE (π:=π) (f:=f) (l':=trnL π l) (q':=goR u' f' (trnL π l) (seen.map π) w deep Z') (by cases l<;>rfl) c (fun hq=>h.go l seen w deep Z Z' hz hq);rw[if_pos k1];exact h.kids r seen w deep _ _ k2 hv
  ·cases hv
theorem Trn.go(h:Trn π u u' f f'):∀(l:List Node) (seen:List Int) (w:Place) (deep:Int) (Z Z':Set1),ZR π f.types.length Z Z'->(goR u f l seen w deep Z).1=true→
  (goR u' f' (trnL π l) (seen.map π) w deep Z').1=true/\ZR π f.types.length (goR u f l seen w deep Z).2 (goR u' f' (trnL π l) (seen.map π) w deep Z').2
 | [],seen,w,deep,Z,Z',hz,hv=>by
  rw[trnL,goR,goR];exact⟨rfl,hz⟩
 |x::r,seen,w,deep,Z,Z',hz,hv=>by
  rw[trnL];rw[goR]at hv ⊢;rw[goR];split at hv
  ·cases hv
  rename_i c0;rw[if_neg c0,if_neg c0];split at hv
  ·rename_i c1;rw[if_pos c1];obtain⟨n1,n2⟩:=h.node x seen w deep Z Z' hz c1;rw[if_pos n1];split at hv
   ·rename_i c2;rw[if_pos c2,if_pos (by rw[trn_closed,c2];cases r<;>rfl)];obtain⟨g1,g2⟩:=h.go r (seen++x.outs) w deep _ _ n2 hv;have ho:(trnN π x).outs=x.outs.map π:=by rw[trnN_eq]
    rw[List.map_append]at g1 g2;rw[ho];exact⟨g1,g2⟩
   ·cases hv
  ·cases hv
end
end
theorem zYc(l to:List Int)(σ:zb)(hl:l.length<1099511627776)(h:∀v∈l,0<=v/\v<to.length):zn E 30 [ints l,ints to] σ=some (.ret (ints (l.map (at0 to))),σ):=by
 refine ze rfl rfl rfl (by simp) ?_;simp[F30,ints];refine zba l K30_0 B30_0 (fun d=>[(6,.int .i64 d.length),(5,acc 1 (d.map fun v=> .int .i64 (at0 to v)))]) (fun _=>σ) (fun d=>True) (by omega) (by simp) ?_ ?_
 ·intros d x r s hl' hlt hget hget' hw hp h1 h2 h3 h4;simp at h1 h3;clear h2;obtain⟨r0',r1'⟩:=h x hl'.mem;have q1:=at0_get r0' r1';have q2:x.toNat<to.length:=by omega
  have q3:=zld r0' r1' q2;have q4:(d.length+1)*8<=zl:=by simp only[zl];omega
  clear h
  (simp[*,ints])<;>(repeat' (first|((first|refine sP _ ?_ ?_|refine gP _ ?_ ?_|refine sN _ ?_ ?_|refine gN _ ?_ ?_)<;>intro hc<;>(first|replace hc:=eqn hc|replace hc:=eqp hc)<;>simp[*,ints])|((first|refine sM _ ?_ ?_|refine gM _ ?_ ?_|refine sB _ ?_ ?_|refine gB _ ?_ ?_)<;>intro hc<;>simp[*,ints])))
 ·intros s hp h1 h2 h3 h4;simp at h1 h3
  (simp[*,ints])<;>(repeat' (first|((first|refine sP _ ?_ ?_|refine gP _ ?_ ?_|refine sN _ ?_ ?_|refine gN _ ?_ ?_)<;>intro hc<;>(first|replace hc:=eqn hc|replace hc:=eqp hc)<;>simp[*,ints])|((first|refine sM _ ?_ ?_|refine gM _ ?_ ?_|refine sB _ ?_ ?_|refine gB _ ?_ ?_)<;>intro hc<;>simp[*,ints])))
mutual
def rngN(m:Nat):Node->Prop
 |⟨_,_,_,_,a,u,p,ks⟩=>(∀v∈a,0<=v/\v<(m:Int))/\(∀v∈u,0<=v/\v<(m:Int))/\(∀v∈p,0<=v/\v<(m:Int))/\rngK m ks
def rngL(m:Nat):List Node->Prop
 | []=>True
 |x::r=>rngN m x/\rngL m r
def rngK(m:Nat):List (List Node)->Prop
 | []=>True
 |l::r=>rngL m l/\rngK m r
end
theorem rngN_eq{m:Nat}{x:Node}:rngN m x<->(∀v∈x.args,0<=v/\v<(m:Int))/\(∀v∈x.outs,0<=v/\v<(m:Int))/\(∀v∈x.params,0<=v/\v<(m:Int))/\rngK m x.kids:=by cases x;rw[rngN]
theorem rngL_mem{m:Nat}:∀{l:List Node},rngL m l->∀x∈l,rngN m x
 | [],_,x,hx=>by cases hx
 |y::r,h,x,hx=>by
  rw[rngL]at h;rcases yz.1 hx with rfl|hx
  ·exact h.1
  ·exact rngL_mem h.2 x hx
theorem rngK_mem{m:Nat}:∀{l:List (List Node)},rngK m l->∀x∈l,rngL m x
 | [],_,x,hx=>by cases hx
 |y::r,h,x,hx=>by
  rw[rngK]at h;rcases yz.1 hx with rfl|hx
  ·exact h.1
  ·exact rngK_mem h.2 x hx
theorem turned_spec(to:List Int):∀(N:Nat) (l:List Node) (σ:zb),wtL l<=N->N<1000000000->rngL to.length l->zn E 13 [zj l,ints to] σ=some (.ret (zj (trnL (at0 to) l)),σ):=by
 intro N
 induction N using Nat.strongRecOn with
 |ind N ih=>
  intro l σ hl hN hr;refine ze rfl rfl rfl (by simp) ?_;have hll:=len_wtL l;rw[trnL_eq];simp[F13,zj,ints];refine zba l K13_1 B13_1 (fun d=>[(6,.int .i64 d.length),(5,acc 8 (d.map fun x=>zQ (trnN (at0 to) x)))]) (fun _=>σ) (fun d=>True) (by omega) (by simp) ?_ ?_
  ·intros d x r s hl' hlt hget hget' hw hp h1 h2 h3 h4;simp at h1 h3;clear h2;have hx:=hl'.mem;have hwx:=wt_mem hx;have hxk:=zjc x;have hlk:=len_wtK x.kids;obtain⟨r1,r2,r3,r4⟩:=rngN_eq.1 (rngL_mem hr x hx);have n1:=zYc x.args to [] (by omega) r1;have n2:=zYc x.outs to [] (by omega) r2;have n3:=zYc x.params to [] (by omega) r3;have hk:∀q∈x.kids,zn E 13 [zj q,ints to] []=some (.ret (zj (trnL (at0 to) q)),[]):=fun q hq=>ih (wtL q) (by have:=wt_kid hq;omega) q [] (yl _) (by have:=wt_kid hq;omega) (rngK_mem r4 q hq)
   have q4:(d.length+1)*136<=zl:=by simp only[zl];omega
   have hkl:x.kids.length<1099511627776:=by omega
   have he:=trnN_eq (at0 to) x;clear r1 r2 r3 r4 hr hwx hxk;simp[ints]at n1 n2 n3;simp[*,za,ints,kids];refine zba x.kids K13_0 B13_0 (fun d=>[(9,.int .i64 d.length),(8,acc 1 (d.map fun y=>zj (trnL (at0 to) y)))]) (fun _=>σ) (fun d=>True) (by omega) (by simp) ?_ ?_
   ·intros e y r' s' hl2 hlt2 hget2 hget2' hw2 hp' k1 k2 k3 k4;simp at k1 k2 k3;have hv:=hk y hl2.mem;have q5:(e.length+1)*24<=zl:=by simp only[zl];omega
    clear hk;simp[zj,ints]at hv
    (simp[*,zj,kids,ints])<;>(repeat' (first|((first|refine sP _ ?_ ?_|refine gP _ ?_ ?_|refine sN _ ?_ ?_|refine gN _ ?_ ?_)<;>intro hc<;>(first|replace hc:=eqn hc|replace hc:=eqp hc)<;>simp[*,zj,kids,ints])|((first|refine sM _ ?_ ?_|refine gM _ ?_ ?_|refine sB _ ?_ ?_|refine gB _ ?_ ?_)<;>intro hc<;>simp[*,zj,kids,ints])))
   ·intros s' hp' k1 k2 k3 k4;simp at k1 k2 k3;clear hk;rcases hkk:x.kids with _|⟨k0,kr⟩
    ·simp only[hkk]at k1 k2 k3 he;simp at k1 k2 k3;simp at he
     (simp[*,zj,kids,za,ints])<;>(repeat' (first|((first|refine sP _ ?_ ?_|refine gP _ ?_ ?_|refine sN _ ?_ ?_|refine gN _ ?_ ?_)<;>intro hc<;>(first|replace hc:=eqn hc|replace hc:=eqp hc)<;>simp[*,zj,kids,za,ints])|((first|refine sM _ ?_ ?_|refine gM _ ?_ ?_|refine sB _ ?_ ?_|refine gB _ ?_ ?_)<;>intro hc<;>simp[*,zj,kids,za,ints])))
    ·simp only[hkk]at k1 k2 k3 he;simp at k1 k2 k3
     (simp[*,zj,kids,za,ints])<;>(repeat' (first|((first|refine sP _ ?_ ?_|refine gP _ ?_ ?_|refine sN _ ?_ ?_|refine gN _ ?_ ?_)<;>intro hc<;>(first|replace hc:=eqn hc|replace hc:=eqp hc)<;>simp[*,zj,kids,za,ints])|((first|refine sM _ ?_ ?_|refine gM _ ?_ ?_|refine sB _ ?_ ?_|refine gB _ ?_ ?_)<;>intro hc<;>simp[*,zj,kids,za,ints])))
     all_goals rfl
  ·intros s hp h1 h2 h3 h4;simp at h1 h3
   (simp[*,zj])<;>(repeat' (first|((first|refine sP _ ?_ ?_|refine gP _ ?_ ?_|refine sN _ ?_ ?_|refine gN _ ?_ ?_)<;>intro hc<;>(first|replace hc:=eqn hc|replace hc:=eqp hc)<;>simp[*,zj])|((first|refine sM _ ?_ ?_|refine gM _ ?_ ?_|refine sB _ ?_ ?_|refine gB _ ?_ ?_)<;>intro hc<;>simp[*,zj])))
mutual
def szN:Node->Nat
 |⟨_,_,_,_,_,_,_,ks⟩=>1+szK ks
def szL:List Node->Nat
 | []=>0
 |x::r=>szN x+szL r
def szK:List (List Node)->Nat
 | []=>0
 |l::r=>szL l+szK r
end
theorem szN_eq(x:Node):szN x=1+szK x.kids:=by cases x;rfl
theorem szL_append(a b:List Node):szL (a++b)=szL a+szL b:=by
 induction a with
 |nil=>simp[szL]
 |cons x r ih=>simp[szL,ih];omega
theorem szK_append(a b:List (List Node)):szK (a++b)=szK a+szK b:=by
 induction a with
 |nil=>simp[szK]
 |cons x r ih=>simp[szK,ih];omega
mutual
theorem szN_le:∀x:Node,szN x<=wtN x
 |⟨_,_,_,s,a,u,p,ks⟩=>by have:=szK_le ks;simp only[szN,wtN];omega
theorem szL_le:∀l:List Node,szL l<=wtL l
 | []=>by simp[szL,wtL]
 |x::r=>by have h1:=szN_le x;have h2:=szL_le r;simp only[szL,wtL];omega
theorem szK_le:∀l:List (List Node),szK l<=wtK l
 | []=>by simp[szK,wtK]
 |x::r=>by have h1:=szL_le x;have h2:=szK_le r;simp only[szK,wtK];omega
end
mutual
theorem trn_szN(π:Int->Int):∀x:Node,szN (trnN π x)=szN x
 |⟨k,o,n,s,a,u,p,ks⟩=>by rw[trnN,szN,szN,trn_szK π ks]
theorem trn_szL(π:Int->Int):∀l:List Node,szL (trnL π l)=szL l
 | []=>rfl
 |x::r=>by rw[trnL,szL,szL,trn_szN π x,trn_szL π r]
theorem trn_szK(π:Int->Int):∀l:List (List Node),szK (trnK π l)=szK l
 | []=>rfl
 |x::r=>by rw[trnK,szK,szK,trn_szL π x,trn_szK π r]
end
theorem size8_spec:∀(N:Nat) (l:List Node) (σ:zb),wtL l<=N->N<1099511627776->zn E 14 [zj l] σ=some (.ret (.int .i64 (szL l)),σ):=by
 intro N
 induction N using Nat.strongRecOn with
 |ind N ih=>
  intro l σ hl hN;refine ze rfl rfl rfl (by simp) ?_;have hll:=len_wtL l;have hgl:=szL_le l;simp[F14,zj];refine zba l K14_1 B14_1 (fun d=>[(2,.int .i64 (szL d:Int)),(9,.int .i64 d.length)]) (fun _=>σ) (fun d=>True) (by omega) (by simp[szL]) ?_ ?_
  ·intros d x r s hl' hlt hget hget' hw hp h1 h2 h3 h4;simp at h1 h3;clear h2;have hx:=hl'.mem;have hs:szL l=szL d+szN x+szL r:=by rw[hl'.eq,szL_append];simp only[szL];omega
   have hwx:=wt_mem hx;have hne:=szN_eq x;have hxk:=zjc x;have hlk:=len_wtK x.kids;have w1:zX .i64 ((szL d:Int)+1)=(szL d:Int)+1:=zo (by omega) (by omega);have hk:∀q∈x.kids,zn E 14 [zj q] []=some (.ret (.int .i64 (szL q:Int)),[]):=fun q hq=>ih (wtL q) (by have:=wt_kid hq;omega) q [] (yl _) (by have:=wt_kid hq;omega)
   have he:(szL (d++[x]):Int)=(szL d:Int)+1+(szK x.kids:Int):=by rw[szL_append];simp only[szL];omega
   have hb:(szL d:Int)+1+(szK x.kids:Int)<9000000000000:=by omega
   have hkl:x.kids.length<1099511627776:=by omega
   clear hs hwx hne hxk hgl;simp[*,za,ints,kids];refine zba x.kids K14_0 B14_0 (fun e=>[(2,.int .i64 ((szL d:Int)+1+(szK e:Int))),(18,.int .i64 e.length)]) (fun _=>σ) (fun d=>True) (by omega) (by simp[szK]) ?_ ?_
   ·intros e y r' s' hl2 hlt2 hget2 hget2' hw2 hp' k1 k2 k3 k4;simp at k1 k3;clear k2;have hsk:szK x.kids=szK e+szL y+szK r':=by rw[hl2.eq,szK_append];simp only[szK];omega
    have hv:=hk y hl2.mem;have v1:zX .i64 ((szL d:Int)+1+(szK e:Int)+(szL y:Int))=(szL d:Int)+1+(szK e:Int)+(szL y:Int):=zo (by omega) (by omega);have hf:(szK (e++[y]):Int)=(szK e:Int)+(szL y:Int):=by rw[szK_append];simp only[szK];omega
    clear hsk hb hl2 hk he;simp[zj]at hv
    (simp[*,zj,kids,za])<;>(repeat' (first|((first|refine sP _ ?_ ?_|refine gP _ ?_ ?_|refine sN _ ?_ ?_|refine gN _ ?_ ?_)<;>intro hc<;>(first|replace hc:=eqn hc|replace hc:=eqp hc)<;>simp[*,zj,kids,za])|((first|refine sM _ ?_ ?_|refine gM _ ?_ ?_|refine sB _ ?_ ?_|refine gB _ ?_ ?_)<;>intro hc<;>simp[*,zj,kids,za])))
    all_goals omega
   ·intros s' hp' k1 k2 k3 k4;simp at k1 k3;clear k2
    (simp[*,zj,kids,za])<;>(repeat' (first|((first|refine sP _ ?_ ?_|refine gP _ ?_ ?_|refine sN _ ?_ ?_|refine gN _ ?_ ?_)<;>intro hc<;>(first|replace hc:=eqn hc|replace hc:=eqp hc)<;>simp[*,zj,kids,za])|((first|refine sM _ ?_ ?_|refine gM _ ?_ ?_|refine sB _ ?_ ?_|refine gB _ ?_ ?_)<;>intro hc<;>simp[*,zj,kids,za])))
    all_goals omega
  ·intros s hp h1 h2 h3 h4;simp at h1 h3
   (simp[*,zj])<;>(repeat' (first|((first|refine sP _ ?_ ?_|refine gP _ ?_ ?_|refine sN _ ?_ ?_|refine gN _ ?_ ?_)<;>intro hc<;>(first|replace hc:=eqn hc|replace hc:=eqp hc)<;>simp[*,zj])|((first|refine sM _ ?_ ?_|refine gM _ ?_ ?_|refine sB _ ?_ ?_|refine gB _ ?_ ?_)<;>intro hc<;>simp[*,zj])))
theorem goR_two{u:Unt}{f:Flow}{x:Node}{r:List Node}{seen:List Int}{w:Place}{deep:Int}{Z:Set1}(hd:deep<=100)(h:(zha u f x seen w deep Z).1=true)(hc:zi x=r.isEmpty):
  goR u f (x::r) seen w deep Z=goR u f r (seen++x.outs) w deep (zha u f x seen w deep Z).2:=by
 rw[goR,if_neg (by omega),if_pos h,if_pos hc]
def Ty12(l:List Int):Prop:=∀t∈l,t=1\/t=2
structure SeenOk(ts seen:List Int):Prop where
 zero:(0:Int)∈seen
 rng:∀x∈seen,0<=x/\x<ts.length
 has:∀t,t=1\/t=2->∃x∈seen,atA ts x.toNat=t
theorem some1_mem(ts:List Int)(t:Int):∀(l:List Int) (f:Bool) (k v:Int),some1 ts t l f k v∈l\/some1 ts t l f k v=v
 | [],f,k,v=> .inr rfl
 |x::r,f,k,v=>by
  rw[some1];split
  ·rcases some1_mem ts t r false (k-1) x with h|h
   ·exact .inl (yH _ h)
   ·rw[h];exact .inl (by simp)
  ·rcases some1_mem ts t r false k v with h|h
   ·exact .inl (yH _ h)
   ·exact .inr h
theorem some2_mem(ts:List Int)(t:Int):∀(l:List Int) (v:Int),some2 ts t l v∈l\/some2 ts t l v=v
 | [],v=> .inr rfl
 |x::r,v=>by
  rw[some2];split
  ·exact .inr rfl
  ·rcases some2_mem ts t r (if atA ts x.toNat=t then x else v)with h|h
   ·exact .inl (yH _ h)
   ·rw[h];split
    ·exact .inl (by simp)
    ·exact .inr rfl
theorem some2_ty(ts:List Int)(t:Int):∀(l:List Int) (v:Int),(atA ts v.toNat=t\/∃x∈l,atA ts x.toNat=t)->atA ts (some2 ts t l v).toNat=t
 | [],v,h=>by
  rcases h with h|⟨x,hx,_⟩
  ·exact h
  ·cases hx
 |x::r,v,h=>by
  rw[some2];split
  ·assumption
  ·rename_i hv;refine some2_ty ts t r _ ?_;rcases h with h|⟨y,hy,h⟩
   ·exact absurd h hv
   ·rcases yz.1 hy with rfl|hy
    ·rw[if_pos h];exact .inl h
    ·exact .inr ⟨y,hy,h⟩
theorem someV_ok{ts seen:List Int}(h:SeenOk ts seen){t:Int}(ht:t=1\/t=2)(k:Int):someV ts seen t k∈seen/\atA ts (someV ts seen t k).toNat=t:=by
 unfold someV;refine⟨?_,some2_ty ts t seen _ (.inr (h.has t ht))⟩;rcases some2_mem ts t seen (some1 ts t seen true k 0)with h1|h1
 ·exact h1
 ·rw[h1];rcases some1_mem ts t seen true k 0 with h2|h2
  ·exact h2
  ·rw[h2];exact h.zero
theorem at0_pre{ts F y:List Int}(hF:F=ts++y){v:Int}(h:0<=v/\v<ts.length):at0 F v=atA ts v.toNat:=by
 unfold at0 atA;rw[hF,yg (by omega)]
theorem useR_ok{ts F y seen:List Int}(hF:F=ts++y)(h:SeenOk ts seen){t:Int}(ht:t=1\/t=2)(k t':Int)(h':t'=0\/t'=t):useR F seen (someV ts seen t k) t'=true:=by
 obtain⟨h1,h2⟩:=someV_ok h ht k;have hr:=h.rng _ h1;have hl:ts.length<=F.length:=by rw[hF];simp
 unfold useR;rw[at0_pre hF hr,h2];simp only[ya,yy,decide_eq_true_eq,yDa];refine⟨hr.1,by omega,h1,?_⟩;rcases h' with h'|h'
 ·exact .inl h'
 ·exact .inr h'.symm
theorem zjb(L:List UInt8){ts F y seen:List Int}(hF:F=ts++y)(h:SeenOk ts seen):∀(l:List Int) (i:Nat),Ty12 l->zL F seen (zga L ts seen l i) l=true
 | [],i,hl=>by simp[zL,zga]
 |t::r,i,hl=>by
  have ih:=zjb L hF h r (i+1) (fun t ht=>hl t (yH _ ht));have hu:=useR_ok hF h (hl t (by simp)) (pk L i 8) t (.inr rfl);unfold zL at ih ⊢;simp only[ya,decide_eq_true_eq]at ih;simp only[zga,yP,List.zip_cons_cons,List.all_cons,hu,yBa,ih.1,decide_true,ih.2]
def ZOk(F:List Int)(n:Nat)(Z:Set1):Prop:=Z.length=F.length/\∀j:Nat,n<=j->(Z[j]?).getD false=false
theorem ZOk.mono{F:List Int}{n m:Nat}{Z:Set1}(h:ZOk F n Z)(hm:n<=m):ZOk F m Z:=⟨h.1,fun j hj=>h.2 j (by omega)⟩
theorem set1_ok{F:List Int}{n:Nat}{Z:Set1}(h:ZOk F n Z)(hn:n<F.length){t:Int}(ht:t=0\/at0 F n=t):zHb F Z n t=(true,Z.set n true)/\ZOk F (n+1) (Z.set n true):=by
 have hz:=h.2 n (yl _);refine⟨?_,by simpa using h.1,fun j hj=>?_⟩
 ·unfold zHb;have hv:valM F n t=true:=by
   simp only[valM,ya,yy,decide_eq_true_eq];exact⟨by omega,by omega,ht⟩
  rw[hv];have hb:atB Z n=false:=by simpa[atB]using hz
  rw[hb];simp
 ·rw[yp (by omega)];exact h.2 j (by omega)
theorem zeros_succ(k:Nat):zmb (k+1)=zmb k++[0]:=by simp[zmb,List.replicate_succ']
theorem setsN_ok{F:List Int}{n:Nat}{Z:Set1}(h:ZOk F n Z):∀k,n+k<=F.length->(zra F Z (newV n k) (zmb k)).1=true/\ZOk F (n+k) (zra F Z (newV n k) (zmb k)).2
 |0,hk=>by simpa[zra,eqM,eqGo,newV,zmb]using h
 |k+1,hk=>by
  obtain⟨i1,i2⟩:=setsN_ok h k (by omega);have hl:(newV n k).length=(zmb k).length:=by simp[zoa,zmb]
  have e:zra F Z (newV n (k+1)) (zmb (k+1))=(zHb F (zra F Z (newV n k) (zmb k)).2 (n+k:Nat) 0):=by
   unfold zra eqM at i1 i2 ⊢;rw[if_pos hl]at i1 i2;rw[if_pos (by simp[zoa,zmb]),if_pos hl,newV,zeros_succ,List.zip_append hl,zhd,if_pos i1];simp only[List.zip_cons_cons,List.zip_nil_right,eqGo];generalize zHb F (eqGo (zHb F) Z ((newV n k).zip (zmb k))).snd ((n+k:Nat):Int) 0=q;obtain⟨b,q⟩:=q;cases b<;>rfl
  have s0:=set1_ok i2 (show n+k<F.length by omega) (t:=0) (Or.inl (Eq.refl (0:Int)));obtain⟨s1,s2⟩:=s0;rw[e,s1];exact⟨rfl,s2⟩
theorem set_one{F:List Int}{n:Nat}{Z:Set1}(h:ZOk F n Z)(hn:n<F.length){t:Int}(ht:at0 F n=t):(zra F Z [(n:Int)] [t]).1=true/\ZOk F (n+1) (zra F Z [(n:Int)] [t]).2:=by
 obtain⟨s1,s2⟩:=set1_ok h hn (t:=t) (.inr ht);have e:zra F Z [(n:Int)] [t]=(true,Z.set n true):=by simp[zra,eqM,eqGo,s1]
 rw[e];exact⟨rfl,s2⟩
theorem atA_pre(ts x:List Int){v:Int}(h:0<=v/\v<ts.length):atA (ts++x) v.toNat=atA ts v.toNat:=by
 unfold atA;rw[yg (by omega)]
theorem SeenOk.ext{ts seen:List Int}(h:SeenOk ts seen)(x os:List Int)(ho:∀v∈os,0<=v/\v<(ts++x).length):SeenOk (ts++x) (seen++os):=by
 refine⟨by simp[h.zero],fun v hv=>?_,fun t ht=>?_⟩
 ·rcases yx.1 hv with hv|hv
  ·have:=h.rng v hv;simp only[yh];omega
  ·exact ho v hv
 ·obtain⟨v,hv,e⟩:=h.has t ht;exact⟨v,by simp[hv],by rw[atA_pre ts x (h.rng v hv)];exact e⟩
structure RoundOk(u:Unt)(f:Flow):Prop where
 arr:zFb u.arrays [97]=true
 fl:∃g,u.flows[(zZ u.flows [102]).toNat]? =some g/\0<=zZ u.flows [102]/\pars g=[1,2]/\g.type=1
 ty:f.type=1
theorem at0_new{F ts y:List Int}{t:Int}(hF:F=ts++t::y):at0 F ts.length=t:=by
 unfold at0;rw[hF];simp
structure NodeR(u:Unt)(f:Flow)(x:Node)(seen:List Int)(w:Place)(deep:Int)(Z:Set1)(n:Nat):Prop where
 ok:(zha u f x seen w deep Z).1=true
 z:ZOk f.types n (zha u f x seen w deep Z).2
theorem node_of{u:Unt}{f:Flow}{x:Node}{seen:List Int}{w:Place}{deep:Int}{Z:Set1}{n:Nat}{b:Bool}{Z':Set1}(h:zha u f x seen w deep Z=(b,Z'))(hb:b=true)(hz:ZOk f.types n Z'):NodeR u f x seen w deep Z n:=by
 subst hb;exact⟨by rw[h],by rw[h];exact hz⟩
theorem simple_R(L:List UInt8){u:Unt}{f:Flow}(hR:RoundOk u f){seen ts y:List Int}(h:SeenOk ts seen)(i:Nat)(hF:f.types=ts++(zu L seen ts i).2.2++y)(w:Place)(deep:Int){Z:Set1}(hZ:ZOk f.types ts.length Z):
  NodeR u f (zu L seen ts i).1 seen w deep Z (ts++(zu L seen ts i).2.2).length/\zi (zu L seen ts i).1=false/\(zu L seen ts i).1.leaves=false:=by
 have e1:=fun(y:List Int) (hF:f.types=ts++y) i=>zjb L hF h [1] i (by simp[Ty12])
 have e2:=fun(y:List Int) (hF:f.types=ts++y) i=>zjb L hF h [2] i (by simp[Ty12])
 have e3:=fun(y:List Int) (hF:f.types=ts++y) i=>zjb L hF h [1,1] i (by simp[Ty12])
 have e4:=fun(y:List Int) (hF:f.types=ts++y) i=>zjb L hF h [1,2] i (by simp[Ty12])
 obtain⟨g,hg1,hg2,hg3,hg4⟩:=hR.fl;have one:∀(t:Int) (y:List Int),f.types=ts++t::y->(zra f.types Z [(ts.length:Int)] [t]).1=true/\ZOk f.types (ts.length+1) (zra f.types Z [(ts.length:Int)] [t]).2:=by
  intro t y hF;exact set_one hZ (by rw[hF];simp) (at0_new hF)
 have nil0:zL f.types seen [] []=true:=by simp[zL]
 have mk:∀(x:Node) (t:Int),f.types=ts++[t]++y->zha u f x seen w deep Z=zra f.types Z [(ts.length:Int)] [t]->NodeR u f x seen w deep Z (ts++[t]).length:=by
  intro x t hF hx;have h1:=one t y (by rw[hF];simp);exact⟨by rw[hx];exact h1.1,by rw[hx,yh];exact h1.2⟩
 have mk0:∀(x:Node),zha u f x seen w deep Z=(true,Z)->NodeR u f x seen w deep Z (ts++[]).length:=by
  intro x hx;exact⟨by rw[hx],by rw[hx,List.append_nil];exact hZ⟩
 have h12:=pk_lt L i 12 (by omega);have h6:=pk_lt L (i+1) 6 (by omega);have h2:=pk_lt L (i+1) 2 (by omega);have h4:=pk_lt L (i+1) 4 (by omega);have h11:=pk_lt L (i+1) 11 (by omega);have hc:pk L i 12=0\/pk L i 12=1\/pk L i 12=2\/pk L i 12=3\/pk L i 12=4\/pk L i 12=5\/pk L i 12=6\/pk L i 12=7\/pk L i 12=8\/pk L i 12=9\/pk L i 12=10\/pk L i 12=11:=by omega
 have two:∀(op:Int) (j:Nat),1<=op/\op<=17->∀(y:List Int),f.types=ts++y->zL f.types seen (zga L ts seen [1,1] j) [takes op,takes op]=true/\at0 f.types (at0 (zga L ts seen [1,1] j) 0)=at0 f.types (at0 (zga L ts seen [1,1] j) 1):=by
  intro op j hop y hF;have ht:takes op=0\/takes op=1:=by unfold takes;split<;>(try split)<;>omega
  have u1:=useR_ok hF h (t:=1) (.inl rfl) (pk L j 8) (takes op) ht;have u2:=useR_ok hF h (t:=1) (.inl rfl) (pk L (j+1) 8) (takes op) ht;have v1:=someV_ok h (t:=1) (.inl rfl) (pk L j 8);have v2:=someV_ok h (t:=1) (.inl rfl) (pk L (j+1) 8);have a1:=at0_pre hF (h.rng _ v1.1);have a2:=at0_pre hF (h.rng _ v2.1);rw[v1.2]at a1;rw[v2.2]at a2;refine⟨by simp[zL,zga,u1,u2],?_⟩;simp only[zga];show at0 f.types (at0 [_,_] 0)=at0 f.types (at0 [_,_] 1)
  simp only[at0,Int.toNat_zero,Int.toNat_one,yT,yZ,yJ]at a1 a2 ⊢;rw[a1,a2]
 have mk2:∀(op m:Int) (j:Nat),1<=op/\op<=17->zbd op=m->f.types=ts++[m]++y->NodeR u f (nd 4 op 0 [] (zga L ts seen [1,1] j) [(ts.length:Int)]) seen w deep Z (ts++[m]).length:=by
  intro op m j hop hm hF;obtain⟨t1,t2⟩:=two op j hop ([m]++y) (by rw[hF];simp);have hi:isTwo op=true:=by simp[isTwo];omega
  refine mk _ m hF ?_;simp[zha,zxa,zYa,zN,t1,t2,hi,hm]
 rcases hc with c|c|c|c|c|c|c|c|c|c|c|c
 ·simp only[zu,c]at hF ⊢;exact⟨mk _ _ hF (by simp[zha,zxa,zYa,zN,nil0]),by simp[zi,Node.ends],by simp[Node.leaves]⟩
 ·simp only[zu,c]at hF ⊢;have hb:((pk L (i+1) 2:Nat):Int)=0\/((pk L (i+1) 2:Nat):Int)=1:=by omega
  refine⟨mk _ _ hF ?_,by simp[zi,Node.ends],by simp[Node.leaves]⟩;rcases hb with hb|hb<;>simp[zha,zxa,zYa,zN,nil0,hb]
 ·simp only[zu,c]at hF ⊢;have e:=e1 ([1]++y) (by rw[hF];simp) (i+2);have hop:pk L (i+1) 4=0\/pk L (i+1) 4=1\/pk L (i+1) 4=2\/pk L (i+1) 4=3:=by omega
  refine⟨mk _ _ hF ?_,by simp[zi,Node.ends],by simp[Node.leaves]⟩;rcases hop with k|k|k|k<;>simp[zha,zxa,zYa,zN,k,atA,isOne,takes,zbd,e]
 ·simp only[zu,c]at hF ⊢;have e:=e2 ([2]++y) (by rw[hF];simp) (i+1);exact⟨mk _ _ hF (by simp[zha,zxa,zYa,zN,isOne,takes,zbd,e]),by simp[zi,Node.ends],by simp[Node.leaves]⟩
 ·simp only[zu,c]at hF ⊢;exact⟨mk2 _ _ _ (by omega) (by unfold zbd;rw[if_neg (by omega)]) hF,by simp[zi,Node.ends],by simp[Node.leaves]⟩
 ·simp only[zu,c]at hF ⊢;exact⟨mk2 _ _ _ (by omega) (by unfold zbd;rw[if_neg (by omega)]) hF,by simp[zi,Node.ends],by simp[Node.leaves]⟩
 ·simp only[zu,c]at hF ⊢;exact⟨mk2 _ _ _ (by omega) (by unfold zbd;rw[if_neg (by omega)]) hF,by simp[zi,Node.ends],by simp[Node.leaves]⟩
 ·simp only[zu,c]at hF ⊢;exact⟨mk2 _ _ _ (by omega) (by unfold zbd;rw[if_pos (by omega)]) hF,by simp[zi,Node.ends],by simp[Node.leaves]⟩
 ·simp only[zu,c]at hF ⊢;exact⟨mk2 _ _ _ (by omega) (by unfold zbd;rw[if_pos (by omega)]) hF,by simp[zi,Node.ends],by simp[Node.leaves]⟩
 ·simp only[zu,c]at hF ⊢;have e:=e1 ([1]++y) (by rw[hF];simp) (i+1);exact⟨mk _ _ hF (by simp[zha,zxa,zYa,zN,hR.arr,e]),by simp[zi,Node.ends],by simp[Node.leaves]⟩
 ·simp only[zu,c]at hF ⊢;have e:=e3 y (by rw[hF];simp) (i+1);exact⟨mk0 _ (by simp[zha,zxa,zYa,zN,hR.arr,e]),by simp[zi,Node.ends],by simp[Node.leaves]⟩
 ·have hop:pk L (i+1) 4=0\/pk L (i+1) 4=1\/pk L (i+1) 4=2\/pk L (i+1) 4=3:=by omega
  rcases hop with k|k|k|k<;>simp only[zu,c,k]at hF ⊢
  ·have e:=e4 ([1]++y) (by rw[hF];simp) (i+2);exact⟨mk _ _ hF (by simp[zha,zxa,zYa,zN,hg1,hg2,hg3,hg4,e]),by simp[zi,Node.ends],by simp[Node.leaves]⟩
  ·exact⟨mk _ _ hF (by simp[zha,zxa,zYa,zN]),by simp[zi,Node.ends],by simp[Node.leaves]⟩
  ·have e:=e1 y (by rw[hF];simp) (i+2);exact⟨mk0 _ (by simp[zha,zxa,zYa,zN,e]),by simp[zi,Node.ends],by simp[Node.leaves]⟩
  ·have e:=e1 y (by rw[hF];simp) (i+2);exact⟨mk0 _ (by simp[zha,zxa,zYa,zN,e]),by simp[zi,Node.ends],by simp[Node.leaves]⟩
structure At(p:HPl)(w:Place)(l:List Node):Prop where
 iff:w.inIf=p.iff
 loop:w.inLoop=p.loop
 y:zpa l=true->w.yield=p.yield
 n:w.next=p.next
 l:zP l=true->w.left=p.left
structure PlTy(p:HPl):Prop where
 y:Ty12 p.yield
 n:Ty12 p.next
 l:Ty12 p.left
theorem end_R(L:List UInt8){u:Unt}{f:Flow}(hR:RoundOk u f){seen ts y:List Int}(h:SeenOk ts seen){p:HPl}(hp:PlTy p)(i:Nat)(hF:f.types=ts++y){w:Place}(deep:Int){Z:Set1}(hZ:ZOk f.types ts.length Z)(hw:At p w [endG L seen ts p i]):
  NodeR u f (endG L seen ts p i) seen w deep Z ts.length/\zi (endG L seen ts p i)=true:=by
 obtain⟨w1,w2,w3,w4,w5⟩:=hw;have e:endG L seen ts p i=nd (endL p (pk L i 6)).1 0 0 [] (zga L ts seen (endL p (pk L i 6)).2 (i+1)) []:=rfl;rw[e]at w3 w5 ⊢;generalize pk L i 6=k at*;have ey:=zjb L hF h p.yield (i+1) hp.y;have en:=zjb L hF h p.next (i+1) hp.n;have el:=zjb L hF h p.left (i+1) hp.l;have e1:=zjb L hF h [1] (i+1) (by simp[Ty12]);have hty:=hR.ty;unfold endL at w3 w5 ⊢;by_cases c1:p.iff=true/\k<4
 ·simp only[c1,and_self,if_true]at w3 w5 ⊢;have:=w3 (by simp[zpa]);refine⟨node_of (b:=true) (Z':=Z) ?_ rfl hZ,by simp[zi,Node.ends]⟩;simp[zha,zxa,zYa,zN,w1,c1.1,this,ey]
 ·simp only[c1,if_false]at w3 w5 ⊢;by_cases c2:p.loop=true/\k%2=0
  ·simp only[c2,and_self,if_true]at w3 w5 ⊢;refine⟨node_of (b:=true) (Z':=Z) ?_ rfl hZ,by simp[zi,Node.ends]⟩;simp[zha,zxa,zYa,zN,w2,c2.1,w4,en]
  ·simp only[c2,if_false]at w3 w5 ⊢;by_cases c3:p.loop=true
   ·simp only[c3,if_true]at w3 w5 ⊢;have:=w5 (by simp[zP,Node.leaves]);refine⟨node_of (b:=true) (Z':=Z) ?_ rfl hZ,by simp[zi,Node.ends]⟩;simp[zha,zxa,zYa,zN,w2,c3,this,el]
   ·simp only[c3,if_false]at w3 w5 ⊢;refine⟨node_of (b:=true) (Z':=Z) ?_ rfl hZ,by simp[zi,Node.ends]⟩;simp[zha,zxa,zYa,zN,hty,e1]
theorem runG_out(L:List UInt8)(rc:Option LG)(p:HPl):∀c out all i ts left,runG L rc p c out all i ts left={runG L rc p c [] all i ts left with n:=out++(runG L rc p c [] all i ts left).n}:=by
 intro c
 induction c with
 |zero=>intro out all i ts left;simp[runG,finG]
 |succ c ih=>
  intro out all i ts left;rw[runG,runG];split
  ·simp[finG]
  ·simp only;split
   ·simp
   ·rw[ih (out++_),ih ([]++_)];simp
def LGR(u:Unt)(f:Flow)(g:LG)(D:Int):Prop:=∀seen p i ts left w deep Z y,PlTy p->PlOk p->SeenOk ts seen->deep<=D->f.types=(g seen p i ts left).ts++y->ZOk f.types ts.length Z->At p w (g seen p i ts left).n→
 (goR u f (g seen p i ts left).n seen w deep Z).1=true/\ZOk f.types (g seen p i ts left).ts.length (goR u f (g seen p i ts left).n seen w deep Z).2/\(g seen p i ts left).n≠ []
theorem zBc(L:List UInt8)(i:Nat):Ty12 (zja L i):=by
 have key:∀k,Ty12 (tyV L (i+1) k):=by
  intro k
  induction k with
  |zero=>simp[tyV,Ty12]
  |succ k ih=>
   intro t ht;simp only[tyV,yx,List.mem_singleton]at ht;rcases ht with ht|ht
   ·exact ih t ht
   ·have:=pk_lt L (i+1+k) 2 (by omega);omega
 exact key _
theorem typesM_new{F ts t y:List Int}(hF:F=ts++t++y):typesM F (newV ts.length t.length)=t:=by
 have key:∀k,k<=t.length->(newV ts.length k).map (at0 F)=t.take k:=by
  intro k
  induction k with
  |zero=>intro _;simp[newV]
  |succ k ih=>
   intro hk;obtain⟨a,ha⟩:∃a,t[k]? =some a:=⟨_,ye (by omega)⟩
   rw[newV,List.map_append,ih (by omega),List.take_add_one,ha];have e:at0 F ((ts.length+k:Nat):Int)=a:=by
    unfold at0;rw[hF,yGa,yV,yj (by omega),Nat.add_sub_cancel_left,yg (by omega),ha];rfl
   rw[yda,List.map_nil,e];rfl
 unfold typesM;rw[if_pos,key _ (yl _),List.take_length];rw[yn];intro v hv;have:=zad _ _ _ hv;have hl:F.length=ts.length+t.length+y.length:=by rw[hF];simp[yla]
 simp only[valM,ya,yy,decide_eq_true_eq];exact⟨by omega,by omega,.inl trivial⟩
theorem outed_R{u:Unt}{f:Flow}{n:Node}{i:Nat}{ts:List Int}{left:Nat}{t y:List Int}(ho:n.outs=[])(hF:f.types=(zxc n i ts left t).ts++y){Z1:Set1}(hZ:ZOk f.types ts.length Z1):
  (endR f.types (zxc n i ts left t).n (true,Z1)).1=true/\ZOk f.types (zxc n i ts left t).ts.length (endR f.types (zxc n i ts left t).n (true,Z1)).2:=by
 unfold zxc at hF ⊢;split
 ·rename_i hc;rw[if_pos hc]at hF;unfold endR;rw[if_pos (by simp[ho])];simp only[ho,yN];exact⟨rfl,hZ⟩
 ·rename_i hc;rw[if_neg hc]at hF;have hcc:zi {n with outs:=newV ts.length t.length}=zi n:=rfl;unfold endR;rw[if_pos (by simp[hcc,hc])];simp only[zoa];have hl:ts.length+t.length<=f.types.length:=by rw[hF];simp
  have:=setsN_ok hZ t.length hl;rw[yh];exact this
theorem outed_n{n:Node}{i:Nat}{ts:List Int}{left:Nat}{t:List Int}(ho:n.outs=[]):∃us,(zxc n i ts left t).n={n with outs:=us}/\((zi n=true/\us=[]/\(zxc n i ts left t).ts=ts)\/(zi n=false/\us=newV ts.length t.length/\(zxc n i ts left t).ts=ts++t)):=by
 unfold zxc;split
 ·rename_i hc;refine⟨[],?_,.inl ⟨hc,rfl,rfl⟩⟩;cases n;simp only at ho;subst ho;rfl
 ·rename_i hc;exact⟨_,rfl,.inr ⟨by simpa using hc,rfl,rfl⟩⟩
theorem if_R(L:List UInt8){u:Unt}{f:Flow}{g:LG}{D:Int}(hg:LGR u f g D)(hgo:LGok g){all:List Int}{p:HPl}(hp:PlTy p)(hpo:PlOk p){i:Nat}{ts:List Int}{left:Nat}{w:Place}{deep:Int}{Z:Set1}{y:List Int}
  (h:SeenOk ts all) (hd:deep+1<=D) (hF:f.types=(ifG L g all p i ts left).ts++y) (hZ:ZOk f.types ts.length Z) (wl:w.inLoop=p.loop) (wn:w.next=p.next) (wv:(ifG L g all p i ts left).n.leaves=true->w.left=p.left):
  NodeR u f (ifG L g all p i ts left).n all w deep Z (ifG L g all p i ts left).ts.length:=by
 unfold ifG at hF wv ⊢;simp only at hF wv ⊢;have t12:=zBc L i;have tl:=zZa L i;generalize zja L i=t at*;have hX:PlTy ⟨true,p.loop,t,p.next,p.left⟩:=⟨t12,hp.n,hp.l⟩
 have hXo:PlOk ⟨true,p.loop,t,p.next,p.left⟩:=⟨tl,hpo.n,hpo.l⟩
 have hA:=hg all ⟨true,p.loop,t,p.next,p.left⟩ (zW L i+1) ts left;have hAo:=hgo all ⟨true,p.loop,t,p.next,p.left⟩ (zW L i+1) ts left hXo;generalize g all ⟨true,p.loop,t,p.next,p.left⟩ (zW L i+1) ts left=A at*;have hB:=hg all ⟨true,p.loop,t,p.next,p.left⟩ A.i A.ts A.left;have hBo:=hgo all ⟨true,p.loop,t,p.next,p.left⟩ A.i A.ts A.left hXo;generalize g all ⟨true,p.loop,t,p.next,p.left⟩ A.i A.ts A.left=B at*;obtain⟨xa,ha⟩:=hAo.t;obtain⟨xb,hb⟩:=hBo.t;have hends:=fun Z1 hZ1=>outed_R (u:=u) (f:=f) (n:=⟨10,0,0,[],zga L ts all [2] (zW L i),[],[],[A.n,B.n]⟩) (i:=B.i) (ts:=B.ts) (left:=B.left) (t:=t) (y:=y) rfl hF (Z1:=Z1) hZ1
 obtain⟨us,hn,hus⟩:=outed_n (n:=⟨10,0,0,[],zga L ts all [2] (zW L i),[],[],[A.n,B.n]⟩) (i:=B.i) (ts:=B.ts) (left:=B.left) (t:=t) rfl;generalize zxc ⟨10,0,0,[],zga L ts all [2] (zW L i),[],[],[A.n,B.n]⟩ B.i B.ts B.left t=r at*;have hBF:∃z,f.types=B.ts++z:=by
  rcases hus with⟨_,_,e⟩|⟨_,_,e⟩<;>rw[hF,e]
  ·exact⟨_,rfl⟩
  ·exact⟨t++y,by simp⟩
 obtain⟨z,hBF⟩:=hBF;have hAF:f.types=A.ts++(xb++z):=by rw[hBF,hb];simp
 have htF:f.types=ts++(xa++(xb++z)):=by rw[hAF,ha];simp
 have hSA:SeenOk A.ts all:=by have:=h.ext xa [] (by simp);rw[ha];simpa using this
 have hy:zpa A.n=true\/zpa B.n=true->typesM f.types us=t:=by
  intro hh;rcases hus with⟨c,_,_⟩|⟨_,e,e2⟩
  ·simp[zi]at c;rcases hh with hh|hh
   ·rw[hh]at c;simp at c
   ·rw[hh]at c;simp at c
  ·rw[e];exact typesM_new (y:=y) (by rw[hF,e2])
 have hl:zP A.n=true\/zP B.n=true->w.left=p.left:=by
  intro hh;refine wv ?_;rw[hn,leaves_eq];rcases hh with hh|hh<;>simp[hh]
 obtain⟨a1,a2,a3⟩:=hA {w with inIf:=true,yield:=typesM f.types us} (deep+1) Z (xb++z) hX hXo h hd hAF hZ ⟨rfl,wl,fun e=>hy (.inl e),wn,fun e=>hl (.inl e)⟩;generalize hqa:goR u f A.n all {w with inIf:=true,yield:=typesM f.types us} (deep+1) Z=qa at*;obtain⟨b1,b2,b3⟩:=hB {w with inIf:=true,yield:=typesM f.types us} (deep+1) qa.2 z hX hXo hSA hd hBF a2 ⟨rfl,wl,fun e=>hy (.inr e),wn,fun e=>hl (.inr e)⟩;generalize hqb:goR u f B.n all {w with inIf:=true,yield:=typesM f.types us} (deep+1) qa.2=qb at*;have la:zJc A.n qa=(true,qa.2):=by unfold zJc;rw[if_pos a1];simp[a3]
 have lb:zJc B.n qb=(true,qb.2):=by unfold zJc;rw[if_pos b1];simp[b3]
 have hk:zYb u f [A.n,B.n] all {w with inIf:=true,yield:=typesM f.types us} (deep+1) Z=(true,qb.2):=by
  rw[zYb,hqa,la,if_pos rfl,zYb,hqb,lb,if_pos rfl,zYb]
 have he:=zjb L htF h [2] (zW L i) (by simp[Ty12]);obtain⟨c1,c2⟩:=hends qb.2 b2;have hnode:zha u f r.n all w deep Z=endR f.types r.n (true,qb.2):=by
  rw[hn];rw[zha,if_neg (by simp[zxa,zYa]),if_pos rfl,if_pos he,hk]
 exact⟨by rw[hnode];exact c1,by rw[hnode];exact c2⟩
theorem loop_R(L:List UInt8){u:Unt}{f:Flow}{g:LG}{D:Int}(hg:LGR u f g D)(hgo:LGok g){all:List Int}{i:Nat}{ts:List Int}{left:Nat}{w:Place}{deep:Int}{Z:Set1}{y:List Int}
  (h:SeenOk ts all) (hd:deep+1<=D) (hF:f.types=(loopG L g all i ts left).ts++y) (hZ:ZOk f.types ts.length Z):
  NodeR u f (loopG L g all i ts left).n all w deep Z (loopG L g all i ts left).ts.length:=by
 unfold loopG at hF ⊢;simp only at hF ⊢;have t12:=zBc L i;have tl:=zZa L i;generalize zja L i=t at*;have o12:=zBc L (zW L i);have ol:=zZa L (zW L i);generalize zja L (zW L i)=o at*;generalize zW L (zW L i)=j at*;have hX:PlTy ⟨false,true,[],t,o⟩:=⟨by simp[Ty12],t12,o12⟩
 have hXo:PlOk ⟨false,true,[],t,o⟩:=⟨by simp,tl,ol⟩
 have hA:=hg (all++newV ts.length t.length) ⟨false,true,[],t,o⟩ (j+t.length) (ts++t) left;have hAo:=hgo (all++newV ts.length t.length) ⟨false,true,[],t,o⟩ (j+t.length) (ts++t) left hXo;generalize g (all++newV ts.length t.length) ⟨false,true,[],t,o⟩ (j+t.length) (ts++t) left=A at*;obtain⟨xa,ha⟩:=hAo.t;have hends:=fun Z1 hZ1=>outed_R (u:=u) (f:=f) (n:=⟨11,0,0,[],zga L ts all t j,[],newV ts.length t.length,[A.n]⟩) (i:=A.i) (ts:=A.ts) (left:=A.left) (t:=o) (y:=y) rfl hF (Z1:=Z1) hZ1
 obtain⟨us,hn,hus⟩:=outed_n (n:=⟨11,0,0,[],zga L ts all t j,[],newV ts.length t.length,[A.n]⟩) (i:=A.i) (ts:=A.ts) (left:=A.left) (t:=o) rfl;generalize zxc ⟨11,0,0,[],zga L ts all t j,[],newV ts.length t.length,[A.n]⟩ A.i A.ts A.left o=r at*;have hAF:∃z,f.types=A.ts++z:=by
  rcases hus with⟨_,_,e⟩|⟨_,_,e⟩<;>rw[hF,e]
  ·exact⟨_,rfl⟩
  ·exact⟨o++y,by simp⟩
 obtain⟨z,hAF⟩:=hAF;have htF:f.types=ts++t++(xa++z):=by rw[hAF,ha];simp
 have htF2:f.types=ts++(t++(xa++z)):=by rw[htF];simp
 have hps:typesM f.types (newV ts.length t.length)=t:=typesM_new htF;have hSA:SeenOk (ts++t) (all++newV ts.length t.length):=h.ext t _ (fun v hv=>by
  have:=zad _ _ _ hv;simp only[yh];omega)
 have hl:zP A.n=true->typesM f.types us=o:=by
  intro hh;rcases hus with⟨c,_,_⟩|⟨_,e,e2⟩
  ·simp[zi]at c;rw[hh]at c;simp at c
  ·rw[e];exact typesM_new (y:=y) (by rw[hF,e2])
 have hle:ts.length+t.length<=f.types.length:=by rw[htF];simp[yla]
 obtain⟨s1,s2⟩:=setsN_ok hZ t.length hle;obtain⟨a1,a2,a3⟩:=hA ⟨false,true,[],t,typesM f.types us⟩ (deep+1) (zra f.types Z (newV ts.length t.length) (zmb t.length)).2 z hX hXo hSA hd hAF (by rw[yh];exact s2) ⟨rfl,rfl,fun _=>rfl,rfl,hl⟩;generalize hqa:goR u f A.n (all++newV ts.length t.length) ⟨false,true,[],t,typesM f.types us⟩ (deep+1) (zra f.types Z (newV ts.length t.length) (zmb t.length)).2=qa at*;have la:zJc A.n qa=(true,qa.2):=by unfold zJc;rw[if_pos a1];simp[a3]
 have hk:zYb u f [A.n] (all++newV ts.length t.length) ⟨false,true,[],t,typesM f.types us⟩ (deep+1) (zra f.types Z (newV ts.length t.length) (zmb t.length)).2=(true,qa.2):=by
  rw[zYb,hqa,la,if_pos rfl,zYb]
 have he:=zjb L htF2 h t j t12;obtain⟨c1,c2⟩:=hends qa.2 a2;have hnode:zha u f r.n all w deep Z=endR f.types r.n (true,qa.2):=by
  rw[hn];rw[zha,if_neg (by simp[zxa,zYa]),if_neg (show¬((11:Int)=10) by decide),if_pos rfl,hps,if_pos he,zoa,if_pos s1,hk]
 exact⟨by rw[hnode];exact c1,by rw[hnode];exact c2⟩
def inR(m:Nat)(l:List Int):Prop:=∀v∈l,0<=v/\v<(m:Int)
structure Pl where
 y:Option Nat
 x:Option Nat
 l:Option Nat
structure okH(u:Unt)(m:Nat)(p:Pl)(n:Node):Prop where
 args:inR m n.args
 outs:inR m n.outs
 prs:inR m n.params
 k12:(n.kind=1\/n.kind=2)->n.outs.length=1
 k3:n.kind=3->n.args.length=1/\n.outs.length=1
 k4:n.kind=4->n.args.length=2/\n.outs.length=1
 k5:n.kind=5->zFb u.arrays n.name=true/\n.args.length=1/\n.outs.length=1
 k6:n.kind=6->zFb u.arrays n.name=true/\n.args.length=2/\n.outs.length=0
 k7:n.kind=7->∃g,flowAt u n.name=some g/\0<=zZ u.flows n.name/\n.args.length=(pars g).length/\n.outs.length=1
 k8:n.kind=8->n.outs.length=1
 k9:n.kind=9->n.args.length=1/\n.outs.length=0
 k10:n.kind=10->n.args.length=1/\n.kids.length=2
 k11:n.kind=11->n.args.length=n.params.length/\n.kids.length=1
 k12':n.kind=12->p.y=some n.args.length
 k13:n.kind=13->p.x=some n.args.length
 k14:n.kind=14->p.l=some n.args.length
 k15:n.kind=15->n.args.length=1
 k:1<=n.kind/\n.kind<=15
def plIn(p:Pl)(k:Int)(us ps:List Int):Pl:=if k=11 then⟨none,some ps.length,some us.length⟩else{p with y:=some us.length}
mutual
def okN(u:Unt)(m:Nat):Pl->Node->Prop
 |p,⟨k,o,n,s,a,us,ps,ks⟩=>okH u m p ⟨k,o,n,s,a,us,ps,ks⟩/\okK u m (plIn p k us ps) ks
def okK(u:Unt)(m:Nat):Pl->List (List Node)->Prop
 |p,[]=>True
 |p,l::r=>(l≠ []/\okL u m p l)/\okK u m p r
def okL(u:Unt)(m:Nat):Pl->List Node->Prop
 |p,[]=>True
 |p,x::r=>okN u m p x/\zi x=r.isEmpty/\okL u m p r
end
structure OkU(u:Unt):Prop where
 sz:USz u
 body:∀f∈u.flows,f.body≠ []/\okL u f.types.length ⟨none,none,none⟩ f.body
 pars:∀f∈u.flows,0<=f.params/\f.params<=f.types.length
 arrs:∀a∈u.arrays,1<=a.size/\a.size<=1000
 names:(u.arrays.map Arr.name).Nodup
 main:∃f,flowAt u zC=some f/\f∈u.flows/\0<=zZ u.flows zC/\f.params=0
structure Mono(S S1:RS):Prop where
 fuel:S1.fuel<=S.fuel
 out:S1.out.length+S1.fuel<=S.out.length+S.fuel
 arrs:S1.arrs.map List.length=S.arrs.map List.length
structure Mono1(S S1:RS):Prop where
 fuel:S1.fuel<=S.fuel
 out:S1.out.length+S1.fuel<=S.out.length+S.fuel+1
 arrs:S1.arrs.map List.length=S.arrs.map List.length
def Ended(p:Pl)(r:Wy):Prop:=
 (r.kind=12/\p.y=some r.l.length)\/(r.kind=13/\p.x=some r.l.length)\/(r.kind=14/\p.l=some r.l.length)\/(r.kind=15/\r.l.length=1)
def NodeOk(m:Nat)(p:Pl)(x:Node)(S:RS)(q:Rt Wy×List Int×RS):Prop:=
 Mono S q.2.2/\q.2.1.length=m/\∀r,q.1= .ok r->q.2.2.fuel<S.fuel/\((r.kind=0/\zi x=false)\/(Ended p r/\(r.kind=12->x.kind=12)/\(r.kind=14->x.leaves=true)))
def EvOk(u:Unt)(ev:NEv):Prop:=∀m p x v S,okN u m p x->v.length=m->NodeOk m p x S (ev x v S)
theorem yields_cons{x:Node}{r:List Node}(h:r≠ []):zpa (x::r)=zpa r:=by
 unfold zpa;cases r with
 |nil=>exact absurd rfl h
 |cons y r=>rw[List.getLast?_cons_cons]
section
variable {u:Unt} {ev:NEv} (H:EvOk u ev)
include H
omit H in
omit H in
omit H in
end
theorem nodeG_R(L:List UInt8){u:Unt}{f:Flow}(hR:RoundOk u f){rc:Option LG}{D:Int}(hg:∀g,rc=some g->LGR u f g D/\LGok g){all:List Int}{p:HPl}(hp:PlTy p)(hpo:PlOk p){i:Nat}{ts:List Int}{left:Nat}{w:Place}{deep:Int}{Z:Set1}{y:List Int}
  (h:SeenOk ts all) (hd:deep+1<=D) (hF:f.types=(zZc L rc all p i ts left).ts++y) (hZ:ZOk f.types ts.length Z) (wl:w.inLoop=p.loop) (wn:w.next=p.next) (wv:(zZc L rc all p i ts left).n.leaves=true->w.left=p.left):
  NodeR u f (zZc L rc all p i ts left).n all w deep Z (zZc L rc all p i ts left).ts.length/\SeenOk (zZc L rc all p i ts left).ts (all++(zZc L rc all p i ts left).n.outs):=by
 have hok:=nodeG_ok L rc (fun g hg'=>(hg g hg').2) all p hpo i ts left;refine⟨?_,?_⟩
 ·have hs:=simple_ok L all ts i;have plain:f.types=ts++(zu L all ts i).2.2++y->NodeR u f (zu L all ts i).1 all w deep Z (ts++(zu L all ts i).2.2).length:=fun hF=>(simple_R L hR h i hF w deep hZ).1
  have hS2:SeenOk (ts++(zu L all ts i).2.2) all:=by have:=h.ext (zu L all ts i).2.2 [] (by simp);simpa using this
  have hZ2:ZOk f.types (ts++(zu L all ts i).2.2).length Z:=hZ.mono (by simp);unfold zZc at hF wv ⊢;cases rc with
  |none=>exact plain hF
  |some g=>
   obtain⟨g1,g2⟩:=hg g rfl;simp only at hF wv ⊢;split
   ·rename_i hk;rw[if_pos hk]at hF wv;exact if_R L g1 g2 hp hpo hS2 hd hF hZ2 wl wn wv
   ·rename_i hk;rw[if_neg hk]at hF wv;split
    ·rename_i hk2;rw[if_pos hk2]at hF;exact loop_R L g1 g2 hS2 hd hF hZ2
    ·rename_i hk2;rw[if_neg hk2]at hF;exact plain hF
 ·obtain⟨x,hx⟩:=hok.t;have ho:=hok.o;rw[hx]at ho ⊢;exact h.ext x _ ho
theorem fin_R(L:List UInt8){u:Unt}{f:Flow}(hR:RoundOk u f){all ts y:List Int}(h:SeenOk ts all){p:HPl}(hp:PlTy p)(i left:Nat)(hF:f.types=ts++y){w:Place}{deep:Int}(hd:deep<=100){Z:Set1}(hZ:ZOk f.types ts.length Z)(hw:At p w (finG L p [] all i ts left).n):
  (goR u f (finG L p [] all i ts left).n all w deep Z).1=true/\ZOk f.types ts.length (goR u f (finG L p [] all i ts left).n all w deep Z).2:=by
 have e:(finG L p [] all i ts left).n=[endG L all ts p i]:=rfl;rw[e]at hw ⊢;obtain⟨h1,h2⟩:=end_R L hR h hp i hF deep hZ hw;rw[goR_two hd h1.ok (by rw[h2];rfl),goR];exact⟨rfl,h1.z⟩
theorem run_R(L:List UInt8){u:Unt}{f:Flow}(hR:RoundOk u f){rc:Option LG}{D:Int}(hg:∀g,rc=some g->LGR u f g D/\LGok g){p:HPl}(hp:PlTy p)(hpo:PlOk p):∀c all i ts left w deep Z y,
  SeenOk ts all->deep+1<=D->deep<=100->f.types=(runG L rc p c [] all i ts left).ts++y->ZOk f.types ts.length Z->At p w (runG L rc p c [] all i ts left).n→
  (goR u f (runG L rc p c [] all i ts left).n all w deep Z).1=true/\ZOk f.types (runG L rc p c [] all i ts left).ts.length (goR u f (runG L rc p c [] all i ts left).n all w deep Z).2:=by
 intro c
 induction c with
 |zero=>intro all i ts left w deep Z y h hd hd2 hF hZ hw;exact fin_R L hR h hp i left hF hd2 hZ hw
 |succ c ih=>
  intro all i ts left w deep Z y h hd hd2 hF hZ hw;rw[runG]at hF hw ⊢;by_cases h0:left=0
  ·rw[if_pos h0]at hF hw ⊢;exact fin_R L hR h hp i left hF hd2 hZ hw
  ·rw[if_neg h0]at hF hw ⊢;have hn:=fun y=>nodeG_R L hR hg hp hpo (i:=i) (left:=left-1) (w:=w) (deep:=deep) (Z:=Z) (y:=y) h hd
   simp only at hF hw ⊢;generalize zZc L rc all p i ts (left-1)=r at*;by_cases hc:zi r.n=true
   ·rw[if_pos hc]at hF hw ⊢;simp only[List.nil_append]at hF hw ⊢;obtain⟨n1,n2⟩:=hn y hF hZ hw.loop hw.n (fun e=>hw.l (by simp[zP,e]));rw[goR_two hd2 n1.ok (by rw[hc];rfl),goR];exact⟨rfl,n1.z⟩
   ·rw[if_neg hc]at hF hw ⊢;rw[runG_out]at hF hw ⊢;simp only[List.nil_append,List.singleton_append]at hF hw ⊢;have htl:=(runG_ok L rc (fun g hg'=>(hg g hg').2) p hpo c [] (all++r.n.outs) r.i r.ts r.left).t;have hne:=runG_ne L rc p c [] (all++r.n.outs) r.i r.ts r.left;obtain⟨x,hx⟩:=htl;obtain⟨n1,n2⟩:=hn (x++y) (by rw[hF,hx];simp) hZ hw.loop hw.n (fun e=>hw.l (by simp[zP,e]));have:=ih (all++r.n.outs) r.i r.ts r.left w deep (zha u f r.n all w deep Z).2 y n2 hd hd2 hF n1.z ⟨hw.iff,hw.loop,fun e=>hw.y (by rw[yields_cons hne];exact e),hw.n,fun e=>hw.l (by simp[zP,e])⟩;rw[goR_two hd2 n1.ok (by
     have:(runG L rc p c [] (all++r.n.outs) r.i r.ts r.left).n.isEmpty=false:=by simpa using hne
     rw[this];simpa using hc)]
    exact this
theorem list_R(L:List UInt8){u:Unt}{f:Flow}(hR:RoundOk u f):∀d:Nat,LGR u f (zBb L d) (99-d):=by
 intro d
 induction d with
 |zero=>
  intro seen p i ts left w deep Z y hp hpo h hd hF hZ hw;have hne:=listG_ne L 0 seen p i ts left;have:=run_R L hR (rc:=none) (D:=100) (by simp) hp hpo (pk L i 6) seen (i+1) ts left w deep Z y h (by omega) (by omega) hF hZ hw;exact⟨this.1,this.2,hne⟩
 |succ d ih=>
  intro seen p i ts left w deep Z y hp hpo h hd hF hZ hw;have hne:=listG_ne L (d+1) seen p i ts left;have:=run_R L hR (rc:=some (zBb L d)) (D:=99-d) (by intro g hg;cases hg;exact⟨ih,listG_ok L d⟩) hp hpo (pk L i 6) seen (i+1) ts left w deep Z y h (by omega) (by omega) hF hZ hw;exact⟨this.1,this.2,hne⟩
theorem Ty12.app{a b:List Int}(ha:Ty12 a)(hb:Ty12 b):Ty12 (a++b):=fun t ht=>by
 rcases yx.1 ht with h|h
 ·exact ha t h
 ·exact hb t h
def LGt(g:LG):Prop:=∀seen p i ts left,Ty12 ts->Ty12 (g seen p i ts left).ts
theorem simple_t(L:List UInt8)(seen ts:List Int)(i:Nat):Ty12 (zu L seen ts i).2.2:=by
 unfold zu;split<;>try(intro t ht;simp at ht<;>omega)
 split<;>(intro t ht;simp at ht<;>omega)
theorem outed_t{n:Node}{i:Nat}{ts:List Int}{left:Nat}{t:List Int}(h:Ty12 ts)(ht:Ty12 t):Ty12 (zxc n i ts left t).ts:=by
 unfold zxc;split
 ·exact h
 ·exact h.app ht
theorem nodeG_t(L:List UInt8)(rc:Option LG)(hrc:∀g,rc=some g->LGt g)(all:List Int)(p:HPl)(i:Nat)(ts:List Int)(left:Nat)(h:Ty12 ts):Ty12 (zZc L rc all p i ts left).ts:=by
 have hs:=h.app (simple_t L all ts i);unfold zZc;cases rc with
 |none=>exact hs
 |some g=>
  have hg:=hrc g rfl;simp only;split
  ·unfold ifG;exact outed_t (hg _ _ _ _ _ (hg _ _ _ _ _ hs)) (zBc L _)
  ·split
   ·unfold loopG;exact outed_t (hg _ _ _ _ _ (hs.app (zBc L _))) (zBc L _)
   ·exact hs
theorem runG_t(L:List UInt8)(rc:Option LG)(hrc:∀g,rc=some g->LGt g)(p:HPl):∀c out all i ts left,Ty12 ts->Ty12 (runG L rc p c out all i ts left).ts:=by
 intro c
 induction c with
 |zero=>intro out all i ts left h;exact h
 |succ c ih=>
  intro out all i ts left h;have hn:=nodeG_t L rc hrc all p i ts (left-1) h;rw[runG];split
  ·exact h
  ·simp only;split
   ·exact hn
   ·exact ih _ _ _ _ _ hn
theorem listG_t(L:List UInt8):∀d,LGt (zBb L d):=by
 intro d
 induction d with
 |zero=>intro seen p i ts left h;exact runG_t L none (by simp) p _ _ _ _ _ _ h
 |succ d ih=>intro seen p i ts left h;exact runG_t L (some (zBb L d)) (by intro g hg;cases hg;exact ih) p _ _ _ _ _ _ h
theorem newV0:∀k,newV 0 k=zGb k
 |0=>by simp[newV,zGb]
 |k+1=>by rw[newV,newV0 k];simp[zGb,List.range_succ]
theorem flow_R(L:List UInt8){u:Unt}(name:List UInt8)(params:List Int)(i:Nat)(hR:RoundOk u (zzb L name params i).n)(hp:Ty12 params)(hl:params.length<=8):flowR u (zzb L name params i).n=true:=by
 have hok:=zwb L params i;have hty:Ty12 (zyc L params i).ts:=listG_t L 3 _ _ _ _ _ (hp.app (by simp[Ty12]));have hF:(zzb L name params i).n.types=(zyc L params i).ts:=rfl;have hlist:=list_R L hR 3 (newV 0 params.length++[(params.length:Int),((params.length+1:Nat):Int)]) noPl i (params++[1,2]) 30 zEb 1;obtain⟨x,hx⟩:=hok.t;have hFx:(zzb L name params i).n.types=params++[1,2]++x:=by rw[hF,hx]
 have hts:=hok.tl;generalize hbody:(zzb L name params i).n=f at*;have hb:f.body=nd 1 0 3 [] [] [(params.length:Int)]::nd 2 0 1 [] [] [((params.length+1:Nat):Int)]::(zyc L params i).n:=by rw[<-hbody];rfl
 have hpar:f.params=params.length:=by rw[<-hbody];rfl
 unfold flowR;simp only[yh,yP,yN]at hts;have h1:(decide (f.params<0)||decide (8<f.params)||decide ((f.types.length:Int)<f.params)||decide (20000<f.types.length)||f.types.any (fun t=> !tyOk t))=false:=by
  rw[hpar];simp only[Bool.or_eq_false_iff,decide_eq_false_iff_not];refine⟨⟨⟨⟨by omega,by omega⟩,?_⟩,?_⟩,?_⟩
  ·rw[hFx];simp;omega
  ·rw[hF];omega
  ·rw[<-Bool.not_eq_true,List.any_eq_true]
   rintro⟨t,ht,h⟩
   rw[hF]at ht;rcases hty t ht with rfl|rfl<;>simp[tyOk]at h
 rw[h1];simp only[Bool.not_false,yBa];have hk:f.params.toNat=params.length:=by rw[hpar];omega
 rw[hk,hb];have z0:ZOk f.types params.length (initR f params.length):=by
  refine⟨initR_len f _ (by rw[hFx];simp<;>omega),fun j hj=>?_⟩;unfold initR;rw[yj (by simp;exact hj)];simp only[List.length_replicate,yqa];split<;>rfl
 have s1:=set_one (F:=f.types) (t:=1) z0 (by rw[hFx];simp<;>omega) (at0_new (y:=[2]++x) (by rw[hFx];simp));have s2:=set_one (F:=f.types) (n:=params.length+1) (t:=2) s1.2 (by rw[hFx];simp<;>omega) (by
  have:=at0_new (F:=f.types) (ts:=params++[1]) (t:=2) (y:=x) (by rw[hFx];simp);simpa using this)
 have n1:zha u f (nd 1 0 3 [] [] [(params.length:Int)]) (zGb params.length) zEb 1 (initR f params.length)=zra f.types (initR f params.length) [(params.length:Int)] [1]:=by
  simp[zha,zxa,zYa,zN,zL]
 generalize zra f.types (initR f params.length) [(params.length:Int)] [1]=q1 at*;have n2:zha u f (nd 2 0 1 [] [] [((params.length+1:Nat):Int)]) (zGb params.length++[(params.length:Int)]) zEb 1 q1.2=zra f.types q1.2 [((params.length+1:Nat):Int)] [2]:=by
  simp[zha,zxa,zYa,zN,zL]
 generalize zra f.types q1.2 [((params.length+1:Nat):Int)] [2]=q2 at*;have hsn:SeenOk (params++[1,2]) (newV 0 params.length++[(params.length:Int),((params.length+1:Nat):Int)]):=by
  refine⟨?_,?_,?_⟩
  ·cases hp0:params.length with
   |zero=>simp
   |succ k=>
    rw[newV0];simp[zGb,yxa,yga]
  ·intro y hy;simp only[yx,yz,yia,or_false]at hy;simp only[yh,yP,yN];rcases hy with hy|hy|hy
   ·have:=zad 0 _ y hy;omega
   ·omega
   ·omega
  ·intro t ht;rcases ht with rfl|rfl
   ·exact⟨(params.length:Int),by simp,by simp[atA]⟩
   ·exact⟨((params.length+1:Nat):Int),by simp,by simp[atA,yj]⟩
 obtain⟨g1,g2,g3⟩:=hlist q2.2 [] ⟨by simp[Ty12,noPl],by simp[Ty12,noPl],by simp[Ty12,noPl]⟩ noPl_ok hsn (by omega) (by rw[List.append_nil];exact hF) (by simpa using s2.2) ⟨rfl,rfl,fun _=>rfl,rfl,fun _=>rfl⟩;change (goR u f (zyc L params i).n _ zEb 1 q2.2).1=true at g1;change (zyc L params i).n≠ []at g3;have c1:zi (nd 1 0 3 [] [] [(params.length:Int)])=false:=by simp[zi,Node.ends]
 have c2:zi (nd 2 0 1 [] [] [((params.length+1:Nat):Int)])=false:=by simp[zi,Node.ends]
 unfold listR;rw[goR_two (by omega) (by rw[n1];exact s1.1) (by rw[c1];rfl),n1];rw[goR_two (by omega) (by rw[n2];exact s2.1) (by rw[c2];symm;simpa using g3),n2];have e:zGb params.length++(nd 1 0 3 [] [] [(params.length:Int)]).outs++(nd 2 0 1 [] [] [((params.length+1:Nat):Int)]).outs=newV 0 params.length++[(params.length:Int),((params.length+1:Nat):Int)]:=by
  rw[newV0];simp
 rw[e];unfold zJc;rw[if_pos g1];simp
theorem made_round(L:List UInt8)(f:Flow)(hf:f.type=1):RoundOk (zXb L) f:=by
 refine⟨by simp[zXb,zFb],?_,hf⟩;refine⟨(zzb L [102] [1,2] (zzb L zC [] 0).i).n,?_,?_,?_,rfl⟩
 ·simp[zXb,zZ,idx,zJb,zC,yna]
 ·simp[zXb,zZ,idx,zJb,zC,yna]
 ·have hx:=(zwb L [1,2] (zyc L [] 0).i).t;obtain⟨x,hx⟩:=hx;simp[pars,zJb,hx]
theorem madeM_ok(L:List UInt8):zAb (zXb L)=(0,0):=by
 have f1:=flow_R L (u:=zXb L) zC [] 0 (made_round L _ rfl) (by simp[Ty12]) (by simp);have f2:=flow_R L (u:=zXb L) [102] [1,2] (zzb L zC [] 0).i (made_round L _ rfl) (by simp[Ty12]) (by simp);have hh:zDb (zXb L)=true:=by
  obtain⟨x1,h1⟩:=(zwb L [] 0).t;obtain⟨x2,h2⟩:=(zwb L [1,2] (zyc L [] 0).i).t;have a1:nameM [97]=true:=by decide+kernel
  have a2:nameM [102]=true:=by decide+kernel
  have a3:nameM [109,97,105,110]=true:=by decide+kernel
  simp[zDb,zXb,arrOk,zhb,zAc,mainOk,zJb,zZ,idx,zC,tyOk,a1,a2,a3,h2,yna]<;>omega
 rw[check_eq];unfold rcheckM;rw[rhead_eq,hh];have hn:(zXb L).flows.findIdx? (fun f=> !flowR (zXb L) f)=none:=by
  rw[yW];intro f hf;simp only[zXb,yz,yia,or_false]at hf;rcases hf with rfl|rfl
  ·rw[f1];rfl
  ·rw[f2];rfl
 rw[hn];rfl
section
variable (L:List UInt8) (hL:L.length<=9223372036854775807)
include hL
theorem madeS_spec:∃o,zn E 8 [u8s L] []=some (.ret (.agg [arrs (zXb L).arrays,.mslice 2 0 2 5]),[o,.dead 5,.arr 5 ((zXb L).flows.map zg)]):=by
 have f1:=gflow_spec [] L hL 0 [] 0 zC [] (by simp) (by omega);have hi1:(zzb L zC [] 0).i<=10000:=by have:=(zwb L [] 0).i;rw[zJb];simp only;omega
 have f2:=gflow_spec [.arr 5 [zg (zzb L zC [] 0).n]] L hL (zzb L zC [] 0).i (zzb L zC [] 0).ts (zzb L zC [] 0).left [102] [1,2] (by simp) (by omega);have hm:zXb L=⟨[⟨[97],4⟩],[(zzb L zC [] 0).n,(zzb L [102] [1,2] (zzb L zC [] 0).i).n]⟩:=rfl;rw[hm];generalize zzb L zC [] 0=A at*;generalize zzb L [102] [1,2] A.i=B at*;clear hm;have e1:zC=[109,97,105,110]:=rfl;simp[ints,gst,zg,e1,u8s]at f1 f2;refine⟨Obj.arr 4 [PV.agg [PV.slice SK.plain 1 (List.map (fun b=>PV.int IntKind.u8 ↑b.toNat) L),PV.int IntKind.i64 ↑B.i,acc 1 (List.map (PV.int IntKind.i64) B.ts),PV.int IntKind.i64 ↑B.left]],?_⟩;refine ze rfl rfl rfl (by simp[u8s]) ?_;simp[*,F8,encUnt,arrs,flows,zea,zg,u8s,zl,ints]
end
def one8(k:Int):Unt:=⟨[],[⟨[109,97,105,110],1,0,[1],[⟨1,0,7,[],[],[0],[],[]⟩,⟨15,0,0,[],[k],[],[],[]⟩]⟩]⟩
def st8(k:Int):zb:=[.arr 1 [.int .i64 k],.arr 8 [zQ ⟨1,0,7,[],[],[0],[],[]⟩,.agg [.int .i64 15,.int .i64 0,.int .i64 0,.str [],.mslice 0 0 1 1,ints [],ints [],kids []]],
 .arr 5 [.agg [.str [109,97,105,110],.int .i64 1,.int .i64 0,ints [1],.mslice 1 0 2 8]]]
theorem one8_spec:zn E 28 [] []=some (.ret (.agg [.slice .plain 2 [],.mslice 2 0 1 5]),st8 0):=by
 refine ze rfl rfl rfl (by simp) ?_;simp[F28,st8,za,ints,kids]
theorem view8(k:Int):zK 12 0 (st8 k) (.agg [.slice .plain 2 [],.mslice 2 0 1 5])=encUnt (one8 k):=rfl
theorem view8b(k:Int):zK 12 0 (st8 k) (.mslice 1 0 2 8)=zj [⟨1,0,7,[],[],[0],[],[]⟩,⟨15,0,0,[],[k],[],[],[]⟩]:=rfl
theorem one8_sz(k:Int):USz (one8 k):=by
 refine⟨?_,?_,?_,?_⟩
 ·simp[one8]
 ·simp[one8]
 ·intro f hf;simp[one8]at hf;subst hf;simp
 ·intro f hf;simp[one8]at hf;subst hf;simp[wtL,wtN,wtK]
theorem awake8_spec:zn E 12 [] []=some (.ret (.bool true),[]):=by
 refine ze rfl rfl rfl (by simp) ?_;have c0:=zOc (one8 0) (one8_sz 0);have c1:=zOc (one8 1) (one8_sz 1);have c2:=zOc ⟨[],[]⟩ ⟨by simp,by simp,by simp,by simp⟩;have e0:zAb (one8 0)=(0,0):=by decide+kernel
 have e1:zAb (one8 1)=(80,0):=by decide+kernel
 have e2:zAb ⟨[],[]⟩=(1,0):=by decide+kernel
 rw[e0]at c0;rw[e1]at c1;rw[e2]at c2;have hs:=size8_spec (wtL [⟨1,0,7,[],[],[0],[],[]⟩,⟨15,0,0,[],[1],[],[],[]⟩]) [⟨1,0,7,[],[],[0],[],[]⟩,⟨15,0,0,[],[1],[],[],[]⟩] [] (yl _) (by decide);have hc:=zdc ⟨13,0,0,[],[],[],[],[]⟩ [] (by decide);have e3:zi ⟨13,0,0,[],[],[],[],[]⟩=true:=by decide+kernel
 have e4:szL [⟨1,0,7,[],[],[0],[],[]⟩,⟨15,0,0,[],[1],[],[],[]⟩]=2:=by decide+kernel
 rw[e3]at hc;rw[e4]at hs;have ho:=one8_spec;have v0:=view8 0;have v1:=view8 1;have v2:=view8b 1;simp[one8,encUnt,flows,arrs,zg,zj,za,ints,kids,st8]at c0 c1 c2 ho hs hc v0 v1 v2;simp[*,F12,zF,zob]
theorem checkM_iff(u:Unt):zAb u=(0,0)<->zDb u=true/\∀f∈u.flows,flowR u f=true:=by
 rw[check_eq];unfold rcheckM;rw[rhead_eq];constructor
 ·intro h;split at h
  ·rename_i hh;refine⟨hh,?_⟩;split at h
   ·cases h
   ·rename_i hn;rw[yW]at hn;intro f hf;simpa using hn f hf
  ·cases h
 ·rintro⟨hh,hf⟩
  rw[if_pos hh];have hn:u.flows.findIdx? (fun f=> !flowR u f)=none:=by
   rw[yW];intro f h;simp[hf f h]
  rw[hn]
theorem zV{ty seen l want:List Int}(h:zL ty seen l want=true):∀v∈l,0<=v/\v<ty.length:=by
 simp only[zL,ya,decide_eq_true_eq,yn]at h;intro v hv;obtain⟨i,hi⟩:=ypa hv;have hlt:i<want.length:=by rw[<-h.1];exact(yb.1 hi).1
 have:=h.2 (v,want[i]) (yO (i:=i) (by rw[yba];exact⟨hi,ye hlt⟩));simp only[useR,ya,decide_eq_true_eq]at this;exact⟨this.1,this.2.1⟩
theorem simpleR_rng{u:Unt}{f:Flow}{seen:List Int}{w:Place}{Z:Set1}{x:Node}(hv:(zN u f seen w Z x).1=true):
  (∀v∈x.args,0<=v/\v<(f.types.length:Int))/\(∀v∈x.outs,0<=v/\v<(f.types.length:Int)):=by
 have hnil:∀v∈([]:List Int),0<=v/\v<(f.types.length:Int):=fun v hv=>by cases hv
 unfold zN at hv;dsimp only at hv;by_cases k1:x.kind=1
 ·rw[if_pos k1]at hv;split at hv
  ·rename_i hc;exact⟨zV hc,zGa hv⟩
  ·cases hv
 rw[if_neg k1]at hv;by_cases k2:x.kind=2
 ·rw[if_pos k2]at hv;split at hv
  ·rename_i hc;exact⟨zV hc.2,zGa hv⟩
  ·cases hv
 rw[if_neg k2]at hv;by_cases k3:x.kind=3
 ·rw[if_pos k3]at hv;split at hv
  ·rename_i hc;simp only[ya]at hc;exact⟨zV hc.2,zGa hv⟩
  ·cases hv
 rw[if_neg k3]at hv;by_cases k4:x.kind=4
 ·rw[if_pos k4]at hv;split at hv
  ·rename_i hc;obtain⟨h1,h2⟩:=hc;simp only[ya]at h1;exact⟨zV h1.2,zGa hv⟩
  ·cases hv
 rw[if_neg k4]at hv;by_cases k5:x.kind=5
 ·rw[if_pos k5]at hv;split at hv
  ·rename_i hc;simp only[ya]at hc;exact⟨zV hc.2,zGa hv⟩
  ·cases hv
 rw[if_neg k5]at hv;by_cases k6:x.kind=6
 ·rw[if_pos k6]at hv;simp only[ya,decide_eq_true_eq]at hv;exact⟨zV hv.2.1,by rw[hv.2.2];exact hnil⟩
 rw[if_neg k6]at hv;by_cases k7:x.kind=7
 ·rw[if_pos k7]at hv;split at hv
  ·split at hv
   ·rename_i hc;exact⟨zV hc.2,zGa hv⟩
   ·cases hv
  ·cases hv
 rw[if_neg k7]at hv;by_cases k8:x.kind=8
 ·rw[if_pos k8]at hv;split at hv
  ·rename_i hc;exact⟨by rw[hc];exact hnil,zGa hv⟩
  ·cases hv
 rw[if_neg k8]at hv;by_cases k9:x.kind=9
 ·rw[if_pos k9]at hv;simp only[ya,decide_eq_true_eq]at hv;exact⟨zV hv.1,by rw[hv.2];exact hnil⟩
 rw[if_neg k9]at hv;by_cases k12:x.kind=12
 ·rw[if_pos k12]at hv;simp only[ya,decide_eq_true_eq]at hv;exact⟨zV hv.2.1,by rw[hv.2.2];exact hnil⟩
 rw[if_neg k12]at hv;by_cases k13:x.kind=13
 ·rw[if_pos k13]at hv;simp only[ya,decide_eq_true_eq]at hv;exact⟨zV hv.2.1,by rw[hv.2.2];exact hnil⟩
 rw[if_neg k13]at hv;by_cases k14:x.kind=14
 ·rw[if_pos k14]at hv;simp only[ya,decide_eq_true_eq]at hv;exact⟨zV hv.2.1,by rw[hv.2.2];exact hnil⟩
 rw[if_neg k14]at hv;by_cases k15:x.kind=15
 ·rw[if_pos k15]at hv;simp only[ya,decide_eq_true_eq]at hv;exact⟨zV hv.1,by rw[hv.2];exact hnil⟩
 rw[if_neg k15]at hv;cases hv
theorem bare_params{x:Node}(h:zxa x=true)(hk:x.kind≠11):x.params=[]:=by
 simp only[zxa,ya,yy,decide_eq_true_eq]at h;rcases h.1.2 with h|h
 ·exact absurd h hk
 ·exact h
theorem bare_kids{x:Node}(h:zxa x=true)(h0:x.kind≠10)(hk:x.kind≠11):x.kids=[]:=by
 simp only[zxa,ya,yy,decide_eq_true_eq]at h;have h2:=h.2;simp[zYa,h0,hk]at h2;exact h2
theorem lastE_pre{l:List Node}{q:Bool×Set1}(h:(zJc l q).1=true):q.1=true:=by
 unfold zJc at h;split at h
 ·assumption
 ·cases h
mutual
theorem nodeR_rng(u:Unt)(f:Flow):∀(x:Node) (seen:List Int) (w:Place) (deep:Int) (Z:Set1),(zha u f x seen w deep Z).1=true->rngN f.types.length x
 |⟨k,o,n,s,a,us,ps,ks⟩,seen,w,deep,Z,hv=>by
  rw[rngN];rw[zha]at hv;split at hv
  ·cases hv
  rename_i c0;have c0':zxa ⟨k,o,n,s,a,us,ps,ks⟩=true:=by simpa using c0
  split at hv
  ·rename_i c1;split at hv
   ·rename_i c2;obtain⟨e1,e2⟩:=endR_pre hv;refine⟨zV c2,zGa e2,?_,kidsR_rng u f ks _ _ _ _ e1⟩;have:=bare_params c0' (by simp only;omega);simp only at this;rw[this];intro v hv;cases hv
   ·cases hv
  ·rename_i c1;split at hv
   ·rename_i c2;split at hv
    ·rename_i c3;split at hv
     ·rename_i c4;obtain⟨e1,e2⟩:=endR_pre hv;exact⟨zV c3,zGa e2,zGa c4,kidsR_rng u f ks _ _ _ _ e1⟩
     ·cases hv
    ·cases hv
   ·rename_i c2;obtain⟨h1,h2⟩:=simpleR_rng hv;have e1:=bare_params c0' c2;have e2:=bare_kids c0' c1 c2;simp only at e1 e2;rw[e1,e2];refine⟨h1,h2,?_,?_⟩
    ·intro v hv;cases hv
    ·rw[rngK];trivial
theorem kidsR_rng(u:Unt)(f:Flow):∀(ks:List (List Node)) (seen:List Int) (w:Place) (deep:Int) (Z:Set1),(zYb u f ks seen w deep Z).1=true->rngK f.types.length ks
 | [],seen,w,deep,Z,hv=>by rw[rngK];trivial
 |l::r,seen,w,deep,Z,hv=>by
  rw[zYb]at hv;rw[rngK];split at hv
  ·rename_i c;exact⟨goR_rng u f l _ _ _ _ (lastE_pre c),kidsR_rng u f r _ _ _ _ hv⟩
  ·cases hv
theorem goR_rng(u:Unt)(f:Flow):∀(l:List Node) (seen:List Int) (w:Place) (deep:Int) (Z:Set1),(goR u f l seen w deep Z).1=true->rngL f.types.length l
 | [],seen,w,deep,Z,hv=>by rw[rngL];trivial
 |x::r,seen,w,deep,Z,hv=>by
  rw[goR]at hv;rw[rngL];split at hv
  ·cases hv
  split at hv
  ·rename_i c1;split at hv
   ·exact⟨nodeR_rng u f x _ _ _ _ c1,goR_rng u f r _ _ _ _ hv⟩
   ·cases hv
  ·cases hv
end
def flip(n p i:Nat):Nat:=if i<p then i else n-1-(i-p)
def flips(n p:Nat):List Int:=(yS n).map fun i=>(flip n p i:Int)
theorem flip_lt{n p i:Nat}(hp:p<=n)(hi:i<n):flip n p i<n:=by unfold flip;split<;>omega
theorem flip_flip{n p i:Nat}(hp:p<=n)(hi:i<n):flip n p (flip n p i)=i:=by
 by_cases h:i<p
 ·have h1:flip n p i=i:=by unfold flip;rw[if_pos h]
  rw[h1,h1]
 ·have h1:flip n p i=n-1-(i-p):=by unfold flip;rw[if_neg h]
  rw[h1];unfold flip;rw[if_neg (by omega)];omega
theorem flip_inj{n p i j:Nat}(hp:p<=n)(hi:i<n)(hj:j<n)(h:flip n p i=flip n p j):i=j:=by
 rw[<-flip_flip hp hi,h,flip_flip hp hj]
theorem flips_len(n p:Nat):(flips n p).length=n:=by simp[flips]
theorem flips_at{n p:Nat}{v:Int}(h0:0<=v)(h1:v<n):at0 (flips n p) v=flip n p v.toNat:=by
 unfold at0 flips;rw[yk,List.getElem?_range (by omega)];rfl
def zMc(ts:List Int)(p:Nat):Nat->List Int
 |0=>yE ts.length 0
 |d+1=>(zMc ts p d).set (flip ts.length p d) (at0 ts d)
theorem zac(ts:List Int)(p:Nat):∀d,(zMc ts p d).length=ts.length
 |0=>by simp[zMc]
 |d+1=>by rw[zMc,List.length_set,zac ts p d]
theorem flipT_at(ts:List Int){p:Nat}(hp:p<=ts.length):∀d,d<=ts.length->∀i,i<d->at0 (zMc ts p d) (flip ts.length p i)=at0 ts i
 |0,_,i,hi=>by omega
 |d+1,hd,i,hi=>by
  have hl:=zac ts p d;have h1:=flip_lt hp (i:=d) (by omega);rw[zMc];unfold at0;rw[List.getElem?_set];by_cases e:i=d
  ·subst e;rw[if_pos (by omega),if_pos (by omega)];rfl
  ·rw[if_neg (by
    intro h;have h:flip ts.length p d=flip ts.length p i:=by omega
    exact e (flip_inj hp (by omega) (by omega) h).symm)]
   exact flipT_at ts hp d (by omega) i (by omega)
theorem trnN_id:∀x:Node,trnN id x=x:=by
 have key:(∀x:Node,trnN id x=x):=by
  intro x;exact trn_idN x
 exact key
where
 trn_idN:∀x:Node,trnN id x=x
  |⟨k,o,n,s,a,u,p,ks⟩=>by rw[trnN,trn_idK ks];simp
 trn_idL:∀l:List Node,trnL id l=l
  | []=>rfl
  |x::r=>by rw[trnL,trn_idN x,trn_idL r]
 trn_idK:∀l:List (List Node),trnK id l=l
  | []=>rfl
  |x::r=>by rw[trnK,trn_idL x,trn_idK r]
theorem trnL_id(l:List Node):trnL id l=l:=by
 rw[trnL_eq]
 conv=>rhs;rw[<-List.map_id l]
 exact yja fun x _=>trnN_id x
theorem trn_flow{π:Int->Int}{u u':Unt}{f f':Flow}(h:Trn π u u' f f')(hb:f'.body=trnL π f.body)(hp:f'.params=f.params)(h0:0<=f.params/\f.params<=f.types.length)
  (hty:∀t∈f'.types,t∈f.types) (hfix:∀v:Int,0<=v->v<f.params->π v=v) (hout:∀v:Int,f.params<=v->v<f.types.length->f.params<=π v) (hv:flowR u f=true):flowR u' f'=true:=by
 unfold flowR at hv ⊢;rw[hp,h.len];simp only[ya,yA,Bool.or_eq_false_iff]at hv ⊢;obtain⟨⟨h1,h2⟩,h3⟩:=hv;refine⟨⟨h1,?_⟩,?_⟩
 ·rw[<-Bool.not_eq_true,List.any_eq_true]at h2 ⊢
  rintro⟨t,ht,h⟩
  exact h2 ⟨t,hty t ht,h⟩
 ·have hz:ZR π f.types.length (initR f f.params.toNat) (initR f' f.params.toNat):=by
   have l1:=initR_len f f.params.toNat (by omega);have l2:=initR_len f' f.params.toNat (by rw[h.len];omega);rw[h.len]at l2;have at1:∀(g:Flow) (v:Int),g.types.length=f.types.length->0<=v->v<f.types.length->atB (initR g f.params.toNat) v=decide (v<f.params):=by
    intro g v hg v0 v1;unfold atB initR;by_cases hlt:v<f.params
    ·rw[yg (by simp;omega),yqa,if_pos (by omega)];simp[hlt]
    ·rw[yj (by simp;omega),yqa];simp[hlt];split<;>rfl
   refine⟨l1,l2,fun v v0 v1=>?_⟩;obtain⟨r0,r1⟩:=h.rng v v0 v1;rw[at1 f v rfl v0 v1,at1 f' (π v) h.len r0 r1];by_cases hlt:v<f.params
   ·rw[hfix v v0 hlt]
   ·have:=hout v (by omega) v1;simp only[decide_eq_decide];omega
  unfold listR at h3 ⊢;have hf:(zGb f.params.toNat).map π=zGb f.params.toNat:=by
   unfold zGb;rw[List.map_map];refine yja fun i hi=>?_
   rw[yga]at hi;exact hfix i (by omega) (by omega)
  have hg:=fun hq=>h.go f.body (zGb f.params.toNat) zEb 1 (initR f f.params.toNat) (initR f' f.params.toNat) hz hq
  rw[hf]at hg;rw[hb];exact(trn_lastE (π:=π) (f:=f) (by cases f.body<;>rfl) h3 hg).1
def turnF(f:Flow):Flow:=⟨f.name,f.type,f.params,zMc f.types f.params.toNat f.types.length,trnL (at0 (flips f.types.length f.params.toNat)) f.body⟩
theorem turn_ok{ars:List Arr}{f0 f1:Flow}(hc:zAb ⟨ars,[f0,f1]⟩=(0,0)):zAb ⟨ars,[f0,turnF f1]⟩=(0,0)/\rngL f1.types.length f1.body:=by
 rw[checkM_iff]at hc;obtain⟨hh,hf⟩:=hc;have r0:=hf f0 (by simp);have r1:=hf f1 (by simp);have hh0:=hh;simp only[zDb,ya,List.all_cons,List.all_nil,Bool.and_true]at hh;obtain⟨⟨⟨ha,ho0,ho1⟩,hnd⟩,hmain⟩:=hh;have fo0:=ho0;have fo1:=ho1;simp only[zhb,ya,decide_eq_true_eq]at fo0 fo1;have hlen:(zMc f1.types f1.params.toNat f1.types.length).length=f1.types.length:=zac _ _ _;have hp:f1.params.toNat<=f1.types.length:=by omega
 have hat:=flipT_at f1.types hp f1.types.length (yl _);have hpl:∀s,zZ [f0,turnF f1] s=zZ [f0,f1] s:=by
  intro s;simp only[zZ,idx,yna,turnF]
 have hpars:pars (turnF f1)=pars f1:=by
  unfold pars turnF;simp only;apply yka;intro i;rw[yr,yr];split
  ·rename_i hi;have h1:=hat i (by omega);have h2:flip f1.types.length f1.params.toNat i=i:=by unfold flip;rw[if_pos hi]
   rw[h2]at h1;unfold at0 at h1;have e1:i<f1.types.length:=by omega
   have e2:i<(zMc f1.types f1.params.toNat f1.types.length).length:=by omega
   simp only[yGa]at h1;rw[ye e1,ye e2]at h1 ⊢;simpa using h1
  ·rfl
 have hfl:∀(k:Nat) g,[f0,f1][k]? =some g->∃g',[f0,turnF f1][k]? =some g'/\pars g'=pars g/\g'.type=g.type:=by
  intro k g hg
  match k with
  |0=>cases hg;exact⟨f0,rfl,rfl,rfl⟩
  |1=>cases hg;exact⟨turnF f1,rfl,hpars,rfl⟩
  |k+2=>simp at hg
 have T0:Trn id ⟨ars,[f0,f1]⟩ ⟨ars,[f0,turnF f1]⟩ f0 f0:=⟨rfl,fun v a b=>⟨a,b⟩,fun v w _ _ _ _ h=>h,fun v _ _=>rfl,rfl,rfl,hpl,hfl⟩
 have T1:Trn (at0 (flips f1.types.length f1.params.toNat)) ⟨ars,[f0,f1]⟩ ⟨ars,[f0,turnF f1]⟩ f1 (turnF f1):=by
  refine⟨hlen,fun v v0 v1=>?_,fun v w v0 v1 w0 w1 h=>?_,fun v v0 v1=>?_,rfl,rfl,hpl,hfl⟩
  ·rw[flips_at v0 v1];have:=flip_lt hp (i:=v.toNat) (by omega);omega
  ·rw[flips_at v0 v1,flips_at w0 w1]at h;have:=flip_inj hp (i:=v.toNat) (j:=w.toNat) (by omega) (by omega) (by omega);omega
  ·rw[flips_at v0 v1];have:=hat v.toNat (by omega);have e:((v.toNat:Nat):Int)=v:=by omega
   rw[e]at this;exact this
 have hty:∀t∈(turnF f1).types,t∈f1.types:=by
  intro t ht;obtain⟨k,hk⟩:=ypa ht;have hkl:k<f1.types.length:=by rw[<-hlen];exact(yb.1 hk).1
  have h1:=hat (flip f1.types.length f1.params.toNat k) (flip_lt hp hkl);rw[flip_flip hp hkl]at h1;have hl2:=flip_lt hp hkl;unfold at0 at h1;simp only[yGa]at h1;rw[show(zMc f1.types f1.params.toNat f1.types.length)[k]? =some t from hk,ye hl2]at h1;simp only[yJ]at h1;rw[h1];exact List.getElem_mem _
 refine⟨?_,?_⟩
 ·rw[checkM_iff];refine⟨?_,fun f hf'=>?_⟩
  ·simp only[zDb,ya,List.all_cons,List.all_nil,Bool.and_true];refine⟨⟨⟨ha,ho0,?_⟩,?_⟩,?_⟩
   ·simp only[zhb,ya,decide_eq_true_eq];refine⟨fo1.1,?_⟩;change f1.params<=((zMc f1.types f1.params.toNat f1.types.length).length:Int);rw[hlen];exact fo1.2
   ·simpa[zAc,turnF]using hnd
   ·have e:mainOk ⟨ars,[f0,turnF f1]⟩=mainOk ⟨ars,[f0,f1]⟩:=by
     unfold mainOk;simp only[hpl];generalize(zZ [f0,f1] zC).toNat=k
     match k with
     |0=>rfl
     |1=>rfl
     |k+2=>rfl
    rw[e];exact hmain
  ·simp only[yz,yia,or_false]at hf';rcases hf' with rfl|rfl
   ·exact trn_flow T0 (by rw[trnL_id]) rfl ⟨by omega,by omega⟩ (fun t ht=>ht) (fun v _ _=>rfl) (fun v h _=>h) r0
   ·refine trn_flow T1 rfl rfl ⟨by omega,by omega⟩ hty (fun v v0 v1=>?_) (fun v v0 v1=>?_) r1
    ·rw[flips_at v0 (by omega)];unfold flip;rw[if_pos (by omega)];omega
    ·rw[flips_at (by omega) v1];unfold flip;rw[if_neg (by omega)];omega
 ·unfold flowR at r1;simp only[ya]at r1;exact goR_rng _ _ _ _ _ _ _ (lastE_pre r1.2)
mutual
theorem trn_wtN(π:Int->Int):∀x:Node,wtN (trnN π x)=wtN x
 |⟨k,o,n,s,a,u,p,ks⟩=>by rw[trnN,wtN,wtN,trn_wtK π ks];simp
theorem trn_wtL(π:Int->Int):∀l:List Node,wtL (trnL π l)=wtL l
 | []=>rfl
 |x::r=>by rw[trnL,wtL,wtL,trn_wtN π x,trn_wtL π r]
theorem trn_wtK(π:Int->Int):∀l:List (List Node),wtK (trnK π l)=wtK l
 | []=>rfl
 |x::r=>by rw[trnK,wtK,wtK,trn_wtL π x,trn_wtK π r]
end
theorem viewU0(o d:Obj)(ars:List Arr)(f0 f1:Flow):
  zK 12 0 [o,d,.arr 5 [zg f0,zg f1]] (.agg [arrs ars,.mslice 2 0 2 5])=encUnt ⟨ars,[f0,f1]⟩:=by
 simp[zK,arrs,encUnt,flows,zg,ints,zj]
theorem viewU1(o d:Obj)(ars:List Arr)(f0:Flow)(s:List UInt8)(t p:Int)(ty:List Int)(l:List Node):
  zK 12 0 [o,d,.arr 5 [zg f0,.agg [.str s,.int .i64 t,.int .i64 p,.mslice 3 0 ty.length 1,zj l]],.arr 1 (ty.map (PV.int .i64))] (.agg [arrs ars,.mslice 2 0 2 5])=encUnt ⟨ars,[f0,⟨s,t,p,ty,l⟩]⟩:=by
 simp[zK,arrs,encUnt,flows,zg,ints,zj,yw];exact List.take_of_length_le (by simp)
def flipsD(n p d:Nat):List Int:=(yS d).map fun i=>(flip n p i:Int)
theorem flipsD_all(n p:Nat):flipsD n p n=flips n p:=rfl
theorem flipsD_succ(n p d:Nat):flipsD n p (d+1)=flipsD n p d++[(flip n p d:Int)]:=by simp[flipsD,List.range_succ]
theorem flipsD_len(n p d:Nat):(flipsD n p d).length=d:=by simp[flipsD]
theorem isVar_encUnt(u:Unt):zq (encUnt u)=true:=yd rfl rfl
theorem shapeTurned_spec(L:List UInt8)(hL:L.length<=9223372036854775807):zn E 4 [u8s L] []=some (.ret (.bool true),[]):=by
 have ha:=awake8_spec;obtain⟨o,hm⟩:=madeS_spec L hL;have hz:=madeM_sz L;have hok:=madeM_ok L;have hsm:∀f∈(zXb L).flows,wtL f.body<1000000:=by
  have h1:=zwb L [] 0;have h2:=zwb L [1,2] (zyc L [] 0).i;obtain⟨a1,a2,a3,a4⟩:=h1;obtain⟨b1,b2,b3,b4⟩:=h2;intro f hf;simp only[zXb,yz,yia,or_false]at hf;rcases hf with rfl|rfl<;>simp[zJb,wtL,wtN,wtK]<;>omega
 obtain⟨ars,f0,f1,hu,hp2⟩:∃ars f0 f1,zXb L=⟨ars,[f0,f1]⟩/\f1.params=2:=⟨_,_,_,rfl,rfl⟩
 rw[hu]at hm hz hok hsm;clear hu;obtain⟨n1,t1,p1,ts,b1⟩:=f1;simp only at hp2;subst hp2;obtain⟨hok2,hrng⟩:=turn_ok hok;have et:turnF ⟨n1,t1,2,ts,b1⟩=⟨n1,t1,2,zMc ts 2 ts.length,trnL (at0 (flips ts.length 2)) b1⟩:=rfl;rw[et]at hok2;simp only at hrng;have hfo:2<=ts.length:=by
  have:=(checkM_iff _).1 hok;have:=this.1;simp only[zDb,ya,List.all_cons,List.all_nil,Bool.and_true,zhb,decide_eq_true_eq]at this;have h:=this.1.1.2.2.2;omega
 have hw0:=hsm f0 (by simp);have hw1:=hsm ⟨n1,t1,2,ts,b1⟩ (by simp);have ht1:=hz.types ⟨n1,t1,2,ts,b1⟩ (by simp);simp only at hw1 ht1;have hz2:USz ⟨ars,[f0,⟨n1,t1,2,zMc ts 2 ts.length,trnL (at0 (flips ts.length 2)) b1⟩]⟩:=by
  refine⟨hz.arrs,by simp,fun f hf=>?_,fun f hf=>?_⟩
  ·simp only[yz,yia,or_false]at hf;rcases hf with rfl|rfl
   ·exact hz.types _ (by simp)
   ·simp only[zac];exact ht1
  ·simp only[yz,yia,or_false]at hf;rcases hf with rfl|rfl
   ·omega
   ·simp only[trn_wtL];omega
 have c1:=zOc _ hz;have c2:=zOc _ hz2;rw[hok]at c1;rw[hok2]at c2;have htn:=turned_spec (flips ts.length 2) (wtL b1) b1 [] (yl _) (by omega) (by rw[flips_len];exact hrng);have s1:=size8_spec (wtL b1) b1 [] (yl _) (by omega);have s2:=size8_spec (wtL b1) (trnL (at0 (flips ts.length 2)) b1) [] (by rw[trn_wtL];exact yl _) (by omega);rw[trn_szL]at s2;have v0:=viewU0 o (.dead 5) ars f0 ⟨n1,t1,2,ts,b1⟩;have v1:=viewU1 o (.dead 5) ars f0 n1 t1 2 (zMc ts 2 ts.length) (trnL (at0 (flips ts.length 2)) b1);rw[zac]at v1;refine ze rfl rfl rfl (by simp[u8s]) ?_;have b0:zr 0 (encUnt ⟨ars,[f0,⟨n1,t1,2,ts,b1⟩]⟩)=true:=flat_unt _ _;have b2:zr 0 (encUnt ⟨ars,[f0,⟨n1,t1,2,zMc ts 2 ts.length,trnL (at0 (flips ts.length 2)) b1⟩]⟩)=true:=flat_unt _ _;simp[u8s,zg,ints]at hm v0 v1 htn;have l1:(0:Int)<=(ts.length:Int):=by omega
 have l2:(ts.length:Int)<=9223372036854775807:=by omega
 have l3:8*(ts.length:Int)<=281474976710656:=by omega
 have l4:(ts.length:Int)<=281474976710656:=by omega
 have l5:¬ts.length=0:=by omega
 clear hsm hz hz2 hok hok2 hrng hw0 hw1 et;simp[*,F4,u8s,zg,ints,isVar_encUnt];clear ha hm v0 c1 b0;refine zba ts K4_0 [4,7,13] (fun d=>[(9,acc 1 ((flipsD ts.length 2 d.length).map (PV.int .i64))),(11,.int .i64 d.length)])
  (fun d=>[o,.dead 5,.arr 5 [.agg [.str f0.name,.int .i64 f0.type,.int .i64 f0.params,.slice .plain 1 (f0.types.map (PV.int .i64)),zj f0.body],
   .agg [.str n1,.int .i64 t1,.int .i64 2,.slice .plain 1 (ts.map (PV.int .i64)),zj b1]],.arr 1 ((zMc ts 2 d.length).map (PV.int .i64))]) (fun _=>True) (by omega) (by simp[zMc,flipsD]) ?_ ?_
 ·intros d x r s hl' hlt hget hget' hw hp h1 h2 h3 h4;simp at h1 h2 h3;have e1:=flipsD_succ ts.length 2 d.length;have e2:zMc ts 2 (d.length+1)=(zMc ts 2 d.length).set (flip ts.length 2 d.length) x:=by
   rw[zMc];congr 1;unfold at0;simp only[yGa];rw[hget];rfl
  have e3:=zac ts 2 d.length;have e4:=flipsD_len ts.length 2 d.length;have hK:=flip_lt hfo hlt;have q4:(d.length+1)*8<=zl:=by simp only[zl];omega
  have w1:zX .i64 ((ts.length:Int)-1)=(ts.length:Int)-1:=zo (by omega) (by omega);clear v1 c2 b2 htn s1 s2;by_cases hc:d.length<2
  ·have hc1:((2:Int)<=(d.length:Int))=False:=eqn (by omega);have hk:flip ts.length 2 d.length=d.length:=by unfold flip;rw[if_pos hc]
   rw[hk]at e1 e2 hK;clear hk hc;simp[*,zg,ints,zF,zob]
  ·have hc1:((2:Int)<=(d.length:Int))=True:=eqp (by omega);have hk:flip ts.length 2 d.length=ts.length-1-(d.length-2):=by unfold flip;rw[if_neg hc]
   have w2:zX .i64 ((d.length:Int)-2)=(d.length:Int)-2:=zo (by omega) (by omega);have w3:zX .i64 ((ts.length:Int)-1-((d.length:Int)-2))=(flip ts.length 2 d.length:Int):=by rw[zo (by omega) (by omega),hk];omega
   clear hk hc;generalize flip ts.length 2 d.length=K at*;simp[*,zg,ints,zF,zob]
 ·intros s hp h1 h2 h3 h4;simp at h1 h2 h3;rw[flipsD_all]at h3;have e3:=zac ts 2 ts.length;have hne:(flips ts.length 2).map (PV.int .i64)≠ []:=by
   intro h;have:=congrArg List.length h;rw[yG,flips_len]at this;rw[this]at hfo;exact absurd hfo (by decide)
  have ha:=acc_ne (sz:=1) hne;rw[ha]at h3;clear ha hne;simp[*,zg,ints,isVar_encUnt,zF,zob]
end PE.U

namespace PE
open Go Go.RowKit
def Kept(w w':World):Prop:=w.keptBut w' (fun _=>False)/\∀k,k<w.heap.size->w'.heap[k]? =w.heap[k]?
theorem Kept.frame{w w':World}(h:Kept w w')(X:MemPlace->Prop):w.keptBut w' X:=World.keptBut_mono (fun p hp=>hp.elim) h.1
theorem kept_of_ext{w w':World}{G':Gh}{st':zb}(h:Ext (gh0 w) [] w G' st' w'):Kept w w':=
 ⟨by
  refine⟨h.os,h.output,fun i hi=>?_⟩;have hb:=(h.prot i (by simp[gh0,hi])).2.2;rw[hb];cases w.heap[i]? with
  |none=>rfl
  |some o=>cases o<;>first|exact⟨rfl,rfl,rfl,fun _ _=>rfl⟩|exact .inr ⟨rfl,rfl⟩|rfl,fun k hk=>(h.prot k (by simp[gh0,hk])).2.2⟩
theorem Kept.same{W w':World}(h:Kept W w'){p:MemPlace}(hp:p.block<W.heap.size):W.sameAt w' p:=by
 cases p with
 |cell b o=>exact World.cell?_of_block (w:=W) (h.2 b hp)
 |map b=>exact h.2 b hp
theorem Kept.trod{H:Type}{enc:TypeId×Value->H}{P:Program}{t:TypeId}(hl:laidOutB P=true)(hr:P.readableRec t=true)(hrow:t<P.types.size){W W':World}{v:Value}{d:DataW H}{ps:List MemPlace}
  (h:DataW.Trod enc P W 0 (fun _=>true) true t v d ps) (hb:Kept W W') (hlt:∀x∈ps,x.block<W.heap.size):
  DataW.Trod enc P W' 0 (fun b=>decide (b<W.heap.size)) true t v d ps:=
 WideElems.Trod_stays hl hr hrow h (fun x hx=>hb.same (hlt x hx)) (fun x hx=>by simpa using hlt x hx)
theorem walk_kept{P:Program}{T:Tabs}{E:Env}(hE:EnvOk P T E){f:Nat}{args:List PV}{margs:Array Value}{w:World}{st':zb}(hT:T.In (gh0 w) w)
  (h:zn E f args []=some (.ret (.bool true),st')) (hsz:margs.size=args.length)
  (hv:∀(j:Nat) c x,args[j]? =some c->margs[j]? =some x->VR ((gh0 w).im w) (fun _=>none) c x):
  Calls P f margs w fun e w'=>e= .returned (.bool true)/\Kept w w':=by
 obtain⟨n,hn⟩:=zSb.1 h;have hloc:zc (gh0 w).lc []=fun _=>none:=by funext l;simp[zc]
 refine((callF_good hE n _ _ _ _ _ hn (gh0 w) w margs rfl hT (gh0_sim w) hsz (by rw[hloc];exact hv)).2).mono ?_;intro e w' he;cases e with
 |returned mv=>
  obtain⟨G',q1,q2,q3⟩:=he;exact⟨by rw[VR.bool_inv q3],kept_of_ext q2⟩
 |panicked ch=>exact he.elim
 |outgrown=>exact he.elim
def IsRow(k:IntKind)(w:World)(a:Option Addr)(len cap:Nat)(zs:List Int):Prop:=
 (a=none/\len=0/\cap=0/\zs=[])∨
 ∃x,a=some x/\len<=cap/\cap<=maxLen/\zs.length=cap/\(∀i,i<zs.length->w.cell? (x.add i)=some (.int k (zs.getD i 0)))/\∀n∈zs,(Lit.int k n).wf=true
theorem row_vr{k:IntKind}{w:World}{a:Option Addr}{len cap:Nat}{zs:List Int}(h:IsRow k w a len cap zs):VR ((gh0 w).im w) (fun _=>none) (.slice .plain 1 ((zs.take len).map (PV.int k))) (.slice a len cap):=by
 rcases h with⟨rfl,rfl,rfl,rfl⟩|⟨x,rfl,hl,hm,hz,hcell,hwz⟩
 ·exact .slice0 _ _ _ _ (by simp) (by simp)
 ·by_cases h0:len=0
  ·subst h0;exact .slice0 _ _ _ _ (by simp) (by simp)
  ·obtain⟨b,off,spot⟩:=x;have hc:=hcell 0 (by omega);have hspot:spot=none:=by simpa[Addr.add]using World.cell?_spot hc
   subst hspot;have hlen:((zs.take len).map (PV.int k)).length=len:=by simp;omega
   have hget:∀(i:Nat) e,((zs.take len).map (PV.int k))[i]? =some e->i<len/\e= .int k (zs.getD i 0):=by
    intro i e he;rw[yk,yc]at he;obtain⟨n,hn,rfl⟩:=he;rw[yr]at hn;split at hn
    ·rename_i hi;refine⟨hi,?_⟩;rw[List.getD_eq_getElem?_getD,hn];rfl
    ·cases hn
   have:=VR.slice (I:=(gh0 w).im w) (L:=fun _=>none) (k:= .plain) (sz:=1) (l:=(zs.take len).map (PV.int k)) (b:=b) (o:=off) (cap:=cap)
    (by simp) (by simp) (by rw[hlen];exact hl) (fun i _=> .int k (zs.getD i 0)) ?_ ?_ ?_
   ·rw[hlen]at this;exact this
   ·intro i e he;obtain⟨_,rfl⟩:=hget i e he;exact⟨rfl,rfl⟩
   ·intro i e j c he hc;obtain⟨hi,rfl⟩:=hget i e he;cases j with
    |zero=>
     refine⟨gh0_im ?_,rfl⟩;have:=hcell i (by omega);have e:(⟨b,off,none⟩:Addr).add i=⟨b,off+i*1+0,none⟩:=by
      unfold Addr.add;by_cases hi0:i=0<;>simp[hi0]
     rw[<-e];exact this
    |succ j=>simp[cellsOf]at hc
   ·intro i e j c he hc;obtain⟨hi,rfl⟩:=hget i e he;cases j with
    |zero=>simp[cellsOf]at hc;subst hc;exact .int _ _
    |succ j=>simp[cellsOf]at hc
theorem row_len{k:IntKind}{w:World}{a:Option Addr}{len cap:Nat}{zs:List Int}(h:IsRow k w a len cap zs):(zs.take len).length<=maxLen:=by
 rcases h with⟨rfl,rfl,rfl,rfl⟩|⟨x,rfl,hl,hm,hz,hcell,hwz⟩
 ·simp
 ·rw[List.length_take];omega
def bytesOf(zs:List Int):List UInt8:=zs.map fun n=>yya n.toNat
theorem row_u8{w:World}{a:Option Addr}{len cap:Nat}{zs:List Int}(h:IsRow .u8 w a len cap zs):VR ((gh0 w).im w) (fun _=>none) (.slice .plain 1 ((bytesOf (zs.take len)).map fun b=> .int .u8 b.toNat)) (.slice a len cap):=by
 have hv:=row_vr h;have:(bytesOf (zs.take len)).map (fun b=>PV.int .u8 b.toNat)=(zs.take len).map (PV.int .u8):=by
  unfold bytesOf;rw[List.map_map];apply yja;intro n hn;have hwf:(Lit.int .u8 n).wf=true:=by
   rcases h with⟨rfl,rfl,rfl,rfl⟩|⟨x,rfl,hl,hm,hz,hcell,hwz⟩
   ·simp at hn
   ·exact hwz n (List.mem_of_mem_take hn)
  have hb:0<=n/\n<=255:=by
   simp only[Lit.wf,ya,decide_eq_true_eq]at hwf;exact hwf
  simp only[Function.comp_apply,PV.int.injEq,true_and];have:(yya n.toNat).toNat=n.toNat:=by
   rw[UInt8.toNat_ofNat'];omega
  omega
 rw[this];exact hv
theorem bytes_len{w:World}{a:Option Addr}{len cap:Nat}{zs:List Int}(h:IsRow .u8 w a len cap zs):(bytesOf (zs.take len)).length<=maxLen:=by
 unfold bytesOf;rw[yG];exact row_len h
theorem str_vr(I:Im)(L:Loc){b:ByteArray}:VR I L (.str b.data.toList) (.string b):=VR.str b.data.toList
theorem str_len{b:ByteArray}(h:b.size<=maxLen):b.data.toList.length<=maxLen:=by
 rw[Array.length_toList];exact h
theorem maxLen_eq:maxLen=9223372036854775807:=by decide
def packT(P:Program)(e:TypeId)(l:List PV):PV:=match P.underlying e with
 |some (.struct _)=> .agg l
 |_=>l.headD .undef
def CellsT(P:Program):Nat->TypeId->List PV->Prop
 |0,_,_=>False
 |n+1,t,l=>match P.underlying t with
  |some (.int k)=>∃z,l=[.int k z]/\(Lit.int k z).wf=true
  |some .bool=>∃b,l=[.bool b]
  |some .string=>∃s:List UInt8,l=[.str s]/\s.length<=maxLen
  |some (.struct fs)=>l.length=P.cellsOf t/\∀f∈fs.toList,CellsT P n f.type ((l.drop f.offset).take (P.cellsOf f.type))
  |some (.slice e)=>∃es:List (List PV),l=[.slice .plain (P.cellsOf e) (es.map (packT P e))]/\es.length<=maxLen/\∀c∈es,CellsT P n e c
  |_=>False
def layB(P:Program):List Field->Nat->Nat->Bool
 | [],o,total=>o==total
 |f::r,o,total=>f.offset==o&&layB P r (o+P.cellsOf f.type) total
def plainB(P:Program)(S:List TypeId):Bool:=S.all fun t=>match P.underlying t with
 |some (.int _)=>P.cellsOf t==1
 |some .bool=>P.cellsOf t==1
 |some .string=>P.cellsOf t==1
 |some (.struct fs)=>fs.toList.all (fun f=>S.contains f.type)&&layB P fs.toList 0 (P.cellsOf t)
 |some (.slice e)=>S.contains e&&decide (0<P.cellsOf e)&&(P.cellsOf t==1)
 |_=>false
def R1(w:World)(c:PV)(v:Value):Prop:=VR ((gh0 w).im w) (fun _=>none) c v/\zZb c=true/\v.oneCell'=true
def Rs(w:World)(l:List PV)(cs:List Value):Prop:=l.length=cs.length/\∀(j:Nat) c v,l[j]? =some c->cs[j]? =some v->R1 w c v
theorem Rs.one{w:World}{c:PV}{v:Value}(h:R1 w c v):Rs w [c] [v]:=by
 refine⟨rfl,fun j c' v' hc hv=>?_⟩;cases j with
 |zero=>cases hc;cases hv;exact h
 |succ j=>simp at hc
theorem Rs.append{w:World}{l l':List PV}{cs cs':List Value}(h:Rs w l cs)(h':Rs w l' cs'):Rs w (l++l') (cs++cs'):=by
 refine⟨by simp[h.1,h'.1],fun j c v hc hv=>?_⟩;by_cases hj:j<l.length
 ·rw[yg hj]at hc;rw[yg (by rw[<-h.1];exact hj)]at hv;exact h.2 j c v hc hv
 ·rw[yj (by omega)]at hc;rw[yj (by rw[<-h.1];omega)]at hv;rw[<-h.1]at hv;exact h'.2 _ c v hc hv
theorem lay_join{P:Program}{w:World}{n:Nat}{cs:List Value}:∀(fs:List Field) (o total:Nat),layB P fs o total=true->total=cs.length→
  (∀f∈fs,∃l,Rs w l ((cs.drop f.offset).take (P.cellsOf f.type))/\CellsT P n f.type l)→
  ∃l,Rs w l (cs.drop o)/\∀f∈fs,o<=f.offset/\CellsT P n f.type ((l.drop (f.offset-o)).take (P.cellsOf f.type)):=by
 intro fs
 induction fs with
 |nil=>
  intro o total hl ht _;simp only[layB,beq_iff_eq]at hl;refine⟨[],⟨?_,fun j c v hc=>by simp at hc⟩,fun f hf=>by simp at hf⟩;simp;omega
 |cons f r ih=>
  intro o total hl ht hf;simp only[layB,ya,beq_iff_eq]at hl;obtain⟨ho,hl⟩:=hl;obtain⟨l1,h1,c1⟩:=hf f (by simp);obtain⟨l2,h2,c2⟩:=ih _ _ hl ht (fun g hg=>hf g (by simp[hg]));have hle:∀(fs:List Field) (o total:Nat),layB P fs o total=true->o<=total:=by
   intro fs
   induction fs with
   |nil=>intro o total h;simp only[layB,beq_iff_eq]at h;omega
   |cons g s ihs=>
    intro o total h;simp only[layB,ya,beq_iff_eq]at h;have:=ihs _ _ h.2;omega
  have hn:=hle _ _ _ hl;have hlen1:l1.length=P.cellsOf f.type:=by
   rw[h1.1,List.length_take,List.length_drop,ho];omega
  refine⟨l1++l2,?_,?_⟩
  ·have:cs.drop o=(cs.drop f.offset).take (P.cellsOf f.type)++cs.drop (o+P.cellsOf f.type):=by
    rw[ho,<-List.drop_drop,List.take_append_drop]
   rw[this];exact h1.append h2
  ·intro g hg;rcases yz.1 hg with rfl|hg
   ·refine⟨by omega,?_⟩;rw[ho,Nat.sub_self,List.drop_zero,List.take_append_of_le_length (by omega),<-hlen1,List.take_length];exact c1
   ·obtain⟨h3,h4⟩:=c2 g hg;refine⟨by omega,?_⟩;have:(l1++l2).drop (g.offset-o)=l2.drop (g.offset-(o+P.cellsOf f.type)):=by
     rw[List.drop_append,List.drop_of_length_le (by omega),List.nil_append];congr 1;omega
    rw[this];exact h4
theorem cells_packed{P:Program}{n:Nat}{e:TypeId}{l:List PV}{w:World}{cs:List Value}(hr:Rs w l cs)(h:CellsT P n e l)(hsz:cs.length=P.cellsOf e):cellsOf (packT P e l)=l/\zq (packT P e l)=true:=by
 cases n with
 |zero=>exact h.elim
 |succ n=>
  unfold CellsT at h;unfold packT;split at h
  ·rename_i hu;rw[hu];obtain⟨z,rfl,_⟩:=h;exact⟨rfl,rfl⟩
  ·rename_i hu;rw[hu];obtain⟨z,rfl⟩:=h;exact⟨rfl,rfl⟩
  ·rename_i hu;rw[hu];obtain⟨z,rfl,_⟩:=h;exact⟨rfl,rfl⟩
  ·rename_i hu;rw[hu];exact⟨rfl,rfl⟩
  ·rename_i hu;rw[hu];obtain⟨z,rfl,_⟩:=h;exact⟨rfl,rfl⟩
  ·exact h.elim
theorem cells?_get{w:World}{a:Addr}{n:Nat}{cs:List Value}(h:w.cells? 0 a n=some cs):cs.length=n/\∀(j:Nat) v,cs[j]? =some v->w.cell? (a.add j)=some v:=by
 unfold World.cells? at h;rw[if_pos (Nat.zero_le _)]at h;have hl:=mapM_some_length h;rw[List.length_range]at hl;refine⟨hl,fun j v hv=>?_⟩;have hj:j<n:=by rw[<-hl];exact(yb.1 hv).1
 have:=mapM_some_get h j j (by rw[List.getElem?_range hj]);rw[this,hv]
theorem add_add(a:Addr)(ha:a.spot=none)(x:Nat):a.add x=⟨a.block,a.off+x,none⟩:=by
 obtain⟨b,o,s⟩:=a;simp only at ha;subst ha;unfold Addr.add;by_cases h:x=0<;>simp[h]
theorem read_cells{P:Program}{S:List TypeId}(hp:plainB P S=true){H:Type}{enc:TypeId×Value->H}{w:World}{sp:Nat->Bool}:∀(n:Nat) (t:TypeId) (cs:List Value) (x:DataW H×List MemPlace),t∈S→
  DataW.trod enc P w 0 sp true n t cs=some x->∃l,Rs w l cs/\CellsT P n t l/\cs.length=P.cellsOf t:=by
 intro n
 induction n with
 |zero=>intro t cs x _ h;simp[DataW.trod]at h
 |succ n ih=>
  intro t cs x ht h;have hp':=yn.1 hp t ht;split at hp'
  ·rename_i k hu;obtain⟨z,rfl,_,hw⟩:=DataW.trod_int hu h;simp only[beq_iff_eq]at hp';exact⟨[.int k z],Rs.one ⟨.int _ _,rfl,rfl⟩,by unfold CellsT;rw[hu];exact⟨z,rfl,hw⟩,by simp[hp']⟩
  ·rename_i hu;obtain⟨z,rfl,_⟩:=DataW.trod_bool hu h;simp only[beq_iff_eq]at hp';exact⟨[.bool z],Rs.one ⟨.bool _,rfl,rfl⟩,by unfold CellsT;rw[hu];exact⟨z,rfl⟩,by simp[hp']⟩
  ·rename_i hu;obtain⟨s,rfl,_,hm⟩:=DataW.trod_string hu h;simp only[beq_iff_eq]at hp';exact⟨[.str s.data.toList],Rs.one ⟨str_vr _ _,rfl,rfl⟩,by unfold CellsT;rw[hu];exact⟨_,rfl,str_len hm⟩,by simp[hp']⟩
  ·rename_i fs hu;simp only[ya,yn,yDa]at hp';obtain⟨hS,hlay⟩:=hp';obtain⟨xs,m,hm,_,hlen,hxs,hget⟩:=DataW.trod_struct hu h;cases hm;obtain⟨l,hl,hc⟩:=lay_join (w:=w) (n:=n) (cs:=cs) fs.toList 0 _ hlay hlen.symm (by
    intro f hf;obtain⟨i,hi⟩:=ypa hf;have hi':fs[i]? =some f:=by simpa using hi
    have hg:=hget i f hi';have hlt:i<xs.length:=by rw[hxs];simpa using(yb.1 hi).1
    rw[ye hlt]at hg;obtain⟨l,h1,h2,_⟩:=ih _ _ _ (hS f hf) hg;exact⟨l,h1,h2⟩)
   rw[List.drop_zero]at hl;refine⟨l,hl,?_,hlen⟩;unfold CellsT;rw[hu];exact⟨by rw[hl.1,hlen],fun f hf=>by have:=(hc f hf).2;rwa[Nat.sub_zero]at this⟩
  ·rename_i e hu;simp only[ya,yDa,decide_eq_true_eq,beq_iff_eq]at hp';obtain⟨⟨hS,hpos⟩,h1⟩:=hp';rcases DataW.trod_slice hu h with⟨rfl,_⟩|⟨a,len,cap,elems,rest,m,hm,rfl,_,_,hle,hcap,hel,hget,_,_⟩
   ·exact⟨[.slice .plain (P.cellsOf e) []],Rs.one ⟨.slice0 _ _ _ _ (by simp) (by simp),rfl,rfl⟩,by unfold CellsT;rw[hu];exact⟨[],rfl,by simp,by simp⟩,by simp[h1]⟩
   ·cases hm;have key:∀i,i<len->∃l:List PV,l.length=P.cellsOf e/\CellsT P n e l/\cellsOf (packT P e l)=l/\zq (packT P e l)=true/\∀(j:Nat) c,l[j]? =some c->∃v,w.cell? ((a.add (i*P.cellsOf e)).add j)=some v/\R1 w c v:=by
     intro i hi;have hg:=hget i hi;have hlt:i<elems.length:=by omega
     rw[ye hlt,yL]at hg;obtain⟨cs',h2,h3⟩:=hg;obtain⟨l,h4,h5,h6⟩:=ih _ _ _ hS h3;obtain⟨h7,h8⟩:=cells?_get h2;obtain⟨h9,h10⟩:=cells_packed h4 h5 h6;refine⟨l,by rw[h4.1,h6],h5,h9,h10,fun j c hc=>?_⟩;have hj:j<cs'.length:=by rw[<-h4.1];exact(yb.1 hc).1
     exact⟨cs'[j],h8 j _ (ye hj),h4.2 j c _ hc (ye hj)⟩
    let g:Nat->List PV:=fun i=>if hi:i<len then(key i hi).choose else[]
    have hg:∀i,i<len->(g i).length=P.cellsOf e/\CellsT P n e (g i)/\cellsOf (packT P e (g i))=g i/\zq (packT P e (g i))=true/\∀(j:Nat) c,(g i)[j]? =some c->∃v,w.cell? ((a.add (i*P.cellsOf e)).add j)=some v/\R1 w c v:=by
     intro i hi;have:=(key i hi).choose_spec;simp only[g,dif_pos hi];exact this
    have hel':∀(i:Nat) x,(((yS len).map g).map (packT P e))[i]? =some x->i<len/\x=packT P e (g i):=by
     intro i x hx;rw[List.map_map,yk,yc]at hx;obtain⟨k,hk,rfl⟩:=hx;obtain⟨hk1,hk2⟩:=yb.1 hk;rw[List.length_range]at hk1;rw[List.getElem_range]at hk2;subst hk2;exact⟨hk1,rfl⟩
    refine⟨[.slice .plain (P.cellsOf e) (((yS len).map g).map (packT P e))],Rs.one ⟨?_,rfl,rfl⟩,?_,by simp[h1]⟩
    ·by_cases h0:len=0
     ·subst h0;exact .slice0 _ _ _ _ (by simp) (by simp)
     ·obtain⟨q1,q2,q3,q4,q5⟩:=hg 0 (by omega);have hspot:a.spot=none:=by
       have hlt:0<(g 0).length:=by omega
       obtain⟨v,hv,_⟩:=q5 0 _ (ye hlt);have hsp:=World.cell?_spot hv;obtain⟨b,o,s⟩:=a;simpa[Addr.add]using hsp
      obtain⟨b,o,s⟩:=a;simp only at hspot;subst hspot;have hcell:∀(i:Nat) x (j:Nat) c,(((yS len).map g).map (packT P e))[i]? =some x->(cellsOf x)[j]? =some c->∃v,(gh0 w).im w b (o+i*P.cellsOf e+j)=some v/\R1 w c v:=by
       intro i x j c hx hc;obtain⟨hi,rfl⟩:=hel' i x hx;obtain⟨r1,r2,r3,r4,r5⟩:=hg i hi;rw[r3]at hc;obtain⟨v,hv,hr⟩:=r5 j c hc;refine⟨v,gh0_im ?_,hr⟩;rw[add_add ⟨b,o,none⟩ rfl,add_add ⟨b,o+i*P.cellsOf e,none⟩ rfl]at hv;exact hv
      have hlen:(((yS len).map g).map (packT P e)).length=len:=by simp
      have:=VR.slice (I:=(gh0 w).im w) (L:=fun _=>none) (k:= .plain) (sz:=P.cellsOf e) (l:=((yS len).map g).map (packT P e)) (b:=b) (o:=o) (cap:=cap)
       (by simp) (by simp) (by rw[hlen];exact hle) (fun i j=>((gh0 w).im w b (o+i*P.cellsOf e+j)).getD (.bool false)) ?_ ?_ ?_
      ·rw[hlen]at this;exact this
      ·intro i x hx;obtain⟨hi,rfl⟩:=hel' i x hx;obtain⟨r1,r2,r3,r4,r5⟩:=hg i hi;exact⟨by rw[r3,r1],r4⟩
      ·intro i x j c hx hc;obtain⟨v,hv,hr⟩:=hcell i x j c hx hc;simp only[hv,yJ];exact⟨trivial,hr.2.2⟩
      ·intro i x j c hx hc;obtain⟨v,hv,hr⟩:=hcell i x j c hx hc;simp only[hv,yJ];exact hr.1
    ·unfold CellsT;rw[hu];refine⟨(yS len).map g,rfl,by simp;omega,?_⟩;intro c hc;rw[yxa]at hc;obtain⟨i,hi,rfl⟩:=hc;exact(hg i (yga.1 hi)).2.1
  ·cases hp'
theorem packT_struct{P:Program}{e:TypeId}{fs:Array Field}(hu:P.underlying e=some (.struct fs))(l:List PV):packT P e l= .agg l:=by
 unfold packT;rw[hu]
theorem le_max{n:Nat}(h:n<=maxLen):n<=9223372036854775807:=by rw[maxLen_eq]at h;exact h
theorem read_row{P:Program}{S:List TypeId}(hp:plainB P S=true){H:Type}{enc:TypeId×Value->H}{w:World}{sp:Nat->Bool}{t e:TypeId}(hu:P.underlying t=some (.slice e))(ht:t∈S){v:Value}{d:DataW H}{ps:List MemPlace}(h:DataW.Trod enc P w 0 sp true t v d ps){a:Option Addr}{len cap:Nat}(hv:v= .slice a len cap):
  ∃(n:Nat) (es:List (List PV)),VR ((gh0 w).im w) (fun _=>none) (.slice .plain (P.cellsOf e) (es.map (packT P e))) v/\es.length<=maxLen/\∀c∈es,CellsT P n e c:=by
 subst hv;obtain⟨n,hf⟩:=h;obtain⟨l,h1,h2,h3⟩:=read_cells hp n t _ _ ht hf;cases n with
 |zero=>exact h2.elim
 |succ n=>
  unfold CellsT at h2;rw[hu]at h2;obtain⟨es,rfl,hm,hc⟩:=h2;exact⟨n,es,(h1.2 0 _ _ rfl (by simp[Value.cells])).1,hm,hc⟩
end PE
