/-
  Texts joined by program: AZH3, AZH4, AZH5, AZH6, AZC4, PfEnd, PfRead.
-/
import Derived.Test.YtianoihfjikdgaaGreatB04
import Derived.WalkKit
import Derived.ProofKit
import Derived.OpenShut
import Derived.ShutString
import Derived.ChangeOld
import Derived.Below
set_option linter.unusedVariables false
set_option linter.unusedSectionVars false
set_option linter.unusedSimpArgs false
open Bool renaming and_eq_true→ya
open List renaming all_eq_true→yp,getElem?_append_left→yj,getElem?_append_right→yo,getElem?_eq_getElem→ye,getElem?_eq_some_iff→yb,getElem?_map→ym,getElem?_take→yz,length_append→yl,length_cons→yQ,length_map→yea,length_nil→yaa,mem_append→yK,mem_cons→yP,mem_map→yza,mem_range→ypa,range→yX
open Option renaming bind_eq_some_iff→yL,getD_some→yW,map_eq_some_iff→yc
open UInt8 renaming ofNat→yya
namespace PE.U
open Go PE
theorem eachV_append(L:List UInt8)(ts seen:List Int)(t:Int):∀(d:List Int) (i:Nat),znb L ts seen (d++[t]) i=znb L ts seen d i++[someV ts seen t (pk L (i+d.length) 8)]
 | [],i=>by simp[znb]
 |x::r,i=>by
  have:=eachV_append L ts seen t r (i+1);simp only[List.cons_append,znb,this,yQ];rw[show i+1+r.length=i+(r.length+1) by omega]
def zL(l:List Int):List PV:=l.map (PV.int .i64)
section
variable (L:List UInt8) (hL:L.length<=9223372036854775807)
include hL
theorem zga(i:Nat)(ts:List Int)(left:Nat)(seen types:List Int)(hs:seen.length<=1000000)(hi:i+types.length<=1000000000000)(ht:ts.length<=1000000)(hr:∀x∈seen,0<=x/\x<ts.length)(hy:types.length<=1000000):
  zi E 72 [.ptr 0 0 0,ints seen,ints types] (gst L i ts left)=some (.ret (ints (znb L ts seen types i)),gst L (i+types.length) ts left):=by
 refine zb rfl rfl rfl (by simp) ?_;simp[F72,ints];refine zD types K72_0 B72_0 (fun d=>[(7,acc 1 (zL (znb L ts seen d i))),(8,.int .i64 d.length)]) (fun d=>gst L (i+d.length) ts left) (fun _=>True) (by omega) (by simp[znb,zL]) ?_ ?_
 ·intros d x r s hl' hlt hget hget' hw hp h1 h2 h3 h4;simp at h1 h3;clear h2;have hsm:=gsome_spec L hL (i+d.length) ts left seen x hs (by omega) ht hr;have he:=eachV_append L ts seen x d i;have hi2:i+d.length+1=i+(d.length+1):=by omega
  rw[hi2]at hsm;simp[ints]at hsm;have q4:((znb L ts seen d i).length+1)*8<=zm:=by rw[zwa];simp only[zm];omega
  have q5:(zL (znb L ts seen d i)).length=d.length:=by simp[zL,zwa]
  have q6:(d.length+1)*8<=zm:=by rwa[zwa]at q4
  have q7:zL (znb L ts seen (d++[x]) i)=zL (znb L ts seen d i)++[.int .i64 (someV ts seen x (pk L (i+d.length) 8))]:=by rw[he];simp[zL]
  clear hl' hs hi hr hL he;simp[*]
 ·intro s hp h1 h2 h3 h4;simp at h1 h3;clear h2 hL hr;simp[*,zL]
omit hL in
theorem zjc(i:Nat)(ts:List Int)(left:Nat)(types:List Int)(ht:ts.length+types.length<=1000000):
  zi E 45 [.ptr 0 0 0,ints types] (gst L i ts left)=some (.ret (acc 1 (zL (newV ts.length types.length))),gst L i (ts++types) left):=by
 refine pcall_wpO 4 rfl rfl rfl (by simp) ?_;simp[F45,ints];refine zD types K45_0 B45_0 (fun d=>[(5,acc 1 (zL (newV ts.length d.length))),(6,.int .i64 d.length)]) (fun d=>gst L i (ts++d) left) (fun _=>True) (by omega) (by simp[newV,zL]) ?_ ?_
 ·intros d x r s hl' hlt hget hget' hw hp h1 h2 h3 h4;simp at h1 h3;clear h2;have hf:=fresh_spec L i (ts++d) left x (by simp;omega);simp at hf;have q5:(zL (newV ts.length d.length)).length=d.length:=by simp[zL,zhb]
  have q6:(d.length+1)*8<=zm:=by simp only[zm];omega
  have q7:zL (newV ts.length (d.length+1))=zL (newV ts.length d.length)++[.int .i64 ((ts.length:Int)+d.length)]:=by simp[zL,newV]
  clear hl';simp[*]
 ·intro s hp h1 h2 h3 h4;simp at h1 h3;clear h2;simp[*,zL]
structure TyS where
 j:Nat
 m:Nat
theorem gtypes_spec(i:Nat)(ts:List Int)(left:Nat)(hi:i<=100000000000):
  zi E 71 [.ptr 0 0 0] (gst L i ts left)=some (.ret (ints (zEa L i)),gst L (zab L i) ts left):=by
 refine zb rfl rfl rfl (by simp) ?_;have hp:=zua L hL i 3 ts left (by omega) (by omega);have hk:=pk_lt L i 3 (by omega);have h0:zEa L i=tyV L (i+1) (pk L i 3):=rfl;have h0':zab L i=i+1+pk L i 3:=rfl;generalize pk L i 3=k at*;simp at hp;simp[hp,F71];refine zac K71_0 B71_0 (fun c:TyS=>c.m) (fun c=>[(3,acc 1 (zL (tyV L (i+1) c.j))),(4,.int .i64 c.m)]) (fun _=>[]) (fun c=>gst L (i+1+c.j) ts left)
  (fun c=>c.j+c.m=k) ⟨0,k⟩ ⟨by simp[tyV,zL],by simp,by simp,by simp⟩ ?_
 rintro⟨j,m⟩ s1 hj h1 h2 h3 h4 h5
 simp only at hj h3 h5;simp at h1 h3;clear h2 h4 hp;cases m with
 |zero=>
  simp at hj h3;subst hj;rw[h0,h0'];simp[h1,h3,h5,ints,zL]
 |succ m=>
  have hq:=zua L hL (i+1+j) 2 ts left (by omega) (by omega);have hq2:=pk_lt L (i+1+j) 2 (by omega);have q5:(zL (tyV L (i+1) j)).length=j:=by simp[zL,tyV_len]
  have q6:(j+1)*8<=zm:=by simp only[zm];omega
  have q7:zL (tyV L (i+1) (j+1))=zL (tyV L (i+1) j)++[.int .i64 (1+(pk L (i+1+j) 2:Int))]:=by simp[zL,tyV]
  have hw:zO .i64 (1+(pk L (i+1+j) 2:Int))=1+(pk L (i+1+j) 2:Int):=zo (by omega) (by omega);have hw2:zO .i64 (m:Int)=m:=zo (by omega) (by omega);have e1:((0:Int)<(m:Int)+1)=True:=eqp (by omega);simp at hq h3;simp[h1,h3,h5,hq,q5,q6,hw,hw2,e1];refine⟨⟨j+1,m⟩,by simp,?_⟩;simp[h1,h3,h5,q7,hw,hw2]
  and_intros<;>first|omega|rfl|(congr 1)|skip
end
def zCc(p:HPl):PV:= .agg [.bool p.iff,.bool p.loop,ints p.yield,ints p.next,ints p.left]
theorem newV1(n:Nat):newV n 1=[(n:Int)]:=by simp[newV]
section
variable (L:List UInt8) (hL:L.length<=9223372036854775807)
include hL
set_option maxHeartbeats 4000000 in
theorem gsimple_spec(i:Nat)(ts:List Int)(left:Nat)(seen:List Int)(hs:seen.length<=1000000)(hi:i<=100000000000)(ht:ts.length<=999990)(hr:∀x∈seen,0<=x/\x<ts.length):
  zi E 70 [.ptr 0 0 0,ints seen] (gst L i ts left)=some (.ret (zE (zba L seen ts i).1),gst L (zba L seen ts i).2.1 (ts++(zba L seen ts i).2.2) left):=by
 refine zb rfl rfl rfl (by simp) ?_;have p0:=zua L hL i 12 ts left (by omega) (by omega);have p1:=zua L hL (i+1) 6 ts left (by omega) (by omega);have p2:=zua L hL (i+1) 2 ts left (by omega) (by omega);have p3:=zua L hL (i+1) 4 ts left (by omega) (by omega);have p4:=zua L hL (i+1) 11 ts left (by omega) (by omega);have a1:=zga L hL (i+1) ts left seen [1] hs (by simp;omega) (by omega) hr (by simp);have a2:=zga L hL (i+2) ts left seen [1] hs (by simp;omega) (by omega) hr (by simp);have a3:=zga L hL (i+1) ts left seen [2] hs (by simp;omega) (by omega) hr (by simp);have a4:=zga L hL (i+1) ts left seen [1,1] hs (by simp;omega) (by omega) hr (by simp);have a5:=zga L hL (i+2) ts left seen [1,1] hs (by simp;omega) (by omega) hr (by simp);have a6:=zga L hL (i+2) ts left seen [1,2] hs (by simp;omega) (by omega) hr (by simp);have o1:=fun i=>zjc L i ts left [1] (by simp;omega)
 have o2:=fun i=>zjc L i ts left [2] (by simp;omega)
 have h12:=pk_lt L i 12 (by omega);have h6:=pk_lt L (i+1) 6 (by omega);have h4:=pk_lt L (i+1) 4 (by omega);have h11:=pk_lt L (i+1) 11 (by omega);have w1:zO .i64 (1+(pk L (i+1) 11:Int))=1+(pk L (i+1) 11:Int):=zo (by omega) (by omega);have w2:zO .i64 (12+(pk L (i+1) 6:Int))=12+(pk L (i+1) 6:Int):=zo (by omega) (by omega);simp[ints,zL,newV1]at p0 p1 p2 p3 p4 a1 a2 a3 a4 a5 a6 o1 o2;have hc:pk L i 12=0\/pk L i 12=1\/pk L i 12=2\/pk L i 12=3\/pk L i 12=4\/pk L i 12=5\/pk L i 12=6\/pk L i 12=7\/pk L i 12=8\/pk L i 12=9\/pk L i 12=10\/pk L i 12=11:=by omega
 have hc6:pk L (i+1) 6=0\/pk L (i+1) 6=1\/pk L (i+1) 6=2\/pk L (i+1) 6=3\/pk L (i+1) 6=4\/pk L (i+1) 6=5:=by omega
 have hc4:pk L (i+1) 4=0\/pk L (i+1) 4=1\/pk L (i+1) 4=2\/pk L (i+1) 4=3:=by omega
 clear hL hs hi ht hr h12 h6 h4 h11;rcases hc with h|h|h|h|h|h|h|h|h|h|h|h
 ·rcases hc6 with k|k|k|k|k|k<;>simp[h,k]at p0 p1<;>simp[*,zba,F70,za,ints,kids,atA]
 ·simp[h]at p0;simp[*,zba,F70,za,ints,kids,atA]
 ·rcases hc4 with k|k|k|k<;>simp[h,k]at p0 p3<;>simp[*,zba,F70,za,ints,kids,atA]
 ·simp[h]at p0;simp[*,zba,F70,za,ints,kids,atA]
 ·simp[h]at p0;simp[*,zba,F70,za,ints,kids,atA]
 ·simp[h]at p0;simp[*,zba,F70,za,ints,kids,atA]
 ·simp[h]at p0;simp[*,zba,F70,za,ints,kids,atA]
 ·simp[h]at p0;simp[*,zba,F70,za,ints,kids,atA]
 ·simp[h]at p0;simp[*,zba,F70,za,ints,kids,atA]
 ·simp[h]at p0;simp[*,zba,F70,za,ints,kids,atA]
 ·simp[h]at p0;simp[*,zba,F70,za,ints,kids,atA]
 ·rcases hc4 with k|k|k|k<;>simp[h,k]at p0 p3<;>simp[*,zba,F70,za,ints,kids,atA]
theorem gend_spec(i:Nat)(ts:List Int)(left:Nat)(seen:List Int)(p:HPl)(hp:PlOk p)(hs:seen.length<=1000000)(hi:i<=100000000000)(ht:ts.length<=999990)(hr:∀x∈seen,0<=x/\x<ts.length):
  zi E 74 [.ptr 0 0 0,ints seen,zCc p] (gst L i ts left)=some (.ret (zE (endG L seen ts p i)),gst L (endN L p i) ts left):=by
 refine zb rfl rfl rfl (by simp[zCc]) ?_;have p0:=zua L hL i 6 ts left (by omega) (by omega);have a1:=zga L hL (i+1) ts left seen p.yield hs (by have:=hp.y;omega) (by omega) hr (by have:=hp.y;omega);have a2:=zga L hL (i+1) ts left seen p.next hs (by have:=hp.n;omega) (by omega) hr (by have:=hp.n;omega);have a3:=zga L hL (i+1) ts left seen p.left hs (by have:=hp.l;omega) (by omega) hr (by have:=hp.l;omega);have a4:=zga L hL (i+1) ts left seen [1] hs (by simp;omega) (by omega) hr (by simp);have hr2:remK (pk L i 6:Int) 2=((pk L i 6%2:Nat):Int):=by have:=remNat (pk L i 6) 2;simpa using this
 simp[ints]at p0 a1 a2 a3 a4;have e1:endG L seen ts p i=nd (endL p (pk L i 6)).1 0 0 [] (znb L ts seen (endL p (pk L i 6)).2 (i+1)) []:=rfl;have e2:endN L p i=i+1+(endL p (pk L i 6)).2.length:=rfl;rw[e1,e2];generalize pk L i 6=k at*;have hk4:((k:Int)<4)=(k<4):=by apply propext;omega
 have hk2:((k:Int)%2=0)=(k%2=0):=by apply propext;omega
 clear hL hs hi ht hr e1 e2 hp;obtain⟨iff,loop,yield,next,lft⟩:=p;simp only at a1 a2 a3;by_cases c1:k<4<;>by_cases c2:k%2=0<;>cases iff<;>cases loop<;>simp[*,endL,F74,za,ints,kids,zCc]
end
structure LsS where
 m:Nat
 out:List Node
 all:List Int
 i:Nat
 ts:List Int
 left:Nat
def rcOf(L:List UInt8):Nat->Option LG
 |0=>none
 |d+1=>some (zQc L d)
theorem listG_eq(L:List UInt8)(d:Nat)(seen:List Int)(p:HPl)(i:Nat)(ts:List Int)(left:Nat):zQc L d seen p i ts left=runG L (rcOf L d) p (pk L i 6) [] seen (i+1) ts left:=by
 cases d<;>rfl
theorem rcOf_ok(L:List UInt8)(d:Nat):∀f,rcOf L d=some f->LGok f:=by
 intro f h;cases d with
 |zero=>simp[rcOf]at h
 |succ d=>simp[rcOf]at h;subst h;exact listG_ok L d
structure LsPre(d i:Nat)(ts:List Int)(left:Nat)(seen:List Int)(p:HPl):Prop where
 p:PlOk p
 s:seen.length+100*d<=1000
 i:i+100*left<=10000000
 t:ts.length+10*left<=100000
 r:∀x∈seen,0<=x/\x<ts.length
def LsOk(L:List UInt8)(d:Nat):Prop:=∀i ts left seen p,LsPre d i ts left seen p→
 zi E 47 [.ptr 0 0 0,ints seen,zCc p,.int .i64 d] (gst L i ts left)=some (.ret (zk (zQc L d seen p i ts left).n),gst L (zQc L d seen p i ts left).i (zQc L d seen p i ts left).ts (zQc L d seen p i ts left).left)
structure LsInv(L:List UInt8)(d:Nat)(p:HPl)(M:Md (List Node))(k:Nat)(c:LsS):Prop where
 run:runG L (rcOf L d) p c.m c.out c.all c.i c.ts c.left=M
 m:c.m<=5
 o:c.out.length+c.m<=5
 a:c.all.length+100*d+2*c.m<=1010
 i:c.i+100*c.left<=10000001
 t:c.ts.length+10*c.left<=100000
 r:∀x∈c.all,0<=x/\x<c.ts.length
theorem LsInv.step{L:List UInt8}{d:Nat}{p:HPl}{M:Md (List Node)}{k m:Nat}{out:List Node}{all:List Int}{i:Nat}{ts:List Int}{left:Nat}(hp:PlOk p)(h:LsInv L d p M k ⟨m+1,out,all,i,ts,left+1⟩){r:Md Node}(hr:nodeG L (rcOf L d) all p i ts left=r):
  if zF r.n=true then M=⟨out++[r.n],r.i,r.ts,r.left⟩else LsInv L d p M k ⟨m,out++[r.n],all++r.n.outs,r.i,r.ts,r.left⟩:=by
 obtain⟨h1,h2,h3,h4,h5,h6,h7⟩:=h;simp only at h1 h2 h3 h4 h5 h6 h7;have hn:=nodeG_ok L (rcOf L d) (rcOf_ok L d) all p hp i ts left;rw[hr]at hn;rw[runG]at h1;simp only[Nat.add_one_ne_zero,if_false,Nat.add_sub_cancel,hr]at h1;split
 ·rename_i hc;rw[if_pos hc]at h1;exact h1.symm
 ·rename_i hc;rw[if_neg hc]at h1;obtain⟨n1,⟨x,n2⟩,n3,n4,n5,n6⟩:=hn;refine⟨h1,by simp only;omega,by simp only[yl,List.length_singleton];omega,by simp only[yl];omega,by simp only;omega,by simp only;omega,?_⟩;intro y hy;simp only[yK]at hy;rcases hy with hy|hy
  ·have:=h7 y hy;simp only[n2,yl];omega
  ·exact n5 y hy
section
variable (L:List UInt8) (hL:L.length<=9223372036854775807)
include hL
set_option maxRecDepth 20000 in
set_option maxHeartbeats 8000000 in
theorem glist_of(d:Nat)(hd:d<=3)(hrec:∀e,d=e+1->LsOk L e):LsOk L d:=by
 intro i ts left seen p hpre;obtain⟨hp,hs,hi,ht,hr⟩:=hpre;refine zb rfl rfl rfl (by simp[zCc]) ?_;have p0:=zua L hL i 6 ts left (by omega) (by omega);have hk:=pk_lt L i 6 (by omega);have hM:=listG_eq L d seen p i ts left;generalize zQc L d seen p i ts left=M at*;generalize pk L i 6=k at*;have hsz:seen.length*8<=zm:=by simp only[zm];omega
 simp at p0;simp[p0,hsz,F47,ints,zCc];refine zac K47_0 B47_0 (fun c:LsS=>c.m) (fun c=>[(9,acc 8 (c.out.map zE)),(10,acc 1 (zL c.all)),(11,.int .i64 c.m)]) (fun _=>[]) (fun c=>gst L c.i c.ts c.left)
  (LsInv L d p M k) ⟨k,[],seen,i+1,ts,left⟩ ⟨by simp[zL],by simp,by simp,⟨hM.symm,by simp only;omega,by simp only[yaa];omega,by simp only;omega,by simp only;omega,by simp only;omega,hr⟩⟩ ?_
 rintro⟨m,out,all,i',ts',left'⟩ s1 hinv h1 h2 h3 h4 h5
 simp only at h3 h5;simp at h1 h2 h3;clear h4 p0 hM hs hi ht hr hsz;have hoo:(out.map zE).length=out.length:=by simp
 have hol:=hinv.o;simp only at hol;have hob:(out.length+1)*136<=zm:=by simp only[zm];omega
 have hend:=gend_spec L hL i' ts' left' all p hp (by have:=hinv.a;simp only at this;omega) (by have:=hinv.i;simp only at this;omega) (by have:=hinv.t;simp only at this;omega) hinv.r;simp[ints,zCc,za,gst]at hend;have hfin:m=0\/left'=0->M=finG L p out all i' ts' left':=by
  intro h;have hrun:=hinv.run;simp only at hrun;rcases h with h|h
  ·subst h;exact hrun.symm
  ·subst h;cases m with
   |zero=>exact hrun.symm
   |succ m=>simp[runG]at hrun;exact hrun.symm
 cases m with
 |zero=>
  have hf:=hfin (.inl rfl);rw[hf];simp at h3;clear hinv hfin hf;simp[*,finG,gst,zk,za,ints,zL]
 |succ m=>
  have e1:((0:Int)<(m:Int)+1)=True:=eqp (by omega);cases left' with
  |zero=>
   have hf:=hfin (.inr rfl);rw[hf];simp at h3;clear hinv hfin hf;simp at hend;simp[*,finG,gst,zk,za,ints,zL]
  |succ lf=>
   have hst:=fun r hr=>hinv.step hp (r:=r) hr
   have hS:=simple_ok L all ts' i';have hsim:=gsimple_spec L hL i' ts' lf all (by have:=hinv.a;simp only at this;omega) (by have:=hinv.i;simp only at this;omega) (by have:=hinv.t;simp only at this;omega) hinv.r;have hpk:=zua L hL (zba L all ts' i').2.1 6 (ts'++(zba L all ts' i').2.2) lf (by omega) (by have:=hinv.i;have:=hS.i;simp only at*;omega);have hnd:∀rc,nodeG L rc all p i' ts' lf=nodeG L rc all p i' ts' lf:=fun _=>rfl
   have ha:=hinv.a;have hii:=hinv.i;have htt:=hinv.t;have hrr:=hinv.r;simp only at ha hii htt hrr;have hw1:zO .i64 (m:Int)=m:=zo (by omega) (by omega);have hw2:zO .i64 (lf:Int)=lf:=zo (by omega) (by omega);have e2:((0:Int)<(lf:Int)+1)=True:=eqp (by omega)
   conv at hnd=>intro rc;rhs;unfold nodeG
   clear hend hfin hinv;generalize zba L all ts' i'=S at*;obtain⟨n,j,x⟩:=S;simp only at hsim hpk hnd;have hj:=hS.i;have hx:=hS.t;have hw:=hS.w;have hol:=hS.ol;simp only at hj hx hw hol;clear hS;have hrT:∀y∈all,0<=y/\y<(ts'++x).length:=fun y hy=>by have:=hrr y hy;simp only[yl];omega
   have hTl:(ts'++x).length<=ts'.length+1:=by simp only[yl];omega
   generalize hT:ts'++x=T at*;clear hT;have hk6:=pk_lt L j 6 (by omega);generalize pk L j 6=k6 at*;simp[ints,za,kids,gst]at hsim hpk;have hcl:=zza n [] (by omega);simp[za,ints,kids]at hcl;have hab:(all.length+n.outs.length)*8<=zm:=by simp only[zm];omega
   have hal:(zL all).length=all.length:=by simp[zL]
   have key:∀r:Md Node,r=⟨n,j+1,T,lf⟩->nodeG L (rcOf L d) all p i' ts' lf=r->(if zF n=true then M=⟨out++[n],j+1,T,lf⟩else LsInv L d p M k ⟨m,out++[n],all++n.outs,j+1,T,lf⟩):=by
    intro r hr hn;have:=hst r hn;rw[hr]at this;exact this
   have hq:(((k6:Int)=0)=True/\((k6:Int)=1)=False/\(k6=0)=True/\(k6=1)=False)\/(((k6:Int)=0)=False/\((k6:Int)=1)=True/\(k6=0)=False/\(k6=1)=True)\/(((k6:Int)=0)=False/\((k6:Int)=1)=False/\(k6=0)=False/\(k6=1)=False):=by
    by_cases h:k6=0
    ·subst h;simp
    ·by_cases h':k6=1
     ·subst h';simp
     ·refine .inr (.inr ⟨eqn (by omega),eqn (by omega),eqn h,eqn h'⟩)
   cases d with
   |zero=>
    have hk:=key _ rfl (hnd none);clear hst hnd key hrT hTl;rcases hq with⟨q1,q2,q3,q4⟩|⟨q1,q2,q3,q4⟩|⟨q1,q2,q3,q4⟩
    all_goals
     cases hc:zF n
     ·simp[hc]at hk hcl;simp[*,gst,zk,za,ints,zL,zCc,kids];refine⟨⟨m,out++[n],all++n.outs,j+1,T,lf⟩,by simp,?_⟩;simp[*,gst,zk,za,ints,zL,zCc,kids]
     ·simp[hc]at hk hcl;rw[hk];clear hk;simp[*,gst,zk,za,ints,zL,zCc,kids]
   |succ d=>
    have e3:((0:Int)<(d:Int)+1)=True:=eqp (by omega);have hw3:zO .i64 (d:Int)=d:=zo (by omega) (by omega);have hrec:=hrec d rfl;rcases hq with⟨q1,q2,q3,q4⟩|⟨q1,q2,q3,q4⟩|⟨q1,q2,q3,q4⟩
    ·have hnd:=hnd (some (zQc L d));simp only[q3,if_true,ifG]at hnd;clear key hcl hw hol hab;have hty:=gtypes_spec L hL (j+1) T lf (by omega);have t1:=zXc L (j+1);have t2:=zWc L (j+1);generalize zEa L (j+1)=t at*;generalize zab L (j+1)=jn at*;have hea:=zga L hL jn T lf all [2] (by omega) (by simp;omega) (by omega) hrT (by simp);have hX:PlOk ⟨true,p.loop,t,p.next,p.left⟩:=⟨t2,hp.n,hp.l⟩
     have hel:(znb L T all [2] jn).length=1:=zwa _ _ _ _ _;generalize znb L T all [2] jn=ar at*;have hA:=hrec (jn+1) T lf all ⟨true,p.loop,t,p.next,p.left⟩ ⟨hX,by omega,by omega,by omega,hrT⟩;have hAo:=listG_ok L d all ⟨true,p.loop,t,p.next,p.left⟩ (jn+1) T lf hX;generalize zQc L d all ⟨true,p.loop,t,p.next,p.left⟩ (jn+1) T lf=A at*;obtain⟨a1,⟨y,a2⟩,a3,a4⟩:=hAo;have hB:=hrec A.i A.ts A.left all ⟨true,p.loop,t,p.next,p.left⟩ ⟨hX,by omega,by omega,by omega,fun y hy=>by have:=hrT y hy;rw[a2];simp only[yl];omega⟩;have hBo:=listG_ok L d all ⟨true,p.loop,t,p.next,p.left⟩ A.i A.ts A.left hX;generalize zQc L d all ⟨true,p.loop,t,p.next,p.left⟩ A.i A.ts A.left=B at*;obtain⟨b1,⟨z,b2⟩,b3,b4⟩:=hBo;have hou:=zjc L B.i B.ts B.left t (by omega);have hk:=hst _ hnd;have hcl:=zza ⟨10,0,0,[],ar,[],[],[A.n,B.n]⟩ [] (by simp[wtN,wtK];omega);have hcl2:=zza ⟨10,0,0,[],ar,newV B.ts.length t.length,[],[A.n,B.n]⟩ [] (by simp[wtN,wtK,zhb];omega);have hcc:zF ⟨10,0,0,[],ar,newV B.ts.length t.length,[],[A.n,B.n]⟩=zF ⟨10,0,0,[],ar,[],[],[A.n,B.n]⟩:=rfl;have hab:(all.length+(newV B.ts.length t.length).length)*8<=zm:=by rw[zhb];simp only[zm];omega
     simp[ints,zL,zCc,za,kids,zk,gst]at hty hea hA hB hcl hcl2 hou;clear a1 a2 a3 a4 b1 b2 b3 b4 hst hnd hrT hTl hrec hX t1 t2 hrr ha hii htt hel hx hj;cases hc:zF ⟨10,0,0,[],ar,[],[],[A.n,B.n]⟩
     ·rw[hc]at hcc;simp[outed,hc,hcc]at hk hcl hcl2;generalize newV B.ts.length t.length=nw at*;simp[*,gst,zk,za,ints,zL,zCc,kids];refine⟨⟨m,out++[⟨10,0,0,[],ar,nw,[],[A.n,B.n]⟩],all++nw,B.i,B.ts++t,B.left⟩,by simp,?_⟩;simp[*,gst,zk,za,ints,zL,zCc,kids]
     ·simp[outed,hc]at hk hcl;rw[hk];clear hk;simp[*,gst,zk,za,ints,zL,zCc,kids]
    ·have hnd:=hnd (some (zQc L d));simp only[q3,q4,if_true,if_false,loopG]at hnd;clear key hcl hw hol hab;have hty:=gtypes_spec L hL (j+1) T lf (by omega);have t1:=zXc L (j+1);have t2:=zWc L (j+1);generalize zEa L (j+1)=t at*;generalize zab L (j+1)=jn at*;have hty2:=gtypes_spec L hL jn T lf (by omega);have t3:=zXc L jn;have t4:=zWc L jn;generalize zEa L jn=o at*;generalize zab L jn=jm at*;have hea:=zga L hL jm T lf all t (by omega) (by omega) (by omega) hrT (by omega);have hX:PlOk ⟨false,true,[],t,o⟩:=⟨by simp,t2,t4⟩
     have hel:(znb L T all t jm).length=t.length:=zwa _ _ _ _ _;generalize znb L T all t jm=ar at*;have hop:=zjc L (jm+t.length) T lf t (by omega);have hpl:(newV T.length t.length).length=t.length:=zhb _ _;have hpm:=newV_mem T.length t.length;generalize newV T.length t.length=ps at*;have hrTT:∀y∈all++ps,0<=y/\y<(T++t).length:=by
      intro y hy;simp only[yK]at hy;simp only[yl];rcases hy with hy|hy
      ·have:=hrT y hy;omega
      ·have:=hpm y hy;omega
     have hTT:(T++t).length<=T.length+2:=by simp only[yl];omega
     have hapl:(all++ps).length<=all.length+2:=by simp only[yl];omega
     have hap:(all.length+ps.length)*8<=zm:=by simp only[zm];omega
     have hap0:all.length*8<=zm:=by simp only[zm];omega
     have hA:=hrec (jm+t.length) (T++t) lf (all++ps) ⟨false,true,[],t,o⟩ ⟨hX,by omega,by omega,by omega,hrTT⟩;have hAo:=listG_ok L d (all++ps) ⟨false,true,[],t,o⟩ (jm+t.length) (T++t) lf hX;generalize zQc L d (all++ps) ⟨false,true,[],t,o⟩ (jm+t.length) (T++t) lf=A at*;obtain⟨a1,⟨y,a2⟩,a3,a4⟩:=hAo;have hou:=zjc L A.i A.ts A.left o (by omega);have hk:=hst _ hnd;have hcl:=zza ⟨11,0,0,[],ar,[],ps,[A.n]⟩ [] (by simp[wtN,wtK];omega);have hcl2:=zza ⟨11,0,0,[],ar,newV A.ts.length o.length,ps,[A.n]⟩ [] (by simp[wtN,wtK,zhb];omega);have hcc:zF ⟨11,0,0,[],ar,newV A.ts.length o.length,ps,[A.n]⟩=zF ⟨11,0,0,[],ar,[],ps,[A.n]⟩:=rfl;have hab:(all.length+(newV A.ts.length o.length).length)*8<=zm:=by rw[zhb];simp only[zm];omega
     simp[ints,zL,zCc,za,kids,zk,gst]at hty hty2 hea hop hA hcl hcl2 hou;clear a1 a2 a3 a4 hst hnd hrT hTl hrec hX t1 t2 t3 t4 hrr ha hii htt hel hx hj hrTT hTT hapl hpm hpl;cases hc:zF ⟨11,0,0,[],ar,[],ps,[A.n]⟩
     ·rw[hc]at hcc;simp[outed,hc,hcc]at hk hcl hcl2;generalize newV A.ts.length o.length=nw at*;simp[*,gst,zk,za,ints,zL,zCc,kids];refine⟨⟨m,out++[⟨11,0,0,[],ar,nw,ps,[A.n]⟩],all++nw,A.i,A.ts++o,A.left⟩,by simp,?_⟩;simp[*,gst,zk,za,ints,zL,zCc,kids]
     ·simp[outed,hc]at hk hcl;rw[hk];clear hk;simp[*,gst,zk,za,ints,zL,zCc,kids]
    ·have hk:=key ⟨n,j+1,T,lf⟩ rfl (by have:=hnd (some (zQc L d));simp only[q3,q4,if_false]at this;exact this);clear hst hnd key hrec hrT hTl;cases hc:zF n
     ·simp[hc]at hk hcl;simp[*,gst,zk,za,ints,zL,zCc,kids];refine⟨⟨m,out++[n],all++n.outs,j+1,T,lf⟩,by simp,?_⟩;simp[*,gst,zk,za,ints,zL,zCc,kids]
     ·simp[hc]at hk hcl;rw[hk];clear hk;simp[*,gst,zk,za,ints,zL,zCc,kids]
theorem glist_spec:∀d,d<=3->LsOk L d:=by
 intro d
 induction d with
 |zero=>intro h;exact glist_of L hL 0 h (by intro e he;cases he)
 |succ d ih=>intro h;exact glist_of L hL (d+1) h (by intro e he;cases he;exact ih (by omega))
end
theorem runG_ne(L:List UInt8)(rc:Option LG)(p:HPl):∀c out all i ts left,(runG L rc p c out all i ts left).n≠ []:=by
 intro c
 induction c with
 |zero=>intro out all i ts left;simp[runG,finG]
 |succ c ih=>
  intro out all i ts left;rw[runG];split
  ·simp[finG]
  ·simp only;split
   ·simp
   ·exact ih _ _ _ _ _
theorem listG_ne(L:List UInt8)(d:Nat)(seen:List Int)(p:HPl)(i:Nat)(ts:List Int)(left:Nat):(zQc L d seen p i ts left).n≠ []:=by
 rw[listG_eq];exact runG_ne L _ _ _ _ _ _ _ _
def noPl:HPl:=⟨false,false,[],[],[]⟩
theorem noPl_ok:PlOk noPl:=⟨by simp[noPl],by simp[noPl],by simp[noPl]⟩
def flowL(L:List UInt8)(params:List Int)(i:Nat):Md (List Node):=zQc L 3 (newV 0 params.length++[(params.length:Int),((params.length+1:Nat):Int)]) noPl i (params++[1,2]) 30
theorem flowG_eq(L:List UInt8)(name:List UInt8)(params:List Int)(i:Nat):flowG L name params i=
  ⟨⟨name,1,params.length,(flowL L params i).ts,nd 1 0 3 [] [] [(params.length:Int)]::nd 2 0 1 [] [] [((params.length+1:Nat):Int)]::(flowL L params i).n⟩,(flowL L params i).i,(flowL L params i).ts,(flowL L params i).left⟩:=rfl
theorem flowL_ok(L:List UInt8)(params:List Int)(i:Nat):MdL 10 (flowL L params i) i (params++[1,2]) 30 0:=listG_ok L 3 _ _ _ _ _ noPl_ok
section
variable (L:List UInt8) (hL:L.length<=9223372036854775807)
include hL
theorem gflow_spec(i:Nat)(ts:List Int)(left:Nat)(name:List UInt8)(params:List Int)(hp:params.length<=10)(hi:i<=1000000):
  zi E 29 [.ptr 0 0 0,.str name,ints params] (gst L i ts left)=some (.ret (zf (flowG L name params i).n),gst L (flowG L name params i).i (flowG L name params i).ts (flowG L name params i).left):=by
 refine zb rfl rfl rfl (by simp) ?_;have o1:=zjc L i [] 30 params (by simp;omega);have f1:=fresh_spec L i params 30 1 (by omega);have f2:=fresh_spec L i (params++[1]) 30 2 (by simp;omega);have hr:∀y∈newV 0 params.length++[(params.length:Int),((params.length+1:Nat):Int)],0<=y/\y<(params++[1,2]).length:=by
  intro y hy;simp only[yK,yP,List.not_mem_nil,or_false]at hy;simp only[yl,yQ,yaa];rcases hy with hy|hy|hy
  ·have:=newV_mem 0 _ y hy;omega
  ·omega
  ·omega
 have hls:=glist_spec L hL 3 (by omega) i (params++[1,2]) 30 (newV 0 params.length++[(params.length:Int),((params.length+1:Nat):Int)]) noPl ⟨noPl_ok,by simp[zhb];omega,by omega,by simp;omega,hr⟩;have hne:=listG_ne L 3 (newV 0 params.length++[(params.length:Int),((params.length+1:Nat):Int)]) noPl i (params++[1,2]) 30;have hok:=flowL_ok L params i;rw[flowG_eq];change zi E _ _ _=some (.ret (zk (flowL L params i).n),gst L (flowL L params i).i (flowL L params i).ts (flowL L params i).left)at hls;change (flowL L params i).n≠ []at hne;generalize flowL L params i=A at*;obtain⟨a1,a2,a3,a4⟩:=hok;have hal:=zrd A.n;have q1:(params.length+2)*8<=zm:=by simp only[zm];omega
 have q2:(2+A.n.length)*136<=zm:=by simp only[zm];omega
 have q3:(newV 0 params.length).length=params.length:=zhb _ _;clear a1 a2 a3 a4 hr hal;simp[ints,zL,gst,zk,zCc,noPl]at o1 f1 f2 hls;generalize newV 0 params.length=nv at*;simp[*,F29,ints,gst,zk,zf,za,kids]
theorem made_spec:zi E 14 [u8s L] []=some (.ret (zl (madeM L)),[]):=by
 refine zb rfl rfl rfl (by simp[u8s]) ?_;have f1:=gflow_spec L hL 0 [] 0 zw [] (by simp) (by omega);have hi1:(flowG L zw [] 0).i<=10000:=by have:=(flowL_ok L [] 0).i;rw[flowG_eq];simp only;omega
 have f2:=gflow_spec L hL (flowG L zw [] 0).i (flowG L zw [] 0).ts (flowG L zw [] 0).left [102] [1,2] (by simp) (by omega);have hm:madeM L=⟨[⟨[97],4⟩],[(flowG L zw [] 0).n,(flowG L [102] [1,2] (flowG L zw [] 0).i).n]⟩:=rfl;rw[hm];generalize flowG L zw [] 0=A at*;generalize flowG L [102] [1,2] A.i=B at*;clear hm;have e1:zw=[109,97,105,110]:=rfl;simp[ints,gst,zf,e1,u8s]at f1 f2;simp[*,F14,zl,arrs,flows,zM,zf,u8s,zm,ints]
end
theorem madeM_sz(L:List UInt8):USz (madeM L):=by
 have h1:=flowL_ok L [] 0;have h2:=flowL_ok L [1,2] (flowL L [] 0).i;obtain⟨a1,a2,a3,a4⟩:=h1;obtain⟨b1,b2,b3,b4⟩:=h2;simp only[yl,yQ,yaa]at a3 b3;refine⟨?_,?_,?_,?_⟩
 ·simp[madeM]
 ·simp[madeM]
 ·intro f hf;simp only[madeM,yP,List.not_mem_nil,or_false]at hf;rcases hf with rfl|rfl<;>simp[flowG_eq]<;>omega
 ·intro f hf;simp only[madeM,yP,List.not_mem_nil,or_false]at hf;rcases hf with rfl|rfl<;>simp[flowG_eq,wtL,wtN,wtK]<;>omega
theorem madeM_wt(L:List UInt8):∀f∈(madeM L).flows,wtL f.body<1099511000000:=by
 have h1:=flowL_ok L [] 0;have h2:=flowL_ok L [1,2] (flowL L [] 0).i;obtain⟨a1,a2,a3,a4⟩:=h1;obtain⟨b1,b2,b3,b4⟩:=h2;intro f hf;simp only[madeM,yP,List.not_mem_nil,or_false]at hf;rcases hf with rfl|rfl<;>simp[flowG_eq,wtL,wtN,wtK]<;>omega
theorem playGood_spec(L:List UInt8)(inp:List Int)(fu:Int)(hL:L.length<=9223372036854775807)(hi:inp.length<=9223372036854775807)(hf:0<=fu/\fu<=255):
  zi E 4 [u8s L,ints inp,.int .u8 fu] []=some (.ret (.bool true),[]):=by
 refine zb rfl rfl rfl (by simp[u8s]) ?_;have ha:=awake10_spec;have hm:=made_spec L hL;have hz:=madeM_sz L;have hw:=madeM_wt L;have hin:=ins_spec inp hi;have h1:zO .i64 fu=fu:=zo (by omega) (by omega);have h2:zO .i64 (2*fu)=2*fu:=zo (by omega) (by omega);have hp:=playrun_spec (madeM L) hz (inp.take 10) (2*fu) (by omega);have hq:=refplay_spec (madeM L) hz hw (inp.take 10) (2*fu) (by omega);have ho:=playM_out (madeM L) (inp.take 10) (2*fu) (by omega) hz;have hs:=sameR_spec (playM (madeM L) (inp.take 10) (2*fu)) (playM (madeM L) (inp.take 10) (2*fu)) ho ho;rw[sameRn_self]at hs;generalize playM (madeM L) (inp.take 10) (2*fu)=r at*;generalize madeM L=u at*;generalize inp.take 10=z at*;clear ho hz hw hf hi hL;simp[zl,ints,u8s,encRn]at hm hin hp hq hs;simp[*,F4,u8s,ints]
end PE.U

namespace PE
open Go Go.RowKit
def Kept(w w':World):Prop:=w.keptBut w' (fun _=>False)/\∀k,k<w.heap.size->w'.heap[k]? =w.heap[k]?
theorem Kept.frame{w w':World}(h:Kept w w')(X:MemPlace->Prop):w.keptBut w' X:=World.keptBut_mono (fun p hp=>hp.elim) h.1
theorem kept_of_ext{w w':World}{G':Gh}{st':zc}(h:Ext (gh0 w) [] w G' st' w'):Kept w w':=
 ⟨by
  refine⟨h.os,h.output,fun i hi=>?_⟩;have hb:=(h.prot i (by simp[gh0,hi])).2.2;rw[hb];cases w.heap[i]? with
  |none=>rfl
  |some o=>cases o<;>first|exact⟨rfl,rfl,rfl,fun _ _=>rfl⟩|exact .inr ⟨rfl,rfl⟩|rfl,fun k hk=>(h.prot k (by simp[gh0,hk])).2.2⟩
theorem Kept.same{W w':World}(h:Kept W w'){p:MemPlace}(hp:p.block<W.heap.size):W.sameAt w' p:=by
 cases p with
 |cell b o=>exact World.cell?_of_block (w:=W) (h.2 b hp)
 |map b=>exact h.2 b hp
theorem Kept.trod{H:Type}{enc:TypeId×Value->H}{P:Program}{t:TypeId}(hl:laidOutB P=true)(hr:P.readableRec t=true)(hrow:t<P.types.size){W W':World}{v:Value}{d:DataW H}{ps:List MemPlace}
  (h:DataW.Trod enc P W 0 (fun _=>true) true t v d ps) (hb:Kept W W') (hlt:∀x∈ps,x.block<W.heap.size):
  DataW.Trod enc P W' 0 (fun b=>decide (b<W.heap.size)) true t v d ps:=
 WideElems.Trod_stays hl hr hrow h (fun x hx=>hb.same (hlt x hx)) (fun x hx=>by simpa using hlt x hx)
theorem walk_kept{P:Program}{T:Tabs}{E:Env}(hE:EnvOk P T E){f:Nat}{args:List PV}{margs:Array Value}{w:World}{st':zc}(hT:T.In (gh0 w) w)
  (h:zi E f args []=some (.ret (.bool true),st')) (hsz:margs.size=args.length)
  (hv:∀(j:Nat) c x,args[j]? =some c->margs[j]? =some x->VR ((gh0 w).im w) (fun _=>none) c x):
  Calls P f margs w fun e w'=>e= .returned (.bool true)/\Kept w w':=by
 obtain⟨n,hn⟩:=znc.1 h;have hloc:zg (gh0 w).lc []=fun _=>none:=by funext l;simp[zg]
 refine((callF_good hE n _ _ _ _ _ hn (gh0 w) w margs rfl hT (gh0_sim w) hsz (by rw[hloc];exact hv)).2).mono ?_;intro e w' he;cases e with
 |returned mv=>
  obtain⟨G',q1,q2,q3⟩:=he;exact⟨by rw[VR.bool_inv q3],kept_of_ext q2⟩
 |panicked ch=>exact he.elim
 |outgrown=>exact he.elim
def IsRow(k:IntKind)(w:World)(a:Option Addr)(len cap:Nat)(zs:List Int):Prop:=
 (a=none/\len=0/\cap=0/\zs=[])∨
 ∃x,a=some x/\len<=cap/\cap<=maxLen/\zs.length=cap/\(∀i,i<zs.length->w.cell? (x.add i)=some (.int k (zs.getD i 0)))/\∀n∈zs,(Lit.int k n).wf=true
theorem row_vr{k:IntKind}{w:World}{a:Option Addr}{len cap:Nat}{zs:List Int}(h:IsRow k w a len cap zs):VR ((gh0 w).im w) (fun _=>none) (.slice .plain 1 ((zs.take len).map (PV.int k))) (.slice a len cap):=by
 rcases h with⟨rfl,rfl,rfl,rfl⟩|⟨x,rfl,hl,hm,hz,hcell,hwz⟩
 ·exact .slice0 _ _ _ _ (by simp) (by simp)
 ·by_cases h0:len=0
  ·subst h0;exact .slice0 _ _ _ _ (by simp) (by simp)
  ·obtain⟨b,off,spot⟩:=x;have hc:=hcell 0 (by omega);have hspot:spot=none:=by simpa[Addr.add]using World.cell?_spot hc
   subst hspot;have hlen:((zs.take len).map (PV.int k)).length=len:=by simp;omega
   have hget:∀(i:Nat) e,((zs.take len).map (PV.int k))[i]? =some e->i<len/\e= .int k (zs.getD i 0):=by
    intro i e he;rw[ym,yc]at he;obtain⟨n,hn,rfl⟩:=he;rw[yz]at hn;split at hn
    ·rename_i hi;refine⟨hi,?_⟩;rw[List.getD_eq_getElem?_getD,hn];rfl
    ·cases hn
   have:=VR.slice (I:=(gh0 w).im w) (L:=fun _=>none) (k:= .plain) (sz:=1) (l:=(zs.take len).map (PV.int k)) (b:=b) (o:=off) (cap:=cap)
    (by simp) (by simp) (by rw[hlen];exact hl) (fun i _=> .int k (zs.getD i 0)) ?_ ?_ ?_
   ·rw[hlen]at this;exact this
   ·intro i e he;obtain⟨_,rfl⟩:=hget i e he;exact⟨rfl,rfl⟩
   ·intro i e j c he hc;obtain⟨hi,rfl⟩:=hget i e he;cases j with
    |zero=>
     refine⟨gh0_im ?_,rfl⟩;have:=hcell i (by omega);have e:(⟨b,off,none⟩:Addr).add i=⟨b,off+i*1+0,none⟩:=by
      unfold Addr.add;by_cases hi0:i=0<;>simp[hi0]
     rw[<-e];exact this
    |succ j=>simp[cellsOf]at hc
   ·intro i e j c he hc;obtain⟨hi,rfl⟩:=hget i e he;cases j with
    |zero=>simp[cellsOf]at hc;subst hc;exact .int _ _
    |succ j=>simp[cellsOf]at hc
theorem row_len{k:IntKind}{w:World}{a:Option Addr}{len cap:Nat}{zs:List Int}(h:IsRow k w a len cap zs):(zs.take len).length<=maxLen:=by
 rcases h with⟨rfl,rfl,rfl,rfl⟩|⟨x,rfl,hl,hm,hz,hcell,hwz⟩
 ·simp
 ·rw[List.length_take];omega
def bytesOf(zs:List Int):List UInt8:=zs.map fun n=>yya n.toNat
theorem row_u8{w:World}{a:Option Addr}{len cap:Nat}{zs:List Int}(h:IsRow .u8 w a len cap zs):VR ((gh0 w).im w) (fun _=>none) (.slice .plain 1 ((bytesOf (zs.take len)).map fun b=> .int .u8 b.toNat)) (.slice a len cap):=by
 have hv:=row_vr h;have:(bytesOf (zs.take len)).map (fun b=>PV.int .u8 b.toNat)=(zs.take len).map (PV.int .u8):=by
  unfold bytesOf;rw[List.map_map];apply List.map_congr_left;intro n hn;have hwf:(Lit.int .u8 n).wf=true:=by
   rcases h with⟨rfl,rfl,rfl,rfl⟩|⟨x,rfl,hl,hm,hz,hcell,hwz⟩
   ·simp at hn
   ·exact hwz n (List.mem_of_mem_take hn)
  have hb:0<=n/\n<=255:=by
   simp only[Lit.wf,ya,decide_eq_true_eq]at hwf;exact hwf
  simp only[Function.comp_apply,PV.int.injEq,true_and];have:(yya n.toNat).toNat=n.toNat:=by
   rw[UInt8.toNat_ofNat'];omega
  omega
 rw[this];exact hv
theorem bytes_len{w:World}{a:Option Addr}{len cap:Nat}{zs:List Int}(h:IsRow .u8 w a len cap zs):(bytesOf (zs.take len)).length<=maxLen:=by
 unfold bytesOf;rw[yea];exact row_len h
theorem str_vr(I:Im)(L:Loc){b:ByteArray}:VR I L (.str b.data.toList) (.string b):=VR.str b.data.toList
theorem str_len{b:ByteArray}(h:b.size<=maxLen):b.data.toList.length<=maxLen:=by
 rw[Array.length_toList];exact h
theorem maxLen_eq:maxLen=9223372036854775807:=by decide
def packT(P:Program)(e:TypeId)(l:List PV):PV:=match P.underlying e with
 |some (.struct _)=> .agg l
 |_=>l.headD .undef
def CellsT(P:Program):Nat->TypeId->List PV->Prop
 |0,_,_=>False
 |n+1,t,l=>match P.underlying t with
  |some (.int k)=>∃z,l=[.int k z]/\(Lit.int k z).wf=true
  |some .bool=>∃b,l=[.bool b]
  |some .string=>∃s:List UInt8,l=[.str s]/\s.length<=maxLen
  |some (.struct fs)=>l.length=P.cellsOf t/\∀f∈fs.toList,CellsT P n f.type ((l.drop f.offset).take (P.cellsOf f.type))
  |some (.slice e)=>∃es:List (List PV),l=[.slice .plain (P.cellsOf e) (es.map (packT P e))]/\es.length<=maxLen/\∀c∈es,CellsT P n e c
  |_=>False
def layB(P:Program):List Field->Nat->Nat->Bool
 | [],o,total=>o==total
 |f::r,o,total=>f.offset==o&&layB P r (o+P.cellsOf f.type) total
def plainB(P:Program)(S:List TypeId):Bool:=S.all fun t=>match P.underlying t with
 |some (.int _)=>P.cellsOf t==1
 |some .bool=>P.cellsOf t==1
 |some .string=>P.cellsOf t==1
 |some (.struct fs)=>fs.toList.all (fun f=>S.contains f.type)&&layB P fs.toList 0 (P.cellsOf t)
 |some (.slice e)=>S.contains e&&decide (0<P.cellsOf e)&&(P.cellsOf t==1)
 |_=>false
def R1(w:World)(c:PV)(v:Value):Prop:=VR ((gh0 w).im w) (fun _=>none) c v/\ztc c=true/\v.oneCell'=true
def Rs(w:World)(l:List PV)(cs:List Value):Prop:=l.length=cs.length/\∀(j:Nat) c v,l[j]? =some c->cs[j]? =some v->R1 w c v
theorem Rs.one{w:World}{c:PV}{v:Value}(h:R1 w c v):Rs w [c] [v]:=by
 refine⟨rfl,fun j c' v' hc hv=>?_⟩;cases j with
 |zero=>cases hc;cases hv;exact h
 |succ j=>simp at hc
theorem Rs.append{w:World}{l l':List PV}{cs cs':List Value}(h:Rs w l cs)(h':Rs w l' cs'):Rs w (l++l') (cs++cs'):=by
 refine⟨by simp[h.1,h'.1],fun j c v hc hv=>?_⟩;by_cases hj:j<l.length
 ·rw[yj hj]at hc;rw[yj (by rw[<-h.1];exact hj)]at hv;exact h.2 j c v hc hv
 ·rw[yo (by omega)]at hc;rw[yo (by rw[<-h.1];omega)]at hv;rw[<-h.1]at hv;exact h'.2 _ c v hc hv
theorem lay_join{P:Program}{w:World}{n:Nat}{cs:List Value}:∀(fs:List Field) (o total:Nat),layB P fs o total=true->total=cs.length→
  (∀f∈fs,∃l,Rs w l ((cs.drop f.offset).take (P.cellsOf f.type))/\CellsT P n f.type l)→
  ∃l,Rs w l (cs.drop o)/\∀f∈fs,o<=f.offset/\CellsT P n f.type ((l.drop (f.offset-o)).take (P.cellsOf f.type)):=by
 intro fs
 induction fs with
 |nil=>
  intro o total hl ht _;simp only[layB,beq_iff_eq]at hl;refine⟨[],⟨?_,fun j c v hc=>by simp at hc⟩,fun f hf=>by simp at hf⟩;simp;omega
 |cons f r ih=>
  intro o total hl ht hf;simp only[layB,ya,beq_iff_eq]at hl;obtain⟨ho,hl⟩:=hl;obtain⟨l1,h1,c1⟩:=hf f (by simp);obtain⟨l2,h2,c2⟩:=ih _ _ hl ht (fun g hg=>hf g (by simp[hg]));have hle:∀(fs:List Field) (o total:Nat),layB P fs o total=true->o<=total:=by
   intro fs
   induction fs with
   |nil=>intro o total h;simp only[layB,beq_iff_eq]at h;omega
   |cons g s ihs=>
    intro o total h;simp only[layB,ya,beq_iff_eq]at h;have:=ihs _ _ h.2;omega
  have hn:=hle _ _ _ hl;have hlen1:l1.length=P.cellsOf f.type:=by
   rw[h1.1,List.length_take,List.length_drop,ho];omega
  refine⟨l1++l2,?_,?_⟩
  ·have:cs.drop o=(cs.drop f.offset).take (P.cellsOf f.type)++cs.drop (o+P.cellsOf f.type):=by
    rw[ho,<-List.drop_drop,List.take_append_drop]
   rw[this];exact h1.append h2
  ·intro g hg;rcases yP.1 hg with rfl|hg
   ·refine⟨by omega,?_⟩;rw[ho,Nat.sub_self,List.drop_zero,List.take_append_of_le_length (by omega),<-hlen1,List.take_length];exact c1
   ·obtain⟨h3,h4⟩:=c2 g hg;refine⟨by omega,?_⟩;have:(l1++l2).drop (g.offset-o)=l2.drop (g.offset-(o+P.cellsOf f.type)):=by
     rw[List.drop_append,List.drop_of_length_le (by omega),List.nil_append];congr 1;omega
    rw[this];exact h4
theorem cells_packed{P:Program}{n:Nat}{e:TypeId}{l:List PV}{w:World}{cs:List Value}(hr:Rs w l cs)(h:CellsT P n e l)(hsz:cs.length=P.cellsOf e):cellsOf (packT P e l)=l/\zr (packT P e l)=true:=by
 cases n with
 |zero=>exact h.elim
 |succ n=>
  unfold CellsT at h;unfold packT;split at h
  ·rename_i hu;rw[hu];obtain⟨z,rfl,_⟩:=h;exact⟨rfl,rfl⟩
  ·rename_i hu;rw[hu];obtain⟨z,rfl⟩:=h;exact⟨rfl,rfl⟩
  ·rename_i hu;rw[hu];obtain⟨z,rfl,_⟩:=h;exact⟨rfl,rfl⟩
  ·rename_i hu;rw[hu];exact⟨rfl,rfl⟩
  ·rename_i hu;rw[hu];obtain⟨z,rfl,_⟩:=h;exact⟨rfl,rfl⟩
  ·exact h.elim
theorem cells?_get{w:World}{a:Addr}{n:Nat}{cs:List Value}(h:w.cells? 0 a n=some cs):cs.length=n/\∀(j:Nat) v,cs[j]? =some v->w.cell? (a.add j)=some v:=by
 unfold World.cells? at h;rw[if_pos (Nat.zero_le _)]at h;have hl:=mapM_some_length h;rw[List.length_range]at hl;refine⟨hl,fun j v hv=>?_⟩;have hj:j<n:=by rw[<-hl];exact(yb.1 hv).1
 have:=mapM_some_get h j j (by rw[List.getElem?_range hj]);rw[this,hv]
theorem add_add(a:Addr)(ha:a.spot=none)(x:Nat):a.add x=⟨a.block,a.off+x,none⟩:=by
 obtain⟨b,o,s⟩:=a;simp only at ha;subst ha;unfold Addr.add;by_cases h:x=0<;>simp[h]
theorem read_cells{P:Program}{S:List TypeId}(hp:plainB P S=true){H:Type}{enc:TypeId×Value->H}{w:World}{sp:Nat->Bool}:∀(n:Nat) (t:TypeId) (cs:List Value) (x:DataW H×List MemPlace),t∈S→
  DataW.trod enc P w 0 sp true n t cs=some x->∃l,Rs w l cs/\CellsT P n t l/\cs.length=P.cellsOf t:=by
 intro n
 induction n with
 |zero=>intro t cs x _ h;simp[DataW.trod]at h
 |succ n ih=>
  intro t cs x ht h;have hp':=yp.1 hp t ht;split at hp'
  ·rename_i k hu;obtain⟨z,rfl,_,hw⟩:=DataW.trod_int hu h;simp only[beq_iff_eq]at hp';exact⟨[.int k z],Rs.one ⟨.int _ _,rfl,rfl⟩,by unfold CellsT;rw[hu];exact⟨z,rfl,hw⟩,by simp[hp']⟩
  ·rename_i hu;obtain⟨z,rfl,_⟩:=DataW.trod_bool hu h;simp only[beq_iff_eq]at hp';exact⟨[.bool z],Rs.one ⟨.bool _,rfl,rfl⟩,by unfold CellsT;rw[hu];exact⟨z,rfl⟩,by simp[hp']⟩
  ·rename_i hu;obtain⟨s,rfl,_,hm⟩:=DataW.trod_string hu h;simp only[beq_iff_eq]at hp';exact⟨[.str s.data.toList],Rs.one ⟨str_vr _ _,rfl,rfl⟩,by unfold CellsT;rw[hu];exact⟨_,rfl,str_len hm⟩,by simp[hp']⟩
  ·rename_i fs hu;simp only[ya,yp,List.contains_iff_mem]at hp';obtain⟨hS,hlay⟩:=hp';obtain⟨xs,m,hm,_,hlen,hxs,hget⟩:=DataW.trod_struct hu h;cases hm;obtain⟨l,hl,hc⟩:=lay_join (w:=w) (n:=n) (cs:=cs) fs.toList 0 _ hlay hlen.symm (by
    intro f hf;obtain⟨i,hi⟩:=List.getElem?_of_mem hf;have hi':fs[i]? =some f:=by simpa using hi
    have hg:=hget i f hi';have hlt:i<xs.length:=by rw[hxs];simpa using(yb.1 hi).1
    rw[ye hlt]at hg;obtain⟨l,h1,h2,_⟩:=ih _ _ _ (hS f hf) hg;exact⟨l,h1,h2⟩)
   rw[List.drop_zero]at hl;refine⟨l,hl,?_,hlen⟩;unfold CellsT;rw[hu];exact⟨by rw[hl.1,hlen],fun f hf=>by have:=(hc f hf).2;rwa[Nat.sub_zero]at this⟩
  ·rename_i e hu;simp only[ya,List.contains_iff_mem,decide_eq_true_eq,beq_iff_eq]at hp';obtain⟨⟨hS,hpos⟩,h1⟩:=hp';rcases DataW.trod_slice hu h with⟨rfl,_⟩|⟨a,len,cap,elems,rest,m,hm,rfl,_,_,hle,hcap,hel,hget,_,_⟩
   ·exact⟨[.slice .plain (P.cellsOf e) []],Rs.one ⟨.slice0 _ _ _ _ (by simp) (by simp),rfl,rfl⟩,by unfold CellsT;rw[hu];exact⟨[],rfl,by simp,by simp⟩,by simp[h1]⟩
   ·cases hm;have key:∀i,i<len->∃l:List PV,l.length=P.cellsOf e/\CellsT P n e l/\cellsOf (packT P e l)=l/\zr (packT P e l)=true/\∀(j:Nat) c,l[j]? =some c->∃v,w.cell? ((a.add (i*P.cellsOf e)).add j)=some v/\R1 w c v:=by
     intro i hi;have hg:=hget i hi;have hlt:i<elems.length:=by omega
     rw[ye hlt,yL]at hg;obtain⟨cs',h2,h3⟩:=hg;obtain⟨l,h4,h5,h6⟩:=ih _ _ _ hS h3;obtain⟨h7,h8⟩:=cells?_get h2;obtain⟨h9,h10⟩:=cells_packed h4 h5 h6;refine⟨l,by rw[h4.1,h6],h5,h9,h10,fun j c hc=>?_⟩;have hj:j<cs'.length:=by rw[<-h4.1];exact(yb.1 hc).1
     exact⟨cs'[j],h8 j _ (ye hj),h4.2 j c _ hc (ye hj)⟩
    let g:Nat->List PV:=fun i=>if hi:i<len then(key i hi).choose else[]
    have hg:∀i,i<len->(g i).length=P.cellsOf e/\CellsT P n e (g i)/\cellsOf (packT P e (g i))=g i/\zr (packT P e (g i))=true/\∀(j:Nat) c,(g i)[j]? =some c->∃v,w.cell? ((a.add (i*P.cellsOf e)).add j)=some v/\R1 w c v:=by
     intro i hi;have:=(key i hi).choose_spec;simp only[g,dif_pos hi];exact this
    have hel':∀(i:Nat) x,(((yX len).map g).map (packT P e))[i]? =some x->i<len/\x=packT P e (g i):=by
     intro i x hx;rw[List.map_map,ym,yc]at hx;obtain⟨k,hk,rfl⟩:=hx;obtain⟨hk1,hk2⟩:=yb.1 hk;rw[List.length_range]at hk1;rw[List.getElem_range]at hk2;subst hk2;exact⟨hk1,rfl⟩
    refine⟨[.slice .plain (P.cellsOf e) (((yX len).map g).map (packT P e))],Rs.one ⟨?_,rfl,rfl⟩,?_,by simp[h1]⟩
    ·by_cases h0:len=0
     ·subst h0;exact .slice0 _ _ _ _ (by simp) (by simp)
     ·obtain⟨q1,q2,q3,q4,q5⟩:=hg 0 (by omega);have hspot:a.spot=none:=by
       have hlt:0<(g 0).length:=by omega
       obtain⟨v,hv,_⟩:=q5 0 _ (ye hlt);have hsp:=World.cell?_spot hv;obtain⟨b,o,s⟩:=a;simpa[Addr.add]using hsp
      obtain⟨b,o,s⟩:=a;simp only at hspot;subst hspot;have hcell:∀(i:Nat) x (j:Nat) c,(((yX len).map g).map (packT P e))[i]? =some x->(cellsOf x)[j]? =some c->∃v,(gh0 w).im w b (o+i*P.cellsOf e+j)=some v/\R1 w c v:=by
       intro i x j c hx hc;obtain⟨hi,rfl⟩:=hel' i x hx;obtain⟨r1,r2,r3,r4,r5⟩:=hg i hi;rw[r3]at hc;obtain⟨v,hv,hr⟩:=r5 j c hc;refine⟨v,gh0_im ?_,hr⟩;rw[add_add ⟨b,o,none⟩ rfl,add_add ⟨b,o+i*P.cellsOf e,none⟩ rfl]at hv;exact hv
      have hlen:(((yX len).map g).map (packT P e)).length=len:=by simp
      have:=VR.slice (I:=(gh0 w).im w) (L:=fun _=>none) (k:= .plain) (sz:=P.cellsOf e) (l:=((yX len).map g).map (packT P e)) (b:=b) (o:=o) (cap:=cap)
       (by simp) (by simp) (by rw[hlen];exact hle) (fun i j=>((gh0 w).im w b (o+i*P.cellsOf e+j)).getD (.bool false)) ?_ ?_ ?_
      ·rw[hlen]at this;exact this
      ·intro i x hx;obtain⟨hi,rfl⟩:=hel' i x hx;obtain⟨r1,r2,r3,r4,r5⟩:=hg i hi;exact⟨by rw[r3,r1],r4⟩
      ·intro i x j c hx hc;obtain⟨v,hv,hr⟩:=hcell i x j c hx hc;simp only[hv,yW];exact⟨trivial,hr.2.2⟩
      ·intro i x j c hx hc;obtain⟨v,hv,hr⟩:=hcell i x j c hx hc;simp only[hv,yW];exact hr.1
    ·unfold CellsT;rw[hu];refine⟨(yX len).map g,rfl,by simp;omega,?_⟩;intro c hc;rw[yza]at hc;obtain⟨i,hi,rfl⟩:=hc;exact(hg i (ypa.1 hi)).2.1
  ·cases hp'
theorem packT_struct{P:Program}{e:TypeId}{fs:Array Field}(hu:P.underlying e=some (.struct fs))(l:List PV):packT P e l= .agg l:=by
 unfold packT;rw[hu]
theorem le_max{n:Nat}(h:n<=maxLen):n<=9223372036854775807:=by rw[maxLen_eq]at h;exact h
theorem read_row{P:Program}{S:List TypeId}(hp:plainB P S=true){H:Type}{enc:TypeId×Value->H}{w:World}{sp:Nat->Bool}{t e:TypeId}(hu:P.underlying t=some (.slice e))(ht:t∈S){v:Value}{d:DataW H}{ps:List MemPlace}(h:DataW.Trod enc P w 0 sp true t v d ps){a:Option Addr}{len cap:Nat}(hv:v= .slice a len cap):
  ∃(n:Nat) (es:List (List PV)),VR ((gh0 w).im w) (fun _=>none) (.slice .plain (P.cellsOf e) (es.map (packT P e))) v/\es.length<=maxLen/\∀c∈es,CellsT P n e c:=by
 subst hv;obtain⟨n,hf⟩:=h;obtain⟨l,h1,h2,h3⟩:=read_cells hp n t _ _ ht hf;cases n with
 |zero=>exact h2.elim
 |succ n=>
  unfold CellsT at h2;rw[hu]at h2;obtain⟨es,rfl,hm,hc⟩:=h2;exact⟨n,es,(h1.2 0 _ _ rfl (by simp[Value.cells])).1,hm,hc⟩
end PE
