/-
  Texts joined by program: AKJ5, AKJ6, AKJ7, AKJ8, AKJ9, AKV4, AKV5, AKV6, AKV7, AKV8, AKV9, AKV10, AKQ1, AKQ2, AKQ3, AKQ4, AKQ5, PfHand, AKV11, AKQ6, AKJ1, AKJ2, AKY9, AKV12, AKM5, AKK5, AKM6, AKK6, AKM7, AKK7, AKM8, AKK8, AKY10, AKZ20, PfEnd, PfRead.
-/
import Derived.Test.YthfognkjnkadeaaGreatDoorB05
import Derived.WalkKit
import Derived.ProofKit
import Derived.OpenShut
import Derived.ShutString
import Derived.ChangeOld
import Derived.Below
set_option linter.unusedVariables false
set_option linter.unusedSectionVars false
set_option linter.unusedSimpArgs false
open Bool renaming and_eq_true→yb
open List renaming all_eq_true→yu,getElem?_append_left→yh,getElem?_append_right→yg,getElem?_eq_getElem→yf,getElem?_eq_some_iff→ya,getElem?_map→yo,getElem?_take→yF,length_append→yi,length_cons→yj,length_drop→yva,length_map→yr,length_nil→yn,map_cons→yv,mem_cons→yB,mem_of_getElem?→yR,nil_append→ysa,range→yD
open Nat renaming le_refl→ye,lt_or_ge→yA,mod_lt→yna,mul_le_mul_right→yq
open Option renaming bind_eq_some_iff→yga,getD_some→yea,map_eq_some_iff→yc
open UInt8 renaming ofNat→yw
namespace PE.U
open Go PE
theorem aI{cf:zI}{s0 s:St}{r:List GOp}{Q:Ex->St->Prop}{a:_}{b:_}{o:_}{x:_}{c:Prop}[Decidable c](hc:c)(h:after cf s0 r Q (doOp a b o s (some x))):after cf s0 r Q (doOp a b o s (if c then some x else none)):=by rw[if_pos hc];exact h
def BN:Nat->Nat
 |0=>100
 |d+1=>2*BN d+100
def isStr(l:List UInt8)(i b:Nat)(r:CRes)(st:zd):Prop:=∃s i',r= .ret (.str s)/\st=mob l i'/\s.length<=b/\i'<=i+b
@[simp] theorem isStr_str(l:List UInt8)(i b:Nat)(s:List UInt8)(st:zd):isStr l i b (.ret (.str s)) st=∃i',st=mob l i'/\s.length<=b/\i'<=i+b:=by
 unfold isStr;apply propext;constructor
 ·rintro⟨s',i',h,h2⟩
  cases h;exact⟨i',h2⟩
 ·rintro⟨i',h2⟩
  exact⟨s,i',rfl,h2⟩
@[simp] theorem mob_inj(l:List UInt8)(i j:Nat):(mob l i=mob l j)=(i=j):=by
 apply propext;constructor
 ·intro h;simp[mob]at h;omega
 ·rintro rfl;rfl
structure NT(l:List UInt8)(d:Nat):Prop where
 num:∀i v b,i+BN d<=900000000000->v.length<=4->b.length<=4->PC (zj E 25 [.ptr 0 0 0,.str v,.str b,.int .i64 d] (mob l i)) (isStr l i (BN d))
 truth:∀i v b,i+BN d<=900000000000->v.length<=4->b.length<=4->PC (zj E 26 [.ptr 0 0 0,.str v,.str b,.int .i64 d] (mob l i)) (isStr l i (BN d))
theorem NT.num'{l:List UInt8}{d:Nat}(S:NT l d)(i:Nat)(v b:List UInt8)(hi:i+BN d<=900000000000)(hv:v.length<=4)(hb:b.length<=4):
  ∃s i',zj E 25 [.ptr 0 0 0,.str v,.str b,.int .i64 d] (mob l i)=some (.ret (.str s),mob l i')/\s.length<=BN d/\i'<=i+BN d:=by
 obtain⟨r,st,h,s,i',rfl,rfl,h1,h2⟩:=zfd.1 (S.num i v b hi hv hb);exact⟨s,i',h,h1,h2⟩
theorem NT.truth'{l:List UInt8}{d:Nat}(S:NT l d)(i:Nat)(v b:List UInt8)(hi:i+BN d<=900000000000)(hv:v.length<=4)(hb:b.length<=4):
  ∃s i',zj E 26 [.ptr 0 0 0,.str v,.str b,.int .i64 d] (mob l i)=some (.ret (.str s),mob l i')/\s.length<=BN d/\i'<=i+BN d:=by
 obtain⟨r,st,h,s,i',rfl,rfl,h1,h2⟩:=zfd.1 (S.truth i v b hi hv hb);exact⟨s,i',h,h1,h2⟩
theorem one_of(ls:List (List UInt8))(m:Nat)(h:ls.all (fun t=>t.length<=m)=true)(j:Nat)(hj:j<ls.length):∃t,t.length<=m/\(ls.map PV.str)[j]'(by simpa using hj)=PV.str t:=by
 refine⟨ls[j],?_,by simp⟩;have:=yu.1 h ls[j] (List.getElem_mem hj);simpa using this
def numsL:List (List UInt8):=[[48],[49],[50],[55],[50,53,53],[54,52]]
def onesL:List (List UInt8):=[[45],[126],[105,56],[117,49,54],[105,51,50]]
def twosL:List (List UInt8):=[[43],[45],[42],[47],[37],[38],[124],[94],[60,60],[62,62],[62,62,62]]
def trusL:List (List UInt8):=[[116,114,117,101],[102,97,108,115,101]]
def cmpsL:List (List UInt8):=[[60],[60,61],[62],[62,61],[61,61],[33,61]]
set_option maxHeartbeats 4000000 in
theorem num0(l:List UInt8)(hl:l.length<=9223372036854775807):∀i v b,i+BN 0<=900000000000->v.length<=4->b.length<=4->PC (zj E 25 [.ptr 0 0 0,.str v,.str b,.int .i64 0] (mob l i)) (isStr l i (BN 0)):=by
 intro i v b hi hv hb;refine zXa rfl rfl rfl (by simp) ?_;have hB:BN 0=100:=rfl;rw[hB]at hi;obtain⟨k,k1,hk⟩:=zBb l i 14 (by omega) (by omega) hl;have hr:remK (k:Int) 6=((k%6:Nat):Int):=remNat k 6;simp at hk;have hm:k%6<6:=yna _ (by omega);generalize k%6=z at*;clear k1;obtain⟨j,j1,hj⟩:=zBb l (i+1) 6 (by omega) (by omega) hl;obtain⟨t,t1,ht⟩:=one_of numsL 3 (by decide) j j1;simp[numsL]at hj ht;have m1:v.length+7<=9223372036854775807:=by omega
 have m2:2+v.length<=9223372036854775807:=by omega
 have:z=0\/z=1\/z=2\/z=3\/z=4\/z=5:=by omega
 clear hl hm;rcases this with rfl|rfl|rfl|rfl|rfl|rfl<;>(simp[*,F25])<;>(repeat' (refine aI (by omega) ?_<;>simp[*,F25]))<;>(try omega)
set_option maxHeartbeats 4000000 in
theorem numS(l:List UInt8)(hl:l.length<=9223372036854775807)(d:Nat)(hd:BN d<=1000000)(hd2:d<=100)(S:NT l d):∀i v b,i+BN (d+1)<=900000000000->v.length<=4->b.length<=4->PC (zj E 25 [.ptr 0 0 0,.str v,.str b,.int .i64 (d+1:Nat)] (mob l i)) (isStr l i (BN (d+1))):=by
 intro i v b hi hv hb;refine zXa rfl rfl rfl (by simp) ?_;have hB:BN (d+1)=2*BN d+100:=rfl;rw[hB]at hi;obtain⟨k,k1,hk⟩:=zBb l i 14 (by omega) (by omega) hl;simp at hk;have q1:((d:Int)+1<1)=False:=eqn (by omega);have q2:((d:Int)<0)=False:=eqn (by omega);have q3:zA .i64 (d:Int)=d:=zi (by omega) (by omega);have hkk:k<2\/k=2\/k=3\/k=4\/k=5\/k=6\/k=7\/(8<=k/\k<11)\/k=11\/k=12\/k=13:=by omega
 have m1:v.length+7<=9223372036854775807:=by omega
 have m2:2+v.length<=9223372036854775807:=by omega
 clear k1;rcases hkk with hkk|hkk
 ·obtain⟨j,j1,hj⟩:=zBb l (i+1) 6 (by omega) (by omega) hl;obtain⟨t,t1,ht⟩:=one_of numsL 3 (by decide) j j1;simp[numsL]at hj ht;have n1:((k:Int)<2)=True:=eqp (by omega);clear hl hkk
  (simp[*,F25])<;>(repeat' (refine aI (by omega) ?_<;>simp[*,F25]))<;>(try omega)
 have n1:((k:Int)<2)=False:=eqn (by omega);by_cases hk5:k<5
 ·have n2:((k:Int)<5)=True:=eqp (by omega);clear hl hkk hk5
  (simp[*,F25])<;>(repeat' (refine aI (by omega) ?_<;>simp[*,F25]))<;>(try omega)
 have n2:((k:Int)<5)=False:=eqn (by omega);by_cases hk8:8<=k/\k<11
 ·obtain⟨s1,i1,h1,b1,c1⟩:=S.num' (i+1) v b (by omega) hv hb;obtain⟨j,j1,hj⟩:=zBb l i1 11 (by omega) (by omega) hl;obtain⟨t,t1,ht⟩:=one_of twosL 3 (by decide) j j1;obtain⟨s2,i2,h2,b2,c2⟩:=S.num' (i1+1) v b (by omega) hv hb;simp[twosL]at hj ht;have n3:((k:Int)<11)=True:=eqp (by omega);have n4:((k:Int)=5)=False:=eqn (by omega);have n5:((k:Int)=6)=False:=eqn (by omega);have n6:((k:Int)=7)=False:=eqn (by omega);clear hl hkk hk5 hk8
  (simp[*,F25])<;>(repeat' (refine aI (by omega) ?_<;>simp[*,F25]))<;>(try omega)
 have hkk:k=5\/k=6\/k=7\/k=11\/k=12\/k=13:=by omega
 rcases hkk with rfl|rfl|rfl|rfl|rfl|rfl
 ·clear hl hk5 hk8 n1 n2;simp at hk
  (simp[*,F25])<;>(repeat' (refine aI (by omega) ?_<;>simp[*,F25]))<;>(try omega)
 ·obtain⟨s1,i1,h1,b1,c1⟩:=S.num' (i+1) v b (by omega) hv hb;clear hl hk5 hk8 n1 n2;simp at hk
  (simp[*,F25])<;>(repeat' (refine aI (by omega) ?_<;>simp[*,F25]))<;>(try omega)
 ·obtain⟨j,j1,hj⟩:=zBb l (i+1) 5 (by omega) (by omega) hl;obtain⟨t,t1,ht⟩:=one_of onesL 3 (by decide) j j1;obtain⟨s1,i1,h1,b1,c1⟩:=S.num' (i+1+1) v b (by omega) hv hb;simp[onesL]at hj ht;clear hl hk5 hk8 n1 n2;simp at hk
  (simp[*,F25])<;>(repeat' (refine aI (by omega) ?_<;>simp[*,F25]))<;>(try omega)
 ·clear hl hk5 hk8 n1 n2;simp at hk;simp[*,F25]
 ·clear hl hk5 hk8 n1 n2;simp at hk
  (simp[*,F25])<;>(repeat' (refine aI (by omega) ?_<;>simp[*,F25]))<;>(try omega)
 ·obtain⟨s1,i1,h1,b1,c1⟩:=S.num' (i+1) v b (by omega) hv hb;obtain⟨s2,i2,h2,b2,c2⟩:=S.truth' i1 v b (by omega) hv hb;clear hl hk5 hk8 n1 n2;simp at hk
  (simp[*,F25])<;>(repeat' (refine aI (by omega) ?_<;>simp[*,F25]))<;>(try omega)
set_option maxHeartbeats 4000000 in
theorem truth0(l:List UInt8)(hl:l.length<=9223372036854775807):∀i v b,i+BN 0<=900000000000->v.length<=4->b.length<=4->PC (zj E 26 [.ptr 0 0 0,.str v,.str b,.int .i64 0] (mob l i)) (isStr l i (BN 0)):=by
 intro i v b hi hv hb;refine zXa rfl rfl rfl (by simp) ?_;have hB:BN 0=100:=rfl;rw[hB]at hi;obtain⟨k,k1,hk⟩:=zBb l i 10 (by omega) (by omega) hl;have hr:remK (k:Int) 3=((k%3:Nat):Int):=remNat k 3;simp at hk;have hm:k%3<3:=yna _ (by omega);generalize k%3=z at*;clear k1;obtain⟨j,j1,hj⟩:=zBb l (i+1) 2 (by omega) (by omega) hl;obtain⟨t,t1,ht⟩:=one_of trusL 5 (by decide) j j1;simp[trusL]at hj ht;have:z=0\/z=1\/z=2:=by omega
 clear hl hm;rcases this with rfl|rfl|rfl<;>(simp[*,F26])<;>(repeat' (refine aI (by omega) ?_<;>simp[*,F26]))<;>(try omega)
set_option maxHeartbeats 4000000 in
theorem truthS(l:List UInt8)(hl:l.length<=9223372036854775807)(d:Nat)(hd:BN d<=1000000)(hd2:d<=100)(S:NT l d):∀i v b,i+BN (d+1)<=900000000000->v.length<=4->b.length<=4->PC (zj E 26 [.ptr 0 0 0,.str v,.str b,.int .i64 (d+1:Nat)] (mob l i)) (isStr l i (BN (d+1))):=by
 intro i v b hi hv hb;refine zXa rfl rfl rfl (by simp) ?_;have hB:BN (d+1)=2*BN d+100:=rfl;rw[hB]at hi;obtain⟨k,k1,hk⟩:=zBb l i 10 (by omega) (by omega) hl;simp at hk;have q1:((d:Int)+1<1)=False:=eqn (by omega);have q2:((d:Int)<0)=False:=eqn (by omega);have q3:zA .i64 (d:Int)=d:=zi (by omega) (by omega);by_cases hk3:k<3
 ·have:k=0\/k=1\/k=2:=by omega
  obtain⟨j,j1,hj⟩:=zBb l (i+1) 2 (by omega) (by omega) hl;obtain⟨t,t1,ht⟩:=one_of trusL 5 (by decide) j j1;simp[trusL]at hj ht;clear hl k1 hk3;rcases this with rfl|rfl|rfl<;>simp at hk<;>(simp[*,F26])<;>(repeat' (refine aI (by omega) ?_<;>simp[*,F26]))<;>(try omega)
 have n0:((k:Int)<3)=False:=eqn (by omega);by_cases hk7:4<=k/\k<7
 ·obtain⟨s1,i1,h1,b1,c1⟩:=S.num' (i+1) v b (by omega) hv hb;obtain⟨j,j1,hj⟩:=zBb l i1 6 (by omega) (by omega) hl;obtain⟨t,t1,ht⟩:=one_of cmpsL 3 (by decide) j j1;obtain⟨s2,i2,h2,b2,c2⟩:=S.num' (i1+1) v b (by omega) hv hb;simp[cmpsL]at hj ht;have n3:((k:Int)<7)=True:=eqp (by omega);have n4:((k:Int)=0)=False:=eqn (by omega);have n5:((k:Int)=3)=False:=eqn (by omega);have n6:(k=0)=False:=eqn (by omega);clear hl k1 hk3 hk7
  (simp[*,F26])<;>(repeat' (refine aI (by omega) ?_<;>simp[*,F26]))<;>(try omega)
 have hkk:k=3\/k=7\/k=8\/k=9:=by omega
 rcases hkk with rfl|rfl|rfl|rfl
 ·clear hl k1 hk3 hk7 n0;simp at hk
  (simp[*,F26])<;>(repeat' (refine aI (by omega) ?_<;>simp[*,F26]))<;>(try omega)
 ·obtain⟨s1,i1,h1,b1,c1⟩:=S.truth' (i+1) v b (by omega) hv hb;obtain⟨s2,i2,h2,b2,c2⟩:=S.truth' i1 v b (by omega) hv hb;clear hl k1 hk3 hk7 n0;simp at hk
  (simp[*,F26])<;>(repeat' (refine aI (by omega) ?_<;>simp[*,F26]))<;>(try omega)
 ·obtain⟨s1,i1,h1,b1,c1⟩:=S.truth' (i+1) v b (by omega) hv hb;obtain⟨s2,i2,h2,b2,c2⟩:=S.truth' i1 v b (by omega) hv hb;clear hl k1 hk3 hk7 n0;simp at hk
  (simp[*,F26])<;>(repeat' (refine aI (by omega) ?_<;>simp[*,F26]))<;>(try omega)
 ·obtain⟨s1,i1,h1,b1,c1⟩:=S.num' (i+1) v b (by omega) hv hb;clear hl k1 hk3 hk7 n0;simp at hk
  (simp[*,F26])<;>(repeat' (refine aI (by omega) ?_<;>simp[*,F26]))<;>(try omega)
theorem nt(l:List UInt8)(hl:l.length<=9223372036854775807):∀d,d<=3->NT l d:=by
 intro d
 induction d with
 |zero=>intro _;exact⟨num0 l hl,truth0 l hl⟩
 |succ d ih=>
  intro h;have hb:BN d<=1000000:=by
   have:d=0\/d=1\/d=2:=by omega
   rcases this with rfl|rfl|rfl<;>decide
  exact⟨numS l hl d hb (by omega) (ih (by omega)),truthS l hl d hb (by omega) (ih (by omega))⟩
def SB:Nat->Nat
 |0=>2000
 |d+1=>8*SB d+3000
structure ST(l:List UInt8)(d:Nat):Prop where
 stmt:∀i v b loop,i+SB d<=800000000000->v.length<=4->b.length<=4->PC (zj E 50 [.ptr 0 0 0,.str v,.str b,.int .i64 d,.bool loop] (mob l i)) (isStr l i (SB d))
theorem ST.to{l:List UInt8}{d:Nat}(S:ST l d)(i:Nat)(v b:List UInt8)(loop:Bool)(hi:i+SB d<=800000000000)(hv:v.length<=4)(hb:b.length<=4):
  ∃s i',zj E 50 [.ptr 0 0 0,.str v,.str b,.int .i64 d,.bool loop] (mob l i)=some (.ret (.str s),mob l i')/\s.length<=SB d/\i'<=i+SB d:=by
 obtain⟨r,st,h,s,i',rfl,rfl,h1,h2⟩:=zfd.1 (S.stmt i v b loop hi hv hb);exact⟨s,i',h,h1,h2⟩
structure BkS where
 m:Nat
 s:List UInt8
 j:Nat
set_option maxHeartbeats 4000000 in
theorem mblock_of(l:List UInt8)(hl:l.length<=9223372036854775807)(d:Nat)(hd:SB d<=10000000)(hd2:d<=100)(S:ST l d)(i:Nat)(v b:List UInt8)(loop:Bool)(hi:i+(4*SB d+10)<=800000000000)(hv:v.length<=4)(hb:b.length<=4):
  PC (zj E 24 [.ptr 0 0 0,.str v,.str b,.int .i64 d,.bool loop] (mob l i)) (isStr l i (4*SB d+10)):=by
 refine zXa rfl rfl rfl (by simp) ?_;obtain⟨k,k1,hk⟩:=zBb l i 5 (by omega) (by omega) hl;simp at hk;simp[hk,F24];have hkm:k*SB d<=4*SB d:=yq _ (by omega);refine zU K24_0 B24_0 (fun c:BkS=>c.m) (fun c=>[(11,.str c.s),(12,.int .i64 c.m)]) (fun _=>[]) (fun c=>mob l c.j) (fun c=>c.m<=4/\c.s.length+c.m*SB d<=4*SB d/\c.j+c.m*SB d<=i+1+4*SB d) ⟨k,[],i+1⟩ ⟨by simp,by simp,by simp,by simp only[yn];omega⟩ ?_
 rintro⟨m,s,j⟩ s1 ⟨hm,hs,hj⟩ h1 h2 h3 h4 h5
 simp only at hm hs hj;simp at h1 h3 h5;clear hk h2 h4 hkm;cases m with
 |zero=>
  simp at h3 hs hj;simp[*];omega
 |succ m=>
  rw[Nat.succ_mul]at hs hj;generalize hX:m*SB d=X at*;obtain⟨t,j',ht,t1,t2⟩:=S.to j v b loop (by omega) hv hb;have q1:((m:Int)+1>0)=True:=eqp (by omega);have q2:((0:Int)<(m:Int)+1)=True:=eqp (by omega);have q3:zA .i64 (m:Int)=m:=zi (by omega) (by omega);have q4:s.length+t.length<=9223372036854775807:=by omega
  simp at h3;clear hl S;simp[*];refine⟨⟨m,s++t,j'⟩,by simp,?_⟩;simp only[yi];simp[*];omega
def BkOk(l:List UInt8)(d:Nat):Prop:=∀i v b loop,i+(4*SB d+10)<=800000000000->v.length<=4->b.length<=4→
  ∃s i',zj E 24 [.ptr 0 0 0,.str v,.str b,.int .i64 d,.bool loop] (mob l i)=some (.ret (.str s),mob l i')/\s.length<=4*SB d+10/\i'<=i+(4*SB d+10)
theorem SB_le:∀d,2000<=SB d
 |0=>by decide
 |d+1=>by have:=SB_le d;simp only[SB];omega
set_option maxHeartbeats 8000000 in
theorem stmt_plain(l:List UInt8)(hl:l.length<=9223372036854775807)(d:Nat)(hd2:d<=100)(i:Nat)(v b:List UInt8)(loop:Bool)(hi:i+SB d<=800000000000)(hv:v.length<=4)(hb:b.length<=4)(k:Nat)(k1:k<13)
  (hk:zj E 49 [.ptr 0 0 0,.int .i64 13] (mob l i)=some (.ret (.int .i64 k),mob l (i+1))) (hc:d=0\/k<6\/(k=6/\loop=true)\/k=12):
  PC (zj E 50 [.ptr 0 0 0,.str v,.str b,.int .i64 d,.bool loop] (mob l i)) (isStr l i (SB d)):=by
 refine zXa rfl rfl rfl (by simp) ?_;have hB:=SB_le d;have hB1:BN 1=300:=rfl;have hB2:BN 2=700:=rfl;have S1:=nt l hl 1 (by omega);have S2:=nt l hl 2 (by omega);have hkk:k=0\/k=1\/k=2\/k=3\/k=4\/k=5\/k=6\/k=7\/k=8\/k=9\/k=10\/k=11\/k=12:=by omega
 obtain⟨s1,i1,h1,b1,c1⟩:=S2.num' (i+1) v b (by omega) hv hb;obtain⟨s2,i2,h2,b2,c2⟩:=S2.truth' (i+1) v b (by omega) hv hb;obtain⟨s3,i3,h3,b3,c3⟩:=S1.num' (i+1) v b (by omega) hv hb;obtain⟨s4,i4,h4,b4,c4⟩:=S2.num' i3 v b (by omega) hv hb;obtain⟨j,j1,hj⟩:=zBb l (i+1) 4 (by omega) (by omega) hl;rw[hB1]at b3 c3;rw[hB2]at b1 c1 b2 c2 b4 c4;simp at h1 h2 h3 h4 hj;clear S1 S2 hl hB1 hB2;have hz:d=0\/0<d:=by omega
 rcases hkk with rfl|rfl|rfl|rfl|rfl|rfl|rfl|rfl|rfl|rfl|rfl|rfl|rfl
 case inr.inr.inr.inr.inr.inr.inl=>
  simp at hk;cases loop
  ·have:d=0:=by simpa using hc
   subst this;clear hc hz k1
   (simp[*,F50])<;>(repeat' (refine aI (by omega) ?_<;>simp[*,F50]))<;>(try omega)
  ·have:j=0\/j=1\/j=2\/j=3:=by omega
   clear j1 hc hz k1;rcases this with rfl|rfl|rfl|rfl<;>simp at hj<;>(simp[*,F50])<;>(repeat' (refine aI (by omega) ?_<;>simp[*,F50]))<;>(try omega)
 case inr.inr.inr.inr.inr.inr.inr.inr.inr.inr.inr.inr=>
  have:j=0\/j=1\/j=2\/j=3:=by omega
  clear hc hz k1 j1;simp at hk;by_cases hvz:v=[122]
  ·subst hvz
   (simp[*,F50])<;>(repeat' (refine aI (by omega) ?_<;>simp[*,F50]))<;>(try omega)
  ·rcases this with rfl|rfl|rfl|rfl<;>simp at hj<;>(simp[*,F50])<;>(repeat' (refine aI (by omega) ?_<;>simp[*,F50]))<;>(try omega)
 case inl|inr.inl|inr.inr.inl|inr.inr.inr.inl|inr.inr.inr.inr.inl|inr.inr.inr.inr.inr.inl=>
  clear hc hz k1 j1 hj;simp at hk
  (simp[*,F50])<;>(repeat' (refine aI (by omega) ?_<;>simp[*,F50]))<;>(try omega)
 all_goals
  have:d=0:=by omega
  subst this;clear hc hz k1 j1 hj;simp at hk
  (simp[*,F50])<;>(repeat' (refine aI (by omega) ?_<;>simp[*,F50]))<;>(try omega)
set_option maxHeartbeats 8000000 in
theorem stmt_deep(l:List UInt8)(hl:l.length<=9223372036854775807)(d:Nat)(hd:SB d<=10000000)(hd2:d<=100)(hbk:BkOk l d)(i:Nat)(v b:List UInt8)(loop:Bool)(hi:i+SB (d+1)<=800000000000)(hv:v.length<=4)(hb:b.length<=4)(k:Nat)(k1:k<13)
  (hk:zj E 49 [.ptr 0 0 0,.int .i64 13] (mob l i)=some (.ret (.int .i64 k),mob l (i+1))) (hc:(k=6/\loop=false)\/k=7\/k=8\/k=9\/k=10\/k=11):
  PC (zj E 50 [.ptr 0 0 0,.str v,.str b,.int .i64 (d+1:Nat),.bool loop] (mob l i)) (isStr l i (SB (d+1))):=by
 refine zXa rfl rfl rfl (by simp) ?_;have hB:SB (d+1)=8*SB d+3000:=rfl;rw[hB]at hi;have hB1:BN 1=300:=rfl;have hB2:BN 2=700:=rfl;have S1:=nt l hl 1 (by omega);have S2:=nt l hl 2 (by omega);have q1:((d:Int)+1>0)=True:=eqp (by omega);have q2:((0:Int)<(d:Int)+1)=True:=eqp (by omega);have q3:zA .i64 (d:Int)=d:=zi (by omega) (by omega);by_cases k7:k=7
 ·subst k7;obtain⟨s1,i1,h1,b1,c1⟩:=S1.num' (i+1) v b (by omega) hv hb;obtain⟨s2,i2,h2,b2,c2⟩:=S1.truth' i1 [122] b (by omega) (by simp) hb;obtain⟨s3,i3,h3,b3,c3⟩:=hbk i2 [122] [119] loop (by omega) (by simp) (by simp);rw[hB1]at b1 c1 b2 c2;simp at h1 h2 hk;clear S1 S2 hl hB1 hB2 hbk hc k1
  (simp[*,F50])<;>(repeat' (refine aI (by omega) ?_<;>simp[*,F50]))<;>(try omega)
 by_cases k9:k<=9
 ·obtain⟨s1,i1,h1,b1,c1⟩:=S2.truth' (i+1) v b (by omega) hv hb;obtain⟨s2,i2,h2,b2,c2⟩:=hbk i1 v b loop (by omega) hv hb;obtain⟨j,j1,hj⟩:=zBb l i2 2 (by omega) (by omega) hl;obtain⟨s3,i3,h3,b3,c3⟩:=hbk (i2+1) v b loop (by omega) hv hb;have hj2:j=0\/j=1:=by omega
  have:k=6/\loop=false\/k=8\/k=9:=by
   rcases hc with h|h|h|h|h|h
   ·exact .inl h
   all_goals omega
  rw[hB2]at b1 c1;simp at h1 hj;clear S1 S2 hl hB1 hB2 hbk hc k1 k7 k9 j1;rcases this with⟨rfl,rfl⟩|rfl|rfl<;>simp at hk<;>rcases hj2 with rfl|rfl<;>simp at hj<;>(simp[*,F50])<;>(repeat' (refine aI (by omega) ?_<;>simp[*,F50]))<;>(try omega)
 obtain⟨s1,i1,h1,b1,c1⟩:=S1.truth' (i+1) v b (by omega) hv hb;obtain⟨s2,i2,h2,b2,c2⟩:=hbk i1 v b true (by omega) hv hb;obtain⟨j,j1,hj⟩:=zBb l i2 3 (by omega) (by omega) hl;obtain⟨t,t1,ht⟩:=one_of [[52],[57],[51,48]] 3 (by decide) j j1;have:k=10\/k=11:=by omega
 rw[hB1]at b1 c1;simp at h1 hj ht;clear S1 S2 hl hB1 hB2 hbk hc k1 k7 k9;rcases this with rfl|rfl<;>simp at hk<;>(simp[*,F50])<;>(repeat' (refine aI (by omega) ?_<;>simp[*,F50]))<;>(try omega)
theorem st(l:List UInt8)(hl:l.length<=9223372036854775807):∀d,d<=3->ST l d/\BkOk l d:=by
 intro d
 induction d with
 |zero=>
  intro _;have S:ST l 0:=⟨fun i v b loop hi hv hb=>by
   obtain⟨k,k1,hk⟩:=zBb l i 13 (by omega) (by omega) hl;exact stmt_plain l hl 0 (by omega) i v b loop hi hv hb k k1 hk (.inl rfl)⟩
  refine⟨S,fun i v b loop hi hv hb=>?_⟩;obtain⟨r,st,h,s,i',rfl,rfl,h1,h2⟩:=zfd.1 (mblock_of l hl 0 (by decide) (by omega) S i v b loop hi hv hb);exact⟨s,i',h,h1,h2⟩
 |succ d ih=>
  intro hd;obtain⟨_,B⟩:=ih (by omega);have hb:SB d<=10000000/\SB (d+1)<=10000000:=by
   have:d=0\/d=1\/d=2:=by omega
   rcases this with rfl|rfl|rfl<;>decide
  have S:ST l (d+1):=⟨fun i v b loop hi hv hb'=>by
   obtain⟨k,k1,hk⟩:=zBb l i 13 (by omega) (by omega) hl;by_cases hc:d+1=0\/k<6\/(k=6/\loop=true)\/k=12
   ·exact stmt_plain l hl (d+1) (by omega) i v b loop hi hv hb' k k1 hk hc
   ·exact stmt_deep l hl d hb.1 (by omega) B i v b loop hi hv hb' k k1 hk (by cases loop<;>simp at hc ⊢ <;>omega)⟩
  refine⟨S,fun i v b loop hi hv hb'=>?_⟩;obtain⟨r,st,h,s,i',rfl,rfl,h1,h2⟩:=zfd.1 (mblock_of l hl (d+1) hb.2 (by omega) S i v b loop hi hv hb');exact⟨s,i',h,h1,h2⟩
theorem bad_parse:(zHa [120]).1=⟨[],[]⟩:=by kernel_rfl
set_option maxHeartbeats 8000000 in
set_option maxRecDepth 20000 in
theorem good_of(l:List UInt8)(hl:l.length<=9223372036854775807):
  PC (zj E 11 [u8s l] []) (fun r st=>st=[]/\∃s,r= .ret (ze (zHa s).1)):=by
 refine zXa rfl rfl rfl (by simp[u8s]) ?_;have hB1:SB 1=19000:=rfl;have hB2:SB 2=155000:=rfl;have hB3:SB 3=1243000:=rfl;have hN:BN 2=700:=rfl;have S2:=nt l hl 2 (by omega);obtain⟨s1,i1,h1,b1,c1⟩:=(st l hl 2 (by omega)).2 0 [120] [98] false (by omega) (by simp) (by simp);obtain⟨s2,i2,h2,b2,c2⟩:=S2.num' i1 [120] [98] (by omega) (by simp) (by simp);obtain⟨s3,i3,h3,b3,c3⟩:=(st l hl 1 (by omega)).2 i2 [120] [98] false (by omega) (by simp) (by simp);obtain⟨s4,i4,h4,b4,c4⟩:=S2.truth' i3 [120] [98] (by omega) (by simp) (by simp);obtain⟨s5,i5,h5,b5,c5⟩:=(st l hl 3 (by omega)).2 i4 [120] [98] false (by omega) (by simp) (by simp);obtain⟨s6,i6,h6,b6,c6⟩:=S2.num' i5 [120] [98] (by omega) (by simp) (by simp);rw[hB2]at b1 c1;rw[hN]at b2 c2 b4 c4 b6 c6;rw[hB1]at b3 c3;rw[hB3]at b5 c5;have hp:∀s,zj E 14 [.str s] []=some (.ret (.tup [.agg [zZ (zHa s).1.arrays,funcs (zHa s).1.funcs],.int .i64 (zHa s).2.1,.int .i64 (zHa s).2.2]),[]):=fun s=>by rw[zoe];rfl
 simp only[zZ,funcs]at hp;simp[mob,u8s]at h1 h2 h3 h4 h5 h6;have hz:(0:Nat)<=0:=ye 0;clear S2 hB1 hB2 hB3 hN hl;simp[*,F11,u8s]
 repeat' (refine aI (by omega) ?_;simp[*,F11,u8s])
 (first|refine sP _ ?_ ?_|refine sN _ ?_ ?_|refine sM _ ?_ ?_|refine sB _ ?_ ?_)<;>intro hc<;>simp[hc,F11]
 ·exact⟨[120],by rw[bad_parse];rfl⟩
 ·exact⟨_,rfl⟩
structure Fx(p:Prog)(ev:Ev):Prop where
 brk:∀s V S V1,zJe s=false->(ev.stmt s V S).1≠ .ok (.brk,V1)
 loop:∀s ns V S,okS p ns false s->∀h V1,(ev.stmt s V S).1= .ok (h,V1)->h= .on\/∃n,h= .ret n
 ends:∀s V S V1,ends1 s=true->(ev.stmt s V S).1≠ .ok (.on,V1)
 tru:∀e V S,e.kind=2->∀n,(ev.expr e V S).1= .ok n->n=e.n
section
variable {p:Prog} {ev:Ev} (E:Fx p ev)
include E
end
def arrFrom(k:Nat):List PArr->List (PV×PV)
 | []=>[]
 |a::r=>(.str a.name,.mslice k 0 a.size.toNat 1)::arrFrom (k+1) r
def intO(l:List Int):Obj:= .arr 1 (l.map (PV.int .i64))
def boxO(n:Int):Obj:= .arr 1 [.int .i64 n]
def rowsO(l:List (List Int)):zd:=l.map intO
def runCells(p:Prog)(S:RS)(v:Int):List PV:=[zZ p.arrays,funcs p.funcs,ints S.inp,.mp 0,.int .i64 0,.int .i64 0,acc 1 (S.out.map (PV.int .i64)),.int .i64 S.cost,.int .i64 S.fuel,.int .i64 v]
def runO(p:Prog)(S:RS)(v:Int):Obj:= .arr 10 [.agg (runCells p S v)]
def sto(p:Prog)(S:RS)(v:Int)(T:zd):zd:= .mp (arrFrom 2 p.arrays)::runO p S v::(rowsO S.arrs++T)
def endV(k:Int):PV:= .iface 119 (.agg [.int .i64 k])
section
variable (p:Prog) (S:RS) (v:Int) (T:zd)
@[simp] theorem sto_0:(sto p S v T)[0]? =some (.mp (arrFrom 2 p.arrays)):=rfl
@[simp] theorem sto_1:(sto p S v T)[1]? =some (.arr 10 [.agg [zZ p.arrays,funcs p.funcs,ints S.inp,.mp 0,.int .i64 0,.int .i64 0,acc 1 (S.out.map (PV.int .i64)),.int .i64 S.cost,.int .i64 S.fuel,.int .i64 v]]):=rfl
@[simp] theorem set_fuel(k:Nat):(sto p S v T).set 1 (.arr 10 [.agg [zZ p.arrays,funcs p.funcs,ints S.inp,.mp 0,.int .i64 0,.int .i64 0,acc 1 (S.out.map (PV.int .i64)),.int .i64 S.cost,.int .i64 k,.int .i64 v]])=sto p {S with fuel:=k} v T:=rfl
@[simp] theorem set_val(u:Int):(sto p S v T).set 1 (.arr 10 [.agg [zZ p.arrays,funcs p.funcs,ints S.inp,.mp 0,.int .i64 0,.int .i64 0,acc 1 (S.out.map (PV.int .i64)),.int .i64 S.cost,.int .i64 S.fuel,.int .i64 u]])=sto p S u T:=rfl
@[simp] theorem set_inp(l:List Int):(sto p S v T).set 1 (.arr 10 [.agg [zZ p.arrays,funcs p.funcs,.slice .plain 1 (l.map (PV.int .i64)),.mp 0,.int .i64 0,.int .i64 0,acc 1 (S.out.map (PV.int .i64)),.int .i64 S.cost,.int .i64 S.fuel,.int .i64 v]])=sto p {S with inp:=l} v T:=rfl
end
def FitS(p:Prog)(S:RS):Prop:=S.arrs.map List.length=p.arrays.map (fun a=>a.size.toNat)/\S.out.length+S.fuel<=1000000000000
structure Bnd where
 name:List UInt8
 box:Nat
 val:Int
def valsB(B:List Bnd):Vs:=B.map fun b=>(b.name,b.val)
def keysB(B:List Bnd):List (List UInt8×Nat):=B.map fun b=>(b.name,b.box)
def lookB(nm:List UInt8):List Bnd->Option Bnd
 | []=>none
 |b::r=>if b.name=nm then some b else lookB nm r
def nb(p:Prog):Nat:=p.arrays.length+2
def strK(es:List (PV×PV)):Prop:=∀q∈es,∃s,q.1= .str s
structure FR(p:Prog)(T:zd)(m r:Nat)(B:List Bnd):Prop where
 map:∃es,T[r]? =some (.mp es)/\strK es/\∀x,zW true (.str x) es=some ((lookB x B).map fun b=> .ptr (nb p+b.box) 0 0)
 val:∀b∈B,T[b.box]? =some (boxO b.val)/\m<=b.box
 nd:(B.map (·.box)).Nodup
 lo:m<=r
def Keep(m:Nat)(ex:Option Nat)(T T':zd):Prop:=T.length<=T'.length/\∀j,j<T.length->ex≠some j->T'[j]? =T[j]? \/(m<=j/\∃a b,T[j]? =some (boxO a)/\T'[j]? =some (boxO b))
def outE(q:Rt Int):CRes:=match q with
 | .ok n=> .ret (.int .i64 n)
 | .stop k=> .pan (endV k)
@[simp] theorem outE_ok(n:Int):outE (.ok n)= .ret (.int .i64 n):=rfl
@[simp] theorem outE_stop(n:Int):outE (.stop n)= .pan (endV n):=rfl
def howN:How->Int
 | .on=>0
 | .brk=>1
 | .cont=>2
 | .ret _=>3
def outH(q:Rt (How×Vs)):CRes:=match q with
 | .ok x=> .ret (.int .i64 (howN x.1))
 | .stop k=> .pan (endV k)
def WT(p:Prog)(T:zd):Prop:=zd.wf (nb p+T.length) T=true
structure BkR(p:Prog)(T T':zd)(m r:Nat)(B:List Bnd)(V1:Vs)(add:List (List UInt8×Nat)->Prop):Prop where
 env:∃B1 a,valsB B1=V1/\FR p T' m r B1/\keysB B1=a++keysB B/\add a
 wt:WT p T'
def isS(p:Prog)(T:zd)(m r:Nat)(B:List Bnd)(q:Rt (How×Vs)×RS):CRes->zd->Prop:=fun res st=>∃v T',res=outH q.1/\st=sto p q.2 v T'/\Keep m (some r) T T'∧
 ∀h V1,q.1= .ok (h,V1)->(∀n,h= .ret n->v=n)/\BkR p T T' m r B V1 (fun _=>True)
def capE:Nat:=1099508000000
def parEnt(b:Nat):List Par->List (PV×PV)
 | []=>[]
 |x::r=>(.str x.name,.ptr b 0 0)::parEnt (b+1) r
theorem mapSet_new(nm:List UInt8)(u:PV):∀(d:List Par) (b:Nat),nm ∉ d.map (·.name)->zCb true (.str nm) u (parEnt b d)=some (parEnt b d++[(.str nm,u)])
 | [],b,_=>rfl
 |y::d,b,h=>by
  simp only[yv,yB,not_or]at h;have ih:=mapSet_new nm u d (b+1) h.2;simp only[parEnt,zCb,zlc,if_true,h.1,decide_false];rw[ih];rfl
structure CS where
 rest:List Expr
 acc:List Int
 S:RS
 v:Int
structure BSt where
 rest:List Stmt
 S:RS
 v:Int
 T:zd
 B:List Bnd
structure LSt where
 k:Nat
 S:RS
 v:Int
 T:zd
 B:List Bnd
theorem zIe(nm:List UInt8)(u:PV):∀(es:List (PV×PV)),strK es->∃es',zCb true (.str nm) u es=some es'/\strK es'/\(∀n,zAc n es=true->zz n u=true->zAc n es'=true)/\∀x,zW true (.str x) es'=if nm=x then some (some u)else zW true (.str x) es
 | [],_=>⟨_,rfl,fun q h=>by simp at h;exact⟨nm,by rw[h]⟩,fun n _ h=>by simp[zAc,h],fun x=>by by_cases h:nm=x<;>simp[zW,zlc,h,eq_comm]⟩
 |(k,u0)::r,hk=>by
  obtain⟨s,hs⟩:=hk (k,u0) (by simp);simp only at hs;subst hs;by_cases hs:nm=s
  ·subst hs;refine⟨(.str nm,u)::r,by simp[zCb,zlc],?_,?_,fun x=>?_⟩
   ·intro q hq;rcases yB.1 hq with rfl|hq
    ·exact⟨nm,rfl⟩
    ·exact hk q (by simp[hq])
   ·intro n h1 h2;simp[zAc]at h1 ⊢;exact⟨h2,h1.2⟩
   ·by_cases hx:nm=x
    ·subst hx;simp[zW,zlc]
    ·have hx':¬x=nm:=fun e=>hx e.symm
     rw[if_neg hx];simp[zW,zlc,hx']
  ·obtain⟨es',e1,e2,e3,e4⟩:=zIe nm u r (fun q hq=>hk q (by simp[hq]));refine⟨(.str s,u0)::es',by simp[zCb,zlc,hs,e1],?_,?_,fun x=>?_⟩
   ·intro q hq;rcases yB.1 hq with rfl|hq
    ·exact⟨s,rfl⟩
    ·exact e2 q hq
   ·intro n h1 h2;simp[zAc]at h1 ⊢;exact⟨h1.1,e3 n h1.2 h2⟩
   ·by_cases hx:x=s
    ·subst hx;rw[if_neg hs];simp[zW,zlc]
    ·simp[zW,zlc,hx,e4]
def rptrs(k:Nat):List PArr->List PV
 | []=>[]
 |a::r=> .mslice k 0 a.size.toNat 1::rptrs (k+1) r
def stK:Option Int->Int
 |none=>0
 |some k=>k
def spK:Option Int->Bool
 |none=>false
 |some k=>decide (k=0)
def runR(p:Prog)(S:RS)(h:Option Int):Obj:= .arr 10 [.agg [zZ p.arrays,funcs p.funcs,ints S.inp,acc 1 (rptrs 1 p.arrays),.int .i64 (stK h),.int .i64 0,acc 1 (S.out.map (PV.int .i64)),.int .i64 S.cost,.int .i64 S.fuel,.bool (spK h)]]
def stR(p:Prog)(S:RS)(h:Option Int)(T:zd):zd:=runR p S h::(rowsO S.arrs++T)
def goH{α:Type}:Rt α->Option Int
 | .ok _=>none
 | .stop k=>some k
@[simp] theorem goH_ok{α:Type}(a:α):goH (.ok a)=none:=rfl
@[simp] theorem goH_stop{α:Type}(k:Int):goH (.stop k:Rt α)=some k:=rfl
section
variable (p:Prog) (S:RS) (h:Option Int) (T:zd)
@[simp] theorem stR_0:(stR p S h T)[0]? =some (.arr 10 [.agg [zZ p.arrays,funcs p.funcs,ints S.inp,acc 1 (rptrs 1 p.arrays),.int .i64 (stK h),.int .i64 0,acc 1 (S.out.map (PV.int .i64)),.int .i64 S.cost,.int .i64 S.fuel,.bool (spK h)]]):=rfl
@[simp] theorem stK_none:stK none=0:=rfl
@[simp] theorem spK_none:spK none=false:=rfl
@[simp] theorem stK_some(k:Int):stK (some k)=k:=rfl
@[simp] theorem spK_some(k:Int):spK (some k)=decide (k=0):=rfl
@[simp] theorem setR_fuel(k:Nat):(stR p S none T).set 0 (.arr 10 [.agg [zZ p.arrays,funcs p.funcs,ints S.inp,acc 1 (rptrs 1 p.arrays),.int .i64 0,.int .i64 0,acc 1 (S.out.map (PV.int .i64)),.int .i64 S.cost,.int .i64 k,.bool false]])=stR p {S with fuel:=k} none T:=rfl
@[simp] theorem setR_spent:(stR p S none T).set 0 (.arr 10 [.agg [zZ p.arrays,funcs p.funcs,ints S.inp,acc 1 (rptrs 1 p.arrays),.int .i64 0,.int .i64 0,acc 1 (S.out.map (PV.int .i64)),.int .i64 S.cost,.int .i64 S.fuel,.bool true]])=stR p S (some 0) T:=rfl
@[simp] theorem setR_2:(stR p S none T).set 0 (.arr 10 [.agg [zZ p.arrays,funcs p.funcs,ints S.inp,acc 1 (rptrs 1 p.arrays),.int .i64 2,.int .i64 0,acc 1 (S.out.map (PV.int .i64)),.int .i64 S.cost,.int .i64 S.fuel,.bool false]])=stR p S (some 2) T:=rfl
@[simp] theorem setR_3:(stR p S none T).set 0 (.arr 10 [.agg [zZ p.arrays,funcs p.funcs,ints S.inp,acc 1 (rptrs 1 p.arrays),.int .i64 3,.int .i64 0,acc 1 (S.out.map (PV.int .i64)),.int .i64 S.cost,.int .i64 S.fuel,.bool false]])=stR p S (some 3) T:=rfl
@[simp] theorem setR_4:(stR p S none T).set 0 (.arr 10 [.agg [zZ p.arrays,funcs p.funcs,ints S.inp,acc 1 (rptrs 1 p.arrays),.int .i64 4,.int .i64 0,acc 1 (S.out.map (PV.int .i64)),.int .i64 S.cost,.int .i64 S.fuel,.bool false]])=stR p S (some 4) T:=rfl
@[simp] theorem setR_inp(l:List Int):(stR p S none T).set 0 (.arr 10 [.agg [zZ p.arrays,funcs p.funcs,.slice .plain 1 (l.map (PV.int .i64)),acc 1 (rptrs 1 p.arrays),.int .i64 0,.int .i64 0,acc 1 (S.out.map (PV.int .i64)),.int .i64 S.cost,.int .i64 S.fuel,.bool false]])=stR p {S with inp:=l} none T:=rfl
end
def encPl(x:List UInt8×Int):PV:= .agg [.str x.1,.int .i64 x.2]
def rowV(V:Vs):List PV:= .agg [.str [],.int .i64 0]::V.reverse.map encPl
def nbR(p:Prog):Nat:=p.arrays.length+1
structure FRr(p:Prog)(T:zd)(m k:Nat)(V:Vs)(h n:Int):Prop where
 lo:m<=k
 row:∃j junk,m<=j/\j≠k/\T[k]? =some (.arr 3 [.agg [.mslice (nbR p+j) 0 (V.length+1) 2,.int .i64 h,.int .i64 n]])/\T[j]? =some (.arr 2 (rowV V++junk))
def WTr(p:Prog)(T:zd):Prop:=zd.wf (nbR p+T.length) T=true
def isER(p:Prog)(T:zd)(q:Rt Int×RS):CRes->zd->Prop:=fun res st=>∃x,res= .ret (.int .i64 x)/\(∀n,q.1= .ok n->x=n)/\st=stR p q.2 (goH q.1) T
def capV:Nat:=5000000000000
structure SpecER(p:Prog)(w:Nat):Prop where
 expr:∀e S T m k V h n,FitS p S->S.fuel<=w->okE p (ztc V) e->wtE e<capE->V.length<capV->FRr p T m k V h n->WTr p T→
  PC (zj E 127 [.ptr 0 0 0,.ptr (nbR p+k) 0 0,zo e] (stR p S none T)) (isER p T ((evF p w).expr e V S))
def isSR(p:Prog)(T:zd)(m k:Nat)(V:Vs)(q:Rt (How×Vs)×RS):CRes->zd->Prop:=fun res st=>∃T' V1 h n,res= .ret (.tup [])/\st=stR p q.2 (goH q.1) T'/\T.length<=T'.length/\(∀j,j<m->T'[j]? =T[j]?)/\WTr p T'/\FRr p T' m k V1 h n/\V.length<=V1.length∧
 ∀hh V2,q.1= .ok (hh,V2)->V1=V2/\h=howN hh/\∀x,hh= .ret x->n=x
structure BlockR(p:Prog)(w:Nat):Prop where
 block:∀l S T m k V n loop,FitS p S->S.fuel<=w->okB p (ztc V) loop l->wtSs l<capE->V.length+wtSs l<capV->FRr p T m k V 0 n->WTr p T→
  PC (zj E 76 [.ptr 0 0 0,.ptr (nbR p+k) 0 0,zg l] (stR p S none T)) (isSR p T m k V (blockW (evF p w) l V S))
structure CSr where
 d:Nat
 T:zd
structure ARs where
 rest:List Expr
 acc:List Int
 S:RS
structure SpecSR(p:Prog)(w:Nat):Prop where
 stmt:∀s S T m k V n loop,FitS p S->S.fuel<=w->okS p (ztc V) loop s->wtS s<capE->V.length+1+wtS s<capV->FRr p T m k V 0 n->WTr p T→
  PC (zj E 101 [.ptr 0 0 0,.ptr (nbR p+k) 0 0,zu s] (stR p S none T)) (isSR p T m k V ((evF p w).stmt s V S))
structure BSr where
 rest:List Stmt
 q:Rt (How×Vs)×RS
 T:zd
 V:Vs
 h:Int
 n:Int
structure LSr where
 k:Nat
 S:RS
 T:zd
 V:Vs
 n:Int
structure LoopR(p:Prog)(w:Nat):Prop where
 loop:∀s S T m k V n loop,FitS p S->S.fuel<=w->s.kind=5->okS p (ztc V) loop s->wtS s<capE->V.length+1+wtS s<capV->FRr p T m k V 0 n->WTr p T→
  PC (zj E 126 [.ptr 0 0 0,.ptr (nbR p+k) 0 0,zu s] (stR p S none T)) (isSR p T m k V (loopW (evF p w) (arg0 s.args) s.thn (w+1) V S))
end PE.U

namespace PE
open Go
section
variable (n:Nat) (R:CRes->zd->Prop) (s:St) (K:PV×zd->Prop) (E:Env) (H:HFn) (fr:Fr)
end
end PE

namespace PE.U
open Go PE
def lines0:List (List UInt8):=[[119,104,105,108,101,32,40,120,32,60,32,53,41,32,123,32,120,32,61,32,120,32,43,32,49,59,32,105,102,32,40,120,32,61,61,32,51,41,32,123,32,99,111,110,116,105,110,117,101,59,32,125,32,121,32,61,32,121,32,43,32,120,59,32,125],[119,104,105,108,101,32,40,116,114,117,101,41,32,123,32,120,32,61,32,120,32,43,32,50,59,32,105,102,32,40,120,32,62,32,57,41,32,123,32,98,114,101,97,107,59,32,125,32,112,114,105,110,116,40,120,41,59,32,125],[120,32,61,32,48,59],[121,32,61,32,120,32,42,32,121,32,43,32,49,59],[112,114,105,110,116,40,121,41,59],[119,104,105,108,101,32,40,98,41,32,123,32,98,32,61,32,121,32,62,32,50,48,59,32,121,32,61,32,121,32,43,32,55,59,32,125],[105,102,32,40,120,32,62,32,121,41,32,123,32,120,32,61,32,121,59,32,125,32,101,108,115,101,32,123,32,121,32,61,32,120,59,32,125],[119,104,105,108,101,32,40,120,32,62,32,48,41,32,123,32,120,32,61,32,120,32,45,32,49,59,32,119,104,105,108,101,32,40,121,32,62,32,120,41,32,123,32,121,32,61,32,121,32,45,32,50,59,32,105,102,32,40,121,32,61,61,32,52,41,32,123,32,98,114,101,97,107,59,32,125,32,125,32,125],[98,32,61,32,120,32,60,32,121,59],[119,104,105,108,101,32,40,121,32,62,32,53,48,41,32,123,32,114,101,116,117,114,110,32,120,59,32,125],[120,32,61,32,120,32,38,32,55,59],[119,104,105,108,101,32,40,102,97,108,115,101,41,32,123,32,112,114,105,110,116,40,49,41,59,32,125],[105,102,32,40,116,114,117,101,41,32,123,32,105,110,116,32,116,32,61,32,120,59,32,120,32,61,32,121,59,32,121,32,61,32,116,59,32,125],[119,104,105,108,101,32,40,121,32,62,32,49,32,38,38,32,120,32,62,32,121,41,32,123,32,120,32,61,32,120,32,45,32,49,59,32,121,32,61,32,121,32,62,62,62,32,49,59,32,125],[119,104,105,108,101,32,40,116,114,117,101,41,32,123,32,105,102,32,40,99,41,32,123,32,99,32,61,32,102,97,108,115,101,59,32,99,111,110,116,105,110,117,101,59,32,125,32,98,114,101,97,107,59,32,125],[119,104,105,108,101,32,40,120,32,60,32,51,41,32,123,32,105,110,116,32,122,32,61,32,120,32,42,32,50,59,32,120,32,61,32,122,32,43,32,49,59,32,105,102,32,40,122,32,62,32,121,41,32,123,32,121,32,61,32,122,59,32,98,114,101,97,107,59,32,125,32,125]]
def lines3:List (List UInt8):=[[120,32,61,32,102,40,120,44,32,98,41,59],[121,32,61,32,102,40,121,44,32,33,98,41,32,43,32,102,40,120,44,32,116,114,117,101,41,59],[98,32,61,32,103,40,120,41,59],[112,114,105,110,116,40,102,40,49,44,32,102,97,108,115,101,41,41,59],[105,102,32,40,103,40,121,41,41,32,123,32,120,32,61,32,104,40,51,41,59,32,125],[121,32,61,32,104,40,120,32,38,32,55,41,59],[102,40,120,44,32,98,41,59],[120,32,61,32,120,32,38,32,49,53,59],[99,32,61,32,103,40,104,40,52,41,41,32,38,38,32,98,59],[97,91,49,93,32,61,32,102,40,97,91,49,93,44,32,99,41,59],[119,104,105,108,101,32,40,103,40,120,41,32,38,38,32,120,32,60,32,57,41,32,123,32,120,32,61,32,120,32,43,32,102,40,50,44,32,99,41,59,32,125],[114,101,116,117,114,110,32,104,40,120,32,38,32,51,41,59],[121,32,61,32,114,101,97,100,40,41,59],[112,114,105,110,116,40,105,56,40,120,41,32,43,32,117,49,54,40,121,41,32,45,32,126,120,41,59]]
theorem lined0_spec:zj E 46 [.int .i64 0] []=some (.ret (.slice .plain 1 (lines0.map PV.str)),[]):=by
 refine zc rfl rfl rfl (by simp) ?_;simp[F46,lines0]
theorem lined3_spec:zj E 46 [.int .i64 3] []=some (.ret (.slice .plain 1 (lines3.map PV.str)),[]):=by
 refine zc rfl rfl rfl (by simp) ?_;simp[F46,lines3]
def LinesOk(ls:List (List UInt8)):Prop:=0<ls.length/\ls.length<=16/\∀t∈ls,t.length<=80
theorem lines0_ok:LinesOk lines0:=⟨by decide,by decide,by decide⟩
theorem lines3_ok:LinesOk lines3:=⟨by decide,by decide,by decide⟩
def famPre:List UInt8:=[105,110,116,32,97,91,52,93,59,32,105,110,116,32,102,40,105,110,116,32,110,44,32,98,111,111,108,32,98,41,32,123,32,97,91,110,32,38,32,51,93,32,61,32,110,59,32,105,102,32,40,98,41,32,123,32,114,101,116,117,114,110,32,110,32,42,32,50,59,32,125,32,114,101,116,117,114,110,32,97,91,49,93,59,32,125,32,98,111,111,108,32,103,40,105,110,116,32,110,41,32,123,32,112,114,105,110,116,40,110,41,59,32,114,101,116,117,114,110,32,110,32,62,32,49,59,32,125,32,105,110,116,32,104,40,105,110,116,32,110,41,32,123,32,105,102,32,40,110,32,60,32,50,41,32,123,32,114,101,116,117,114,110,32,110,59,32,125,32,114,101,116,117,114,110,32,104,40,110,32,45,32,49,41,32,43,32,104,40,110,32,45,32,50,41,59,32,125,32,105,110,116,32,109,97,105,110,40,41,32,123,32,105,110,116,32,120,32,61,32,114,101,97,100,40,41,59,32,105,110,116,32,121,32,61,32,51,59,32,98,111,111,108,32,98,32,61,32,102,97,108,115,101,59,32,98,111,111,108,32,99,32,61,32,116,114,117,101,59,10]
def famSuf:List UInt8:=[114,101,116,117,114,110,32,120,32,43,32,121,59,32,125]
structure FSt where
 i:Nat
 s:List UInt8
set_option maxHeartbeats 4000000 in
set_option maxRecDepth 20000 in
theorem family_of{k:Int}{ls:List (List UInt8)}(hls:LinesOk ls)(hk:zj E 46 [.int .i64 k] []=some (.ret (.slice .plain 1 (ls.map PV.str)),[]))(l:List UInt8)(hl:l.length<=9223372036854775807):
  PC (zj E 21 [.int .i64 k,u8s l] []) (fun r st=>st=[]/\∃s,r= .ret (ze (zHa s).1)):=by
 obtain⟨l0,l1,l2⟩:=hls;refine zXa rfl rfl rfl (by simp) ?_;simp[*,F21,u8s];refine zU K21_0 (8::B21_0) (fun c:FSt=>10-c.i) (fun c=>[(5,.str c.s),(7,.int .i64 c.i)]) (fun _=>[]) (fun _=>[]) (fun c=>c.i<=10/\c.i<=l.length/\c.s.length<=1000+100*c.i) ⟨0,famPre⟩ (by simp[famPre]) ?_
 rintro⟨i,s⟩ s1 ⟨hi,hil,hs⟩ h1 h2 h3 h4 h5
 simp at hi hil hs h1 h3 h5;by_cases hc:i<l.length/\i<10
 ·obtain⟨c1,c2⟩:=hc;obtain⟨b,hb⟩:∃b,l[i]? =some b:=⟨_,yf c1⟩
  obtain⟨t,ht⟩:∃t,ls[b.toNat%ls.length]? =some t:=⟨_,yf (yna _ l0)⟩
  have htl:=l2 t (yR ht);have hrem:remK (b.toNat:Int) (ls.length:Int)=((b.toNat%ls.length:Nat):Int):=remNat _ _;have k1:decide (i<l.length)=true:=decide_eq_true c1;have k2:((i:Int)<10)=True:=eqp (by omega);have k3:¬((ls.length:Int)=0):=by omega
  have k4:¬(ls=[]):=by rintro rfl;simp at l0
  have hw:zA .i64 ((i:Int)+1)=(i:Int)+1:=zi (by omega) (by omega);have m1:s.length+t.length<=9223372036854775807:=by omega
  have m2:s.length+t.length+1<=9223372036854775807:=by omega
  have m3:s.length+(t.length+1)<=9223372036854775807:=by omega
  obtain⟨N,hN,hN2⟩:∃N,N=l.length/\i<N:=⟨_,rfl,c1⟩
  clear l2 c1 hk;generalize b.toNat%ls.length=z at*;simp[*];refine⟨⟨i+1,s++(t++[10])⟩,by simp only;omega,by simp,?_⟩;simp only[yi,yj,yn];omega
 ·have hp:=zoe (s++famSuf);generalize hq:zHa (s++famSuf)=q at*;obtain⟨⟨ar,fs⟩,e,n⟩:=q;simp[zjd,ze,famSuf]at hp;have m1:s.length+15<=9223372036854775807:=by omega
  have hfin:∃s',ze ⟨ar,fs⟩=ze (zHa s').1:=⟨s++famSuf,by rw[hq]⟩
  simp[ze]at hfin;clear hq hk;by_cases k1:i<l.length
  ·have k2:((i:Int)<10)=False:=eqn (by omega);have k1:decide (i<l.length)=true:=decide_eq_true k1;simp[*,ze]
  ·have k1:decide (i<l.length)=false:=decide_eq_false k1;simp[*,ze]
open PE.R (nthK fromK)
def aw201:List UInt8:=[105,110,116,32,109,97,105,110,40,41,32,123,32,105,110,116,32,120,32,61,32,49,59,32,114,101,116,117,114,110,32,120,59,32,125]
def aw202:List UInt8:=[105,110,116,32,109,97,105,110,40,41,32,123,32,105,110,116,32,97,32,61,32,49,59,32,114,101,116,117,114,110,32,97,59,32,125]
set_option maxRecDepth 100000 in
theorem aw201_ok:(zbb (zHa aw201).1).1=0:=by decide+kernel
set_option maxRecDepth 100000 in
theorem aw201_sh:shP (zHa aw201).1=(zHa aw202).1:=by kernel_rfl
theorem aw200_ok:(zbb ⟨[],[]⟩).1=50:=by decide+kernel
theorem psm_nil:PSm ⟨[],[]⟩:=⟨by simp,by simp,by simp⟩
set_option maxHeartbeats 1000000 in
theorem zce:zj E 8 [] []=some (.ret (.bool true),[]):=by
 refine zc rfl rfl rfl (by simp) ?_;have p1:=zoe aw201;have p2:=zoe aw202;have r1:=pnames_spec _ (parse_psm aw201);have r2:=pnames_spec ⟨[],[]⟩ psm_nil;have s1:=same03_self _ (parse_psz aw202);have n0:=zGc 0 (by omega) (by omega);have n1:=zGc 26 (by omega) (by omega);have n2:=zGc (-1) (by omega) (by omega);rw[show shortN 0=[97]from by decide]at n0;rw[show shortN 26=[97,49]from by decide]at n1;rw[show shortN (-1)=[]from by decide]at n2;unfold shM at r1 r2;rw[if_pos aw201_ok,aw201_sh]at r1;rw[if_neg (by rw[aw200_ok];simp)]at r2;generalize zHa aw201=q1 at*;generalize zHa aw202=q2 at*;obtain⟨⟨ar1,fs1⟩,e1,m1⟩:=q1;obtain⟨⟨ar2,fs2⟩,e2,m2⟩:=q2;simp[zjd,ze,encRen,aw201,aw202,zZ,funcs]at p1 p2 r1 r2 s1;simp[*,F8,zZ,funcs]
theorem namesNames_spec(n:Int)(h: -9223372036854775808<=n/\n<=9223372036854775807):zj E 3 [.int .i64 n] []=some (.ret (.bool true),[]):=by
 refine zc rfl rfl rfl (by simp) ?_;have ha:=zce;have hp:=zGc n h.1 h.2;have hr:=rname1_spec n h.1 h.2;clear h;simp[*,F3]
theorem namesApart_spec(a b:Int)(ha:0<=a/\a<=65535)(hb:0<=b/\b<=65535):zj E 6 [.int .u16 a,.int .u16 b] []=some (.ret (.bool true),[]):=by
 refine zc rfl rfl rfl (by simp) ?_;have hw:=zce;obtain⟨x,rfl⟩:∃x:Nat,a=x:=⟨a.toNat,by omega⟩
 obtain⟨y,rfl⟩:∃y:Nat,b=y:=⟨b.toNat,by omega⟩
 have wx:zA .i64 (x:Int)=x:=by rw[zi]<;>omega
 have wy:zA .i64 (y:Int)=y:=by rw[zi]<;>omega
 have rx:remK (x:Int) 900=((x%900:Nat):Int):=by rw[remK_eq];rfl
 have ry:remK (y:Int) 900=((y%900:Nat):Int):=by rw[remK_eq];rfl
 have hx:x%900<900:=yna _ (by omega);have hy:y%900<900:=yna _ (by omega);have n1:=zGc ((x%900:Nat):Int) (by omega) (by omega);have n2:=zGc ((y%900:Nat):Int) (by omega) (by omega);have e1:shortN ((x%900:Nat):Int)=nthM (x%900):=by unfold shortN;rw[if_neg (by omega),Int.toNat_natCast]
 have e2:shortN ((y%900:Nat):Int)=nthM (y%900):=by unfold shortN;rw[if_neg (by omega),Int.toNat_natCast]
 rw[e1]at n1;rw[e2]at n2;have hnm:=zFc (nthM (x%900)) [];rw[nthM_name (by omega)]at hnm;have hinj:(nthM (x%900)=nthM (y%900))<->x%900=y%900:=⟨nthM_inj (by omega) (by omega),fun e=>by rw[e]⟩
 have hinj2:(((x%900:Nat):Int)=((y%900:Nat):Int))<->x%900=y%900:=by omega
 clear e1 e2 hx hy;generalize x%900=u at*;generalize y%900=v at*;by_cases huv:u=v
 ·subst huv;simp[*,F6]
 ·have k1:=eqn (fun e=>huv (hinj.1 e));have k2:=eqn (fun e=>huv (hinj2.1 e));clear hinj hinj2;generalize nthM u=s at*;generalize nthM v=t at*;simp[*,F6]
theorem both_names(p:Prog)(hs:PSm p):∃ar fs e,zj E 12 [ze p] []=some (.ret (.tup [.agg [zZ ar,funcs fs],.int .i64 e]),[])/\zj E 13 [ze p] []=some (.ret (.tup [.agg [zZ ar,funcs fs],.int .i64 e]),[])∧
  zj E 16 [.agg [zZ ar,funcs fs],.agg [zZ ar,funcs fs]] []=some (.ret (.bool true),[]):=by
 have h1:=pnames_spec p hs;have h2:=rnames_spec p hs;have h3:PSz (shM p).1:=by
  unfold shM;split
  ·exact psz_renJ p hs
  ·exact psz_of_psm psm_nil
 have h4:=same03_self _ h3;generalize shM p=q at*;obtain⟨⟨ar,fs⟩,e⟩:=q;exact⟨ar,fs,e,h1,h2,h4⟩
set_option maxHeartbeats 1000000 in
theorem namesGood_spec(l:List UInt8)(hl:l.length<=9223372036854775807):zj E 4 [u8s l] []=some (.ret (.bool true),[]):=by
 refine zc rfl rfl rfl (by simp) ?_;have ha:=zce;obtain⟨r,st,hg,rfl,s,rfl⟩:=zfd.1 (good_of l hl);obtain⟨ar,fs,e,h1,h2,h3⟩:=both_names (zHa s).1 (parse_psm s);have hb:=body_spec l true hl;have hp:=zoe (bodyM l true);obtain⟨ar',fs',e',k1,k2,k3⟩:=both_names (zHa (bodyM l true)).1 (parse_psm _);generalize zHa (bodyM l true)=q at*;obtain⟨⟨ar0,fs0⟩,e0,n0⟩:=q;generalize(zHa s).1=q at*;obtain⟨ar1,fs1⟩:=q;clear hl;simp[zjd,ze]at hg h1 h2 h3 hp k1 k2 k3;simp[*,F4]
set_option maxHeartbeats 1000000 in
theorem namesLoops_spec(l:List UInt8)(calls:Bool)(hl:l.length<=9223372036854775807):zj E 7 [u8s l,.bool calls] []=some (.ret (.bool true),[]):=by
 refine zc rfl rfl rfl (by simp) ?_;have ha:=zce;obtain⟨r,st,hg,rfl,s,rfl⟩:=zfd.1 (family_of lines0_ok lined0_spec l hl);obtain⟨r,st,hg',rfl,s',rfl⟩:=zfd.1 (family_of lines3_ok lined3_spec l hl);obtain⟨ar,fs,e,h1,h2,h3⟩:=both_names (zHa s).1 (parse_psm s);obtain⟨ar',fs',e',k1,k2,k3⟩:=both_names (zHa s').1 (parse_psm s');generalize(zHa s).1=q at*;obtain⟨ar0,fs0⟩:=q;generalize(zHa s').1=q at*;obtain⟨ar1,fs1⟩:=q;clear hl;simp[ze]at hg hg' h1 h2 h3 k1 k2 k3;cases calls<;>simp[*,F7]
end PE.U

namespace PE.U
open Go PE
section
variable {p:Prog} {ev:Ev}
end
def Bd(c:Int)(S:RS):Prop:=0<=S.cost/\S.cost+S.fuel+c<=1000000000000
def Gr(c:Int)(S S1:RS):Prop:=S.out<+:S1.out/\S.cost<=S1.cost/\S1.cost+S1.fuel<=S.cost+S.fuel+c
structure GrOk(ev:Ev):Prop where
 expr:∀e V S,Bd 0 S->Gr 0 S (ev.expr e V S).2
 stmt:∀s V S,Bd 0 S->Gr 0 S (ev.stmt s V S).2
section
variable {p:Prog} {ev:Ev} (E:GrOk ev)
include E
end
inductive RN:Nm->Vs->Vs->Prop
 |nil:RN [] [] []
 |cons {N:Nm} {V V':Vs} (o w:List UInt8) (a:Int) (h:RN N V V'):RN ((o,w)::N) ((o,a)::V) ((w,a)::V')
mutual
def inE(p:Prog)(ns:List (List UInt8)):Expr->Prop
 |⟨k,o,n,nm,a⟩=>(k=3->nm∈ns)/\(k=7->∀f,zfc p nm=some f->f.params.length=a.length)/\inEs p ns a
def inEs(p:Prog)(ns:List (List UInt8)):List Expr->Prop
 | []=>True
 |x::r=>inE p ns x/\inEs p ns r
end
def RelT(N:Nm)(r r':Rt (How×Vs)×RS):Prop:=match r with
 |(.stop k,S)=>r'=(.stop k,S)
 |(.ok (h,V),S)=>∃V',r'=(.ok (h,V'),S)/\RN N V V'
structure RenOk(p:Prog)(ev ev':Ev):Prop where
 expr:∀e N V V' S c,inE p (ztc V) e->RN N V V'->NI N c->ev'.expr (renE N e) V' S=ev.expr e V S
 stmt:∀s N c V V' S loop,okS p (ztc V) loop s->RN N V V'->NI N c->c+wtS s<=4000000000000->RelT (renS s N c).2.1 (ev.stmt s V S) (ev'.stmt (renS s N c).1 V' S)
section
variable {p:Prog} {ev ev':Ev} (E:RenOk p ev ev') (A:EvOk ev)
include E A
end
structure RenOkJ(p:Prog)(ev ev':Ev):Prop where
 expr:∀e N V V' S c,inE p (ztc V) e->RN N V V'->NJ N c->ev'.expr (renE N e) V' S=ev.expr e V S
 stmt:∀s N c V V' S loop,okS p (ztc V) loop s->RN N V V'->NJ N c->c+wtS s<=4000000000000->RelT (shS s N c).2.1 (ev.stmt s V S) (ev'.stmt (shS s N c).1 V' S)
section
variable {p:Prog} {ev ev':Ev} (E:RenOkJ p ev ev') (A:EvOk ev)
include E A
end
section
variable {p:Prog} {ev ev':Ev} (E:RenOk p ev ev') (A:EvOk ev) (O:OkP p)
include E A O
end
section
variable {p:Prog} {ev ev':Ev} (E:RenOkJ p ev ev') (A:EvOk ev) (O:OkP p)
include E A O
end
section
variable {p:Prog} {ev ev':Ev} (E:RenOk p ev ev') (A:EvOk ev) (O:OkP p)
include E A O
end
section
variable {p:Prog} {ev ev':Ev} (E:RenOkJ p ev ev') (A:EvOk ev) (O:OkP p)
include E A O
end
open PE.R (nthK fromK)
end PE.U

namespace PE.U
open Go PE Go.Proofs
theorem cells_of{w:World}{b:Nat}{v:Value}(h:w.cell? ⟨b,0,none⟩=some v):∃cs e fr,w.heap[b]? =some (.cells cs e fr)/\cs[0]? =some v/\b<w.heap.size:=by
 unfold World.cell? at h;simp only at h;split at h
 ·rename_i cs e fr hc;refine⟨cs,e,fr,hc,by simpa using h,?_⟩;rcases yA b w.heap.size with h'|h'
  ·exact h'
  ·rw[Array.getElem?_eq_none h']at hc;cases hc
 ·cases h
theorem start_tab{w:World}(hs:∃ev,w.cell? ⟨0,0,none⟩=some ev/\(ev= .nilIface\/∃te pe,ev= .iface te pe))(hr:∃ev,w.cell? ⟨1,0,none⟩=some ev/\(ev= .nilIface\/∃te pe,ev= .iface te pe))
  (h:Lib.TabIs Tryz.prog w "internal/strconv.uint64pow10" .u64 Lib.pow10Tab):∃c0 c1,TabsOk c0 c1/\(tabs c0 c1).In (gh0 w) w:=by
 obtain⟨es,hs,hs2⟩:=hs;obtain⟨er,hr,hr2⟩:=hr;obtain⟨c0,t0,f0,a0,b0,l0⟩:=cells_of hs;obtain⟨c1,t1,f1,a1,b1,l1⟩:=cells_of hr;have hg:Tryz.prog.globalNamed "internal/strconv.uint64pow10" =some 2:=by kernel_rfl
 unfold Lib.TabIs World.var? at h;rw[hg]at h;simp only[Option.bind_some]at h;refine⟨c0,c1,⟨⟨es,b0,hs2⟩,⟨er,b1,hr2⟩⟩,?_⟩;intro x hx;rw[show tabs c0 c1=[(0,c0),(1,c1),(2,tab10)]from rfl]at hx;simp only[yB,List.not_mem_nil,or_false]at hx;rcases hx with rfl|rfl|rfl
 ·exact⟨by simp[gh0,l0],t0,f0,a0⟩
 ·exact⟨by simp[gh0,l1],t1,f1,a1⟩
 ·split at h
  ·rename_i cs e fr hc;have hcs:cs=tab10:=Option.some.inj h;subst hcs;refine⟨?_,e,fr,hc⟩;have hlt:2<w.heap.size:=by
    rcases yA 2 w.heap.size with h'|h'
    ·exact h'
    ·rw[Array.getElem?_eq_none h']at hc;cases hc
   simp[gh0,hlt]
  ·cases h
end PE.U

namespace PE
open Go Go.RowKit
def Kept(w w':World):Prop:=w.keptBut w' (fun _=>False)/\∀k,k<w.heap.size->w'.heap[k]? =w.heap[k]?
theorem Kept.frame{w w':World}(h:Kept w w')(X:MemPlace->Prop):w.keptBut w' X:=World.keptBut_mono (fun p hp=>hp.elim) h.1
theorem kept_of_ext{w w':World}{G':Gh}{st':zd}(h:Ext (gh0 w) [] w G' st' w'):Kept w w':=
 ⟨by
  refine⟨h.os,h.output,fun i hi=>?_⟩;have hb:=(h.prot i (by simp[gh0,hi])).2.2;rw[hb];cases w.heap[i]? with
  |none=>rfl
  |some o=>cases o<;>first|exact⟨rfl,rfl,rfl,fun _ _=>rfl⟩|exact .inr ⟨rfl,rfl⟩|rfl,fun k hk=>(h.prot k (by simp[gh0,hk])).2.2⟩
theorem Kept.same{W w':World}(h:Kept W w'){p:MemPlace}(hp:p.block<W.heap.size):W.sameAt w' p:=by
 cases p with
 |cell b o=>exact World.cell?_of_block (w:=W) (h.2 b hp)
 |map b=>exact h.2 b hp
theorem Kept.trod{H:Type}{enc:TypeId×Value->H}{P:Program}{t:TypeId}(hl:laidOutB P=true)(hr:P.readableRec t=true)(hrow:t<P.types.size){W W':World}{v:Value}{d:DataW H}{ps:List MemPlace}
  (h:DataW.Trod enc P W 0 (fun _=>true) true t v d ps) (hb:Kept W W') (hlt:∀x∈ps,x.block<W.heap.size):
  DataW.Trod enc P W' 0 (fun b=>decide (b<W.heap.size)) true t v d ps:=
 WideElems.Trod_stays hl hr hrow h (fun x hx=>hb.same (hlt x hx)) (fun x hx=>by simpa using hlt x hx)
theorem walk_kept{P:Program}{T:Tabs}{E:Env}(hE:EnvOk P T E){f:Nat}{args:List PV}{margs:Array Value}{w:World}{st':zd}(hT:T.In (gh0 w) w)
  (h:zj E f args []=some (.ret (.bool true),st')) (hsz:margs.size=args.length)
  (hv:∀(j:Nat) c x,args[j]? =some c->margs[j]? =some x->VR ((gh0 w).im w) (fun _=>none) c x):
  Calls P f margs w fun e w'=>e= .returned (.bool true)/\Kept w w':=by
 obtain⟨n,hn⟩:=ztd.1 h;have hloc:zk (gh0 w).lc []=fun _=>none:=by funext l;simp[zk]
 refine((callF_good hE n _ _ _ _ _ hn (gh0 w) w margs rfl hT (gh0_sim w) hsz (by rw[hloc];exact hv)).2).mono ?_;intro e w' he;cases e with
 |returned mv=>
  obtain⟨G',q1,q2,q3⟩:=he;exact⟨by rw[VR.bool_inv q3],kept_of_ext q2⟩
 |panicked ch=>exact he.elim
 |outgrown=>exact he.elim
def IsRow(k:IntKind)(w:World)(a:Option Addr)(len cap:Nat)(zs:List Int):Prop:=
 (a=none/\len=0/\cap=0/\zs=[])∨
 ∃x,a=some x/\len<=cap/\cap<=maxLen/\zs.length=cap/\(∀i,i<zs.length->w.cell? (x.add i)=some (.int k (zs.getD i 0)))/\∀n∈zs,(Lit.int k n).wf=true
theorem row_vr{k:IntKind}{w:World}{a:Option Addr}{len cap:Nat}{zs:List Int}(h:IsRow k w a len cap zs):VR ((gh0 w).im w) (fun _=>none) (.slice .plain 1 ((zs.take len).map (PV.int k))) (.slice a len cap):=by
 rcases h with⟨rfl,rfl,rfl,rfl⟩|⟨x,rfl,hl,hm,hz,hcell,hwz⟩
 ·exact .slice0 _ _ _ _ (by simp) (by simp)
 ·by_cases h0:len=0
  ·subst h0;exact .slice0 _ _ _ _ (by simp) (by simp)
  ·obtain⟨b,off,spot⟩:=x;have hc:=hcell 0 (by omega);have hspot:spot=none:=by simpa[Addr.add]using World.cell?_spot hc
   subst hspot;have hlen:((zs.take len).map (PV.int k)).length=len:=by simp;omega
   have hget:∀(i:Nat) e,((zs.take len).map (PV.int k))[i]? =some e->i<len/\e= .int k (zs.getD i 0):=by
    intro i e he;rw[yo,yc]at he;obtain⟨n,hn,rfl⟩:=he;rw[yF]at hn;split at hn
    ·rename_i hi;refine⟨hi,?_⟩;rw[List.getD_eq_getElem?_getD,hn];rfl
    ·cases hn
   have:=VR.slice (I:=(gh0 w).im w) (L:=fun _=>none) (k:= .plain) (sz:=1) (l:=(zs.take len).map (PV.int k)) (b:=b) (o:=off) (cap:=cap)
    (by simp) (by simp) (by rw[hlen];exact hl) (fun i _=> .int k (zs.getD i 0)) ?_ ?_ ?_
   ·rw[hlen]at this;exact this
   ·intro i e he;obtain⟨_,rfl⟩:=hget i e he;exact⟨rfl,rfl⟩
   ·intro i e j c he hc;obtain⟨hi,rfl⟩:=hget i e he;cases j with
    |zero=>
     refine⟨gh0_im ?_,rfl⟩;have:=hcell i (by omega);have e:(⟨b,off,none⟩:Addr).add i=⟨b,off+i*1+0,none⟩:=by
      unfold Addr.add;by_cases hi0:i=0<;>simp[hi0]
     rw[<-e];exact this
    |succ j=>simp[cellsOf]at hc
   ·intro i e j c he hc;obtain⟨hi,rfl⟩:=hget i e he;cases j with
    |zero=>simp[cellsOf]at hc;subst hc;exact .int _ _
    |succ j=>simp[cellsOf]at hc
theorem row_len{k:IntKind}{w:World}{a:Option Addr}{len cap:Nat}{zs:List Int}(h:IsRow k w a len cap zs):(zs.take len).length<=maxLen:=by
 rcases h with⟨rfl,rfl,rfl,rfl⟩|⟨x,rfl,hl,hm,hz,hcell,hwz⟩
 ·simp
 ·rw[List.length_take];omega
def bytesOf(zs:List Int):List UInt8:=zs.map fun n=>yw n.toNat
theorem row_u8{w:World}{a:Option Addr}{len cap:Nat}{zs:List Int}(h:IsRow .u8 w a len cap zs):VR ((gh0 w).im w) (fun _=>none) (.slice .plain 1 ((bytesOf (zs.take len)).map fun b=> .int .u8 b.toNat)) (.slice a len cap):=by
 have hv:=row_vr h;have:(bytesOf (zs.take len)).map (fun b=>PV.int .u8 b.toNat)=(zs.take len).map (PV.int .u8):=by
  unfold bytesOf;rw[List.map_map];apply List.map_congr_left;intro n hn;have hwf:(Lit.int .u8 n).wf=true:=by
   rcases h with⟨rfl,rfl,rfl,rfl⟩|⟨x,rfl,hl,hm,hz,hcell,hwz⟩
   ·simp at hn
   ·exact hwz n (List.mem_of_mem_take hn)
  have hb:0<=n/\n<=255:=by
   simp only[Lit.wf,yb,decide_eq_true_eq]at hwf;exact hwf
  simp only[Function.comp_apply,PV.int.injEq,true_and];have:(yw n.toNat).toNat=n.toNat:=by
   rw[UInt8.toNat_ofNat'];omega
  omega
 rw[this];exact hv
theorem bytes_len{w:World}{a:Option Addr}{len cap:Nat}{zs:List Int}(h:IsRow .u8 w a len cap zs):(bytesOf (zs.take len)).length<=maxLen:=by
 unfold bytesOf;rw[yr];exact row_len h
theorem str_vr(I:Im)(L:Loc){b:ByteArray}:VR I L (.str b.data.toList) (.string b):=VR.str b.data.toList
theorem str_len{b:ByteArray}(h:b.size<=maxLen):b.data.toList.length<=maxLen:=by
 rw[Array.length_toList];exact h
theorem maxLen_eq:maxLen=9223372036854775807:=by decide
def packT(P:Program)(e:TypeId)(l:List PV):PV:=match P.underlying e with
 |some (.struct _)=> .agg l
 |_=>l.headD .undef
def CellsT(P:Program):Nat->TypeId->List PV->Prop
 |0,_,_=>False
 |n+1,t,l=>match P.underlying t with
  |some (.int k)=>∃z,l=[.int k z]/\(Lit.int k z).wf=true
  |some .bool=>∃b,l=[.bool b]
  |some .string=>∃s:List UInt8,l=[.str s]/\s.length<=maxLen
  |some (.struct fs)=>l.length=P.cellsOf t/\∀f∈fs.toList,CellsT P n f.type ((l.drop f.offset).take (P.cellsOf f.type))
  |some (.slice e)=>∃es:List (List PV),l=[.slice .plain (P.cellsOf e) (es.map (packT P e))]/\es.length<=maxLen/\∀c∈es,CellsT P n e c
  |_=>False
def layB(P:Program):List Field->Nat->Nat->Bool
 | [],o,total=>o==total
 |f::r,o,total=>f.offset==o&&layB P r (o+P.cellsOf f.type) total
def plainB(P:Program)(S:List TypeId):Bool:=S.all fun t=>match P.underlying t with
 |some (.int _)=>P.cellsOf t==1
 |some .bool=>P.cellsOf t==1
 |some .string=>P.cellsOf t==1
 |some (.struct fs)=>fs.toList.all (fun f=>S.contains f.type)&&layB P fs.toList 0 (P.cellsOf t)
 |some (.slice e)=>S.contains e&&decide (0<P.cellsOf e)&&(P.cellsOf t==1)
 |_=>false
def R1(w:World)(c:PV)(v:Value):Prop:=VR ((gh0 w).im w) (fun _=>none) c v/\zzd c=true/\v.oneCell'=true
def Rs(w:World)(l:List PV)(cs:List Value):Prop:=l.length=cs.length/\∀(j:Nat) c v,l[j]? =some c->cs[j]? =some v->R1 w c v
theorem Rs.one{w:World}{c:PV}{v:Value}(h:R1 w c v):Rs w [c] [v]:=by
 refine⟨rfl,fun j c' v' hc hv=>?_⟩;cases j with
 |zero=>cases hc;cases hv;exact h
 |succ j=>simp at hc
theorem Rs.append{w:World}{l l':List PV}{cs cs':List Value}(h:Rs w l cs)(h':Rs w l' cs'):Rs w (l++l') (cs++cs'):=by
 refine⟨by simp[h.1,h'.1],fun j c v hc hv=>?_⟩;by_cases hj:j<l.length
 ·rw[yh hj]at hc;rw[yh (by rw[<-h.1];exact hj)]at hv;exact h.2 j c v hc hv
 ·rw[yg (by omega)]at hc;rw[yg (by rw[<-h.1];omega)]at hv;rw[<-h.1]at hv;exact h'.2 _ c v hc hv
theorem lay_join{P:Program}{w:World}{n:Nat}{cs:List Value}:∀(fs:List Field) (o total:Nat),layB P fs o total=true->total=cs.length→
  (∀f∈fs,∃l,Rs w l ((cs.drop f.offset).take (P.cellsOf f.type))/\CellsT P n f.type l)→
  ∃l,Rs w l (cs.drop o)/\∀f∈fs,o<=f.offset/\CellsT P n f.type ((l.drop (f.offset-o)).take (P.cellsOf f.type)):=by
 intro fs
 induction fs with
 |nil=>
  intro o total hl ht _;simp only[layB,beq_iff_eq]at hl;refine⟨[],⟨?_,fun j c v hc=>by simp at hc⟩,fun f hf=>by simp at hf⟩;simp;omega
 |cons f r ih=>
  intro o total hl ht hf;simp only[layB,yb,beq_iff_eq]at hl;obtain⟨ho,hl⟩:=hl;obtain⟨l1,h1,c1⟩:=hf f (by simp);obtain⟨l2,h2,c2⟩:=ih _ _ hl ht (fun g hg=>hf g (by simp[hg]));have hle:∀(fs:List Field) (o total:Nat),layB P fs o total=true->o<=total:=by
   intro fs
   induction fs with
   |nil=>intro o total h;simp only[layB,beq_iff_eq]at h;omega
   |cons g s ihs=>
    intro o total h;simp only[layB,yb,beq_iff_eq]at h;have:=ihs _ _ h.2;omega
  have hn:=hle _ _ _ hl;have hlen1:l1.length=P.cellsOf f.type:=by
   rw[h1.1,List.length_take,yva,ho];omega
  refine⟨l1++l2,?_,?_⟩
  ·have:cs.drop o=(cs.drop f.offset).take (P.cellsOf f.type)++cs.drop (o+P.cellsOf f.type):=by
    rw[ho,<-List.drop_drop,List.take_append_drop]
   rw[this];exact h1.append h2
  ·intro g hg;rcases yB.1 hg with rfl|hg
   ·refine⟨by omega,?_⟩;rw[ho,Nat.sub_self,List.drop_zero,List.take_append_of_le_length (by omega),<-hlen1,List.take_length];exact c1
   ·obtain⟨h3,h4⟩:=c2 g hg;refine⟨by omega,?_⟩;have:(l1++l2).drop (g.offset-o)=l2.drop (g.offset-(o+P.cellsOf f.type)):=by
     rw[List.drop_append,List.drop_of_length_le (by omega),ysa];congr 1;omega
    rw[this];exact h4
theorem cells_packed{P:Program}{n:Nat}{e:TypeId}{l:List PV}{w:World}{cs:List Value}(hr:Rs w l cs)(h:CellsT P n e l)(hsz:cs.length=P.cellsOf e):cellsOf (packT P e l)=l/\zE (packT P e l)=true:=by
 cases n with
 |zero=>exact h.elim
 |succ n=>
  unfold CellsT at h;unfold packT;split at h
  ·rename_i hu;rw[hu];obtain⟨z,rfl,_⟩:=h;exact⟨rfl,rfl⟩
  ·rename_i hu;rw[hu];obtain⟨z,rfl⟩:=h;exact⟨rfl,rfl⟩
  ·rename_i hu;rw[hu];obtain⟨z,rfl,_⟩:=h;exact⟨rfl,rfl⟩
  ·rename_i hu;rw[hu];exact⟨rfl,rfl⟩
  ·rename_i hu;rw[hu];obtain⟨z,rfl,_⟩:=h;exact⟨rfl,rfl⟩
  ·exact h.elim
theorem cells?_get{w:World}{a:Addr}{n:Nat}{cs:List Value}(h:w.cells? 0 a n=some cs):cs.length=n/\∀(j:Nat) v,cs[j]? =some v->w.cell? (a.add j)=some v:=by
 unfold World.cells? at h;rw[if_pos (Nat.zero_le _)]at h;have hl:=mapM_some_length h;rw[List.length_range]at hl;refine⟨hl,fun j v hv=>?_⟩;have hj:j<n:=by rw[<-hl];exact(ya.1 hv).1
 have:=mapM_some_get h j j (by rw[List.getElem?_range hj]);rw[this,hv]
theorem add_add(a:Addr)(ha:a.spot=none)(x:Nat):a.add x=⟨a.block,a.off+x,none⟩:=by
 obtain⟨b,o,s⟩:=a;simp only at ha;subst ha;unfold Addr.add;by_cases h:x=0<;>simp[h]
theorem read_cells{P:Program}{S:List TypeId}(hp:plainB P S=true){H:Type}{enc:TypeId×Value->H}{w:World}{sp:Nat->Bool}:∀(n:Nat) (t:TypeId) (cs:List Value) (x:DataW H×List MemPlace),t∈S→
  DataW.trod enc P w 0 sp true n t cs=some x->∃l,Rs w l cs/\CellsT P n t l/\cs.length=P.cellsOf t:=by
 intro n
 induction n with
 |zero=>intro t cs x _ h;simp[DataW.trod]at h
 |succ n ih=>
  intro t cs x ht h;have hp':=yu.1 hp t ht;split at hp'
  ·rename_i k hu;obtain⟨z,rfl,_,hw⟩:=DataW.trod_int hu h;simp only[beq_iff_eq]at hp';exact⟨[.int k z],Rs.one ⟨.int _ _,rfl,rfl⟩,by unfold CellsT;rw[hu];exact⟨z,rfl,hw⟩,by simp[hp']⟩
  ·rename_i hu;obtain⟨z,rfl,_⟩:=DataW.trod_bool hu h;simp only[beq_iff_eq]at hp';exact⟨[.bool z],Rs.one ⟨.bool _,rfl,rfl⟩,by unfold CellsT;rw[hu];exact⟨z,rfl⟩,by simp[hp']⟩
  ·rename_i hu;obtain⟨s,rfl,_,hm⟩:=DataW.trod_string hu h;simp only[beq_iff_eq]at hp';exact⟨[.str s.data.toList],Rs.one ⟨str_vr _ _,rfl,rfl⟩,by unfold CellsT;rw[hu];exact⟨_,rfl,str_len hm⟩,by simp[hp']⟩
  ·rename_i fs hu;simp only[yb,yu,List.contains_iff_mem]at hp';obtain⟨hS,hlay⟩:=hp';obtain⟨xs,m,hm,_,hlen,hxs,hget⟩:=DataW.trod_struct hu h;cases hm;obtain⟨l,hl,hc⟩:=lay_join (w:=w) (n:=n) (cs:=cs) fs.toList 0 _ hlay hlen.symm (by
    intro f hf;obtain⟨i,hi⟩:=List.getElem?_of_mem hf;have hi':fs[i]? =some f:=by simpa using hi
    have hg:=hget i f hi';have hlt:i<xs.length:=by rw[hxs];simpa using(ya.1 hi).1
    rw[yf hlt]at hg;obtain⟨l,h1,h2,_⟩:=ih _ _ _ (hS f hf) hg;exact⟨l,h1,h2⟩)
   rw[List.drop_zero]at hl;refine⟨l,hl,?_,hlen⟩;unfold CellsT;rw[hu];exact⟨by rw[hl.1,hlen],fun f hf=>by have:=(hc f hf).2;rwa[Nat.sub_zero]at this⟩
  ·rename_i e hu;simp only[yb,List.contains_iff_mem,decide_eq_true_eq,beq_iff_eq]at hp';obtain⟨⟨hS,hpos⟩,h1⟩:=hp';rcases DataW.trod_slice hu h with⟨rfl,_⟩|⟨a,len,cap,elems,rest,m,hm,rfl,_,_,hle,hcap,hel,hget,_,_⟩
   ·exact⟨[.slice .plain (P.cellsOf e) []],Rs.one ⟨.slice0 _ _ _ _ (by simp) (by simp),rfl,rfl⟩,by unfold CellsT;rw[hu];exact⟨[],rfl,by simp,by simp⟩,by simp[h1]⟩
   ·cases hm;have key:∀i,i<len->∃l:List PV,l.length=P.cellsOf e/\CellsT P n e l/\cellsOf (packT P e l)=l/\zE (packT P e l)=true/\∀(j:Nat) c,l[j]? =some c->∃v,w.cell? ((a.add (i*P.cellsOf e)).add j)=some v/\R1 w c v:=by
     intro i hi;have hg:=hget i hi;have hlt:i<elems.length:=by omega
     rw[yf hlt,yga]at hg;obtain⟨cs',h2,h3⟩:=hg;obtain⟨l,h4,h5,h6⟩:=ih _ _ _ hS h3;obtain⟨h7,h8⟩:=cells?_get h2;obtain⟨h9,h10⟩:=cells_packed h4 h5 h6;refine⟨l,by rw[h4.1,h6],h5,h9,h10,fun j c hc=>?_⟩;have hj:j<cs'.length:=by rw[<-h4.1];exact(ya.1 hc).1
     exact⟨cs'[j],h8 j _ (yf hj),h4.2 j c _ hc (yf hj)⟩
    let g:Nat->List PV:=fun i=>if hi:i<len then(key i hi).choose else[]
    have hg:∀i,i<len->(g i).length=P.cellsOf e/\CellsT P n e (g i)/\cellsOf (packT P e (g i))=g i/\zE (packT P e (g i))=true/\∀(j:Nat) c,(g i)[j]? =some c->∃v,w.cell? ((a.add (i*P.cellsOf e)).add j)=some v/\R1 w c v:=by
     intro i hi;have:=(key i hi).choose_spec;simp only[g,dif_pos hi];exact this
    have hel':∀(i:Nat) x,(((yD len).map g).map (packT P e))[i]? =some x->i<len/\x=packT P e (g i):=by
     intro i x hx;rw[List.map_map,yo,yc]at hx;obtain⟨k,hk,rfl⟩:=hx;obtain⟨hk1,hk2⟩:=ya.1 hk;rw[List.length_range]at hk1;rw[List.getElem_range]at hk2;subst hk2;exact⟨hk1,rfl⟩
    refine⟨[.slice .plain (P.cellsOf e) (((yD len).map g).map (packT P e))],Rs.one ⟨?_,rfl,rfl⟩,?_,by simp[h1]⟩
    ·by_cases h0:len=0
     ·subst h0;exact .slice0 _ _ _ _ (by simp) (by simp)
     ·obtain⟨q1,q2,q3,q4,q5⟩:=hg 0 (by omega);have hspot:a.spot=none:=by
       have hlt:0<(g 0).length:=by omega
       obtain⟨v,hv,_⟩:=q5 0 _ (yf hlt);have hsp:=World.cell?_spot hv;obtain⟨b,o,s⟩:=a;simpa[Addr.add]using hsp
      obtain⟨b,o,s⟩:=a;simp only at hspot;subst hspot;have hcell:∀(i:Nat) x (j:Nat) c,(((yD len).map g).map (packT P e))[i]? =some x->(cellsOf x)[j]? =some c->∃v,(gh0 w).im w b (o+i*P.cellsOf e+j)=some v/\R1 w c v:=by
       intro i x j c hx hc;obtain⟨hi,rfl⟩:=hel' i x hx;obtain⟨r1,r2,r3,r4,r5⟩:=hg i hi;rw[r3]at hc;obtain⟨v,hv,hr⟩:=r5 j c hc;refine⟨v,gh0_im ?_,hr⟩;rw[add_add ⟨b,o,none⟩ rfl,add_add ⟨b,o+i*P.cellsOf e,none⟩ rfl]at hv;exact hv
      have hlen:(((yD len).map g).map (packT P e)).length=len:=by simp
      have:=VR.slice (I:=(gh0 w).im w) (L:=fun _=>none) (k:= .plain) (sz:=P.cellsOf e) (l:=((yD len).map g).map (packT P e)) (b:=b) (o:=o) (cap:=cap)
       (by simp) (by simp) (by rw[hlen];exact hle) (fun i j=>((gh0 w).im w b (o+i*P.cellsOf e+j)).getD (.bool false)) ?_ ?_ ?_
      ·rw[hlen]at this;exact this
      ·intro i x hx;obtain⟨hi,rfl⟩:=hel' i x hx;obtain⟨r1,r2,r3,r4,r5⟩:=hg i hi;exact⟨by rw[r3,r1],r4⟩
      ·intro i x j c hx hc;obtain⟨v,hv,hr⟩:=hcell i x j c hx hc;simp only[hv,yea];exact⟨trivial,hr.2.2⟩
      ·intro i x j c hx hc;obtain⟨v,hv,hr⟩:=hcell i x j c hx hc;simp only[hv,yea];exact hr.1
    ·unfold CellsT;rw[hu];refine⟨(yD len).map g,rfl,by simp;omega,?_⟩;intro c hc;rw[List.mem_map]at hc;obtain⟨i,hi,rfl⟩:=hc;exact(hg i (List.mem_range.1 hi)).2.1
  ·cases hp'
theorem packT_struct{P:Program}{e:TypeId}{fs:Array Field}(hu:P.underlying e=some (.struct fs))(l:List PV):packT P e l= .agg l:=by
 unfold packT;rw[hu]
theorem le_max{n:Nat}(h:n<=maxLen):n<=9223372036854775807:=by rw[maxLen_eq]at h;exact h
theorem read_row{P:Program}{S:List TypeId}(hp:plainB P S=true){H:Type}{enc:TypeId×Value->H}{w:World}{sp:Nat->Bool}{t e:TypeId}(hu:P.underlying t=some (.slice e))(ht:t∈S){v:Value}{d:DataW H}{ps:List MemPlace}(h:DataW.Trod enc P w 0 sp true t v d ps){a:Option Addr}{len cap:Nat}(hv:v= .slice a len cap):
  ∃(n:Nat) (es:List (List PV)),VR ((gh0 w).im w) (fun _=>none) (.slice .plain (P.cellsOf e) (es.map (packT P e))) v/\es.length<=maxLen/\∀c∈es,CellsT P n e c:=by
 subst hv;obtain⟨n,hf⟩:=h;obtain⟨l,h1,h2,h3⟩:=read_cells hp n t _ _ ht hf;cases n with
 |zero=>exact h2.elim
 |succ n=>
  unfold CellsT at h2;rw[hu]at h2;obtain⟨es,rfl,hm,hc⟩:=h2;exact⟨n,es,(h1.2 0 _ _ rfl (by simp[Value.cells])).1,hm,hc⟩
end PE
