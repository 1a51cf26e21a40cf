/-
  Texts joined by program: AKJ5, AKJ6, AKJ7, AKJ8, AKJ9, AKV4, AKV5, AKV6, AKV7, AKV8, AKV9, AKV10, AKQ1, AKQ2, AKQ3, AKQ4, AKQ5, PfHand, AKV11, AKQ6, AKJ1, AKJ2, AKY9, AKV12, AKM5, AKK5, AKM6, AKK6, AKM7, AKK7, AKM8, AKK8, AKY10, AKZ20, PfEnd, PfRead.
-/
import Derived.Test.YthfognkjnkadeaaGreatDoorD05
import Derived.WalkKit
import Derived.ProofKit
import Derived.OpenShut
import Derived.ShutString
import Derived.ChangeOld
import Derived.Below
set_option linter.unusedVariables false
set_option linter.unusedSectionVars false
set_option linter.unusedSimpArgs false
open Bool renaming and_eq_true→yb,false_eq_true→yAa,not_eq_true'→yH,or_eq_false_iff→yna,or_eq_true→yS,true_and→yka
open Eq renaming trans→ye
open Function renaming comp_def→yM
open List renaming all_append→yY,all_cons→yea,all_eq_true→yq,append_assoc→yR,cons_append→yT,ext_getElem?→yba,getElem?_append_left→yf,getElem?_append_right→yh,getElem?_cons_succ→yU,getElem?_eq_getElem→yg,getElem?_eq_none→yP,getElem?_eq_some_iff→ya,getElem?_map→yo,getElem?_set→ypa,getElem?_set_ne→yk,getElem?_set_self→yl,getElem?_take→yE,length→yV,length_append→yi,length_cons→yj,length_drop→yra,length_eq_one_iff→yF,length_map→yu,length_nil→yn,length_set→ywa,length_singleton→yC,map_append→yda,map_cons→yp,map_nil→yxa,mem_cons→yw,mem_map→yHa,mem_of_getElem?→yga,nil_append→yla,range→yI,replicate→yX,set_append_right→yqa,set_cons_succ→ykb,take_length→yGa,take_of_length_le→yy
open Nat renaming le_refl→yd,le_trans→yfa,lt_or_ge→yB,mul_le_mul_right→yv
open Option renaming bind_eq_some_iff→yia,getD_some→yoa,map_eq_some_iff→yc,map_some→yN
open UInt8 renaming ofNat→yG
namespace PE.U
open Go PE
theorem aI{cf:zL}{s0 s:St}{r:List GOp}{Q:Ex->St->Prop}{a:_}{b:_}{o:_}{x:_}{c:Prop}[Decidable c](hc:c)(h:after cf s0 r Q (doOp a b o s (some x))):after cf s0 r Q (doOp a b o s (if c then some x else none)):=by rw[if_pos hc];exact h
def BN:Nat->Nat
 |0=>100
 |d+1=>2*BN d+100
def isStr(l:List UInt8)(i b:Nat)(r:CRes)(st:zc):Prop:=∃s i',r= .ret (.str s)/\st=mob l i'/\s.length<=b/\i'<=i+b
@[simp] theorem isStr_str(l:List UInt8)(i b:Nat)(s:List UInt8)(st:zc):isStr l i b (.ret (.str s)) st=∃i',st=mob l i'/\s.length<=b/\i'<=i+b:=by
 unfold isStr;apply propext;constructor
 ·rintro⟨s',i',h,h2⟩
  cases h;exact⟨i',h2⟩
 ·rintro⟨i',h2⟩
  exact⟨s,i',rfl,h2⟩
@[simp] theorem mob_inj(l:List UInt8)(i j:Nat):(mob l i=mob l j)=(i=j):=by
 apply propext;constructor
 ·intro h;simp[mob]at h;omega
 ·rintro rfl;rfl
structure NT(l:List UInt8)(d:Nat):Prop where
 num:∀i v b,i+BN d<=900000000000->v.length<=4->b.length<=4->PC (zi E 25 [.ptr 0 0 0,.str v,.str b,.int .i64 d] (mob l i)) (isStr l i (BN d))
 truth:∀i v b,i+BN d<=900000000000->v.length<=4->b.length<=4->PC (zi E 26 [.ptr 0 0 0,.str v,.str b,.int .i64 d] (mob l i)) (isStr l i (BN d))
theorem NT.num'{l:List UInt8}{d:Nat}(S:NT l d)(i:Nat)(v b:List UInt8)(hi:i+BN d<=900000000000)(hv:v.length<=4)(hb:b.length<=4):
  ∃s i',zi E 25 [.ptr 0 0 0,.str v,.str b,.int .i64 d] (mob l i)=some (.ret (.str s),mob l i')/\s.length<=BN d/\i'<=i+BN d:=by
 obtain⟨r,st,h,s,i',rfl,rfl,h1,h2⟩:=zee.1 (S.num i v b hi hv hb);exact⟨s,i',h,h1,h2⟩
theorem NT.truth'{l:List UInt8}{d:Nat}(S:NT l d)(i:Nat)(v b:List UInt8)(hi:i+BN d<=900000000000)(hv:v.length<=4)(hb:b.length<=4):
  ∃s i',zi E 26 [.ptr 0 0 0,.str v,.str b,.int .i64 d] (mob l i)=some (.ret (.str s),mob l i')/\s.length<=BN d/\i'<=i+BN d:=by
 obtain⟨r,st,h,s,i',rfl,rfl,h1,h2⟩:=zee.1 (S.truth i v b hi hv hb);exact⟨s,i',h,h1,h2⟩
theorem one_of(ls:List (List UInt8))(m:Nat)(h:ls.all (fun t=>t.length<=m)=true)(j:Nat)(hj:j<ls.length):∃t,t.length<=m/\(ls.map PV.str)[j]'(by simpa using hj)=PV.str t:=by
 refine⟨ls[j],?_,by simp⟩;have:=yq.1 h ls[j] (List.getElem_mem hj);simpa using this
def numsL:List (List UInt8):=[[48],[49],[50],[55],[50,53,53],[54,52]]
def onesL:List (List UInt8):=[[45],[126],[105,56],[117,49,54],[105,51,50]]
def twosL:List (List UInt8):=[[43],[45],[42],[47],[37],[38],[124],[94],[60,60],[62,62],[62,62,62]]
def trusL:List (List UInt8):=[[116,114,117,101],[102,97,108,115,101]]
def cmpsL:List (List UInt8):=[[60],[60,61],[62],[62,61],[61,61],[33,61]]
set_option maxHeartbeats 4000000 in
theorem num0(l:List UInt8)(hl:l.length<=9223372036854775807):∀i v b,i+BN 0<=900000000000->v.length<=4->b.length<=4->PC (zi E 25 [.ptr 0 0 0,.str v,.str b,.int .i64 0] (mob l i)) (isStr l i (BN 0)):=by
 intro i v b hi hv hb;refine zqa rfl rfl rfl (by simp) ?_;have hB:BN 0=100:=rfl;rw[hB]at hi;obtain⟨k,k1,hk⟩:=zRb l i 14 (by omega) (by omega) hl;have hr:remK (k:Int) 6=((k%6:Nat):Int):=remNat k 6;simp at hk;have hm:k%6<6:=Nat.mod_lt _ (by omega);generalize k%6=z at*;clear k1;obtain⟨j,j1,hj⟩:=zRb l (i+1) 6 (by omega) (by omega) hl;obtain⟨t,t1,ht⟩:=one_of numsL 3 (by decide) j j1;simp[numsL]at hj ht;have m1:v.length+7<=9223372036854775807:=by omega
 have m2:2+v.length<=9223372036854775807:=by omega
 have:z=0\/z=1\/z=2\/z=3\/z=4\/z=5:=by omega
 clear hl hm;rcases this with rfl|rfl|rfl|rfl|rfl|rfl<;>(simp[*,F25])<;>(repeat' (refine aI (by omega) ?_<;>simp[*,F25]))<;>(try omega)
set_option maxHeartbeats 4000000 in
theorem numS(l:List UInt8)(hl:l.length<=9223372036854775807)(d:Nat)(hd:BN d<=1000000)(hd2:d<=100)(S:NT l d):∀i v b,i+BN (d+1)<=900000000000->v.length<=4->b.length<=4->PC (zi E 25 [.ptr 0 0 0,.str v,.str b,.int .i64 (d+1:Nat)] (mob l i)) (isStr l i (BN (d+1))):=by
 intro i v b hi hv hb;refine zqa rfl rfl rfl (by simp) ?_;have hB:BN (d+1)=2*BN d+100:=rfl;rw[hB]at hi;obtain⟨k,k1,hk⟩:=zRb l i 14 (by omega) (by omega) hl;simp at hk;have q1:((d:Int)+1<1)=False:=eqn (by omega);have q2:((d:Int)<0)=False:=eqn (by omega);have q3:zC .i64 (d:Int)=d:=zj (by omega) (by omega);have hkk:k<2\/k=2\/k=3\/k=4\/k=5\/k=6\/k=7\/(8<=k/\k<11)\/k=11\/k=12\/k=13:=by omega
 have m1:v.length+7<=9223372036854775807:=by omega
 have m2:2+v.length<=9223372036854775807:=by omega
 clear k1;rcases hkk with hkk|hkk
 ·obtain⟨j,j1,hj⟩:=zRb l (i+1) 6 (by omega) (by omega) hl;obtain⟨t,t1,ht⟩:=one_of numsL 3 (by decide) j j1;simp[numsL]at hj ht;have n1:((k:Int)<2)=True:=eqp (by omega);clear hl hkk
  (simp[*,F25])<;>(repeat' (refine aI (by omega) ?_<;>simp[*,F25]))<;>(try omega)
 have n1:((k:Int)<2)=False:=eqn (by omega);by_cases hk5:k<5
 ·have n2:((k:Int)<5)=True:=eqp (by omega);clear hl hkk hk5
  (simp[*,F25])<;>(repeat' (refine aI (by omega) ?_<;>simp[*,F25]))<;>(try omega)
 have n2:((k:Int)<5)=False:=eqn (by omega);by_cases hk8:8<=k/\k<11
 ·obtain⟨s1,i1,h1,b1,c1⟩:=S.num' (i+1) v b (by omega) hv hb;obtain⟨j,j1,hj⟩:=zRb l i1 11 (by omega) (by omega) hl;obtain⟨t,t1,ht⟩:=one_of twosL 3 (by decide) j j1;obtain⟨s2,i2,h2,b2,c2⟩:=S.num' (i1+1) v b (by omega) hv hb;simp[twosL]at hj ht;have n3:((k:Int)<11)=True:=eqp (by omega);have n4:((k:Int)=5)=False:=eqn (by omega);have n5:((k:Int)=6)=False:=eqn (by omega);have n6:((k:Int)=7)=False:=eqn (by omega);clear hl hkk hk5 hk8
  (simp[*,F25])<;>(repeat' (refine aI (by omega) ?_<;>simp[*,F25]))<;>(try omega)
 have hkk:k=5\/k=6\/k=7\/k=11\/k=12\/k=13:=by omega
 rcases hkk with rfl|rfl|rfl|rfl|rfl|rfl
 ·clear hl hk5 hk8 n1 n2;simp at hk
  (simp[*,F25])<;>(repeat' (refine aI (by omega) ?_<;>simp[*,F25]))<;>(try omega)
 ·obtain⟨s1,i1,h1,b1,c1⟩:=S.num' (i+1) v b (by omega) hv hb;clear hl hk5 hk8 n1 n2;simp at hk
  (simp[*,F25])<;>(repeat' (refine aI (by omega) ?_<;>simp[*,F25]))<;>(try omega)
 ·obtain⟨j,j1,hj⟩:=zRb l (i+1) 5 (by omega) (by omega) hl;obtain⟨t,t1,ht⟩:=one_of onesL 3 (by decide) j j1;obtain⟨s1,i1,h1,b1,c1⟩:=S.num' (i+1+1) v b (by omega) hv hb;simp[onesL]at hj ht;clear hl hk5 hk8 n1 n2;simp at hk
  (simp[*,F25])<;>(repeat' (refine aI (by omega) ?_<;>simp[*,F25]))<;>(try omega)
 ·clear hl hk5 hk8 n1 n2;simp at hk;simp[*,F25]
 ·clear hl hk5 hk8 n1 n2;simp at hk
  (simp[*,F25])<;>(repeat' (refine aI (by omega) ?_<;>simp[*,F25]))<;>(try omega)
 ·obtain⟨s1,i1,h1,b1,c1⟩:=S.num' (i+1) v b (by omega) hv hb;obtain⟨s2,i2,h2,b2,c2⟩:=S.truth' i1 v b (by omega) hv hb;clear hl hk5 hk8 n1 n2;simp at hk
  (simp[*,F25])<;>(repeat' (refine aI (by omega) ?_<;>simp[*,F25]))<;>(try omega)
set_option maxHeartbeats 4000000 in
theorem truth0(l:List UInt8)(hl:l.length<=9223372036854775807):∀i v b,i+BN 0<=900000000000->v.length<=4->b.length<=4->PC (zi E 26 [.ptr 0 0 0,.str v,.str b,.int .i64 0] (mob l i)) (isStr l i (BN 0)):=by
 intro i v b hi hv hb;refine zqa rfl rfl rfl (by simp) ?_;have hB:BN 0=100:=rfl;rw[hB]at hi;obtain⟨k,k1,hk⟩:=zRb l i 10 (by omega) (by omega) hl;have hr:remK (k:Int) 3=((k%3:Nat):Int):=remNat k 3;simp at hk;have hm:k%3<3:=Nat.mod_lt _ (by omega);generalize k%3=z at*;clear k1;obtain⟨j,j1,hj⟩:=zRb l (i+1) 2 (by omega) (by omega) hl;obtain⟨t,t1,ht⟩:=one_of trusL 5 (by decide) j j1;simp[trusL]at hj ht;have:z=0\/z=1\/z=2:=by omega
 clear hl hm;rcases this with rfl|rfl|rfl<;>(simp[*,F26])<;>(repeat' (refine aI (by omega) ?_<;>simp[*,F26]))<;>(try omega)
set_option maxHeartbeats 4000000 in
theorem truthS(l:List UInt8)(hl:l.length<=9223372036854775807)(d:Nat)(hd:BN d<=1000000)(hd2:d<=100)(S:NT l d):∀i v b,i+BN (d+1)<=900000000000->v.length<=4->b.length<=4->PC (zi E 26 [.ptr 0 0 0,.str v,.str b,.int .i64 (d+1:Nat)] (mob l i)) (isStr l i (BN (d+1))):=by
 intro i v b hi hv hb;refine zqa rfl rfl rfl (by simp) ?_;have hB:BN (d+1)=2*BN d+100:=rfl;rw[hB]at hi;obtain⟨k,k1,hk⟩:=zRb l i 10 (by omega) (by omega) hl;simp at hk;have q1:((d:Int)+1<1)=False:=eqn (by omega);have q2:((d:Int)<0)=False:=eqn (by omega);have q3:zC .i64 (d:Int)=d:=zj (by omega) (by omega);by_cases hk3:k<3
 ·have:k=0\/k=1\/k=2:=by omega
  obtain⟨j,j1,hj⟩:=zRb l (i+1) 2 (by omega) (by omega) hl;obtain⟨t,t1,ht⟩:=one_of trusL 5 (by decide) j j1;simp[trusL]at hj ht;clear hl k1 hk3;rcases this with rfl|rfl|rfl<;>simp at hk<;>(simp[*,F26])<;>(repeat' (refine aI (by omega) ?_<;>simp[*,F26]))<;>(try omega)
 have n0:((k:Int)<3)=False:=eqn (by omega);by_cases hk7:4<=k/\k<7
 ·obtain⟨s1,i1,h1,b1,c1⟩:=S.num' (i+1) v b (by omega) hv hb;obtain⟨j,j1,hj⟩:=zRb l i1 6 (by omega) (by omega) hl;obtain⟨t,t1,ht⟩:=one_of cmpsL 3 (by decide) j j1;obtain⟨s2,i2,h2,b2,c2⟩:=S.num' (i1+1) v b (by omega) hv hb;simp[cmpsL]at hj ht;have n3:((k:Int)<7)=True:=eqp (by omega);have n4:((k:Int)=0)=False:=eqn (by omega);have n5:((k:Int)=3)=False:=eqn (by omega);have n6:(k=0)=False:=eqn (by omega);clear hl k1 hk3 hk7
  (simp[*,F26])<;>(repeat' (refine aI (by omega) ?_<;>simp[*,F26]))<;>(try omega)
 have hkk:k=3\/k=7\/k=8\/k=9:=by omega
 rcases hkk with rfl|rfl|rfl|rfl
 ·clear hl k1 hk3 hk7 n0;simp at hk
  (simp[*,F26])<;>(repeat' (refine aI (by omega) ?_<;>simp[*,F26]))<;>(try omega)
 ·obtain⟨s1,i1,h1,b1,c1⟩:=S.truth' (i+1) v b (by omega) hv hb;obtain⟨s2,i2,h2,b2,c2⟩:=S.truth' i1 v b (by omega) hv hb;clear hl k1 hk3 hk7 n0;simp at hk
  (simp[*,F26])<;>(repeat' (refine aI (by omega) ?_<;>simp[*,F26]))<;>(try omega)
 ·obtain⟨s1,i1,h1,b1,c1⟩:=S.truth' (i+1) v b (by omega) hv hb;obtain⟨s2,i2,h2,b2,c2⟩:=S.truth' i1 v b (by omega) hv hb;clear hl k1 hk3 hk7 n0;simp at hk
  (simp[*,F26])<;>(repeat' (refine aI (by omega) ?_<;>simp[*,F26]))<;>(try omega)
 ·obtain⟨s1,i1,h1,b1,c1⟩:=S.num' (i+1) v b (by omega) hv hb;clear hl k1 hk3 hk7 n0;simp at hk
  (simp[*,F26])<;>(repeat' (refine aI (by omega) ?_<;>simp[*,F26]))<;>(try omega)
theorem nt(l:List UInt8)(hl:l.length<=9223372036854775807):∀d,d<=3->NT l d:=by
 intro d
 induction d with
 |zero=>intro _;exact⟨num0 l hl,truth0 l hl⟩
 |succ d ih=>
  intro h;have hb:BN d<=1000000:=by
   have:d=0\/d=1\/d=2:=by omega
   rcases this with rfl|rfl|rfl<;>decide
  exact⟨numS l hl d hb (by omega) (ih (by omega)),truthS l hl d hb (by omega) (ih (by omega))⟩
def SB:Nat->Nat
 |0=>2000
 |d+1=>8*SB d+3000
structure ST(l:List UInt8)(d:Nat):Prop where
 stmt:∀i v b loop,i+SB d<=800000000000->v.length<=4->b.length<=4->PC (zi E 50 [.ptr 0 0 0,.str v,.str b,.int .i64 d,.bool loop] (mob l i)) (isStr l i (SB d))
theorem ST.to{l:List UInt8}{d:Nat}(S:ST l d)(i:Nat)(v b:List UInt8)(loop:Bool)(hi:i+SB d<=800000000000)(hv:v.length<=4)(hb:b.length<=4):
  ∃s i',zi E 50 [.ptr 0 0 0,.str v,.str b,.int .i64 d,.bool loop] (mob l i)=some (.ret (.str s),mob l i')/\s.length<=SB d/\i'<=i+SB d:=by
 obtain⟨r,st,h,s,i',rfl,rfl,h1,h2⟩:=zee.1 (S.stmt i v b loop hi hv hb);exact⟨s,i',h,h1,h2⟩
structure BkS where
 m:Nat
 s:List UInt8
 j:Nat
set_option maxHeartbeats 4000000 in
theorem mblock_of(l:List UInt8)(hl:l.length<=9223372036854775807)(d:Nat)(hd:SB d<=10000000)(hd2:d<=100)(S:ST l d)(i:Nat)(v b:List UInt8)(loop:Bool)(hi:i+(4*SB d+10)<=800000000000)(hv:v.length<=4)(hb:b.length<=4):
  PC (zi E 24 [.ptr 0 0 0,.str v,.str b,.int .i64 d,.bool loop] (mob l i)) (isStr l i (4*SB d+10)):=by
 refine zqa rfl rfl rfl (by simp) ?_;obtain⟨k,k1,hk⟩:=zRb l i 5 (by omega) (by omega) hl;simp at hk;simp[hk,F24];have hkm:k*SB d<=4*SB d:=yv _ (by omega);refine zha K24_0 B24_0 (fun c:BkS=>c.m) (fun c=>[(11,.str c.s),(12,.int .i64 c.m)]) (fun _=>[]) (fun c=>mob l c.j) (fun c=>c.m<=4/\c.s.length+c.m*SB d<=4*SB d/\c.j+c.m*SB d<=i+1+4*SB d) ⟨k,[],i+1⟩ ⟨by simp,by simp,by simp,by simp only[yn];omega⟩ ?_
 rintro⟨m,s,j⟩ s1 ⟨hm,hs,hj⟩ h1 h2 h3 h4 h5
 simp only at hm hs hj;simp at h1 h3 h5;clear hk h2 h4 hkm;cases m with
 |zero=>
  simp at h3 hs hj;simp[*];omega
 |succ m=>
  rw[Nat.succ_mul]at hs hj;generalize hX:m*SB d=X at*;obtain⟨t,j',ht,t1,t2⟩:=S.to j v b loop (by omega) hv hb;have q1:((m:Int)+1>0)=True:=eqp (by omega);have q2:((0:Int)<(m:Int)+1)=True:=eqp (by omega);have q3:zC .i64 (m:Int)=m:=zj (by omega) (by omega);have q4:s.length+t.length<=9223372036854775807:=by omega
  simp at h3;clear hl S;simp[*];refine⟨⟨m,s++t,j'⟩,by simp,?_⟩;simp only[yi];simp[*];omega
def BkOk(l:List UInt8)(d:Nat):Prop:=∀i v b loop,i+(4*SB d+10)<=800000000000->v.length<=4->b.length<=4→
  ∃s i',zi E 24 [.ptr 0 0 0,.str v,.str b,.int .i64 d,.bool loop] (mob l i)=some (.ret (.str s),mob l i')/\s.length<=4*SB d+10/\i'<=i+(4*SB d+10)
theorem SB_le:∀d,2000<=SB d
 |0=>by decide
 |d+1=>by have:=SB_le d;simp only[SB];omega
set_option maxHeartbeats 8000000 in
theorem stmt_plain(l:List UInt8)(hl:l.length<=9223372036854775807)(d:Nat)(hd2:d<=100)(i:Nat)(v b:List UInt8)(loop:Bool)(hi:i+SB d<=800000000000)(hv:v.length<=4)(hb:b.length<=4)(k:Nat)(k1:k<13)
  (hk:zi E 49 [.ptr 0 0 0,.int .i64 13] (mob l i)=some (.ret (.int .i64 k),mob l (i+1))) (hc:d=0\/k<6\/(k=6/\loop=true)\/k=12):
  PC (zi E 50 [.ptr 0 0 0,.str v,.str b,.int .i64 d,.bool loop] (mob l i)) (isStr l i (SB d)):=by
 refine zqa rfl rfl rfl (by simp) ?_;have hB:=SB_le d;have hB1:BN 1=300:=rfl;have hB2:BN 2=700:=rfl;have S1:=nt l hl 1 (by omega);have S2:=nt l hl 2 (by omega);have hkk:k=0\/k=1\/k=2\/k=3\/k=4\/k=5\/k=6\/k=7\/k=8\/k=9\/k=10\/k=11\/k=12:=by omega
 obtain⟨s1,i1,h1,b1,c1⟩:=S2.num' (i+1) v b (by omega) hv hb;obtain⟨s2,i2,h2,b2,c2⟩:=S2.truth' (i+1) v b (by omega) hv hb;obtain⟨s3,i3,h3,b3,c3⟩:=S1.num' (i+1) v b (by omega) hv hb;obtain⟨s4,i4,h4,b4,c4⟩:=S2.num' i3 v b (by omega) hv hb;obtain⟨j,j1,hj⟩:=zRb l (i+1) 4 (by omega) (by omega) hl;rw[hB1]at b3 c3;rw[hB2]at b1 c1 b2 c2 b4 c4;simp at h1 h2 h3 h4 hj;clear S1 S2 hl hB1 hB2;have hz:d=0\/0<d:=by omega
 rcases hkk with rfl|rfl|rfl|rfl|rfl|rfl|rfl|rfl|rfl|rfl|rfl|rfl|rfl
 case inr.inr.inr.inr.inr.inr.inl=>
  simp at hk;cases loop
  ·have:d=0:=by simpa using hc
   subst this;clear hc hz k1
   (simp[*,F50])<;>(repeat' (refine aI (by omega) ?_<;>simp[*,F50]))<;>(try omega)
  ·have:j=0\/j=1\/j=2\/j=3:=by omega
   clear j1 hc hz k1;rcases this with rfl|rfl|rfl|rfl<;>simp at hj<;>(simp[*,F50])<;>(repeat' (refine aI (by omega) ?_<;>simp[*,F50]))<;>(try omega)
 case inr.inr.inr.inr.inr.inr.inr.inr.inr.inr.inr.inr=>
  have:j=0\/j=1\/j=2\/j=3:=by omega
  clear hc hz k1 j1;simp at hk;by_cases hvz:v=[122]
  ·subst hvz
   (simp[*,F50])<;>(repeat' (refine aI (by omega) ?_<;>simp[*,F50]))<;>(try omega)
  ·rcases this with rfl|rfl|rfl|rfl<;>simp at hj<;>(simp[*,F50])<;>(repeat' (refine aI (by omega) ?_<;>simp[*,F50]))<;>(try omega)
 case inl|inr.inl|inr.inr.inl|inr.inr.inr.inl|inr.inr.inr.inr.inl|inr.inr.inr.inr.inr.inl=>
  clear hc hz k1 j1 hj;simp at hk
  (simp[*,F50])<;>(repeat' (refine aI (by omega) ?_<;>simp[*,F50]))<;>(try omega)
 all_goals
  have:d=0:=by omega
  subst this;clear hc hz k1 j1 hj;simp at hk
  (simp[*,F50])<;>(repeat' (refine aI (by omega) ?_<;>simp[*,F50]))<;>(try omega)
set_option maxHeartbeats 8000000 in
theorem stmt_deep(l:List UInt8)(hl:l.length<=9223372036854775807)(d:Nat)(hd:SB d<=10000000)(hd2:d<=100)(hbk:BkOk l d)(i:Nat)(v b:List UInt8)(loop:Bool)(hi:i+SB (d+1)<=800000000000)(hv:v.length<=4)(hb:b.length<=4)(k:Nat)(k1:k<13)
  (hk:zi E 49 [.ptr 0 0 0,.int .i64 13] (mob l i)=some (.ret (.int .i64 k),mob l (i+1))) (hc:(k=6/\loop=false)\/k=7\/k=8\/k=9\/k=10\/k=11):
  PC (zi E 50 [.ptr 0 0 0,.str v,.str b,.int .i64 (d+1:Nat),.bool loop] (mob l i)) (isStr l i (SB (d+1))):=by
 refine zqa rfl rfl rfl (by simp) ?_;have hB:SB (d+1)=8*SB d+3000:=rfl;rw[hB]at hi;have hB1:BN 1=300:=rfl;have hB2:BN 2=700:=rfl;have S1:=nt l hl 1 (by omega);have S2:=nt l hl 2 (by omega);have q1:((d:Int)+1>0)=True:=eqp (by omega);have q2:((0:Int)<(d:Int)+1)=True:=eqp (by omega);have q3:zC .i64 (d:Int)=d:=zj (by omega) (by omega);by_cases k7:k=7
 ·subst k7;obtain⟨s1,i1,h1,b1,c1⟩:=S1.num' (i+1) v b (by omega) hv hb;obtain⟨s2,i2,h2,b2,c2⟩:=S1.truth' i1 [122] b (by omega) (by simp) hb;obtain⟨s3,i3,h3,b3,c3⟩:=hbk i2 [122] [119] loop (by omega) (by simp) (by simp);rw[hB1]at b1 c1 b2 c2;simp at h1 h2 hk;clear S1 S2 hl hB1 hB2 hbk hc k1
  (simp[*,F50])<;>(repeat' (refine aI (by omega) ?_<;>simp[*,F50]))<;>(try omega)
 by_cases k9:k<=9
 ·obtain⟨s1,i1,h1,b1,c1⟩:=S2.truth' (i+1) v b (by omega) hv hb;obtain⟨s2,i2,h2,b2,c2⟩:=hbk i1 v b loop (by omega) hv hb;obtain⟨j,j1,hj⟩:=zRb l i2 2 (by omega) (by omega) hl;obtain⟨s3,i3,h3,b3,c3⟩:=hbk (i2+1) v b loop (by omega) hv hb;have hj2:j=0\/j=1:=by omega
  have:k=6/\loop=false\/k=8\/k=9:=by
   rcases hc with h|h|h|h|h|h
   ·exact .inl h
   all_goals omega
  rw[hB2]at b1 c1;simp at h1 hj;clear S1 S2 hl hB1 hB2 hbk hc k1 k7 k9 j1;rcases this with⟨rfl,rfl⟩|rfl|rfl<;>simp at hk<;>rcases hj2 with rfl|rfl<;>simp at hj<;>(simp[*,F50])<;>(repeat' (refine aI (by omega) ?_<;>simp[*,F50]))<;>(try omega)
 obtain⟨s1,i1,h1,b1,c1⟩:=S1.truth' (i+1) v b (by omega) hv hb;obtain⟨s2,i2,h2,b2,c2⟩:=hbk i1 v b true (by omega) hv hb;obtain⟨j,j1,hj⟩:=zRb l i2 3 (by omega) (by omega) hl;obtain⟨t,t1,ht⟩:=one_of [[52],[57],[51,48]] 3 (by decide) j j1;have:k=10\/k=11:=by omega
 rw[hB1]at b1 c1;simp at h1 hj ht;clear S1 S2 hl hB1 hB2 hbk hc k1 k7 k9;rcases this with rfl|rfl<;>simp at hk<;>(simp[*,F50])<;>(repeat' (refine aI (by omega) ?_<;>simp[*,F50]))<;>(try omega)
theorem st(l:List UInt8)(hl:l.length<=9223372036854775807):∀d,d<=3->ST l d/\BkOk l d:=by
 intro d
 induction d with
 |zero=>
  intro _;have S:ST l 0:=⟨fun i v b loop hi hv hb=>by
   obtain⟨k,k1,hk⟩:=zRb l i 13 (by omega) (by omega) hl;exact stmt_plain l hl 0 (by omega) i v b loop hi hv hb k k1 hk (.inl rfl)⟩
  refine⟨S,fun i v b loop hi hv hb=>?_⟩;obtain⟨r,st,h,s,i',rfl,rfl,h1,h2⟩:=zee.1 (mblock_of l hl 0 (by decide) (by omega) S i v b loop hi hv hb);exact⟨s,i',h,h1,h2⟩
 |succ d ih=>
  intro hd;obtain⟨_,B⟩:=ih (by omega);have hb:SB d<=10000000/\SB (d+1)<=10000000:=by
   have:d=0\/d=1\/d=2:=by omega
   rcases this with rfl|rfl|rfl<;>decide
  have S:ST l (d+1):=⟨fun i v b loop hi hv hb'=>by
   obtain⟨k,k1,hk⟩:=zRb l i 13 (by omega) (by omega) hl;by_cases hc:d+1=0\/k<6\/(k=6/\loop=true)\/k=12
   ·exact stmt_plain l hl (d+1) (by omega) i v b loop hi hv hb' k k1 hk hc
   ·exact stmt_deep l hl d hb.1 (by omega) B i v b loop hi hv hb' k k1 hk (by cases loop<;>simp at hc ⊢ <;>omega)⟩
  refine⟨S,fun i v b loop hi hv hb'=>?_⟩;obtain⟨r,st,h,s,i',rfl,rfl,h1,h2⟩:=zee.1 (mblock_of l hl (d+1) hb.2 (by omega) S i v b loop hi hv hb');exact⟨s,i',h,h1,h2⟩
theorem bad_parse:(zmc [120]).1=⟨[],[]⟩:=by kernel_rfl
set_option maxHeartbeats 8000000 in
set_option maxRecDepth 20000 in
theorem good_of(l:List UInt8)(hl:l.length<=9223372036854775807):
  PC (zi E 11 [u8s l] []) (fun r st=>st=[]/\∃s,r= .ret (zf (zmc s).1)):=by
 refine zqa rfl rfl rfl (by simp[u8s]) ?_;have hB1:SB 1=19000:=rfl;have hB2:SB 2=155000:=rfl;have hB3:SB 3=1243000:=rfl;have hN:BN 2=700:=rfl;have S2:=nt l hl 2 (by omega);obtain⟨s1,i1,h1,b1,c1⟩:=(st l hl 2 (by omega)).2 0 [120] [98] false (by omega) (by simp) (by simp);obtain⟨s2,i2,h2,b2,c2⟩:=S2.num' i1 [120] [98] (by omega) (by simp) (by simp);obtain⟨s3,i3,h3,b3,c3⟩:=(st l hl 1 (by omega)).2 i2 [120] [98] false (by omega) (by simp) (by simp);obtain⟨s4,i4,h4,b4,c4⟩:=S2.truth' i3 [120] [98] (by omega) (by simp) (by simp);obtain⟨s5,i5,h5,b5,c5⟩:=(st l hl 3 (by omega)).2 i4 [120] [98] false (by omega) (by simp) (by simp);obtain⟨s6,i6,h6,b6,c6⟩:=S2.num' i5 [120] [98] (by omega) (by simp) (by simp);rw[hB2]at b1 c1;rw[hN]at b2 c2 b4 c4 b6 c6;rw[hB1]at b3 c3;rw[hB3]at b5 c5;have hp:∀s,zi E 14 [.str s] []=some (.ret (.tup [.agg [zia (zmc s).1.arrays,funcs (zmc s).1.funcs],.int .i64 (zmc s).2.1,.int .i64 (zmc s).2.2]),[]):=fun s=>by rw[parse_spec];rfl
 simp only[zia,funcs]at hp;simp[mob,u8s]at h1 h2 h3 h4 h5 h6;have hz:(0:Nat)<=0:=yd 0;clear S2 hB1 hB2 hB3 hN hl;simp[*,F11,u8s]
 repeat' (refine aI (by omega) ?_;simp[*,F11,u8s])
 (first|refine sP _ ?_ ?_|refine sN _ ?_ ?_|refine sM _ ?_ ?_|refine sB _ ?_ ?_)<;>intro hc<;>simp[hc,F11]
 ·exact⟨[120],by rw[bad_parse];rfl⟩
 ·exact⟨_,rfl⟩
structure Fx(p:Prog)(ev:Ev):Prop where
 brk:∀s V S V1,ztd s=false->(ev.stmt s V S).1≠ .ok (.brk,V1)
 loop:∀s ns V S,okS p ns false s->∀h V1,(ev.stmt s V S).1= .ok (h,V1)->h= .on\/∃n,h= .ret n
 ends:∀s V S V1,ends1 s=true->(ev.stmt s V S).1≠ .ok (.on,V1)
 tru:∀e V S,e.kind=2->∀n,(ev.expr e V S).1= .ok n->n=e.n
section
variable {p:Prog} {ev:Ev} (E:Fx p ev)
include E
theorem stmtsW_brk:∀(l:List Stmt) (V:Vs) (S:RS) (V1:Vs),zoa l=false->(zXa ev l V S).1≠ .ok (.brk,V1)
 | [],V,S,V1,_=>by simp[zXa]
 |x::r,V,S,V1,h=>by
  rw[zoa,yna]at h;have hb:=E.brk x V S;unfold zXa;generalize ev.stmt x V S=q at*;obtain⟨a,S1⟩:=q;cases a with
  |stop k=>simp
  |ok y=>
   obtain⟨y,V2⟩:=y;cases y with
   |on=>exact stmtsW_brk r V2 S1 V1 h.2
   |brk=>exact fun _=>hb V2 h.1 rfl
   |cont=>simp
   |ret n=>simp
theorem blockW_brk(l:List Stmt)(V:Vs)(S:RS)(V1:Vs)(h:zoa l=false):(zsa ev l V S).1≠ .ok (.brk,V1):=by
 have hb:=fun V1=>stmtsW_brk E l V S V1 h
 unfold zsa;generalize zXa ev l V S=q at*;obtain⟨a,S1⟩:=q;cases a with
 |stop k=>simp
 |ok y=>
  obtain⟨y,V2⟩:=y;cases y with
  |brk=>exact fun _=>hb V2 rfl
  |on=>simp
  |cont=>simp
  |ret n=>simp
theorem stmtsW_loop:∀(l:List Stmt) (ns:List (List UInt8)) (V:Vs) (S:RS),okB p ns false l->∀h V1,(zXa ev l V S).1= .ok (h,V1)->h= .on\/∃n,h= .ret n
 | [],ns,V,S,_,h,V1,e=>by cases e;exact .inl rfl
 |x::r,ns,V,S,ho,h,V1,e=>by
  rw[okB]at ho;have hb:=E.loop x ns V S ho.1;unfold zXa at e;generalize ev.stmt x V S=q at*;obtain⟨a,S1⟩:=q;cases a with
  |stop k=>cases e
  |ok y=>
   obtain⟨y,V2⟩:=y;cases y with
   |on=>exact stmtsW_loop r _ V2 S1 ho.2 h V1 e
   |brk=>rcases hb _ _ rfl with h|⟨n,h⟩<;>cases h
   |cont=>rcases hb _ _ rfl with h|⟨n,h⟩<;>cases h
   |ret n=>cases e;exact .inr ⟨n,rfl⟩
theorem blockW_loop(l:List Stmt)(ns:List (List UInt8))(V:Vs)(S:RS)(ho:okB p ns false l)(h:How)(V1:Vs)(e:(zsa ev l V S).1= .ok (h,V1)):h= .on\/∃n,h= .ret n:=by
 have hb:=stmtsW_loop E l ns V S ho;unfold zsa at e;generalize zXa ev l V S=q at*;obtain⟨a,S1⟩:=q;cases a with
 |stop k=>cases e
 |ok y=>obtain⟨y,V2⟩:=y;cases e;exact hb _ _ rfl
theorem stmtsW_ends:∀(l:List Stmt) (V:Vs) (S:RS) (V1:Vs),zMb l=true->(zXa ev l V S).1≠ .ok (.on,V1)
 | [],V,S,V1,h=>by cases h
 |x::r,V,S,V1,h=>by
  rw[zMb,yS]at h;have hb:=E.ends x V S;unfold zXa;generalize ev.stmt x V S=q at*;obtain⟨a,S1⟩:=q;cases a with
  |stop k=>simp
  |ok y=>
   obtain⟨y,V2⟩:=y;cases y with
   |on=>
    rcases h with h|h
    ·exact fun _=>hb V2 h rfl
    ·exact stmtsW_ends r V2 S1 V1 h
   |brk=>simp
   |cont=>simp
   |ret n=>simp
theorem blockW_ends(l:List Stmt)(V:Vs)(S:RS)(V1:Vs)(h:zMb l=true):(zsa ev l V S).1≠ .ok (.on,V1):=by
 have hb:=fun V1=>stmtsW_ends E l V S V1 h
 unfold zsa;generalize zXa ev l V S=q at*;obtain⟨a,S1⟩:=q;cases a with
 |stop k=>simp
 |ok y=>
  obtain⟨y,V2⟩:=y;cases y with
  |on=>exact fun _=>hb V2 rfl
  |brk=>simp
  |cont=>simp
  |ret n=>simp
theorem blockW_ret(l:List Stmt)(ns:List (List UInt8))(V:Vs)(S:RS)(ho:okB p ns false l)(he:zMb l=true)(h:How)(V1:Vs)(e:(zsa ev l V S).1= .ok (h,V1)):∃n,h= .ret n:=by
 rcases blockW_loop E l ns V S ho h V1 e with rfl|h
 ·exact absurd e (blockW_ends E l V S V1 he)
 ·exact h
theorem loopW_how(c:Expr)(b:List Stmt):∀(k:Nat) (V:Vs) (S:RS) (h:How) (V1:Vs),(znd ev c b k V S).1= .ok (h,V1)->h= .on\/∃n,h= .ret n
 |0,V,S,h,V1,e=>by cases e
 |k+1,V,S,h,V1,e=>by
  unfold znd at e;generalize ev.expr c V S=q at*;obtain⟨a,S1⟩:=q;cases a with
  |stop k=>cases e
  |ok n=>
   simp only at e;split at e
   ·cases e;exact .inl rfl
   generalize zsa ev b V S1=q at*;obtain⟨a,S2⟩:=q;cases a with
   |stop k=>cases e
   |ok y=>
    obtain⟨y,V2⟩:=y;cases y with
    |on=>exact loopW_how c b k V2 S2 h V1 e
    |brk=>cases e;exact .inl rfl
    |cont=>exact loopW_how c b k V2 S2 h V1 e
    |ret n=>cases e;exact .inr ⟨n,rfl⟩
theorem loopW_ends(c:Expr)(b:List Stmt)(hc:c.kind=2/\c.n=1)(hb:zoa b=false):∀(k:Nat) (V:Vs) (S:RS) (V1:Vs),(znd ev c b k V S).1≠ .ok (.on,V1)
 |0,V,S,V1=>by simp[znd]
 |k+1,V,S,V1=>by
  have ht:=E.tru c V S hc.1;unfold znd;generalize ev.expr c V S=q at*;obtain⟨a,S1⟩:=q;cases a with
  |stop k=>simp
  |ok n=>
   have hn:n=1:=by rw[ht n rfl,hc.2]
   subst hn;simp only;rw[if_neg (by decide)];have h2:=blockW_brk E b V S1;generalize zsa ev b V S1=q at*;obtain⟨a,S2⟩:=q;cases a with
   |stop k=>simp
   |ok y=>
    obtain⟨y,V2⟩:=y;cases y with
    |on=>exact loopW_ends c b hc hb k V2 S2 V1
    |brk=>exact fun _=>h2 V2 hb rfl
    |cont=>exact loopW_ends c b hc hb k V2 S2 V1
    |ret n=>simp
end
theorem evF_fx(p:Prog):∀w,Fx p (evF p w)
 |0=>⟨fun _ _ _ _ _ e=>(by cases e),fun _ _ _ _ _ _ _ e=>(by cases e),fun _ _ _ _ _ e=>(by cases e),fun _ _ _ _ _ e=>(by cases e)⟩
 |w+1=>by
  have E:=evF_fx p w;refine⟨fun s V S V1 h=>?_,fun s ns V S h hh V1 e=>?_,fun s V S V1 h=>?_,fun e V S h n hn=>?_⟩
  ·rw[leaves1_eq,yna,decide_eq_false_iff_not]at h;obtain⟨h6,h4⟩:=h;simp only[evF];cases S.fuel with
   |zero=>simp
   |succ k=>
    simp only;unfold stmtW;split
    ·intro e;rcases loopW_how E _ _ _ _ _ _ _ e with h|⟨n,h⟩<;>cases h
    split
    ·simp
    generalize(evF p w).expr (arg0 s.args) V {S with fuel:=k}=q;obtain⟨a,S1⟩:=q;cases a with
    |stop k=>simp
    |ok n=>
     simp only;unfold zmd;split
     ·simp
     split
     ·simp
     split
     ·generalize(evF p w).expr (arg1 s.args) V S1=q;obtain⟨a,S2⟩:=q;cases a with
      |stop k=>simp
      |ok m=>simp only;split<;>simp
     split
     ·rename_i k4;simp only[k4,decide_true,yka,yna]at h4;split
      ·exact blockW_brk E _ _ _ _ h4.2
      ·exact blockW_brk E _ _ _ _ h4.1
     split
     ·simp
     split
     ·simp
     ·simp
  ·rw[okS_eq]at h;obtain⟨h1,h2,h3,h4,h5,h6,h7,h8⟩:=h;simp only[evF]at e;cases hS:S.fuel with
   |zero=>rw[hS]at e;cases e
   |succ k=>
    rw[hS]at e;simp only at e;unfold stmtW at e;split at e
    ·exact loopW_how E _ _ _ _ _ _ _ e
    split at e
    ·rename_i k6;exact absurd (h6 (.inl k6)) (by simp)
    split at e
    ·rename_i k6;exact absurd (h6 (.inr k6)) (by simp)
    generalize(evF p w).expr (arg0 s.args) V {S with fuel:=k}=q at e;obtain⟨a,S1⟩:=q;cases a with
    |stop k=>cases e
    |ok n=>
     simp only at e;unfold zmd at e;split at e
     ·cases e;exact .inl rfl
     split at e
     ·cases e;exact .inl rfl
     split at e
     ·generalize(evF p w).expr (arg1 s.args) V S1=q at e;obtain⟨a,S2⟩:=q;cases a with
      |stop k=>cases e
      |ok m=>
       simp only at e;split at e
       ·cases e;exact .inl rfl
       ·cases e
     split at e
     ·rename_i k5 _ _ _ _ _ _;simp only[k5,decide_false,Bool.or_false]at h7;split at e
      ·exact blockW_loop E _ _ _ _ h8 _ _ e
      ·exact blockW_loop E _ _ _ _ h7 _ _ e
     split at e
     ·cases e;exact .inr ⟨_,rfl⟩
     split at e
     ·cases e;exact .inl rfl
     ·cases e;exact .inl rfl
  ·rw[ends1_eq]at h;simp only[evF];cases S.fuel with
   |zero=>simp
   |succ k=>
    simp only;unfold stmtW;split
    ·rename_i k5;rw[if_neg (by omega),if_neg (by omega),if_pos k5]at h;simp only[yb,decide_eq_true_eq,yH]at h;exact loopW_ends E _ _ h.1 h.2 _ _ _ _
    rename_i k5;split
    ·simp
    split
    ·simp
    generalize(evF p w).expr (arg0 s.args) V {S with fuel:=k}=q;obtain⟨a,S1⟩:=q;cases a with
    |stop k=>simp
    |ok n=>
     simp only;by_cases k8:s.kind=8
     ·unfold zmd;rw[if_neg (by omega),if_neg (by omega),if_neg (by omega),if_neg (by omega),if_pos k8];simp
     rw[if_neg k8]at h;by_cases k4:s.kind=4
     ·rw[if_pos k4,yb]at h;unfold zmd;rw[if_neg (by omega),if_neg (by omega),if_neg (by omega),if_pos k4];split
      ·exact blockW_ends E _ _ _ _ h.2
      ·exact blockW_ends E _ _ _ _ h.1
     rw[if_neg k4,if_neg k5]at h;cases h
  ·simp only[evF]at hn;cases hS:S.fuel with
   |zero=>rw[hS]at hn;cases hn
   |succ k=>
    rw[hS]at hn;simp only[exprW]at hn;rw[if_pos (.inr h)]at hn;cases hn;rfl
def arrFrom(k:Nat):List PArr->List (PV×PV)
 | []=>[]
 |a::r=>(.str a.name,.mslice k 0 a.size.toNat 1)::arrFrom (k+1) r
def intO(l:List Int):Obj:= .arr 1 (l.map (PV.int .i64))
def boxO(n:Int):Obj:= .arr 1 [.int .i64 n]
def zaf(l:List (List Int)):zc:=l.map intO
def runCells(p:Prog)(S:RS)(v:Int):List PV:=[zia p.arrays,funcs p.funcs,ints S.inp,.mp 0,.int .i64 0,.int .i64 0,acc 1 (S.out.map (PV.int .i64)),.int .i64 S.cost,.int .i64 S.fuel,.int .i64 v]
def runO(p:Prog)(S:RS)(v:Int):Obj:= .arr 10 [.agg (runCells p S v)]
def sto(p:Prog)(S:RS)(v:Int)(T:zc):zc:= .mp (arrFrom 2 p.arrays)::runO p S v::(zaf S.arrs++T)
def endV(k:Int):PV:= .iface 119 (.agg [.int .i64 k])
section
variable (p:Prog) (S:RS) (v:Int) (T:zc)
@[simp] theorem sto_0:(sto p S v T)[0]? =some (.mp (arrFrom 2 p.arrays)):=rfl
@[simp] theorem sto_1:(sto p S v T)[1]? =some (.arr 10 [.agg [zia p.arrays,funcs p.funcs,ints S.inp,.mp 0,.int .i64 0,.int .i64 0,acc 1 (S.out.map (PV.int .i64)),.int .i64 S.cost,.int .i64 S.fuel,.int .i64 v]]):=rfl
@[simp] theorem set_fuel(k:Nat):(sto p S v T).set 1 (.arr 10 [.agg [zia p.arrays,funcs p.funcs,ints S.inp,.mp 0,.int .i64 0,.int .i64 0,acc 1 (S.out.map (PV.int .i64)),.int .i64 S.cost,.int .i64 k,.int .i64 v]])=sto p {S with fuel:=k} v T:=rfl
@[simp] theorem set_val(u:Int):(sto p S v T).set 1 (.arr 10 [.agg [zia p.arrays,funcs p.funcs,ints S.inp,.mp 0,.int .i64 0,.int .i64 0,acc 1 (S.out.map (PV.int .i64)),.int .i64 S.cost,.int .i64 S.fuel,.int .i64 u]])=sto p S u T:=rfl
@[simp] theorem set_inp(l:List Int):(sto p S v T).set 1 (.arr 10 [.agg [zia p.arrays,funcs p.funcs,.slice .plain 1 (l.map (PV.int .i64)),.mp 0,.int .i64 0,.int .i64 0,acc 1 (S.out.map (PV.int .i64)),.int .i64 S.cost,.int .i64 S.fuel,.int .i64 v]])=sto p {S with inp:=l} v T:=rfl
end
@[simp] theorem rebuild_int(k:IntKind)(n:Int)(cs:List PV):zOa (.int k n) cs=cs.headD .undef:=ye rfl rfl
def FitS(p:Prog)(S:RS):Prop:=S.arrs.map yV=p.arrays.map (fun a=>a.size.toNat)/\S.out.length+S.fuel<=1000000000000
theorem FitS.mono{p:Prog}{S S1:RS}(h:FitS p S)(m:Mono S S1):FitS p S1:=⟨m.arrs.trans h.1,yfa m.out h.2⟩
theorem FitS.len{p:Prog}{S:RS}(h:FitS p S):S.arrs.length=p.arrays.length:=by
 have:=congrArg yV h.1;simpa using this
theorem FitS.cost{p:Prog}{S:RS}(h:FitS p S):FitS p (zea S):=h
theorem arrFrom_find(nm:List UInt8):∀(l:List PArr) (k:Nat),zS true (.str nm) (arrFrom k l)=some (match l.findIdx? (fun a=>decide (a.name=nm))with
  |some i=>match l[i]? with
   |some a=>some (.mslice (k+i) 0 a.size.toNat 1)
   |none=>none
  |none=>none)
 | [],k=>rfl
 |a::r,k=>by
  have ih:=arrFrom_find nm r (k+1);rw[arrFrom,List.findIdx?_cons];by_cases h:a.name=nm
  ·simp[h]
  ·have h':¬nm=a.name:=fun e=>h e.symm
   simp only[zS,zuc,if_true,h',decide_false,h];rw[ih];cases r.findIdx? (fun a=>decide (a.name=nm))with
   |none=>simp
   |some i=>
    simp only[yN,yU,yAa,if_false];cases r[i]? with
    |none=>rfl
    |some b=>simp only;congr 3;omega
theorem arr_at{p:Prog}{S:RS}{nm:List UInt8}(hS:FitS p S)(h:znb p nm=true):∃(i:Nat) (l:List Int),zYa p nm=i/\i<S.arrs.length/\S.arrs[i]? =some l/\zS true (.str nm) (arrFrom 2 p.arrays)=some (some (.mslice (i+2) 0 l.length 1)):=by
 have h1:=idx_ge (fun f:PArr=>decide (f.name=nm)) p.arrays;rcases znc (fun f:PArr=>decide (f.name=nm)) p.arrays with⟨a1,a2⟩|⟨i,a,a1,a2,a3,a4,a5⟩
 ·rw[a1]at h1;exfalso;have:znb p nm=decide ((0:Int)<= -1):=h1.symm;rw[this]at h;exact absurd h (by decide)
 ·have hlt:i<S.arrs.length:=by rw[hS.len];exact a4
  refine⟨i,S.arrs[i],a1,hlt,yg hlt,?_⟩;rw[arrFrom_find];have hx:p.arrays.findIdx? (fun a=>decide (a.name=nm))=some i:=by
   have:idx (fun f:PArr=>decide (f.name=nm)) p.arrays=i:=a1;unfold idx at this;cases hq:p.arrays.findIdx? (fun a=>decide (a.name=nm))with
   |none=>rw[hq]at this;simp at this<;>omega
   |some j=>rw[hq]at this;simp at this;exact congrArg some (by omega)
  rw[hx];simp only[a2];have hl:(S.arrs[i]).length=a.size.toNat:=by
   have e:=congrArg (fun l:List Nat=>l[i]?) hS.1;simp only[yo,a2,yg hlt,yN,Option.some.injEq]at e;exact e
  rw[hl,Nat.add_comm 2 i]
structure Bnd where
 name:List UInt8
 box:Nat
 val:Int
def valsB(B:List Bnd):Vs:=B.map fun b=>(b.name,b.val)
def keysB(B:List Bnd):List (List UInt8×Nat):=B.map fun b=>(b.name,b.box)
def lookB(nm:List UInt8):List Bnd->Option Bnd
 | []=>none
 |b::r=>if b.name=nm then some b else lookB nm r
def nb(p:Prog):Nat:=p.arrays.length+2
def strK(es:List (PV×PV)):Prop:=∀q∈es,∃s,q.1= .str s
structure FR(p:Prog)(T:zc)(m r:Nat)(B:List Bnd):Prop where
 map:∃es,T[r]? =some (.mp es)/\strK es/\∀x,zS true (.str x) es=some ((lookB x B).map fun b=> .ptr (nb p+b.box) 0 0)
 val:∀b∈B,T[b.box]? =some (boxO b.val)/\m<=b.box
 nd:(B.map (·.box)).Nodup
 lo:m<=r
def Keep(m:Nat)(ex:Option Nat)(T T':zc):Prop:=T.length<=T'.length/\∀j,j<T.length->ex≠some j->T'[j]? =T[j]? \/(m<=j/\∃a b,T[j]? =some (boxO a)/\T'[j]? =some (boxO b))
theorem belowL_acc(n:Nat)(l:List Int):zx n (acc 1 (l.map (PV.int .i64)))=true:=by
 cases l with
 |nil=>rfl
 |cons x r=>simp
def outE(q:Rt Int):CRes:=match q with
 | .ok n=> .ret (.int .i64 n)
 | .stop k=> .pan (endV k)
@[simp] theorem outE_ok(n:Int):outE (.ok n)= .ret (.int .i64 n):=rfl
@[simp] theorem outE_stop(n:Int):outE (.stop n)= .pan (endV n):=rfl
def howN:How->Int
 | .on=>0
 | .brk=>1
 | .cont=>2
 | .ret _=>3
def outH(q:Rt (How×Vs)):CRes:=match q with
 | .ok x=> .ret (.int .i64 (howN x.1))
 | .stop k=> .pan (endV k)
def WT(p:Prog)(T:zc):Prop:=zc.wf (nb p+T.length) T=true
structure BkR(p:Prog)(T T':zc)(m r:Nat)(B:List Bnd)(V1:Vs)(add:List (List UInt8×Nat)->Prop):Prop where
 env:∃B1 a,valsB B1=V1/\FR p T' m r B1/\keysB B1=a++keysB B/\add a
 wt:WT p T'
def isS(p:Prog)(T:zc)(m r:Nat)(B:List Bnd)(q:Rt (How×Vs)×RS):CRes->zc->Prop:=fun res st=>∃v T',res=outH q.1/\st=sto p q.2 v T'/\Keep m (some r) T T'∧
 ∀h V1,q.1= .ok (h,V1)->(∀n,h= .ret n->v=n)/\BkR p T T' m r B V1 (fun _=>True)
def capE:Nat:=1099508000000
def parEnt(b:Nat):List Par->List (PV×PV)
 | []=>[]
 |x::r=>(.str x.name,.ptr b 0 0)::parEnt (b+1) r
theorem mapSet_new(nm:List UInt8)(u:PV):∀(d:List Par) (b:Nat),nm ∉ d.map (·.name)->zSb true (.str nm) u (parEnt b d)=some (parEnt b d++[(.str nm,u)])
 | [],b,_=>rfl
 |y::d,b,h=>by
  simp only[yp,yw,not_or]at h;have ih:=mapSet_new nm u d (b+1) h.2;simp only[parEnt,zSb,zuc,if_true,h.1,decide_false];rw[ih];rfl
mutual
theorem belowV_le{n k:Nat}(h:n<=k):∀x:PV,zx n x=true->zx k x=true
 | .ptr l i o,q=>by simp at q ⊢;omega
 | .mslice l i o z,q=>by simp at q ⊢;omega
 | .mp l,q=>by simp at q ⊢;omega
 | .iptr cs o,q=>by simp at q ⊢;exact zrd h cs q
 | .slice _ _ cs,q=>by simp at q ⊢;exact zrd h cs q
 | .agg cs,q=>by simp at q ⊢;exact zrd h cs q
 | .tup cs,q=>by simp at q ⊢;exact zrd h cs q
 | .fn _ a b,q=>by simp at q ⊢;exact⟨zrd h a q.1,zrd h b q.2⟩
 | .iface _ x,q=>by simp at q ⊢;exact belowV_le h x q
 | .undef,_=>rfl
 | .bool _,_=>rfl
 | .int _ _,_=>rfl
 | .str _,_=>rfl
 | .nilp,_=>rfl
 | .lptr _ _,_=>rfl
 | .nilfn,_=>rfl
 | .nilmap,_=>rfl
 | .nilif,_=>rfl
theorem zrd{n k:Nat}(h:n<=k):∀l:List PV,zJ n l=true->zJ k l=true
 | [],_=>rfl
 |x::r,q=>by simp at q ⊢;exact⟨belowV_le h x q.1,zrd h r q.2⟩
end
theorem belowP_le{n k:Nat}(h:n<=k):∀l:List (PV×PV),zqc n l=true->zqc k l=true
 | [],_=>rfl
 |(x,y)::r,q=>by simp[zqc]at q ⊢;exact⟨⟨belowV_le h x q.1.1,belowV_le h y q.1.2⟩,belowP_le h r q.2⟩
theorem below_le{n k:Nat}(h:n<=k)(o:Obj)(q:o.below n=true):o.below k=true:=by
 cases o with
 |arr sz es=>exact zrd h es q
 |mp es=>exact belowP_le h es q
 |dead _=>rfl
theorem wf_le{n k:Nat}(h:n<=k){T:zc}(q:zc.wf n T=true):zc.wf k T=true:=by
 unfold zc.wf at q ⊢;rw[yq]at q ⊢;exact fun o ho=>below_le h o (q o ho)
theorem wf_app{n:Nat}{A B:zc}:zc.wf n (A++B)=(zc.wf n A&&zc.wf n B):=by simp[zc.wf]
structure CS where
 rest:List Expr
 acc:List Int
 S:RS
 v:Int
structure BSt where
 rest:List Stmt
 S:RS
 v:Int
 T:zc
 B:List Bnd
theorem wt_mem'{x:Stmt}{l:List Stmt}(h:x∈l)(hw:wtSs l<capE):wtS x<capE:=by
 have:=zSc h;omega
structure LSt where
 k:Nat
 S:RS
 v:Int
 T:zc
 B:List Bnd
theorem arg0_one{l:List Expr}(h:l.length=1):l[0]? =some (arg0 l)/\arg0 l∈l:=by
 obtain⟨x,rfl⟩:=yF.1 h;simp[arg0]
theorem wf_set{n j:Nat}{T:zc}{o:Obj}(hT:zc.wf n T=true)(ho:o.below n=true):zc.wf n (T.set j o)=true:=by
 unfold zc.wf at hT ⊢;rw[yq]at hT ⊢;intro x hx;rcases List.mem_or_eq_of_mem_set hx with h|rfl
 ·exact hT x h
 ·exact ho
theorem zff(nm:List UInt8)(u:PV):∀(es:List (PV×PV)),strK es->∃es',zSb true (.str nm) u es=some es'/\strK es'/\(∀n,zqc n es=true->zx n u=true->zqc n es'=true)/\∀x,zS true (.str x) es'=if nm=x then some (some u)else zS true (.str x) es
 | [],_=>⟨_,rfl,fun q h=>by simp at h;exact⟨nm,by rw[h]⟩,fun n _ h=>by simp[zqc,h],fun x=>by by_cases h:nm=x<;>simp[zS,zuc,h,eq_comm]⟩
 |(k,u0)::r,hk=>by
  obtain⟨s,hs⟩:=hk (k,u0) (by simp);simp only at hs;subst hs;by_cases hs:nm=s
  ·subst hs;refine⟨(.str nm,u)::r,by simp[zSb,zuc],?_,?_,fun x=>?_⟩
   ·intro q hq;rcases yw.1 hq with rfl|hq
    ·exact⟨nm,rfl⟩
    ·exact hk q (by simp[hq])
   ·intro n h1 h2;simp[zqc]at h1 ⊢;exact⟨h2,h1.2⟩
   ·by_cases hx:nm=x
    ·subst hx;simp[zS,zuc]
    ·have hx':¬x=nm:=fun e=>hx e.symm
     rw[if_neg hx];simp[zS,zuc,hx']
  ·obtain⟨es',e1,e2,e3,e4⟩:=zff nm u r (fun q hq=>hk q (by simp[hq]));refine⟨(.str s,u0)::es',by simp[zSb,zuc,hs,e1],?_,?_,fun x=>?_⟩
   ·intro q hq;rcases yw.1 hq with rfl|hq
    ·exact⟨s,rfl⟩
    ·exact e2 q hq
   ·intro n h1 h2;simp[zqc]at h1 ⊢;exact⟨h1.1,e3 n h1.2 h2⟩
   ·by_cases hx:x=s
    ·subst hx;rw[if_neg hs];simp[zS,zuc]
    ·simp[zS,zuc,hx,e4]
theorem arg1_two{l:List Expr}(h:l.length=2):l[1]? =some (arg1 l)/\arg1 l∈l/\l[0]? =some (arg0 l)/\arg0 l∈l:=by
 match l,h with
 | [x,y],_=>simp[arg0,arg1]
def zfc(k:Nat):List PArr->List PV
 | []=>[]
 |a::r=> .mslice k 0 a.size.toNat 1::zfc (k+1) r
def stK:Option Int->Int
 |none=>0
 |some k=>k
def spK:Option Int->Bool
 |none=>false
 |some k=>decide (k=0)
def runR(p:Prog)(S:RS)(h:Option Int):Obj:= .arr 10 [.agg [zia p.arrays,funcs p.funcs,ints S.inp,acc 1 (zfc 1 p.arrays),.int .i64 (stK h),.int .i64 0,acc 1 (S.out.map (PV.int .i64)),.int .i64 S.cost,.int .i64 S.fuel,.bool (spK h)]]
def stR(p:Prog)(S:RS)(h:Option Int)(T:zc):zc:=runR p S h::(zaf S.arrs++T)
def goH{α:Type}:Rt α->Option Int
 | .ok _=>none
 | .stop k=>some k
@[simp] theorem zVd{α:Type}(a:α):goH (.ok a)=none:=rfl
@[simp] theorem zzd{α:Type}(k:Int):goH (.stop k:Rt α)=some k:=rfl
section
variable (p:Prog) (S:RS) (h:Option Int) (T:zc)
@[simp] theorem stR_0:(stR p S h T)[0]? =some (.arr 10 [.agg [zia p.arrays,funcs p.funcs,ints S.inp,acc 1 (zfc 1 p.arrays),.int .i64 (stK h),.int .i64 0,acc 1 (S.out.map (PV.int .i64)),.int .i64 S.cost,.int .i64 S.fuel,.bool (spK h)]]):=rfl
@[simp] theorem stK_none:stK none=0:=rfl
@[simp] theorem spK_none:spK none=false:=rfl
@[simp] theorem stK_some(k:Int):stK (some k)=k:=rfl
@[simp] theorem spK_some(k:Int):spK (some k)=decide (k=0):=rfl
@[simp] theorem setR_fuel(k:Nat):(stR p S none T).set 0 (.arr 10 [.agg [zia p.arrays,funcs p.funcs,ints S.inp,acc 1 (zfc 1 p.arrays),.int .i64 0,.int .i64 0,acc 1 (S.out.map (PV.int .i64)),.int .i64 S.cost,.int .i64 k,.bool false]])=stR p {S with fuel:=k} none T:=rfl
@[simp] theorem setR_cost:(stR p S none T).set 0 (.arr 10 [.agg [zia p.arrays,funcs p.funcs,ints S.inp,acc 1 (zfc 1 p.arrays),.int .i64 0,.int .i64 0,acc 1 (S.out.map (PV.int .i64)),.int .i64 (zC .i64 (S.cost+1)),.int .i64 S.fuel,.bool false]])=stR p (zea S) none T:=by
 rw[zCa];rfl
@[simp] theorem setR_spent:(stR p S none T).set 0 (.arr 10 [.agg [zia p.arrays,funcs p.funcs,ints S.inp,acc 1 (zfc 1 p.arrays),.int .i64 0,.int .i64 0,acc 1 (S.out.map (PV.int .i64)),.int .i64 S.cost,.int .i64 S.fuel,.bool true]])=stR p S (some 0) T:=rfl
@[simp] theorem setR_2:(stR p S none T).set 0 (.arr 10 [.agg [zia p.arrays,funcs p.funcs,ints S.inp,acc 1 (zfc 1 p.arrays),.int .i64 2,.int .i64 0,acc 1 (S.out.map (PV.int .i64)),.int .i64 S.cost,.int .i64 S.fuel,.bool false]])=stR p S (some 2) T:=rfl
@[simp] theorem setR_3:(stR p S none T).set 0 (.arr 10 [.agg [zia p.arrays,funcs p.funcs,ints S.inp,acc 1 (zfc 1 p.arrays),.int .i64 3,.int .i64 0,acc 1 (S.out.map (PV.int .i64)),.int .i64 S.cost,.int .i64 S.fuel,.bool false]])=stR p S (some 3) T:=rfl
@[simp] theorem setR_4:(stR p S none T).set 0 (.arr 10 [.agg [zia p.arrays,funcs p.funcs,ints S.inp,acc 1 (zfc 1 p.arrays),.int .i64 4,.int .i64 0,acc 1 (S.out.map (PV.int .i64)),.int .i64 S.cost,.int .i64 S.fuel,.bool false]])=stR p S (some 4) T:=rfl
@[simp] theorem setR_inp(l:List Int):(stR p S none T).set 0 (.arr 10 [.agg [zia p.arrays,funcs p.funcs,.slice .plain 1 (l.map (PV.int .i64)),acc 1 (zfc 1 p.arrays),.int .i64 0,.int .i64 0,acc 1 (S.out.map (PV.int .i64)),.int .i64 S.cost,.int .i64 S.fuel,.bool false]])=stR p {S with inp:=l} none T:=rfl
end
theorem zIb(p:Prog)(S:RS)(h:Option Int)(T:zc):zi E 42 [.ptr 0 0 0] (stR p S h T)=some (.ret (.bool h.isSome),stR p S h T):=by
 refine zd rfl rfl rfl (by simp) ?_;cases h with
 |none=>simp[F42]
 |some k=>
  by_cases hk:k=0
  ·subst hk;simp[F42]
  ·replace hk:=eqn hk;simp[*,F42]
theorem rstep_spec(p:Prog)(S:RS)(T:zc)(hf:S.fuel<=9000000000000000000):zi E 125 [.ptr 0 0 0] (stR p S none T)=some (match S.fuel with
  |0=>(.ret (.bool false),stR p S (some 0) T)
  |k+1=>(.ret (.bool true),stR p {S with fuel:=k} none T)):=by
 refine zd rfl rfl rfl (by simp) ?_;have h0:=zIb p S none T;simp at h0;cases h:S.fuel with
 |zero=>
  have hs:(stR p S none T).set 0 (.arr 10 [.agg [zia p.arrays,funcs p.funcs,ints S.inp,acc 1 (zfc 1 p.arrays),.int .i64 0,.int .i64 0,acc 1 (S.out.map (PV.int .i64)),.int .i64 S.cost,.int .i64 0,.bool true]])=stR p S (some 0) T:=by
   have:=setR_spent p S T;rw[h]at this;exact this
  simp[*,F125]
 |succ k=>
  have hw:zC .i64 (((k+1:Nat):Int)-1)=(k:Int):=by rw[zj]<;>omega
  have hne:(((k+1:Nat):Int)<1)=False:=eqn (by omega);generalize hc:((k+1:Nat):Int)=c at*;simp[*,F125]
theorem rptrs_get:∀(l:List PArr) (k i:Nat),(zfc k l)[i]? =(l[i]?).map fun a=> .mslice (k+i) 0 a.size.toNat 1
 | [],k,i=>by simp[zfc]
 |a::r,k,0=>by simp[zfc]
 |a::r,k,i+1=>by
  simp only[zfc,yU];rw[rptrs_get r (k+1) i];cases r[i]? with
  |none=>rfl
  |some b=>simp;omega
theorem rptrs_len:∀(l:List PArr) (k:Nat),(zfc k l).length=l.length
 | [],k=>rfl
 |a::r,k=>by simp[zfc,rptrs_len r]
theorem rarr_at{p:Prog}{S:RS}{nm:List UInt8}(hS:FitS p S)(h:znb p nm=true):∃(i:Nat) (l:List Int),zYa p nm=i/\i<S.arrs.length/\S.arrs[i]? =some l/\(zfc 1 p.arrays)[i]? =some (.mslice (i+1) 0 l.length 1):=by
 obtain⟨i,l,a1,a2,a3,a4⟩:=arr_at hS h;refine⟨i,l,a1,a2,a3,?_⟩;rw[rptrs_get];have hlt:i<p.arrays.length:=by rw[<-hS.len];exact a2
 have e:=congrArg (fun l:List Nat=>l[i]?) hS.1;simp only[yo,a3,yg hlt,yN,Option.some.injEq]at e;rw[yg hlt,yN,<-e,Nat.add_comm 1 i]
theorem stR_row{p:Prog}{S:RS}{h:Option Int}{T:zc}{i:Nat}{l:List Int}(hl:S.arrs[i]? =some l):(stR p S h T)[i+1]? =some (.arr 1 (l.map (PV.int .i64))):=by
 have hlt:=(ya.1 hl).1;simp only[stR,yU];rw[yf (by simpa[zaf]using hlt)];simp[zaf,hl,intO]
theorem rput_row{p:Prog}{S:RS}{h:Option Int}{T:zc}{i:Nat}{l:List Int}(hl:S.arrs[i]? =some l)(k:Nat)(m:Int):(stR p S h T).set (i+1) (.arr 1 ((l.map (PV.int .i64)).set k (.int .i64 m)))=stR p {S with arrs:=S.arrs.set i (l.set k m)} h T:=by
 have hlt:=(ya.1 hl).1;have e:(l.map (PV.int .i64)).set k (.int .i64 m)=(l.set k m).map (PV.int .i64):=by rw[List.map_set]
 rw[e];simp only[stR,ykb];rw[List.set_append_left _ _ (by simpa[zaf]using hlt)];have:(zaf S.arrs).set i (.arr 1 ((l.set k m).map (PV.int .i64)))=zaf (S.arrs.set i (l.set k m)):=by simp[zaf,List.map_set,intO]
 rw[this];rfl
theorem rcell_spec{p:Prog}{S:RS}{T:zc}{nm:List UInt8}{i:Nat}{l:List Int}(n:Int)(hz:p.arrays.length<1099509000000)(ha:zYa p nm=i)(hl:S.arrs[i]? =some l)(hm:(zfc 1 p.arrays)[i]? =some (.mslice (i+1) 0 l.length 1)):
  zi E 129 [.ptr 0 0 0,.str nm,.int .i64 n] (stR p S none T)=some (if 0<=n/\n<l.length then(.ret (.bool true),stR p S none T)else(.ret (.bool false),stR p S (some 3) T)):=by
 have hra:=zYc p nm (by omega);rw[ha]at hra;simp[zf]at hra;refine zd rfl rfl rfl (by simp) ?_;by_cases h0:n<0
 ·have hn:¬(0<=n/\n<l.length):=by omega
  rw[if_neg hn];replace h0:=eqp h0;clear hz;simp[*,F129]
 ·by_cases h1:(l.length:Int)<=n
  ·have hn:¬(0<=n/\n<l.length):=by omega
   rw[if_neg hn];replace h0:=eqn h0;replace h1:=eqp h1;clear hz;simp[*,F129]
  ·rw[if_pos (by omega)];have h4:0<=n:=by omega
   replace h0:=eqn h0;replace h1:=eqn h1;clear hz;simp[*,F129]
def encPl(x:List UInt8×Int):PV:= .agg [.str x.1,.int .i64 x.2]
def rowV(V:Vs):List PV:= .agg [.str [],.int .i64 0]::V.reverse.map encPl
theorem zjd(V:Vs):(rowV V).length=V.length+1:=by simp[rowV]
theorem rowV_get(V:Vs)(c:Nat)(h:c<V.length):(rowV V)[V.length-c]? =some (encPl V[c]):=by
 have e:V.length-c=V.length-1-c+1:=by omega
 unfold rowV;rw[e,yU,yo,List.getElem?_reverse (by omega)];have:V.length-1-(V.length-1-c)=c:=by omega
 rw[this,yg h];rfl
theorem rowV_strip(V:Vs):(rowV V).map stripA=rowV V:=by
 simp[rowV,encPl,yM]
def posV(nm:List UInt8)(V:Vs):Nat:=V.findIdx fun x=>decide (x.1=nm)
theorem posV_lt{nm:List UInt8}{V:Vs}(h:nm∈zu V):posV nm V<V.length:=by
 apply List.findIdx_lt_length_of_exists;obtain⟨x,hx,e⟩:=yHa.1 h;exact⟨x,hx,by simp[e]⟩
theorem posV_name{nm:List UInt8}{V:Vs}(h:posV nm V<V.length):V[posV nm V].1=nm:=by
 exact of_decide_eq_true (@List.findIdx_getElem _ (fun x:List UInt8×Int=>decide (x.1=nm)) V h)
theorem posV_get{nm:List UInt8}:∀{V:Vs} (h:posV nm V<V.length),V[posV nm V].2=getV nm V
 | [],h=>by simp at h
 |x::r,h=>by
  unfold posV at h ⊢;simp only[List.findIdx_cons]at h ⊢;by_cases hx:x.1=nm
  ·simp[hx,getV]
  ·simp only[hx,decide_false,Bool.cond_false,cond_false,yj,Nat.add_lt_add_iff_right]at h;simp only[hx,decide_false,cond_false,List.getElem_cons_succ,getV,if_false];exact posV_get (V:=r) h
theorem setV_pos{nm:List UInt8}{n:Int}:∀{V:Vs},posV nm V<V.length->setV nm n V=V.set (posV nm V) (nm,n)
 | [],h=>by simp at h
 |x::r,h=>by
  unfold posV at h ⊢;simp only[List.findIdx_cons]at h ⊢;by_cases hx:x.1=nm
  ·simp[hx,setV]
  ·simp only[hx,decide_false,cond_false,yj,Nat.add_lt_add_iff_right]at h;simp only[hx,decide_false,cond_false,setV,if_false,ykb];rw[setV_pos (V:=r) h];rfl
theorem rowV_set{V:Vs}{c:Nat}(x:List UInt8×Int)(h:c<V.length):(rowV V).set (V.length-c) (encPl x)=rowV (V.set c x):=by
 have e:V.length-c=V.length-1-c+1:=by omega
 unfold rowV;rw[e,ykb];congr 1;rw[<-List.map_set];congr 1;apply yba;intro i;by_cases hi:i<V.length
 ·rw[List.getElem?_reverse (by simpa using hi),ypa,ypa,ywa];by_cases hc:V.length-1-c=i
  ·have:c=V.length-1-i:=by omega
   rw[if_pos hc,if_pos this];have h1:V.length-1-c<V.reverse.length:=by simp;omega
   rw[if_pos h1,if_pos h]
  ·have:¬c=V.length-1-i:=by omega
   rw[if_neg hc,if_neg this,List.getElem?_reverse hi]
 ·rw[yP (by simp;omega),yP (by simp;omega)]
def nbR(p:Prog):Nat:=p.arrays.length+1
structure FRr(p:Prog)(T:zc)(m k:Nat)(V:Vs)(h n:Int):Prop where
 lo:m<=k
 row:∃j junk,m<=j/\j≠k/\T[k]? =some (.arr 3 [.agg [.mslice (nbR p+j) 0 (V.length+1) 2,.int .i64 h,.int .i64 n]])/\T[j]? =some (.arr 2 (rowV V++junk))
theorem stR_len{p:Prog}{S:RS}{h:Option Int}{T:zc}(hS:FitS p S):(stR p S h T).length=nbR p+T.length:=by
 simp[stR,zaf,hS.len,nbR];omega
theorem zGc{p:Prog}{S:RS}{h:Option Int}{T:zc}(hS:FitS p S)(j:Nat):(stR p S h T)[nbR p+j]? =T[j]? :=by
 have:nbR p+j=p.arrays.length+j+1:=by unfold nbR;omega
 rw[this];simp only[stR,yU];rw[yh (by simp[zaf,hS.len])];simp[zaf,hS.len]
theorem stR_set{p:Prog}{S:RS}{h:Option Int}{T:zc}(hS:FitS p S)(j:Nat)(o:Obj):(stR p S h T).set (nbR p+j) o=stR p S h (T.set j o):=by
 have:nbR p+j=p.arrays.length+j+1:=by unfold nbR;omega
 rw[this];simp only[stR,ykb];rw[yqa _ _ (by simp[zaf,hS.len])];simp[zaf,hS.len]
theorem stR_app{p:Prog}{S:RS}{h:Option Int}{T L:zc}:stR p S h T++L=stR p S h (T++L):=by simp[stR]
theorem stR_take{p:Prog}{S:RS}{h:Option Int}{T:zc}(hS:FitS p S)(j:Nat):(stR p S h T).take (nbR p+j)=stR p S h (T.take j):=by
 have:nbR p+j=p.arrays.length+j+1:=by unfold nbR;omega
 rw[this];simp only[stR,List.take_succ_cons];rw[List.take_append,yy (by simp[zaf,hS.len])];simp[zaf,hS.len]
theorem rptrs_below(n:Nat):∀(l:List PArr) (k:Nat),k+l.length<=n->zJ n (zfc k l)=true
 | [],_,_=>rfl
 |a::r,k,h=>by
  simp only[yj]at h;simp only[zfc,belowL_cons,below_mslice,yb,decide_eq_true_eq];exact⟨by omega,rptrs_below n r (k+1) (by omega)⟩
theorem below_acc(n sz:Nat)(l:List PV)(h:zJ n l=true):zx n (acc sz l)=true:=by
 cases l with
 |nil=>rfl
 |cons x r=>simpa using h
theorem stR_wf{p:Prog}{S:RS}{h:Option Int}{T:zc}(hS:FitS p S){n:Nat}(hn:nbR p<=n)(hT:zc.wf n T=true):zc.wf n (stR p S h T)=true:=by
 unfold zc.wf at hT ⊢;simp only[stR,yea,yY,yb];refine⟨?_,?_,hT⟩
 ·have h1:=rptrs_below n p.arrays 1 (by unfold nbR at hn;omega);simp[runR,Obj.below,belowL_acc,ints,below_acc _ _ _ h1]
 ·rw[yq];intro o ho;simp only[zaf,yHa]at ho;obtain⟨l,_,rfl⟩:=ho;simp[intO,Obj.below]
def WTr(p:Prog)(T:zc):Prop:=zc.wf (nbR p+T.length) T=true
theorem vfind_spec{p:Prog}{S:RS}{ho:Option Int}{T:zc}{m k:Nat}{V:Vs}{h n:Int}{nm:List UInt8}(hS:FitS p S)(hF:FRr p T m k V h n)(hn:nm∈zu V)(hV:V.length<5000000000000):
  zi E 128 [.ptr (nbR p+k) 0 0,.str nm] (stR p S ho T)=some (.ret (.int .i64 ((V.length-posV nm V:Nat):Int)),stR p S ho T):=by
 obtain⟨j,junk,_,_,h1,h2⟩:=hF.row;have g1:=zGc (h:=ho) (T:=T) hS k;have g2:=zGc (h:=ho) (T:=T) hS j;rw[h1]at g1;rw[h2]at g2;have hp:=posV_lt hn;have hpn:=posV_name hp;have hrow:∀c (hc:c<V.length),(rowV V++junk)[V.length-c]? =some (.agg [.str V[c].1,.int .i64 V[c].2]):=by
  intro c hc;rw[yf (by rw[zjd];omega),rowV_get V c hc];rfl
 refine zd rfl rfl rfl (by simp) ?_;have hw:zC .i64 (V.length:Int)=(V.length:Int):=by rw[zj]<;>omega
 generalize stR p S ho T=σ at*;clear hF h1 h2;simp[*,F128];refine zha K128_0 B128_0 (fun c:Nat=>V.length-c) (fun c=>[(5,.int .i64 ((V.length-c:Nat):Int))]) (fun c=>[]) (fun c=>σ) (fun c=>c<=posV nm V) 0 (by simp) ?_;intro c s1 hc q1 q2 q3 q4 q5;simp at q1 q3 q5;have hlt:c<V.length:=by omega
 have hr:=hrow c hlt;have e0:((0:Int)<((V.length-c:Nat):Int))=True:=eqp (by omega);have e1:((V.length-c:Nat):Int).toNat=V.length-c:=by omega
 have e2:V.length-c<V.length+1:=by omega
 have e3:zC .i64 (((V.length-c:Nat):Int)-1)=((V.length-(c+1):Nat):Int):=by rw[zj]<;>omega
 have e4:(0:Int)<=((V.length-c:Nat):Int):=by omega
 by_cases hcp:c=posV nm V
 ·subst hcp;rw[hpn]at hr;generalize V[posV nm V].2=val at hr;clear hrow hc hw hpn hp hlt;generalize((V.length-posV nm V:Nat):Int)=z at*;simp[*]
 ·have hne:¬V[c].1=nm:=by
   intro e;have:¬c<posV nm V:=by
    intro hl;have:=List.not_of_lt_findIdx hl;simp[e]at this
   omega
  have hle:c+1<=posV nm V:=by omega
  have hmu:V.length-(c+1)<V.length-c:=by omega
  generalize V[c].1=nx at hr hne;generalize V[c].2=vx at hr;clear hrow hc hw hpn hp hlt;replace hne:=eqn hne;generalize((V.length-c:Nat):Int)=z at*;simp[*];exact⟨c+1,by omega,rfl,hle⟩
def isER(p:Prog)(T:zc)(q:Rt Int×RS):CRes->zc->Prop:=fun res st=>∃x,res= .ret (.int .i64 x)/\(∀n,q.1= .ok n->x=n)/\st=stR p q.2 (goH q.1) T
theorem zyd{p:Prog}{T:zc}{q:Rt Int×RS}{x:Option (CRes×zc)}(h:PC x (isER p T q)):∃n,x=some (.ret (.int .i64 n),stR p q.2 (goH q.1) T)/\∀z,q.1= .ok z->n=z:=by
 obtain⟨r,st,e,n,rfl,h1,rfl⟩:=zee.1 h;exact⟨n,e,h1⟩
@[simp] theorem isER_ok(p:Prog)(T:zc)(n:Int)(S:RS):isER p T (.ok n,S) (.ret (.int .i64 n)) (stR p S none T)=True:=eq_true ⟨n,rfl,fun _ h=>(by cases h;rfl),rfl⟩
@[simp] theorem isER_stop(p:Prog)(T:zc)(n k:Int)(S:RS):isER p T (.stop k,S) (.ret (.int .i64 n)) (stR p S (some k) T)=True:=eq_true ⟨n,rfl,fun _ h=>(by cases h),rfl⟩
def capV:Nat:=5000000000000
structure SpecER(p:Prog)(w:Nat):Prop where
 expr:∀e S T m k V h n,FitS p S->S.fuel<=w->okE p (zu V) e->wtE e<capE->V.length<capV->FRr p T m k V h n->WTr p T→
  PC (zi E 127 [.ptr 0 0 0,.ptr (nbR p+k) 0 0,zn e] (stR p S none T)) (isER p T ((evF p w).expr e V S))
theorem both_of{p:Prog}{w:Nat}(hE:SpecER p w){e:Expr}{S:RS}{T:zc}{m k:Nat}{V:Vs}{h n:Int}(hS:FitS p S)(hf:S.fuel<=w)(ho:okE p (zu V) e)(hk:e.kind=5)(hop:e.op=18\/e.op=19)(hw:wtE e<capE)(hV:V.length<capV)(hF:FRr p T m k V h n)(hT:WTr p T):
  PC (zi E 156 [.ptr 0 0 0,.ptr (nbR p+k) 0 0,zn e] (stR p S none T)) (isER p T (shortW (evF p w) e V S)):=by
 rw[okE_eq]at ho;obtain⟨o1,_,_,_,o5⟩:=ho;rw[hk]at o1;have hl:e.args.length=2:=by
  simp only[zud]at o1;simp at o1;exact o1.2.2.2
 obtain⟨x,y,hxy⟩:∃x y,e.args=[x,y]:=by
  match h:e.args,hl with
  | [x,y],_=>exact⟨x,y,rfl⟩
 rw[zvd,hxy]at hw;simp only[wtEs]at hw;rw[hxy,okEs,okEs]at o5;have h1:=hE.expr x S T m k V h n hS hf o5.1 (by omega) hV hF hT;have m1:=(zRe p w).expr x V S;refine zqa rfl rfl rfl (by simp[za]) ?_;unfold shortW;have e0:arg0 e.args=x:=by rw[hxy];rfl
 have e1:arg1 e.args=y:=by rw[hxy];rfl
 rw[e0,e1];have g0:e.args[0]? =some x:=by rw[hxy];rfl
 have g1:e.args[1]? =some y:=by rw[hxy];rfl
 generalize(evF p w).expr x V S=q at*;obtain⟨a,S1⟩:=q;obtain⟨z,h1,hz⟩:=zyd h1;rw[za x]at h1;have hov:=zIb p S1 (goH a) T;cases a with
 |stop j=>
  clear hE hF hT hw hxy o1 o5 m1 hl e0 e1 hz;simp[ze]at h1 hov;simp[*,F156,za,ze]
 |ok b=>
  simp only;replace hz:=hz b rfl;subst hz;have h2:=hE.expr y S1 T m k V h n (hS.mono m1.1) (yfa m1.1.fuel hf) o5.2.1 (by omega) hV hF hT;generalize(evF p w).expr y V S1=q at*;obtain⟨b2,S2⟩:=q;obtain⟨z2,h2,hz2⟩:=zyd h2;rw[za y]at h2;clear hE hF hT hw hxy o1 o5 m1 hl e0 e1;simp[ze]at h1 hov h2;have hc:(decide (z=0)=decide (e.op=18))<->((!decide (z=0))==decide (e.op=19))=true:=by
   rcases hop with h|h<;>by_cases hz0:z=0<;>simp[h,hz0]
  by_cases hcc:decide (z=0)=decide (e.op=18)
  ·have hb:=hc.1 hcc;rw[if_pos hcc];clear h2 hc hcc hz2;simp[*,F156,za,ze]
  ·have hb:((!decide (z=0))==decide (e.op=19))=false:=by
    cases hq:((!decide (z=0))==decide (e.op=19))
    ·rfl
    ·exact absurd (hc.2 hq) hcc
   rw[if_neg hcc];clear hc hcc;cases b2 with
   |stop j=>clear hz2;simp at h2;simp[*,F156,za,ze]
   |ok u=>
    replace hz2:=hz2 u rfl;subst hz2;simp at h2;simp[*,F156,za,ze]
def isSR(p:Prog)(T:zc)(m k:Nat)(V:Vs)(q:Rt (How×Vs)×RS):CRes->zc->Prop:=fun res st=>∃T' V1 h n,res= .ret (.tup [])/\st=stR p q.2 (goH q.1) T'/\T.length<=T'.length/\(∀j,j<m->T'[j]? =T[j]?)/\WTr p T'/\FRr p T' m k V1 h n/\V.length<=V1.length∧
 ∀hh V2,q.1= .ok (hh,V2)->V1=V2/\h=howN hh/\∀x,hh= .ret x->n=x
theorem isSR_get{p:Prog}{T:zc}{m k:Nat}{V:Vs}{q:Rt (How×Vs)×RS}{x:Option (CRes×zc)}(h:PC x (isSR p T m k V q)):∃T' V1 h n,x=some (.ret (.tup []),stR p q.2 (goH q.1) T')/\T.length<=T'.length/\(∀j,j<m->T'[j]? =T[j]?)/\WTr p T'/\FRr p T' m k V1 h n/\V.length<=V1.length∧
  ∀hh V2,q.1= .ok (hh,V2)->V1=V2/\h=howN hh/\∀x,hh= .ret x->n=x:=by
 obtain⟨r,st,e,T',V1,h,n,rfl,rfl,h1⟩:=zee.1 h;exact⟨T',V1,h,n,e,h1⟩
structure BlockR(p:Prog)(w:Nat):Prop where
 block:∀l S T m k V n loop,FitS p S->S.fuel<=w->okB p (zu V) loop l->wtSs l<capE->V.length+wtSs l<capV->FRr p T m k V 0 n->WTr p T→
  PC (zi E 76 [.ptr 0 0 0,.ptr (nbR p+k) 0 0,zg l] (stR p S none T)) (isSR p T m k V (zsa (evF p w) l V S))
structure CSr where
 d:Nat
 T:zc
theorem bindV_len{ps:List Par}{l:List Int}(h:l.length=ps.length):(zMc ps l).length=l.length:=by
 simp[zMc,h]
theorem bindV_names{ps:List Par}{l:List Int}(h:l.length=ps.length):zu (zMc ps l)=(ps.map (·.name)).reverse:=by
 simp only[zMc,zu,List.map_reverse];congr 1;rw[List.map_fst_zip];simp[h]
theorem bindV_succ{ps:List Par}{l:List Int}{d:Nat}{x:Par}{n:Int}(hx:ps[d]? =some x)(hn:l[d]? =some n):zMc (ps.take (d+1)) (l.take (d+1))=(x.name,n)::zMc (ps.take d) (l.take d):=by
 have h1:ps.take (d+1)=ps.take d++[x]:=by rw[List.take_add_one,hx];rfl
 have h2:l.take (d+1)=l.take d++[n]:=by rw[List.take_add_one,hn];rfl
 have h3:d<=ps.length:=by have:=(ya.1 hx).1;omega
 have h4:d<=l.length:=by have:=(ya.1 hn).1;omega
 rw[h1,h2];unfold zMc;rw[yda,List.zip_append (by simp;omega)];simp
theorem FRr_push{p:Prog}{T:zc}{m k:Nat}{V:Vs}{h n:Int}(x:List UInt8×Int)(hF:FRr p T m k V h n)(hT:WTr p T)(hm:m<=T.length):∃j junk,j≠k/\T[k]? =some (.arr 3 [.agg [.mslice (nbR p+j) 0 (V.length+1) 2,.int .i64 h,.int .i64 n]])/\T[j]? =some (.arr 2 (rowV V++junk))∧
  (let T1:=(T.set j (Obj.dead 2)++[Obj.arr 2 (rowV (x::V))]).set k (.arr 3 [.agg [.mslice (nbR p+T.length) 0 (V.length+1+1) 2,.int .i64 h,.int .i64 n]]);
   FRr p T1 m k (x::V) h n/\WTr p T1/\T.length<=T1.length/\(∀i,i<m->T1[i]? =T[i]?)/\(T.set j (Obj.dead 2)++[Obj.arr 2 (rowV (x::V))])[k]? =some (.arr 3 [.agg [.mslice (nbR p+j) 0 (V.length+1) 2,.int .i64 h,.int .i64 n]])):=by
 obtain⟨j,junk,j1,j2,h1,h2⟩:=hF.row;have hk:=(ya.1 h1).1;have hj:=(ya.1 h2).1;have hmk:=hF.lo;refine⟨j,junk,j2,h1,h2,⟨hmk,T.length,[],hm,by omega,?_,?_⟩,?_,?_,?_,?_⟩
 ·rw[yl (by simp;omega)];simp
 ·rw[yk (by omega),yh (by simp)];simp
 ·unfold WTr at hT ⊢;simp only[ywa,yi,yj,yn];refine wf_set ?_ ?_
  ·rw[wf_app,yb];refine⟨wf_set (wf_le (by omega) hT) rfl,?_⟩;simp only[zc.wf,yea,List.all_nil,Bool.and_true,Obj.below,rowV,belowL_cons,below_agg];simp only[below_str,below_int,belowL_nil,Bool.and_true,yka];exact zab _ _ _ (fun x=>by simp[encPl])
  ·simp[Obj.below]
 ·simp
 ·intro i hi;rw[yk (by omega),yf (by simp;omega),yk (by omega)]
 ·rw[yf (by simpa using hk),yk j2];exact h1
theorem rowV_cons(x:List UInt8×Int)(V:Vs):rowV (x::V)=rowV V++[.agg [.str x.1,.int .i64 x.2]]:=by simp[rowV,encPl]
theorem push_facts{p:Prog}{S:RS}{T:zc}{m k:Nat}{V:Vs}{h n:Int}(x:List UInt8×Int)(hS:FitS p S)(hF:FRr p T m k V h n)(hT:WTr p T)(hm:m<=T.length):∃j R T1 T2,
  (stR p S none T)[nbR p+k]? =some (.arr 3 [.agg [.mslice (nbR p+j) 0 (V.length+1) 2,.int .i64 h,.int .i64 n]])∧
  (stR p S none T)[nbR p+j]? =some (.arr 2 R)/\V.length+1<=R.length/\(R.take (V.length+1)).map stripA=rowV V∧
  (stR p S none T).set (nbR p+j) (.dead 2)++[.arr 2 (rowV V++[.agg [.str x.1,.int .i64 x.2]])]=stR p S none T2∧
  (stR p S none T2)[nbR p+k]? =some (.arr 3 [.agg [.mslice (nbR p+j) 0 (V.length+1) 2,.int .i64 h,.int .i64 n]])∧
  (stR p S none T2).set (nbR p+k) (.arr 3 [.agg [.mslice (nbR p+T.length) 0 (V.length+1+1) 2,.int .i64 h,.int .i64 n]])=stR p S none T1∧
  FRr p T1 m k (x::V) h n/\WTr p T1/\T.length<=T1.length/\(∀i,i<m->T1[i]? =T[i]?):=by
 obtain⟨j,junk,j2,h1,h2,p1,p2,p3,p4,p5⟩:=FRr_push x hF hT hm;refine⟨j,rowV V++junk,_,T.set j (Obj.dead 2)++[Obj.arr 2 (rowV (x::V))],?_,?_,?_,?_,?_,?_,?_,p1,p2,p3,p4⟩
 ·rw[zGc hS,h1]
 ·rw[zGc hS,h2]
 ·rw[yi,zjd];omega
 ·rw[List.take_append_of_le_length (by rw[zjd];omega),yy (by rw[zjd];omega),rowV_strip]
 ·rw[stR_set hS,stR_app,rowV_cons]
 ·rw[zGc hS];exact p5
 ·rw[stR_set hS]
set_option maxHeartbeats 4000000 in
theorem rcall_of{p:Prog}(hP:OkP p){w:Nat}(hB:BlockR p w){f:Func}{i:Nat}(hi:p.funcs[i]? =some f){S:RS}{T:zc}{l:List Int}(hS:FitS p S)(hw:S.fuel<=w)(hl:l.length=f.params.length)(hT:WTr p T):
  PC (zi E 40 [.ptr 0 0 0,.int .i64 i,ints l] (stR p S none T)) (isER p T (callW (evF p w) f l S)):=by
 have hf:=yga hi;obtain⟨z1,z2,z3⟩:=hP.sz;obtain⟨f1,f2⟩:=z3 f hf;obtain⟨ok1,ok2,ok3⟩:=hP.fn f hf;have hlen:=stR_len (h:=none) (T:=T) hS;have hret:=blockW_ret (evF_fx p w) f.body _ (zMc f.params l) S ok1 ok2;have hmono:=(zgd (zRe p w) f.body (zMc f.params l) S).1;have hblk:∀T',FRr p T' T.length (T.length+1) (zMc f.params l) 0 0->WTr p T'->PC (zi E 76 [.ptr 0 0 0,.ptr (nbR p+(T.length+1)) 0 0,zg f.body] (stR p S none T')) (isSR p T' T.length (T.length+1) (zMc f.params l) (zsa (evF p w) f.body (zMc f.params l) S)):=by
  intro T' h1 h2;exact hB.block f.body S T' _ _ _ _ false hS hw (by rw[bindV_names hl];exact ok1) (by unfold capE;omega) (by rw[bindV_len hl];unfold capV;omega) h1 h2
 refine zqa rfl rfl rfl (by simp[ints]) ?_;unfold callW;generalize zsa (evF p w) f.body (zMc f.params l) S=q at*;obtain⟨a,S1⟩:=q;have hS1:=hS.mono hmono;have hF0:FRr p (T++[.arr 2 (rowV []),.arr 3 [.agg [.mslice (nbR p+T.length) 0 1 2,.int .i64 0,.int .i64 0]]]) T.length (T.length+1) [] 0 0:=by
  refine⟨by omega,T.length,[],yd _,by omega,?_,?_⟩
  ·rw[yh (by omega)];simp
  ·rw[yh (yd _)];simp
 have hT0:WTr p (T++[.arr 2 (rowV []),.arr 3 [.agg [.mslice (nbR p+T.length) 0 1 2,.int .i64 0,.int .i64 0]]]):=by
  unfold WTr;rw[wf_app,yb];refine⟨wf_le (by simp) hT,?_⟩;simp[zc.wf,Obj.below,rowV]
 have htk:∀T':zc,T.length<=T'.length->(∀j,j<T.length->T'[j]? =T[j]?)->T'.take T.length=T:=by
  intro T' h1 h2;apply yba;intro j;rw[yE];split
  ·rename_i hj;exact h2 j hj
  ·rename_i hj;rw[yP (by omega)]
 have hwf:∀h:Option Int,zc.wf (nbR p+T.length) (stR p S1 h T)=true:=fun h=>stR_wf hS1 (by omega) hT
 have hvp:(zl f)= .agg [.str f.name,.int .i64 f.type,parsV f.params,zg f.body]:=rfl;have hln:(l.length:Int)<2000000000000:=by omega
 have hlen1:∀X,(stR p S none (T++[X])).length=nbR p+(T.length+1):=by intro X;rw[stR_len hS];simp
 simp[*,F40,funcs,zl,ints,stR_app];refine zha K40_0 B40_0 (fun c:CSr=>l.length-c.d) (fun c=>[(9,.int .i64 c.d)]) (fun c=>[]) (fun c=>stR p S none c.T)
  (fun c=>c.d<=l.length/\FRr p c.T T.length (T.length+1) (zMc (f.params.take c.d) (l.take c.d)) 0 0/\WTr p c.T/\T.length<=c.T.length/\∀j,j<T.length->c.T[j]? =T[j]?) ⟨0,T++[.arr 2 (rowV []),.arr 3 [.agg [.mslice (nbR p+T.length) 0 1 2,.int .i64 0,.int .i64 0]]]⟩ ?_ ?_
 ·have hb:zMc (f.params.take 0) (l.take 0)=[]:=by simp[zMc]
  have hj:∀j,j<T.length->(T++[.arr 2 (rowV []),.arr 3 [.agg [.mslice (nbR p+T.length) 0 1 2,.int .i64 0,.int .i64 0]]])[j]? =T[j]? :=fun j hj=>yf hj
  rw[<-hb]at hF0;refine⟨by simp,by simp,?_,Nat.zero_le _,hF0,hT0,by simp,hj⟩;simp[rowV,hlen]
 ·rintro⟨d,T1⟩ s1 ⟨d1,d2,d3,d4,d5⟩ g1 g2 g3 g4 g5
  simp at d1 d2 d3 d4 d5 g1 g2 g3 g4 g5;by_cases hd:d<l.length
  ·obtain⟨x,hx⟩:∃x,f.params[d]? =some x:=⟨_,yg (by omega)⟩
   obtain⟨n,hn⟩:∃n,l[d]? =some n:=⟨_,yg hd⟩
   have hb:=bindV_succ hx hn;have hbl:(zMc (f.params.take d) (l.take d)).length=d:=by rw[bindV_len (by simp;omega)];simp;omega
   obtain⟨j,R,T2,T3,e1,e2,e3,e4,e5,e6,e7,e8,e9,e10,e11⟩:=push_facts (x.name,n) hS d2 d3 (by omega);rw[hbl]at e1 e3 e4 e6 e7;rw[<-hb]at e8;have hdec:decide (d<l.length)=true:=by simp;exact hd
   have hw:zC .i64 ((d:Int)+1)=(d:Int)+1:=zj (by omega) (by omega);have hroom:(d+1+1)*24<=zo:=by simp only[zo];omega
   have hrl:=zjd (zMc (f.params.take d) (l.take d));rw[hbl]at hrl;have h0:0<d+1:=by omega
   have hmu:l.length-(d+1)<l.length-d:=by omega
   have hle:d+1<=l.length:=by omega
   have hTl:(stR p S none T1).length=nbR p+T1.length:=stR_len hS;have e12:T.length<=T2.length:=by omega
   have e13:∀j,j<T.length->T2[j]? =T[j]? :=fun j hj=>(e11 j hj).trans (d5 j hj)
   clear hwf htk hS1 hblk hret hmono hF0 hT0 hP hB hS hT hf z1 z2 z3 f1 f2 ok1 ok2 ok3 d1 d2 d3 d4 d5 hd hb hlen hl hi;generalize rowV (zMc (f.params.take d) (l.take d))=RV at*;simp[*,encPar,parsV];exact⟨⟨d+1,T2⟩,by simp[*];exact e13⟩
  ·have hdl:d=l.length:=by omega
   subst hdl;have t1:f.params.take l.length=f.params:=by rw[hl];exact yGa
   have t2:l.take l.length=l:=yGa;rw[t1,t2]at d2;obtain⟨T2,V1,h1,n1,b1,b2,b3,b4,b5,b6,b7⟩:=isSR_get (hblk T1 d2 d3);obtain⟨j,junk,_,_,c1,_⟩:=b5.row;have hg:=zGc (h:=goH a) (T:=T2) hS1 (T.length+1);rw[c1]at hg;have hk:=htk T2 (by omega) (fun j hj=>(b3 j hj).trans (d5 j hj));have htake:(stR p S1 (goH a) T2).take (nbR p+T.length)=stR p S1 (goH a) T:=by rw[stR_take hS1,hk]
   have hwf:=hwf (goH a);have hle:nbR p+T.length<=(stR p S1 (goH a) T2).length:=by rw[stR_len hS1];omega
   have hres:isER p T (match((a,S1):Rt (How×Vs)×RS)with
     |(.ok (.ret n,_),S1)=>(.ok n,S1)
     |(.ok (_,_),S1)=>(.ok 0,S1)
     |(.stop k,S1)=>(.stop k,S1)) (.ret (.int .i64 n1)) (stR p S1 (goH a) T):=by
    cases a with
    |stop j=>simp
    |ok y=>
     obtain⟨hh,V2⟩:=y;obtain⟨z,rfl⟩:=hret hh V2 rfl;have:=(b7 _ _ rfl).2.2 z rfl;subst this;simp
   simp only at b1;clear hblk hret hmono hF0 hT0 hP hB hT hf z1 z2 z3 f1 f2 ok1 ok2 ok3 d1 d2 d3 d4 d5 hd hl hi htk b2 b3 b4 b5 b6 b7 c1 hk hS hS1;simp[*,fin];exact hres
def endW(p:Prog)(ev:Ev)(e:Expr)(V:Vs)(l:List Int)(S:RS):Rt Int×RS:=
 if e.kind=1\/e.kind=2 then(.ok e.n,S)
 else if e.kind=3 then(.ok (getV e.name V),S)
 else madeW p ev e l (zea S)
theorem exprW_alt{p:Prog}{ev:Ev}{e:Expr}{V:Vs}{S:RS}(hk:zud e.kind e.op e.n e.name e.args.length=true)(h5:¬(e.kind=5/\(e.op=18\/e.op=19))):exprW p ev e V S=match zCd ev V e.args [] S with
  |(.stop j,S1)=>(.stop j,S1)
  |(.ok l,S1)=>endW p ev e V l S1:=by
 have h0:(e.kind=1\/e.kind=2\/e.kind=3)->e.args=[]:=by
  intro h;rcases h with h|h|h<;>rw[h]at hk<;>simp[zud]at hk<;>grind
 unfold exprW;by_cases k1:e.kind=1\/e.kind=2
 ·rw[if_pos k1,h0 (by omega)];simp only[zCd,endW];rw[if_pos k1]
 rw[if_neg k1];by_cases k3:e.kind=3
 ·rw[if_pos k3,h0 (by omega)];simp only[zCd,endW];rw[if_neg k1,if_pos k3]
 rw[if_neg k3,if_neg h5];generalize zCd ev V e.args [] S=q;obtain⟨a,S1⟩:=q;cases a with
 |stop j=>rfl
 |ok l=>simp only[endW];rw[if_neg k1,if_neg k3]
structure ARs where
 rest:List Expr
 acc:List Int
 S:RS
set_option maxHeartbeats 8000000 in
theorem rexpr_of{p:Prog}(hP:OkP p){w:Nat}(hE:SpecER p w)(hB:BlockR p w):SpecER p (w+1):=by
 refine⟨fun e S T m k V h n hS hf ho hw hV hF hT=>?_⟩;have hstep:=rstep_spec p S T (by have:=hS.2;omega);have hoe:=ho;rw[okE_eq]at ho;obtain⟨o1,o3,o6,o7,oa⟩:=ho;have hla:=zXb e.args;have hwe:=zvd e;refine zqa rfl rfl rfl (by simp[za]) ?_;simp only[evF];cases hfu:S.fuel with
 |zero=>
  rw[hfu]at hstep;clear o1 o3 o6 o7 oa;simp[*,F127,za,ze]
 |succ k'=>
  rw[hfu]at hstep;simp only at hstep ⊢;have hS0:FitS p {S with fuel:=k'}:=hS.mono ⟨by simp only;omega,by simp only;omega,rfl⟩;have hf0:({S with fuel:=k'}:RS).fuel<=w:=by simp only;omega
  generalize hSS:({S with fuel:=k'}:RS)=S0 at*;clear hSS hfu hf hS;by_cases k5:e.kind=5/\(e.op=18\/e.op=19)
  ·have hsh:=both_of hE hS0 hf0 hoe k5.1 k5.2 hw hV hF hT;have he:exprW p (evF p w) e V S0=shortW (evF p w) e V S0:=by
    unfold exprW;rw[if_neg (by omega),if_neg (by omega),if_pos k5]
   rw[he];generalize shortW (evF p w) e V S0=q at*;obtain⟨a,S1⟩:=q;obtain⟨z,hsh,hz⟩:=zyd hsh;rw[za]at hsh;have hfin:isER p T (a,S1) (.ret (.int .i64 z)) (stR p S1 (goH a) T):=⟨z,rfl,hz,rfl⟩
   obtain⟨k5,hop⟩:=k5;replace k5:=eqp k5;clear o1 o3 o6 o7 oa hoe hE hB hP he hz;simp[ze]at hsh;rcases hop with hop|hop
   ·replace hop:=eqp hop;simp[*,F127,za,ze]
   ·have h18:(e.op=18)=False:=eqn (by omega);replace hop:=eqp hop;simp[*,F127,za,ze]
  rw[exprW_alt o1 k5];have hop:(e.kind=5)=False\/((e.kind=5)=True/\(e.op=18)=False/\(e.op=19)=False):=by
   by_cases h:e.kind=5
   ·exact .inr ⟨eqp h,eqn (fun h'=>k5 ⟨h,.inl h'⟩),eqn (fun h'=>k5 ⟨h,.inr h'⟩)⟩
   ·exact .inl (eqn h)
  have hin:∀x∈e.args,∀S1,FitS p S1->S1.fuel<=w->PC (zi E 127 [.ptr 0 0 0,.ptr (nbR p+k) 0 0,zn x] (stR p S1 none T)) (isER p T ((evF p w).expr x V S1)):=by
   intro x hx S1 h1 h2;have:=zAb hx;exact hE.expr x S1 T m k V h n h1 h2 (okEs_mem oa hx) (by omega) hV hF hT
  have hlp:F127=F127:=rfl;clear hoe hE oa k5 hlp;have key:zva (exec (zi E) F127.body {fr:=frOf [.ptr 0 0 0,.ptr (nbR p+k) 0 0,zn e] 0,bx:=fun _=> .no,st:=stR p S none T})
   (leaveQ F127.res F127.freeze (stR p S none T).length (isER p T (match zCd (evF p w) V e.args [] S0 with
    |(.stop j,S1)=>(.stop j,S1)
    |(.ok l,S1)=>endW p (evF p w) e V l S1))):=by
   rcases hop with k5|⟨k5,k18,k19⟩
   all_goals
    simp[hstep,k5,F127,za,ze]
    try simp[k18,k19]
    refine zha K127_0 B127_0 (fun c:ARs=>c.rest.length) (fun c=>[(7,acc 1 (c.acc.map (PV.int .i64))),(8,.int .i64 c.acc.length)]) (fun c=>[]) (fun c=>stR p c.S none T)
     (fun c=>∃d,e.args=d++c.rest/\d.length=c.acc.length/\zCd (evF p w) V e.args [] S0=zCd (evF p w) V c.rest c.acc c.S/\FitS p c.S/\c.S.fuel<=w) ⟨e.args,[],S0⟩ ?_ ?_
    ·simp[hS0,hf0]
    ·rintro⟨rest,ac,S1⟩ s1 ⟨d,d1,d2,d3,d4,d5⟩ g1 g2 g3 g4 g5
     simp at d1 d2 d3 d4 d5 g1 g2 g3 g4 g5;cases rest with
     |nil=>
      have hlen:ac.length=e.args.length:=by rw[d1,<-d2];simp
      have d3':zCd (evF p w) V e.args [] S0=(.ok ac,S1):=d3;rw[d3'];simp only;have hle:decide (ac.length<e.args.length)=false:=by simp[hlen]
      have hov:=zIb p S1 none T;rw[<-hlen]at o1 o7;clear hin d1 d2 d3 d3' hstep hlen;by_cases k1:e.kind=1
      ·have hcon:(e.kind=5)=True->False:=fun h=>by have:=of_eq_true h;omega
       have he:endW p (evF p w) e V ac S1=(.ok e.n,S1):=by unfold endW;rw[if_pos (.inl k1)]
       rw[he];replace k1:=eqp k1;clear o1 o3 o6 o7 he
       first|exact(hcon k5).elim|(simp[*,ze];done)
      by_cases k2:e.kind=2
      ·have hcon:(e.kind=5)=True->False:=fun h=>by have:=of_eq_true h;omega
       have he:endW p (evF p w) e V ac S1=(.ok e.n,S1):=by unfold endW;rw[if_pos (.inr k2)]
       rw[he];replace k1:=eqn k1;replace k2:=eqp k2;clear o1 o3 o6 o7 he
       first|exact(hcon k5).elim|(simp[*,ze];done)
      by_cases k3:e.kind=3
      ·have hcon:(e.kind=5)=True->False:=fun h=>by have:=of_eq_true h;omega
       have he:endW p (evF p w) e V ac S1=(.ok (getV e.name V),S1):=by unfold endW;rw[if_neg (by omega),if_pos k3]
       rw[he];have hm:=o3 k3;have hp:=posV_lt hm;have hfi:=vfind_spec (ho:=none) d4 hF hm (by unfold capV at hV;exact hV);obtain⟨j,junk,_,_,c1,c2⟩:=hF.row;have q1:=zGc (h:=none) (T:=T) d4 k;have q2:=zGc (h:=none) (T:=T) d4 j;rw[c1]at q1;rw[c2]at q2;have hel:(rowV V++junk)[V.length-posV e.name V]? =some (.agg [.str V[posV e.name V].1,.int .i64 (getV e.name V)]):=by
        rw[yf (by rw[zjd];omega),rowV_get V _ hp];simp only[encPl,posV_get hp]
       generalize V[posV e.name V].1=nx at hel;generalize(rowV V++junk)=R at*;have e2:V.length-posV e.name V<V.length+1:=by omega
       replace k1:=eqn k1;replace k2:=eqn k2;replace k3:=eqp k3;clear o1 o3 o6 o7 he c1 c2 hF hm hp d4;generalize V.length-posV e.name V=z at*
       first|exact(hcon k5).elim|(simp[*,ze];done)
      have he:endW p (evF p w) e V ac S1=madeW p (evF p w) e ac (zea S1):=by unfold endW;rw[if_neg (by omega),if_neg k3]
      rw[he];clear he;have d6:=d4.cost;have d7:(zea S1).fuel<=w:=d5;replace k1:=eqn k1;replace k2:=eqn k2;replace k3:=eqn k3;unfold madeW;by_cases k4:e.kind=4
      ·have hcon:(e.kind=5)=True->False:=fun h=>by have:=of_eq_true h;omega
       rw[if_pos k4];have h1:ac.length=1:=by
        rw[k4]at o1;simp[zud]at o1;omega
       obtain⟨x,rfl⟩:=yF.1 h1;have hone:=rone_spec e.op x [];rw[rone_eq,one_eqC]at hone;have e0:at0 [x]=x:=rfl;rw[e0];have hle1:decide ((1:Int)<(e.args.length:Int))=false:=by simp at hle ⊢;omega
       replace k4:=eqp k4;clear o1 o3 o6 o7 hF d4 hle h1
       first|exact(hcon k5).elim|(simp[*,ze];done)
      rw[if_neg k4];by_cases k6:e.kind=6
      ·have hcon:(e.kind=5)=True->False:=fun h=>by have:=of_eq_true h;omega
       rw[if_pos k6];have h1:ac.length=1:=by
        rw[k6]at o1;simp[zud]at o1;omega
       obtain⟨x,rfl⟩:=yF.1 h1;have e0:at0 [x]=x:=rfl;rw[e0];obtain⟨i,row,a1,a2,a3,a4⟩:=rarr_at d6 (o6 k6);have hcell:=rcell_spec (T:=T) x (by have:=hP.sz.1;omega) a1 a3 a4;have hr:=stR_row (h:=none) (T:=T) (p:=p) a3;have hra:=zYc p e.name (by have:=hP.sz.1;omega);rw[a1]at hra;simp[zf]at hra;unfold cellAt;rw[a1];simp only[Int.toNat_natCast,a3,Option.bind_some];have hle1:decide ((1:Int)<(e.args.length:Int))=false:=by simp at hle ⊢;omega
       by_cases hx:0<=x/\x<row.length
       ·rw[if_pos hx]at hcell;have hn:¬x<0:=by omega
        have hx0:0<=x:=hx.1;have hlt:x.toNat<row.length:=by omega
        rw[if_neg hn];obtain⟨y,hy⟩:∃y,row[x.toNat]? =some y:=⟨_,yg hlt⟩
        have hyy:row[x.toNat]'hlt=y:=by rw[yg hlt]at hy;exact Option.some.inj hy
        have hx2:x<row.length:=hx.2;rw[hy];replace k6:=eqp k6;replace k4:=eqn k4;clear o1 o3 o6 o7 hF d4 hle h1 hx hn a2
        first|exact(hcon k5).elim|(simp[*,ze];done)
       ·rw[if_neg hx]at hcell;have hnone:(if x<0 then none else row[x.toNat]?)=none:=by
         split
         ·rfl
         ·rw[yP];omega
        rw[hnone];replace k6:=eqp k6;replace k4:=eqn k4;clear o1 o3 o6 o7 hF d4 hle h1 hx hnone a2
        first|exact(hcon k5).elim|(simp[*,ze];done)
      rw[if_neg k6];by_cases k8:e.kind=8
      ·have hcon:(e.kind=5)=True->False:=fun h=>by have:=of_eq_true h;omega
       rw[if_pos k8];have h1:ac=[]:=by
        rw[k8]at o1;simp[zud]at o1;grind
       subst h1;have hle1:decide (0<e.args.length)=false:=by simp at hle ⊢;exact hle
       have hk7:(e.kind=7)=False:=eqn (by omega);have hk5:(e.kind=5)=False:=eqn (by omega);replace k4:=eqn k4;replace k6:=eqn k6;replace k8:=eqp k8;clear o1 o3 o6 o7 hF d4 hle;have hic:(zea S1).inp=S1.inp:=rfl;rw[hic];cases hi:S1.inp with
       |nil=>
        have hsc:=setR_cost p S1 T;simp only[ints,hi,yxa]at hsc;have hs4:=setR_4 p (zea S1) T;rw[hic,hi]at hs4;simp only[ints,yxa]at hs4
        first|exact(hcon k5).elim|(simp[*,ze,ints];done)
       |cons u r=>
        have hne:¬((r.length:Int)+1=0):=by omega
        have ht:List.take r.length (r.map (PV.int .i64))=r.map (PV.int .i64):=by rw[yy];simp
        have hs:=setR_inp p (zea S1) T r;have hsc:=setR_cost p S1 T;simp only[ints,hi,yp]at hsc
        first|exact(hcon k5).elim|(simp[*,ze,ints];done)
      rw[if_neg k8];by_cases k7:e.kind=7
      ·have hcon:(e.kind=5)=True->False:=fun h=>by have:=of_eq_true h;omega
       rw[if_pos k7];obtain⟨f,hf',hfl⟩:=o7 k7;have hpl:=zVc p e.name (by have:=hP.sz.2.1;omega);rcases znc (fun f:Func=>decide (f.name=e.name)) p.funcs with⟨a1,a2⟩|⟨i,g,a1,a2,a3,a4,a5⟩
       ·have a2:zKa p e.name=none:=a2;rw[a2]at hf';cases hf'
       have a3:zKa p e.name=some g:=a3;have a1:zBa p e.name=i:=a1;rw[a3,Option.some.injEq]at hf';subst hf';rw[a3];simp only;rw[a1]at hpl;have hcall:=rcall_of hP hB a2 d6 d7 hfl.symm hT;generalize callW (evF p w) g ac (zea S1)=q at*;obtain⟨a,S2⟩:=q;obtain⟨z,hcall,hz⟩:=zyd hcall;have hfin:isER p T (a,S2) (.ret (.int .i64 z)) (stR p S2 (goH a) T):=⟨z,rfl,hz,rfl⟩
       simp[ints]at hcall;simp[zf]at hpl;replace k4:=eqn k4;replace k6:=eqn k6;replace k8:=eqn k8;replace k7:=eqp k7;clear o1 o3 o6 o7 hF d4 a3 a4 a5 a1 hB hP hz
       first|exact(hcon k5).elim|(simp[*,ze];done)
      rw[if_neg k7];have k5':e.kind=5:=by
       by_cases k5':e.kind=5
       ·exact k5'
       ·exfalso;unfold zud at o1;rw[if_neg (by simpa using k1),if_neg (by simpa using k2),if_neg (by simpa using k3),if_neg k4,if_neg k5',if_neg k6,if_neg k7,if_neg k8]at o1;cases o1
      have hcon:(e.kind=5)=False->False:=fun h=>of_eq_false h k5'
      have h2:ac.length=2:=by
       rw[k5']at o1;simp[zud]at o1;omega
      obtain⟨x,y,hxy⟩:∃x y,ac=[x,y]:=by
       match h:ac,h2 with
       | [x,y],_=>exact⟨x,y,rfl⟩
      subst hxy;have e0:at0 [x,y]=x:=rfl;have e1:at1 [x,y]=y:=rfl;rw[e0,e1];have hle1:decide ((2:Int)<(e.args.length:Int))=false:=by simp at hle ⊢;omega
      have htwo:=rtwo_spec e.op x y [];rw[two_eqC]at htwo;generalize twoC e.op x y=q at*;obtain⟨u,ok⟩:=q;simp only at htwo ⊢;replace k4:=eqn k4;replace k6:=eqn k6;replace k8:=eqn k8;replace k7:=eqn k7;replace k5':=eqp k5';clear o1 o3 o6 o7 hF d4 hle h2
      first|exact(hcon k5).elim|(cases ok<;>simp[*,ze];done)
     |cons x rest=>
      have hx:e.args[ac.length]? =some x:=by rw[d1,<-d2];simp
      have hlt:decide (ac.length<e.args.length)=true:=by rw[d1,<-d2];simp
      have hlt2:ac.length<e.args.length:=by rw[d1,<-d2];simp
      have hc:=hin x (by rw[d1];simp) S1 d4 d5;have hm:=((zRe p w).expr x V S1).1;have hwr:zC .i64 ((ac.length:Int)+1)=(ac.length:Int)+1:=zj (by omega) (by unfold capE at hw;omega);have hroom:(ac.length+1)*8<=zo:=by simp only[zo];unfold capE at hw;omega
      have d3':zCd (evF p w) V e.args [] S0=(match(evF p w).expr x V S1 with
       |(.ok n,S2)=>zCd (evF p w) V rest (ac++[n]) S2
       |(.stop k,S2)=>(.stop k,S2)):=d3
      generalize(evF p w).expr x V S1=q at*;obtain⟨a,S2⟩:=q;obtain⟨z,hc,hz⟩:=zyd hc;rw[za]at hc;have hov:=zIb p S2 (goH a) T;have d6:=d4.mono hm;have d7:S2.fuel<=w:=yfa hm.fuel d5;clear hin d3 d4 d5 hm hstep hlt2;cases a with
      |stop k=>
       simp only at d3';rw[d3'];simp[ze]at hc hov;clear d1 d2 d3' hz;simp[*,za,ze]
      |ok u=>
       simp only at d3';replace hz:=hz u rfl;subst hz;simp[ze]at hc hov;have hex:∃d',e.args=d'++rest/\d'.length=ac.length+1:=⟨d++[x],by rw[d1];simp,by simp[d2]⟩
       clear d1 d2;simp[*,za,ze];refine⟨⟨rest,ac++[z],S2⟩,?_⟩;simp[*]
  exact key
theorem frame_facts{p:Prog}{S:RS}{ho:Option Int}{T:zc}{m k:Nat}{V:Vs}{h n:Int}(hS:FitS p S)(hF:FRr p T m k V h n):∃j R,(stR p S ho T)[nbR p+k]? =some (.arr 3 [.agg [.mslice (nbR p+j) 0 (V.length+1) 2,.int .i64 h,.int .i64 n]])/\(stR p S ho T)[nbR p+j]? =some (.arr 2 R)/\V.length+1<=R.length:=by
 obtain⟨j,junk,_,_,h1,h2⟩:=hF.row;refine⟨j,rowV V++junk,?_,?_,?_⟩
 ·rw[zGc hS,h1]
 ·rw[zGc hS,h2]
 ·rw[yi,zjd];omega
theorem frame_how{p:Prog}{S:RS}{ho:Option Int}{T:zc}{m k:Nat}{V:Vs}{h n:Int}(h' n':Int)(hS:FitS p S)(hF:FRr p T m k V h n)(hT:WTr p T):∃j T1,(stR p S ho T)[nbR p+k]? =some (.arr 3 [.agg [.mslice (nbR p+j) 0 (V.length+1) 2,.int .i64 h,.int .i64 n]])∧
  (stR p S ho T).set (nbR p+k) (.arr 3 [.agg [.mslice (nbR p+j) 0 (V.length+1) 2,.int .i64 h',.int .i64 n']])=stR p S ho T1/\FRr p T1 m k V h' n'/\WTr p T1/\T.length<=T1.length/\∀i,i<m->T1[i]? =T[i]? :=by
 obtain⟨j,junk,j1,j2,h1,h2⟩:=hF.row;have hk:=(ya.1 h1).1;have hj:=(ya.1 h2).1;have hmk:=hF.lo;refine⟨j,T.set k (.arr 3 [.agg [.mslice (nbR p+j) 0 (V.length+1) 2,.int .i64 h',.int .i64 n']]),?_,?_,⟨hmk,j,junk,j1,j2,?_,?_⟩,?_,by simp,?_⟩
 ·rw[zGc hS,h1]
 ·rw[stR_set hS]
 ·rw[yl hk]
 ·rw[yk (Ne.symm j2)];exact h2
 ·unfold WTr at hT ⊢;rw[ywa];exact wf_set hT (by simp[Obj.below];omega)
 ·intro i hi;rw[yk (by omega)]
theorem frame_cut{p:Prog}{S:RS}{ho:Option Int}{T:zc}{m k:Nat}{V:Vs}{h n:Int}(d:Nat)(hd:d<=V.length)(hS:FitS p S)(hF:FRr p T m k V h n)(hT:WTr p T):∃j T1,(stR p S ho T)[nbR p+k]? =some (.arr 3 [.agg [.mslice (nbR p+j) 0 (V.length+1) 2,.int .i64 h,.int .i64 n]])∧
  (stR p S ho T).set (nbR p+k) (.arr 3 [.agg [.mslice (nbR p+j) 0 (V.length-d+1) 2,.int .i64 h,.int .i64 n]])=stR p S ho T1/\FRr p T1 m k (V.drop d) h n/\WTr p T1/\T.length<=T1.length/\∀i,i<m->T1[i]? =T[i]? :=by
 obtain⟨j,junk,j1,j2,h1,h2⟩:=hF.row;have hk:=(ya.1 h1).1;have hj:=(ya.1 h2).1;have hmk:=hF.lo;refine⟨j,T.set k (.arr 3 [.agg [.mslice (nbR p+j) 0 (V.length-d+1) 2,.int .i64 h,.int .i64 n]]),?_,?_,⟨hmk,j,(V.take d).reverse.map encPl++junk,j1,j2,?_,?_⟩,?_,by simp,?_⟩
 ·rw[zGc hS,h1]
 ·rw[stR_set hS]
 ·rw[yl hk,yra]
 ·rw[yk (Ne.symm j2),h2,<-yR];congr 3;have:V.reverse=(V.drop d).reverse++(V.take d).reverse:=by rw[<-List.reverse_append,List.take_append_drop]
  unfold rowV;rw[this,yda,yT]
 ·unfold WTr at hT ⊢;rw[ywa];exact wf_set hT (by simp[Obj.below];omega)
 ·intro i hi;rw[yk (by omega)]
structure SpecSR(p:Prog)(w:Nat):Prop where
 stmt:∀s S T m k V n loop,FitS p S->S.fuel<=w->okS p (zu V) loop s->wtS s<capE->V.length+1+wtS s<capV->FRr p T m k V 0 n->WTr p T→
  PC (zi E 101 [.ptr 0 0 0,.ptr (nbR p+k) 0 0,zw s] (stR p S none T)) (isSR p T m k V ((evF p w).stmt s V S))
structure BSr where
 rest:List Stmt
 q:Rt (How×Vs)×RS
 T:zc
 V:Vs
 h:Int
 n:Int
def goS(ev:Ev)(rest:List Stmt)(q:Rt (How×Vs)×RS):Rt (How×Vs)×RS:=match q with
 |(.ok (.on,V),S)=>zXa ev rest V S
 |q=>q
theorem goS_nil(ev:Ev)(q:Rt (How×Vs)×RS):goS ev [] q=q:=by
 obtain⟨a,S⟩:=q;cases a with
 |stop k=>rfl
 |ok y=>obtain⟨h,V⟩:=y;cases h<;>rfl
theorem goS_cons(ev:Ev)(x:Stmt)(r:List Stmt)(V:Vs)(S:RS):goS ev (x::r) (.ok (.on,V),S)=goS ev r (ev.stmt x V S):=by
 simp only[goS,zXa];generalize ev.stmt x V S=q;obtain⟨a,S⟩:=q;cases a with
 |stop k=>rfl
 |ok y=>obtain⟨h,V⟩:=y;cases h<;>rfl
theorem goS_not{ev:Ev}{r:List Stmt}{q:Rt (How×Vs)×RS}(h:∀V,q.1≠ .ok (.on,V)):goS ev r q=q:=by
 obtain⟨a,S⟩:=q;cases a with
 |stop k=>rfl
 |ok y=>obtain⟨hh,V⟩:=y;cases hh<;>first|rfl|exact absurd rfl (h V)
set_option maxHeartbeats 8000000 in
theorem rblock_of{p:Prog}{w:Nat}(hX:SpecSR p w):BlockR p w:=by
 refine⟨fun l S T m k V n loop hS hf ho hw hV hF hT=>?_⟩;have hlen:=zra l;obtain⟨j0,R0,i1,i2,i3⟩:=frame_facts (ho:=none) hS hF;have hrs:∀x∈l,∀S1 T1 V1 n1 loop,FitS p S1->S1.fuel<=w->okS p (zu V1) loop x->V1.length+1+wtS x<capV->FRr p T1 m k V1 0 n1->WTr p T1->PC (zi E 101 [.ptr 0 0 0,.ptr (nbR p+k) 0 0,zw x] (stR p S1 none T1)) (isSR p T1 m k V1 ((evF p w).stmt x V1 S1)):=by
  intro x hx S1 T1 V1 n1 loop h1 h2 h3 h4 h5 h6;exact hX.stmt x S1 T1 m k V1 n1 loop h1 h2 h3 (wt_mem' hx hw) h4 h5 h6
 clear hX;unfold capE at hw;refine zqa rfl rfl rfl (by simp[zg]) ?_;simp[*,F76,zg];refine zha K76_0 B76_0 (fun c:BSr=>c.rest.length) (fun c=>[(7,.int .i64 ((l.length-c.rest.length:Nat):Int))]) (fun c=>[]) (fun c=>stR p c.q.2 (goH c.q.1) c.T)
  (fun c=>(∃d,l=d++c.rest)/\zXa (evF p w) l V S=goS (evF p w) c.rest c.q/\FitS p c.q.2/\c.q.2.fuel<=w/\FRr p c.T m k c.V c.h c.n/\WTr p c.T/\T.length<=c.T.length/\(∀j,j<m->c.T[j]? =T[j]?)/\V.length<=c.V.length∧
   (∀hh V2,c.q.1= .ok (hh,V2)->c.V=V2/\c.h=howN hh/\∀x,hh= .ret x->c.n=x)/\(∀V2,c.q.1= .ok (.on,V2)->okB p (zu c.V) loop c.rest/\c.V.length+wtSs c.rest<capV)) ⟨l,(.ok (.on,V),S),T,V,0,n⟩ ?_ ?_
 ·simp[*];exact⟨rfl,rfl⟩
 ·rintro⟨rest,⟨a,S1⟩,T1,V1,h1,n1⟩ s1 ⟨⟨d,d1⟩,d2,d3,d4,d5,d6,d7,d8,d9,d10,d11⟩ g1 g2 g3 g4 g5
  simp only at d1 d2 d3 d4 d5 d6 d7 d8 d9 d10 d11;simp at g1 g3 g4 g5;have hov:=zIb p S1 (goH a) T1;obtain⟨j1,R1,e1,e2,e3⟩:=frame_facts (ho:=goH a) d3 d5;have hend:(∀rest',goS (evF p w) rest' (a,S1)=(a,S1))\/rest=[]->∃T2,(stR p S1 (goH a) T1).set (nbR p+k) (.arr 3 [.agg [.mslice (nbR p+j1) 0 (V.length+1) 2,.int .i64 h1,.int .i64 n1]])=stR p S1 (goH a) T2/\isSR p T m k V (zsa (evF p w) l V S) (.ret (.tup [])) (stR p S1 (goH a) T2):=by
   intro hq;have hq':goS (evF p w) rest (a,S1)=(a,S1):=by
    rcases hq with h|h
    ·exact h rest
    ·rw[h];exact goS_nil _ _
   rw[hq']at d2;have hd:V1.length-V.length<=V1.length:=by omega
   obtain⟨j2,T2,f1,f2,f3,f4,f5,f6⟩:=frame_cut (ho:=goH a) (V1.length-V.length) hd d3 d5 d6;rw[e1]at f1;have hj:j1=j2:=by
    have:=Option.some.inj f1;simp at this;omega
   subst hj;rw[show V1.length-(V1.length-V.length)+1=V.length+1 from by omega]at f2;refine⟨T2,f2,?_⟩;refine⟨T2,V1.drop (V1.length-V.length),h1,n1,rfl,?_,by omega,fun i hi=>(f6 i hi).trans (d8 i hi),f4,f3,by rw[yra];omega,?_⟩
   ·unfold zsa;rw[d2];cases a with
    |stop k=>rfl
    |ok y=>rfl
   ·intro hh V2 e;unfold zsa at e;rw[d2]at e;cases a with
    |stop k=>cases e
    |ok y=>
     obtain⟨y1,y2⟩:=y;cases e;obtain⟨u1,u2,u3⟩:=d10 _ _ rfl;subst u1;exact⟨rfl,u2,u3⟩
  have hpos:((0:Int)<=(V.length:Int)+1)=True:=eqp (by omega);cases rest with
  |nil=>
   obtain⟨T2,e4,e5⟩:=hend (.inr rfl);have hpos:((0:Int)<=(V.length:Int)+1)=True:=eqp (by omega);clear hend hrs d1 d2 d3 d4 d5 d6 d7 d8 d10 d11 hS hf ho hF hT i1 i2 e2;simp[*]
  |cons x rest=>
   have hdl:l.length-(rest.length+1)=d.length:=by rw[d1];simp
   have hdl2:l.length-rest.length=d.length+1:=by rw[d1];simp;omega
   have hx:l[d.length]? =some x:=by rw[d1];simp
   have hlt:decide (d.length<l.length)=true:=by rw[d1];simp
   have hxm:x∈l:=by rw[d1];simp
   have hwr:zC .i64 ((d.length:Int)+1)=(d.length:Int)+1:=by
    have:d.length<l.length:=by rw[d1];simp
    exact zj (by omega) (by omega)
   have hdd:∃d',l=d'++rest:=⟨d++[x],by rw[d1];simp⟩
   cases a with
   |stop j=>
    obtain⟨T2,e4,e5⟩:=hend (.inl fun _=>rfl);simp at hov;simp only[zzd]at e1 e4 e5;clear hend hrs d1 d2 d3 d4 d5 d6 d7 d8 d10 d11 hS hf ho hF hT i1 i2 hdd hx hxm;by_cases h0:h1=0
    ·subst h0;simp[*]
    ·replace h0:=eqn h0;simp[*]
   |ok y=>
    obtain⟨hh,V2⟩:=y;obtain⟨u1,u2,u3⟩:=d10 _ _ rfl;subst u1;simp at hov;by_cases hon:hh= .on
    ·subst hon;have h0:h1=0:=u2;subst h0;obtain⟨v1,v2⟩:=d11 V1 rfl;rw[okB]at v1;simp only[wtSs]at v2;have hst:=hrs x hxm S1 T1 V1 n1 loop d3 d4 v1.1 (by omega) d5 d6;have hm:=(zRe p w).stmt x V1 S1;have d2':zXa (evF p w) l V S=goS (evF p w) rest ((evF p w).stmt x V1 S1):=d2.trans (goS_cons _ _ _ _ _);generalize(evF p w).stmt x V1 S1=q at*;obtain⟨b,S2⟩:=q;obtain⟨T2,V2,h2,n2,c1,c2,c3,c4,c5,c6,c7⟩:=isSR_get hst;have d3':=d3.mono hm.1;have d4':S2.fuel<=w:=yfa hm.1.fuel d4;have c8:T.length<=T2.length:=by omega
     have c9:∀j,j<m->T2[j]? =T[j]? :=fun j hj=>(c3 j hj).trans (d8 j hj)
     have c10:V.length<=V2.length:=by omega
     have c11:∀V3,b= .ok (.on,V3)->okB p (zu V2) loop rest/\V2.length+wtSs rest<capV:=by
      intro V3 e;have h3:=(hm.2 _ _ e).2;obtain⟨e1,_,_⟩:=c7 _ _ e;subst e1;rw[h3];refine⟨v1.2,?_⟩;have hl:=congrArg yV h3;simp only[zu,yu,yi]at hl;have:(zBc x).length<=1:=by unfold zBc;split<;>simp
      omega
     simp only[zVd]at e1 hov;rw[zb]at c1;simp[ze,zg]at c1;clear hend hrs d1 d2 d3 d4 d5 d6 d7 d8 d10 d11 hS hf ho hF hT i1 i2 hm hst v1 v2 u2 u3 hxm;simp[*,zb,ze,zg];refine⟨⟨rest,(b,S2),T2,V2,h2,n2⟩,?_⟩;simp only[hdl2];exact⟨by simp,by simp,trivial,hdd,trivial,d3',d4',c5,c4,c8,c9,c10,c7,c11⟩
    ·have hne:(howN hh=0)=False:=eqn (by cases hh<;>first|exact absurd rfl hon|(simp[howN]));obtain⟨T2,e4,e5⟩:=hend (.inl fun r=>goS_not (by intro V e;cases e;exact hon rfl));subst u2;simp only[zVd]at e1 e4 e5;clear hend hrs d1 d2 d3 d4 d5 d6 d7 d8 d10 d11 hS hf ho hF hT i1 i2 hdd hx hxm;simp[*]
structure LSr where
 k:Nat
 S:RS
 T:zc
 V:Vs
 n:Int
structure LoopR(p:Prog)(w:Nat):Prop where
 loop:∀s S T m k V n loop,FitS p S->S.fuel<=w->s.kind=5->okS p (zu V) loop s->wtS s<capE->V.length+1+wtS s<capV->FRr p T m k V 0 n->WTr p T→
  PC (zi E 126 [.ptr 0 0 0,.ptr (nbR p+k) 0 0,zw s] (stR p S none T)) (isSR p T m k V (znd (evF p w) (arg0 s.args) s.thn (w+1) V S))
theorem zhb{p:Prog}{T T1:zc}{m k:Nat}{V V1:Vs}{q:Rt (How×Vs)×RS}{h n:Int}(h1:T.length<=T1.length)(h2:∀j,j<m->T1[j]? =T[j]?)(h3:WTr p T1)(h4:FRr p T1 m k V1 h n)(h5:V.length<=V1.length)(h6:∀hh V2,q.1= .ok (hh,V2)->V1=V2/\h=howN hh/\∀x,hh= .ret x->n=x):isSR p T m k V q (.ret (.tup [])) (stR p q.2 (goH q.1) T1):=
 ⟨T1,V1,h,n,rfl,rfl,h1,h2,h3,h4,h5,h6⟩
set_option maxHeartbeats 8000000 in
theorem rloop_of{p:Prog}{w:Nat}(hE:SpecER p w)(hB:BlockR p w):LoopR p w:=by
 refine⟨fun s S T m k V n loop hS hf hk ho hw hV hF hT=>?_⟩;rw[okS_eq]at ho;obtain⟨_,o2,o3,_,_,_,o7,_⟩:=ho;have hl1:s.args.length=1:=by rw[hk]at o2;simp[zN]at o2;omega
 obtain⟨g0,gm⟩:=arg0_one hl1;have hwe:=zAb gm;rw[zta]at hw hV;have oe:=okEs_mem o3 gm;have hadd:zBc s=[]:=if_neg (by omega);rw[hadd,yla]at o7;clear o2 o3 gm;generalize arg0 s.args=c0 at*;have hex:∀S1 T1 V1 n1,FitS p S1->S1.fuel<=w->zu V1=zu V->FRr p T1 m k V1 0 n1->WTr p T1->PC (zi E 127 [.ptr 0 0 0,.ptr (nbR p+k) 0 0,zn c0] (stR p S1 none T1)) (isER p T1 ((evF p w).expr c0 V1 S1)):=by
  intro S1 T1 V1 n1 h1 h2 h3 h4 h5;have hl:=congrArg yV h3;simp only[zu,yu]at hl;exact hE.expr c0 S1 T1 m k V1 0 n1 h1 h2 (by rw[h3];exact oe) (by omega) (by omega) h4 h5
 have hbl:∀S1 T1 V1 n1,FitS p S1->S1.fuel<=w->zu V1=zu V->FRr p T1 m k V1 0 n1->WTr p T1->PC (zi E 76 [.ptr 0 0 0,.ptr (nbR p+k) 0 0,zg s.thn] (stR p S1 none T1)) (isSR p T1 m k V1 (zsa (evF p w) s.thn V1 S1)):=by
  intro S1 T1 V1 n1 h1 h2 h3 h4 h5;have hl:=congrArg yV h3;simp only[zu,yu]at hl;exact hB.block s.thn S1 T1 m k V1 n1 _ h1 h2 (by rw[h3];exact o7) (by omega) (by omega) h4 h5
 clear hE hB o7 oe hwe hw hl1 hV;refine zqa rfl rfl rfl (by simp[zb]) ?_;simp[F126,zb,ze];refine zha K126_0 B126_0 (fun c:LSr=>c.S.fuel) (fun c=>[]) (fun c=>[]) (fun c=>stR p c.S none c.T)
  (fun c=>c.S.fuel<c.k/\znd (evF p w) c0 s.thn (w+1) V S=znd (evF p w) c0 s.thn c.k c.V c.S/\FitS p c.S/\c.S.fuel<=w/\T.length<=c.T.length/\(∀j,j<m->c.T[j]? =T[j]?)/\FRr p c.T m k c.V 0 c.n/\WTr p c.T/\zu c.V=zu V) ⟨w+1,S,T,V,n⟩ ?_ ?_
 ·have:S.fuel<w+1:=by omega
  simp[*]
 ·rintro⟨k',S1,T1,V1,n1⟩ s1 ⟨d1,d2,d3,d4,d5,d5',d6,d7,d8⟩ q1 q2 q3 q4 q5
  simp only at d1 d2 d3 d4 d5 d5' d6 d7 d8;simp at q1 q2 q3 q4 q5;obtain⟨k',rfl⟩:∃k'',k'=k''+1:=⟨k'-1,by omega⟩
  have hVl:V.length<=V1.length:=by
   have hl:=congrArg yV d8;simp only[zu,yu]at hl;omega
  have hc:=hex S1 T1 V1 n1 d3 d4 d8 d6 d7;have hm:=(zRe p w).expr c0 V1 S1;have d2':znd (evF p w) c0 s.thn (w+1) V S=(match(evF p w).expr c0 V1 S1 with
   |(.stop j,S1)=>(.stop j,S1)
   |(.ok n,S1)=>if n=0 then(.ok (.on,V1),S1)else
    match zsa (evF p w) s.thn V1 S1 with
    |(.ok (.brk,V1),S2)=>(.ok (.on,V1),S2)
    |(.ok (.ret m,V1),S2)=>(.ok (.ret m,V1),S2)
    |(.ok (_,V1),S2)=>znd (evF p w) c0 s.thn k' V1 S2
    |(.stop j,S2)=>(.stop j,S2)):=d2
  generalize(evF p w).expr c0 V1 S1=q at*;obtain⟨a,S2⟩:=q;obtain⟨z,hc,hz⟩:=zyd hc;rw[za]at hc;obtain⟨m1,m2⟩:=hm;have e3:=d3.mono m1;have hov:=zIb p S2 (goH a) T1;cases a with
  |stop j=>
   simp only at d2';have hfin:=zhb (q:=((.stop j,S2):Rt (How×Vs)×RS)) d5 d5' d7 d6 hVl (fun hh V2 e=>by cases e);simp only[zVd,zzd]at hfin;rw[<-d2']at hfin;simp[ze]at hc hov;clear hex hbl d1 d2 d2' d3 d4 d5 d6 d7 d8 m1 m2 e3 hz;generalize znd (evF p w) c0 s.thn (w+1) V S=zz at*;simp[*,za,ze]
  |ok u=>
   simp only at d2';replace hz:=hz u rfl;subst hz;replace m2:=m2 z rfl;simp only at m2;simp[ze]at hc hov;by_cases hn:z=0
   ·rw[if_pos hn]at d2';have hfin:=zhb (q:=((.ok (.on,V1),S2):Rt (How×Vs)×RS)) d5 d5' d7 d6 hVl (fun hh V2 e=>by cases e;exact⟨rfl,rfl,fun _ h=>by cases h⟩);simp only[zVd,zzd]at hfin;rw[<-d2']at hfin;replace hn:=eqp hn;clear hex hbl d1 d2 d2' d3 d4 d5 d6 d7 d8 m1 m2 e3;generalize znd (evF p w) c0 s.thn (w+1) V S=zz at*;simp[*,za,ze]
   ·rw[if_neg hn]at d2';have hb:=hbl S2 T1 V1 n1 e3 (yfa m1.fuel d4) d8 d6 d7;have hbm:=zgd (zRe p w) s.thn V1 S2;generalize zsa (evF p w) s.thn V1 S2=q at*;obtain⟨b,S3⟩:=q;obtain⟨T3,V3,h3,n3,c1,c2,c3,c4,c5,c6,c7⟩:=isSR_get hb;have hov2:=zIb p S3 (goH b) T3;have e4:=e3.mono hbm.1;have f3:S3.fuel<=w:=yfa hbm.1.fuel (yfa m1.fuel d4);have f4:S3.fuel<S1.fuel:=by have:=hbm.1.fuel;simp only at this;omega
    have f5:S3.fuel<k':=by omega
    have e5:T.length<=T3.length:=by omega
    have e6:∀j,j<m->T3[j]? =T[j]? :=fun j hj=>(c3 j hj).trans (d5' j hj)
    have e7:V.length<=V3.length:=by omega
    replace hn:=eqn hn;simp[zg]at c1;cases b with
    |stop j=>
     simp only at d2';have hfin:=zhb (q:=((.stop j,S3):Rt (How×Vs)×RS)) e5 e6 c4 c5 e7 (fun hh V2 e=>by cases e);simp only[zVd,zzd]at hfin;rw[<-d2']at hfin;simp at hov2;clear hex hbl d1 d2 d2' d3 d4 d5 d6 d7 d8 m1 m2 e3 c2 c3 c4 c5 c6 c7 e4 f3 f4 f5 e5 e6 e7 hbm hb;generalize znd (evF p w) c0 s.thn (w+1) V S=zz at*;simp[*,za,ze,zg]
    |ok y=>
     obtain⟨hh,V4⟩:=y;obtain⟨u1,u2,u3⟩:=c7 _ _ rfl;subst u1;have hnm:zu V3=zu V:=(hbm.2 _ _ rfl).trans d8;simp at hov2;obtain⟨j3,R3,i1,i2,i3⟩:=frame_facts (ho:=none) e4 c5;obtain⟨j4,T4,w1,w2,w3,w4,w5,w6⟩:=frame_how (ho:=none) 0 n3 e4 c5 c4;rw[i1]at w1;have hj:j4=j3:=by
      have:=Option.some.inj w1;simp at this;omega
     subst hj;have e8:T.length<=T4.length:=by omega
     have e9:∀j,j<m->T4[j]? =T[j]? :=fun j hj=>(w6 j hj).trans (e6 j hj)
     have i4:(stR p S3 none T4)[nbR p+k]? =some (.arr 3 [.agg [.mslice (nbR p+j4) 0 (V3.length+1) 2,.int .i64 0,.int .i64 n3]]):=by
      rw[<-w2,yl];exact(ya.1 i1).1
     cases hh with
     |on=>
      simp only at d2';simp only[howN]at u2;subst u2;clear hex hbl d1 d2 d3 d4 d5 d6 d7 d8 m1 m2 e3 c2 c3 c4 c5 c6 c7 e5 e6 hbm hb w5 w6 i2 i3 u3 d5';simp[*,za,ze,zg];refine⟨⟨k',S3,T4,V3,n3⟩,?_⟩;simp[*];exact e9
     |cont=>
      simp only at d2';simp only[howN]at u2;subst u2;clear hex hbl d1 d2 d3 d4 d5 d6 d7 d8 m1 m2 e3 c2 c3 c4 c5 c6 c7 e5 e6 hbm hb w5 w6 i2 i3 u3 d5';simp[*,za,ze,zg];refine⟨⟨k',S3,T4,V3,n3⟩,?_⟩;simp[*];exact e9
     |brk=>
      simp only at d2';simp only[howN]at u2;subst u2;have hfin:=zhb (q:=((.ok (.on,V3),S3):Rt (How×Vs)×RS)) e8 e9 w4 w3 e7 (fun hh V2 e=>by cases e;exact⟨rfl,rfl,fun _ h=>by cases h⟩);simp only[zVd,zzd]at hfin;rw[<-d2']at hfin;clear hex hbl d1 d2 d2' d3 d4 d5 d6 d7 d8 m1 m2 e3 c2 c3 c4 c5 c6 c7 e5 e6 hbm hb w5 w6 i2 i3 u3 d5' e4 f3 f4 f5 w3 w4;generalize znd (evF p w) c0 s.thn (w+1) V S=zz at*;simp[*,za,ze,zg]
     |ret n'=>
      simp only at d2';simp only[howN]at u2;subst u2;have hfin:=zhb (q:=((.ok (.ret n',V3),S3):Rt (How×Vs)×RS)) e5 e6 c4 c5 e7 (fun hh V2 e=>by cases e;exact⟨rfl,rfl,fun _ h=>by cases h;exact u3 _ rfl⟩);simp only[zVd,zzd]at hfin;rw[<-d2']at hfin;clear hex hbl d1 d2 d2' d3 d4 d5 d6 d7 d8 m1 m2 e3 c2 c3 c4 c5 c6 c7 e5 e6 hbm hb w5 w6 i2 i3 u3 d5' e4 f3 f4 f5 w3 w4 w2 i4;generalize znd (evF p w) c0 s.thn (w+1) V S=zz at*;simp[*,za,ze,zg]
theorem frame_set{p:Prog}{S:RS}{ho:Option Int}{T:zc}{m k:Nat}{V:Vs}{h n:Int}{nm:List UInt8}(a:Int)(hS:FitS p S)(hF:FRr p T m k V h n)(hT:WTr p T)(hm:nm∈zu V):∃j R T1 old,(stR p S ho T)[nbR p+k]? =some (.arr 3 [.agg [.mslice (nbR p+j) 0 (V.length+1) 2,.int .i64 h,.int .i64 n]])∧
  (stR p S ho T)[nbR p+j]? =some (.arr 2 R)/\R[V.length-posV nm V]? =some (.agg [.str nm,.int .i64 old])/\V.length-posV nm V<V.length+1∧
  (stR p S ho T).set (nbR p+j) (.arr 2 (R.set (V.length-posV nm V) (.agg [.str nm,.int .i64 a])))=stR p S ho T1/\FRr p T1 m k (setV nm a V) h n/\WTr p T1/\T.length<=T1.length/\∀i,i<m->T1[i]? =T[i]? :=by
 obtain⟨j,junk,j1,j2,h1,h2⟩:=hF.row;have hk:=(ya.1 h1).1;have hj:=(ya.1 h2).1;have hp:=posV_lt hm;have hR:(rowV V++junk)[V.length-posV nm V]? =some (.agg [.str nm,.int .i64 V[posV nm V].2]):=by
  rw[yf (by rw[zjd];omega),rowV_get V _ hp];simp only[encPl,posV_name hp]
 have hset:(rowV V++junk).set (V.length-posV nm V) (.agg [.str nm,.int .i64 a])=rowV (setV nm a V)++junk:=by
  rw[List.set_append_left _ _ (by rw[zjd];omega)];have:=rowV_set (nm,a) hp;simp only[encPl]at this;rw[this,<-setV_pos hp]
 have hlen:(setV nm a V).length=V.length:=by rw[setV_pos hp];simp
 refine⟨j,rowV V++junk,T.set j (.arr 2 (rowV (setV nm a V)++junk)),_,?_,?_,hR,by omega,?_,⟨hF.lo,j,junk,j1,j2,?_,?_⟩,?_,by simp,?_⟩
 ·rw[zGc hS,h1]
 ·rw[zGc hS,h2]
 ·rw[hset,stR_set hS]
 ·rw[yk j2,h1,hlen]
 ·rw[yl hj]
 ·have hT':=hT;unfold WTr at hT ⊢;rw[ywa];refine wf_set hT ?_;have hb:(Obj.arr 2 (rowV V++junk)).below (nbR p+T.length)=true:=by
   unfold zc.wf at hT;rw[yq]at hT;exact hT _ (yga h2)
  simp only[Obj.below,belowL_append,yb]at hb ⊢;refine⟨?_,hb.2⟩;simp only[rowV,belowL_cons,below_agg,below_str,below_int,belowL_nil,Bool.and_true,yka];exact zab _ _ _ (fun x=>by simp[encPl])
 ·intro i hi;rw[yk (by omega)]
theorem setR_out{p:Prog}{S:RS}{T:zc}(l:List Int):(stR p S none T).set 0 (.arr 10 [.agg [zia p.arrays,funcs p.funcs,ints S.inp,acc 1 (zfc 1 p.arrays),.int .i64 0,.int .i64 0,acc 1 (l.map (PV.int .i64)),.int .i64 S.cost,.int .i64 S.fuel,.bool false]])=stR p {S with out:=l} none T:=rfl
theorem setV_len(nm:List UInt8)(n:Int)(V:Vs):(setV nm n V).length=V.length:=by
 have:=congrArg yV (names_set nm n V);simpa[zu]using this
set_option maxHeartbeats 16000000 in
theorem rstmt_of{p:Prog}(hP:OkP p){w:Nat}(hE:SpecER p w)(hB:BlockR p w):SpecSR p (w+1):=by
 refine⟨fun s S T m k V n loop hS hf ho hw hV hF hT=>?_⟩;have hL:=rloop_of hE hB;have hstep:=rstep_spec p S T (by have:=hS.2;omega);have hoe:=ho;rw[okS_eq]at ho;obtain⟨⟨o0,o0'⟩,o2,o3,o4,o5,o6,o7,o8⟩:=ho;have hws:=hw;have hVs:=hV;rw[zta]at hw hV;refine zqa rfl rfl rfl (by simp[zb]) ?_;simp only[evF];cases hfu:S.fuel with
 |zero=>
  rw[hfu]at hstep;have hfin:=zhb (p:=p) (q:=((.stop 0,S):Rt (How×Vs)×RS)) (yd T.length) (fun _ _=>rfl) hT hF (yd _) (fun hh V2 e=>by cases e);simp at hfin;clear o0 o0' o2 o3 o4 o5 o6 o7 o8 hoe;simp[*,F101,zb,ze,zg]
 |succ k'=>
  rw[hfu]at hstep;simp only at hstep ⊢;have hS0:FitS p {S with fuel:=k'}:=hS.mono ⟨by simp only;omega,by simp only;omega,rfl⟩;have hf0:({S with fuel:=k'}:RS).fuel<=w:=by simp only;omega
  generalize hSS:({S with fuel:=k'}:RS)=S0 at*;clear hSS hfu hf hS;unfold stmtW;by_cases k5:s.kind=5
  ·rw[if_pos k5];have hc:=hL.loop s S0 T m k V n loop hS0 hf0 k5 hoe hws hVs hF hT;replace k5:=eqp k5;generalize znd (evF p w) (arg0 s.args) s.thn (w+1) V S0=q at*;obtain⟨T1,V1,h1,n1,c1,c2,c3,c4,c5,c6,c7⟩:=isSR_get hc;have hfin:=zhb c2 c3 c4 c5 c6 c7;rw[zb]at c1;simp[ze,zg]at c1;clear o0 o0' o2 o3 o4 o5 o6 o7 o8 hoe hL hE hB hP hF hT hw hws hV hVs c2 c3 c4 c5 c6 c7 hc;simp[*,F101,zb,ze,zg]
  rw[if_neg k5];by_cases k6:s.kind=6
  ·rw[if_pos k6];obtain⟨j,T1,a1,a2,a3,a4,a5,a6⟩:=frame_how (ho:=none) 1 n hS0 hF hT;have hfin:=zhb (q:=((.ok (.brk,V),S0):Rt (How×Vs)×RS)) a5 a6 a4 a3 (yd _) (fun hh V2 e=>by cases e;exact⟨rfl,rfl,fun _ h=>by cases h⟩);simp only[zVd]at hfin;replace k5:=eqn k5;replace k6:=eqp k6;clear o0 o0' o2 o3 o4 o5 o6 o7 o8 hoe hL hE hB hP hF hT hw hws hV hVs a3 a4 a5 a6;simp[*,F101,zb,ze,zg]
  rw[if_neg k6];by_cases k7:s.kind=7
  ·rw[if_pos k7];obtain⟨j,T1,a1,a2,a3,a4,a5,a6⟩:=frame_how (ho:=none) 2 n hS0 hF hT;have hfin:=zhb (q:=((.ok (.cont,V),S0):Rt (How×Vs)×RS)) a5 a6 a4 a3 (yd _) (fun hh V2 e=>by cases e;exact⟨rfl,rfl,fun _ h=>by cases h⟩);simp only[zVd]at hfin;replace k5:=eqn k5;replace k6:=eqn k6;replace k7:=eqp k7;clear o0 o0' o2 o3 o4 o5 o6 o7 o8 hoe hL hE hB hP hF hT hw hws hV hVs a3 a4 a5 a6;simp[*,F101,zb,ze,zg]
  rw[if_neg k7];have hl1:1<=(s.args.length:Int):=by
   rw[o2];unfold zN
   repeat' (first|rw[if_neg (by omega)]|split)
   all_goals(first|decide|(simp;done)|omega)
  have gm:=arg0_mem hl1;have g0:s.args[0]? =some (arg0 s.args):=by
   revert hl1;cases s.args with
   |nil=>intro h;simp at h
   |cons x r=>intro _;rfl
  have hwe:=zAb gm;have hc:=hE.expr (arg0 s.args) S0 T m k V 0 n hS0 hf0 (okEs_mem o3 gm) (by omega) (by omega) hF hT;have hm:=(zRe p w).expr (arg0 s.args) V S0;generalize he0:arg0 s.args=x0 at*;generalize(evF p w).expr x0 V S0=q at*;obtain⟨a,S1⟩:=q;obtain⟨z,hc,hz⟩:=zyd hc;rw[za]at hc;have hov:=zIb p S1 (goH a) T;obtain⟨m1,_⟩:=hm;have hS1:=hS0.mono m1;have hf1:S1.fuel<=w:=yfa m1.fuel hf0;replace k5:=eqn k5;replace k6:=eqn k6;replace k7:=eqn k7;cases a with
  |stop j=>
   have hfin:=zhb (p:=p) (q:=((.stop j,S1):Rt (How×Vs)×RS)) (yd T.length) (fun _ _=>rfl) hT hF (yd _) (fun hh V2 e=>by cases e);simp only[zzd]at hfin;simp[ze]at hc hov;clear o0 o0' o2 o3 o4 o5 o6 o7 o8 hoe hL hE hB hP hF hT hw hws hV hVs hl1 gm hwe m1 hS1 hf1 he0 hz;simp[*,F101,zb,za,ze,zg]
  |ok u=>
   simp only;replace hz:=hz u rfl;subst hz;simp[ze]at hc hov;unfold zmd;have hmT:m<=T.length:=by
    obtain⟨j,junk,j1,j2,h1,h2⟩:=hF.row;have:=(ya.1 h2).1;omega
   by_cases k1:s.kind=1
   ·rw[if_pos k1];obtain⟨j,R,T1,T2,e1,e2,e3,e4,e5,e6,e7,e8,e9,e10,e11⟩:=push_facts (s.name,z) hS1 hF hT hmT;have hfin:=zhb (V:=V) (q:=((.ok (.on,(s.name,z)::V),S1):Rt (How×Vs)×RS)) e10 e11 e9 e8 (by simp) (fun hh V2 e=>by cases e;exact⟨rfl,rfl,fun _ h=>by cases h⟩);simp only[zVd]at hfin;have hlen:=stR_len (h:=none) (T:=T) hS1;have hrl:=zjd V;have hroom:(V.length+1+1)*24<=zo:=by simp only[zo];unfold capV at hV;omega
    replace k1:=eqp k1;clear o0 o0' o2 o3 o4 o5 o6 o7 o8 hoe hL hE hB hP hF hT hw hws hV hVs hl1 gm hwe m1 hS1 hf1 he0 e8 e9 e10 e11 hmT;generalize rowV V=RV at*;simp[*,F101,zb,za,ze,zg]
   rw[if_neg k1];by_cases k2:s.kind=2
   ·rw[if_pos k2];obtain⟨j,R,T1,old,e1,e2,e3,e4,e5,e6,e7,e8,e9⟩:=frame_set (ho:=none) z hS1 hF hT (o4 k2);have hfi:=vfind_spec (ho:=none) hS1 hF (o4 k2) (by unfold capV at hV;omega);have hfin:=zhb (V:=V) (q:=((.ok (.on,setV s.name z V),S1):Rt (How×Vs)×RS)) e8 e9 e7 e6 (by rw[setV_len];exact yd _) (fun hh V2 e=>by cases e;exact⟨rfl,rfl,fun _ h=>by cases h⟩);simp only[zVd]at hfin;replace k1:=eqn k1;replace k2:=eqp k2;clear o0 o0' o2 o3 o4 o5 o6 o7 o8 hoe hL hE hB hP hF hT hw hws hV hVs hl1 gm hwe m1 hS1 hf1 he0 e6 e7 e8 e9 hmT;generalize V.length-posV s.name V=z9 at*;simp[*,F101,zb,za,ze,zg]
   rw[if_neg k2];by_cases k3:s.kind=3
   ·rw[if_pos k3];have hl2:s.args.length=2:=by rw[k3]at o2;simp[zN]at o2;omega
    obtain⟨g1,gm1,_,_⟩:=arg1_two hl2;have hwe1:=zAb gm1;have hc1:=hE.expr (arg1 s.args) S1 T m k V 0 n hS1 hf1 (okEs_mem o3 gm1) (by omega) (by omega) hF hT;have hm1:=(zRe p w).expr (arg1 s.args) V S1;generalize arg1 s.args=x1 at*;generalize(evF p w).expr x1 V S1=q at*;obtain⟨a,S2⟩:=q;obtain⟨y,hc1,hz1⟩:=zyd hc1;rw[za]at hc1;have hov1:=zIb p S2 (goH a) T;have hS2:=hS1.mono hm1.1;replace k1:=eqn k1;replace k2:=eqn k2;replace k3:=eqp k3;cases a with
    |stop j=>
     have hfin:=zhb (p:=p) (q:=((.stop j,S2):Rt (How×Vs)×RS)) (yd T.length) (fun _ _=>rfl) hT hF (yd _) (fun hh V2 e=>by cases e);simp only[zzd]at hfin;simp[ze]at hc1 hov1;clear o0 o0' o2 o3 o4 o5 o6 o7 o8 hoe hL hE hB hP hF hT hw hws hV hVs hl1 gm hwe m1 hS1 hf1 he0 hl2 gm1 hwe1 hm1 hS2 hmT hz1;simp[*,F101,zb,za,ze,zg]
    |ok u1=>
     simp only;replace hz1:=hz1 u1 rfl;subst hz1;simp[ze]at hc1 hov1;obtain⟨i,row,a1,a2,a3,a4⟩:=rarr_at hS2.cost (o5 (of_eq_true k3));have hcell:=rcell_spec (T:=T) z (by have:=hP.sz.1;omega) a1 a3 a4;have hrow:=stR_row (h:=none) (T:=T) (p:=p) a3;have hra:=zYc p s.name (by have:=hP.sz.1;omega);rw[a1]at hra;simp[zf]at hra;unfold putAt;rw[a1];simp only[Int.toNat_natCast,a3,Option.bind_some];by_cases hx:0<=z/\z<row.length
     ·rw[if_pos hx]at hcell;rw[if_neg (by omega),if_pos (by omega)];have hlt:z.toNat<row.length:=by omega
      have hx0:0<=z:=hx.1;have hx1:z<row.length:=hx.2;obtain⟨y0,hy0⟩:∃y0,row[z.toNat]? =some y0:=⟨_,yg hlt⟩
      have hput:=rput_row (p:=p) (h:=none) (T:=T) a3 z.toNat y;have hfin:=zhb (V:=V) (q:=((.ok (.on,V),{zea S2 with arrs:=(zea S2).arrs.set i (row.set z.toNat y)}):Rt (How×Vs)×RS)) (yd T.length) (fun _ _=>rfl) hT hF (yd _) (fun hh V2 e=>by cases e;exact⟨rfl,rfl,fun _ h=>by cases h⟩);simp only[zVd]at hfin;clear o0 o0' o2 o3 o4 o5 o6 o7 o8 hoe hL hE hB hP hF hT hw hws hV hVs hl1 gm hwe m1 hS1 hf1 he0 hl2 gm1 hwe1 hm1 hS2 hmT hx hlt a1 a2;simp[*,F101,zb,za,ze,zg]
     ·rw[if_neg hx]at hcell;have hnone:(if z<0 then none else if z.toNat<row.length then some {zea S2 with arrs:=(zea S2).arrs.set i (row.set z.toNat y)}else none:Option RS)=none:=by
       split
       ·rfl
       ·rw[if_neg (by omega)]
      rw[hnone];have hfin:=zhb (p:=p) (q:=((.stop 3,zea S2):Rt (How×Vs)×RS)) (yd T.length) (fun _ _=>rfl) hT hF (yd _) (fun hh V2 e=>by cases e);simp only[zzd]at hfin;clear o0 o0' o2 o3 o4 o5 o6 o7 o8 hoe hL hE hB hP hF hT hw hws hV hVs hl1 gm hwe m1 hS1 hf1 he0 hl2 gm1 hwe1 hm1 hS2 hmT hx a1 a2 hnone hrow;simp[*,F101,zb,za,ze,zg]
   rw[if_neg k3];by_cases k4:s.kind=4
   ·rw[if_pos k4];have hadd:zBc s=[]:=if_neg k1;rw[hadd,yla]at o7 o8;have hblk:∀l,(l=s.els\/l=s.thn)->PC (zi E 76 [.ptr 0 0 0,.ptr (nbR p+k) 0 0,zg l] (stR p S1 none T)) (isSR p T m k V (zsa (evF p w) l V S1)):=by
     rintro l (rfl|rfl)
     ·exact hB.block _ S1 T m k V n _ hS1 hf1 o8 (by omega) (by omega) hF hT
     ·exact hB.block _ S1 T m k V n _ hS1 hf1 o7 (by omega) (by omega) hF hT
    have hc2:=hblk (if z=0 then s.els else s.thn) (by split<;>simp);replace k1:=eqn k1;replace k2:=eqn k2;replace k3:=eqn k3;replace k4:=eqp k4;clear o0 o0' o2 o3 o4 o5 o6 o7 o8 hoe hL hE hB hP hF hT hw hws hV hVs hl1 gm hwe m1 hS1 hf1 he0 hmT hblk;by_cases hn:z=0
    ·rw[if_pos hn]at hc2 ⊢;generalize zsa (evF p w) s.els V S1=q at*;obtain⟨T1,V1,h1,n1,c1,c2,c3,c4,c5,c6,c7⟩:=isSR_get hc2;have hfin:=zhb c2 c3 c4 c5 c6 c7;simp[zg]at c1;replace hn:=eqp hn;clear c2 c3 c4 c5 c6 c7 hc2;simp[*,F101,zb,za,ze,zg]
    ·rw[if_neg hn]at hc2 ⊢;generalize zsa (evF p w) s.thn V S1=q at*;obtain⟨T1,V1,h1,n1,c1,c2,c3,c4,c5,c6,c7⟩:=isSR_get hc2;have hfin:=zhb c2 c3 c4 c5 c6 c7;simp[zg]at c1;replace hn:=eqn hn;clear c2 c3 c4 c5 c6 c7 hc2;simp[*,F101,zb,za,ze,zg]
   rw[if_neg k4];by_cases k8:s.kind=8
   ·rw[if_pos k8];obtain⟨j,T0,b1,b2,b3,b4,b5,b6⟩:=frame_how (ho:=none) 3 n hS1 hF hT;obtain⟨j',T1,a1,a2,a3,a4,a5,a6⟩:=frame_how (ho:=none) 3 z hS1 b3 b4;have hfin:=zhb (q:=((.ok (.ret z,V),S1):Rt (How×Vs)×RS)) (yfa b5 a5) (fun i hi=>(a6 i hi).trans (b6 i hi)) a4 a3 (yd _) (fun hh V2 e=>by cases e;exact⟨rfl,rfl,fun _ h=>by cases h;rfl⟩);simp only[zVd]at hfin;have hjj:j'=j:=by
     rw[<-b2,yl (ya.1 b1).1]at a1;have:=Option.some.inj a1;simp at this;omega
    subst hjj;replace k1:=eqn k1;replace k2:=eqn k2;replace k3:=eqn k3;replace k4:=eqn k4;replace k8:=eqp k8;clear o0 o0' o2 o3 o4 o5 o6 o7 o8 hoe hL hE hB hP hF hT hw hws hV hVs hl1 gm hwe m1 hS1 hf1 he0 hmT a3 a4 a5 a6 b3 b4 b5 b6;simp[*,F101,zb,za,ze,zg]
   rw[if_neg k8];by_cases k9:s.kind=9
   ·rw[if_pos k9];have hfin:=zhb (V:=V) (q:=((.ok (.on,V),{zea S1 with out:=S1.out++[z]}):Rt (How×Vs)×RS)) (yd T.length) (fun _ _=>rfl) hT hF (yd _) (fun hh V2 e=>by cases e;exact⟨rfl,rfl,fun _ h=>by cases h⟩);simp only[zVd]at hfin;have hso:=setR_out (p:=p) (S:=zea S1) (T:=T) (S1.out++[z]);have hroom:(S1.out.length+1)*8<=zo:=by have:=hS1.2;simp only at this;simp only[zo];omega
    have hr4:∀X,((stR p (zea S1) none T).set 0 X)[0]? =some X:=by
     intro X;rw[yl (by rw[stR_len hS1.cost];unfold nbR;omega)]
    have hao:acc 1 ((S1.out++[z]).map (PV.int .i64))= .slice .own 1 (S1.out.map (PV.int .i64)++[.int .i64 z]):=by
     rw[acc_ne (by simp)];simp
    have hio:isOwn (acc 1 (S1.out.map (PV.int .i64)++[.int .i64 z]))=some (1,S1.out.map (PV.int .i64)++[.int .i64 z]):=by
     rw[acc_ne (by simp)];rfl
    rw[hao]at hso;have hco:(zea S1).out=S1.out:=rfl;replace k1:=eqn k1;replace k2:=eqn k2;replace k3:=eqn k3;replace k4:=eqn k4;replace k8:=eqn k8;replace k9:=eqp k9;clear o0 o0' o2 o3 o4 o5 o6 o7 o8 hoe hL hE hB hP hF hT hw hws hV hVs hl1 gm hwe m1 hS1 hf1 he0 hmT hao;simp[*,F101,zb,za,ze,zg]
   rw[if_neg k9];have hfin:=zhb (V:=V) (q:=((.ok (.on,V),S1):Rt (How×Vs)×RS)) (yd T.length) (fun _ _=>rfl) hT hF (yd _) (fun hh V2 e=>by cases e;exact⟨rfl,rfl,fun _ h=>by cases h⟩);simp only[zVd]at hfin;replace k1:=eqn k1;replace k2:=eqn k2;replace k3:=eqn k3;replace k4:=eqn k4;replace k8:=eqn k8;replace k9:=eqn k9;clear o0 o0' o2 o3 o4 o5 o6 o7 o8 hoe hL hE hB hP hF hT hw hws hV hVs hl1 gm hwe m1 hS1 hf1 he0 hmT;simp[*,F101,zb,za,ze,zg]
theorem rspec0(p:Prog):SpecER p 0/\SpecSR p 0:=by
 constructor
 ·refine⟨fun e S T m k V h n hS hf ho hw hV hF hT=>?_⟩;have h0:S.fuel=0:=by omega
  have hstep:=rstep_spec p S T (by omega);rw[h0]at hstep;refine zqa rfl rfl rfl (by simp[za]) ?_;simp only[evF];clear ho hF;simp[*,F127,za,ze]
 ·refine⟨fun s S T m k V n loop hS hf ho hw hV hF hT=>?_⟩;have h0:S.fuel=0:=by omega
  have hstep:=rstep_spec p S T (by omega);rw[h0]at hstep;have hfin:=zhb (p:=p) (q:=((.stop 0,S):Rt (How×Vs)×RS)) (yd T.length) (fun _ _=>rfl) hT hF (yd _) (fun hh V2 e=>by cases e);simp at hfin;refine zqa rfl rfl rfl (by simp[zb]) ?_;simp only[evF];clear ho hF;simp[*,F101,zb,ze,zg]
theorem rspecs{p:Prog}(hP:OkP p):∀w,SpecER p w/\SpecSR p w
 |0=>rspec0 p
 |w+1=>by
  obtain⟨h1,h2⟩:=rspecs hP w;have hB:=rblock_of h2;exact⟨rexpr_of hP h1 hB,rstmt_of hP h1 hB⟩
end PE.U

namespace PE
open Go
section
variable (n:Nat) (R:CRes->zc->Prop) (s:St) (K:PV×zc->Prop) (E:Env) (H:HFn) (fr:Fr)
end
end PE

namespace PE.U
open Go PE
def encRn(r:Rn):PV:= .agg [.int .i64 r.status,.int .i64 r.code,ints r.out,.int .i64 r.cost,.int .i64 r.fuel]
theorem rptrs_snoc(x:PArr):∀(d:List PArr) (b:Nat),zfc b (d++[x])=zfc b d++[.mslice (b+d.length) 0 x.size.toNat 1]
 | [],b=>by simp[zfc]
 |y::d,b=>by
  simp only[yT,zfc,rptrs_snoc x d,yj];rw[show b+1+d.length=b+(d.length+1)from by omega]
set_option maxHeartbeats 4000000 in
theorem refrun_spec(p:Prog)(hz:PSz p)(inp:List Int)(fu:Int)(hf:fu<=100000000000):zi E 18 [zf p,ints inp,.int .i64 fu] []=some (.ret (encRn (evalM p inp fu)),[]):=by
 have hck:=rcheckP_spec p hz;refine zd rfl rfl rfl (by simp[zf,ints]) ?_;unfold evalM;by_cases h0:(zQa p).1=0
 ·rw[if_pos h0];have hP:=checkT_ok hz h0;have hS0:FitS p (run0 p inp fu):=by
   refine⟨?_,?_⟩
   ·simp[run0,List.map_map,yM]
   ·simp[run0];omega
  obtain⟨f,hf',hfp⟩:=hP.main;have hpl:=zVc p zPc (by have:=hP.sz.2.1;omega);rcases znc (fun f:Func=>decide (f.name=zPc)) p.funcs with⟨a1,a2⟩|⟨i,g,a1,a2,a3,a4,a5⟩
  ·have a2:zKa p zPc=none:=a2;rw[a2]at hf';cases hf'
  have a3:zKa p zPc=some g:=a3;have a1:zBa p zPc=i:=a1;rw[a3,Option.some.injEq]at hf';subst hf';rw[a1]at hpl;have hB:=rblock_of (rspecs hP (run0 p inp fu).fuel).2;have hc:=rcall_of hP hB a2 (T:=[]) (l:=[]) hS0 (yd _) (by rw[hfp];rfl) rfl;have hm:=callW_mono (zRe p (run0 p inp fu).fuel) g [] (run0 p inp fu);have hmw:mainW p (run0 p inp fu)=callW (evF p (run0 p inp fu).fuel) g [] (run0 p inp fu):=by unfold mainW;rw[a3]
  rw[hmw];generalize callW (evF p (run0 p inp fu).fuel) g [] (run0 p inp fu)=q at*;obtain⟨a,S1⟩:=q;obtain⟨z,hc,hzz⟩:=zyd hc;have hS1:=hS0.mono hm;have hov:=zIb p S1 (goH a) [];have hr4:∀h X,((stR p S1 h []).set 0 X)[0]? =some X:=by
   intro h X;rw[yl (by rw[stR_len hS1];unfold nbR;omega)]
  have hmx:(if fu<0 then 0 else fu)=max fu 0:=by split<;>omega
  generalize zQa p=ck at*;obtain⟨c0,c1,c2⟩:=ck;simp only at h0;subst h0;simp[zf,zLa,zia]at hck;simp[zf,zia,zPc]at hpl;unfold stR at hc;simp[runR,run0,zaf,zia,ints]at hc;simp[*,F18,zf,zia,ints];refine zG p.arrays K18_0 B18_0 (fun d=>[(10,.int .i64 d.length)]) (fun d=> .arr 10 [.agg [.slice .plain 2 (p.arrays.map zK),funcs p.funcs,.slice .plain 1 (inp.map (PV.int .i64)),acc 1 (zfc 1 d),.int .i64 0,.int .i64 0,.slice .fit 1 [],.int .i64 0,.int .i64 (max fu 0),.bool false]]::d.map (fun x=>intO (yX x.size.toNat 0))) (fun d=>True) (by have:=hz.1;omega) (by simp[zfc]) ?_ ?_
  ·intros d x r s1 hl' hlt hget hget' hwr hp g1 g2 g3 g4;simp at g1 g3;have hsz:=hP.size x hl'.mem;have hsn:=rptrs_snoc x d 1;rw[show 1+d.length=d.length+1 from by omega]at hsn;have hdec:decide (d.length<p.arrays.length)=true:=decide_eq_true hlt;have hs1:(x.size<0)=False:=eqn (by omega);have hs2:(0<=x.size)=True:=eqp (by omega);have hs3:(x.size<=9223372036854775807)=True:=eqp (by omega);have hs4:(8*x.size<=281474976710656)=True:=eqp (by omega);have hrow:Obj.arr 1 (yX x.size.toNat (PV.int .i64 0))=intO (yX x.size.toNat 0):=by simp[intO]
   have hroom:((zfc 1 d).length+1)*24<=zo:=by
    rw[rptrs_len];have:=hz.1;simp only[zo];omega
   have hao:acc 1 (zfc 1 d++[.mslice (d.length+1) 0 x.size.toNat 1])= .slice .own 1 (zfc 1 d++[.mslice (d.length+1) 0 x.size.toNat 1]):=acc_ne (by simp);have hio:isOwn (acc 1 (zfc 1 d++[.mslice (d.length+1) 0 x.size.toNat 1]))=some (1,zfc 1 d++[.mslice (d.length+1) 0 x.size.toNat 1]):=by
    rw[acc_ne (by simp)];rfl
   clear hl' hget' hlt hp hsz hP hS0 hm hr4 hck hS1 hc hov hpl hB a2 hzz;simp[*,zK]
   try rw[hao]
  ·intros s1 hp g1 g2 g3 g4;simp at g1 g3;have hdec:(p.arrays.map (fun x=>intO (yX x.size.toNat 0)))=List.map (intO ∘ fun a=>yX a.size.toNat 0) p.arrays:=rfl;rw[hdec]at g4;clear hdec hP hS0 hp hck hB hm hS1;cases a with
   |stop k=>
    simp at hc;simp[stR,runR,zaf,zia,ints]at hov;clear hzz;simp[*,encRn,runEnd,ints]
   |ok n=>
    replace hzz:=hzz n rfl;subst hzz;simp at hc;simp[stR,runR,zaf,zia,ints]at hov;simp[*,encRn,runEnd,ints]
 ·rw[if_neg h0];generalize zQa p=ck at*;obtain⟨c0,c1,c2⟩:=ck;simp only at h0;simp[zf,zLa]at hck;replace h0:=eqn h0;simp[*,F18,zf,encRn,ints]
def outSame(a b:List Int):Bool:=decide (a=b)
theorem sameOut_spec(a b:List Int)(ha:a.length<1099511627776)(hb:b.length<1099511627776):zi E 38 [ints a,ints b] []=some (.ret (.bool (outSame a b)),[]):=by
 refine zd rfl rfl rfl (by simp[ints]) ?_;unfold outSame;by_cases hl:a.length=b.length
 ·have hl':((a.length:Int)=b.length)=True:=eqp (by omega);simp[*,F38,ints];refine zG a K38_0 B38_0 (fun d=>[(5,.int .i64 d.length)]) (fun _=>[]) (fun d=>b.take d.length=d) (by omega) (by simp) ?_ ?_
  ·intros d x r s1 hs hlt hget hget' hwr hp g1 g2 g3 g4;simp at g1 g3;obtain⟨y,hy⟩:∃y,b[d.length]? =some y:=⟨_,yg (by omega)⟩
   have hdec:decide (d.length<a.length)=true:=decide_eq_true (by omega);have htk:b.take (d.length+1)=d++[y]:=by rw[List.take_add_one,hy,hp];rfl
   by_cases hxy:x=y
   ·subst hxy;clear hs hlt hget' hl hl' hp;simp[*]
   ·have hne:¬a=b:=by
     rintro rfl
     rw[hget]at hy;exact hxy (Option.some.inj hy)
    have h1:(x=y)=False:=eqn hxy;clear hs hlt hget' hl hl' hp htk;simp[*]
  ·intros s1 hp g1 g2 g3 g4;simp at g1 g3;have:a=b:=by rw[<-hp,hl,yGa]
   subst this;clear hp;simp[*]
 ·have hne:¬a=b:=by rintro rfl;exact hl rfl
  have hl':((a.length:Int)=b.length)=False:=eqn (by omega);clear hl;simp[*,F38,ints]
def sameRn(a b:Rn):Bool:=decide (a.status=b.status)&&(decide (a.code=b.code)&&(outSame a.out b.out&&(decide (a.cost=b.cost)&&decide (a.fuel=b.fuel))))
theorem sameRn_self(a:Rn):sameRn a a=true:=by simp[sameRn,outSame]
set_option maxHeartbeats 1000000 in
theorem sameR_spec(a b:Rn)(ha:a.out.length<1099511627776)(hb:b.out.length<1099511627776):zi E 17 [encRn a,encRn b] []=some (.ret (.bool (sameRn a b)),[]):=by
 have ho:=sameOut_spec a.out b.out ha hb;refine zd rfl rfl rfl (by simp[encRn]) ?_;unfold sameRn;generalize outSame a.out b.out=so at*;clear ha hb
 (simp[*,F17,encRn])<;>(repeat' (first|((first|refine sP _ ?_ ?_|refine gP _ ?_ ?_|refine sN _ ?_ ?_|refine gN _ ?_ ?_)<;>intro hc<;>(first|replace hc:=eqn hc|replace hc:=eqp hc)<;>simp[*,F17,encRn])|((first|refine sM _ ?_ ?_|refine gM _ ?_ ?_|refine sB _ ?_ ?_|refine gB _ ?_ ?_)<;>intro hc<;>simp[*,F17,encRn])))
theorem evalM_out(p:Prog)(inp:List Int)(fu:Int)(h:fu<=100000000000):(evalM p inp fu).out.length<1099511627776:=by
 unfold evalM;split
 ·have hm:(mainW p (run0 p inp fu)).2.out.length<=fu.toNat:=by
   unfold mainW;split
   ·rename_i f hf;have:=(callW_mono (zRe p (run0 p inp fu).fuel) f [] (run0 p inp fu)).out;simp only[run0,yn]at this ⊢;omega
   ·simp[run0]
  have:(runEnd (mainW p (run0 p inp fu))).out=(mainW p (run0 p inp fu)).2.out:=by
   generalize mainW p (run0 p inp fu)=q;obtain⟨a,S⟩:=q;cases a<;>rfl
  rw[this];omega
 ·simp
theorem ins_spec(l:List Int)(hl:l.length<=9223372036854775807):zi E 19 [ints l] []=some (.ret (ints (l.take 10)),[]):=by
 refine zd rfl rfl rfl (by simp) ?_;by_cases h:10<l.length
 ·have h1:((10:Int)<l.length)=True:=eqp (by omega);have h2:(10<=l.length)=True:=eqp (by omega);clear hl h;simp[*,F19,ints]
 ·have h1:((10:Int)<l.length)=False:=eqn (by omega);have h2:l.take 10=l:=yy (by omega);rw[h2];clear hl h h2;simp[*,F19,ints]
structure FSt where
 i:Nat
 s:List UInt8
open PE.R (nthK fromK)
def aw201:List UInt8:=[105,110,116,32,109,97,105,110,40,41,32,123,32,105,110,116,32,120,32,61,32,49,59,32,114,101,116,117,114,110,32,120,59,32,125]
def aw202:List UInt8:=[105,110,116,32,109,97,105,110,40,41,32,123,32,105,110,116,32,97,32,61,32,49,59,32,114,101,116,117,114,110,32,97,59,32,125]
set_option maxRecDepth 100000 in
theorem aw201_ok:(zQa (zmc aw201).1).1=0:=by decide+kernel
set_option maxRecDepth 100000 in
theorem aw201_sh:shP (zmc aw201).1=(zmc aw202).1:=by kernel_rfl
theorem aw200_ok:(zQa ⟨[],[]⟩).1=50:=by decide+kernel
theorem psm_nil:PSm ⟨[],[]⟩:=⟨by simp,by simp,by simp⟩
set_option maxHeartbeats 1000000 in
theorem awake20_spec:zi E 8 [] []=some (.ret (.bool true),[]):=by
 refine zd rfl rfl rfl (by simp) ?_;have p1:=parse_spec aw201;have p2:=parse_spec aw202;have r1:=pnames_spec _ (parse_psm aw201);have r2:=pnames_spec ⟨[],[]⟩ psm_nil;have s1:=same03_self _ (parse_psz aw202);have n0:=pname1_spec 0 (by omega) (by omega);have n1:=pname1_spec 26 (by omega) (by omega);have n2:=pname1_spec (-1) (by omega) (by omega);rw[show shortN 0=[97]from by decide]at n0;rw[show shortN 26=[97,49]from by decide]at n1;rw[show shortN (-1)=[]from by decide]at n2;unfold shM at r1 r2;rw[if_pos aw201_ok,aw201_sh]at r1;rw[if_neg (by rw[aw200_ok];simp)]at r2;generalize zmc aw201=q1 at*;generalize zmc aw202=q2 at*;obtain⟨⟨ar1,fs1⟩,e1,m1⟩:=q1;obtain⟨⟨ar2,fs2⟩,e2,m2⟩:=q2;simp[zmf,zf,encRen,aw201,aw202,zia,funcs]at p1 p2 r1 r2 s1;simp[*,F8,zia,funcs]
end PE.U

namespace PE.U
open Go PE
def andR{α β:Type}(q:Rt α×RS)(f:α->RS->Rt β×RS):Rt β×RS:=match q with
 |(.ok a,S)=>f a S
 |(.stop k,S)=>(.stop k,S)
section
variable {p:Prog} {ev:Ev}
theorem argsW_cons(V:Vs)(x:Expr)(r:List Expr)(acc:List Int)(S:RS):zCd ev V (x::r) acc S=andR (ev.expr x V S) fun n S1=>zCd ev V r (acc++[n]) S1:=by
 rw[zCd];unfold andR;generalize ev.expr x V S=q;obtain⟨a,S1⟩:=q;cases a<;>rfl
def contW(ev:Ev)(r:List Stmt):How×Vs->RS->Rt (How×Vs)×RS
 |(.on,V1),S1=>zXa ev r V1 S1
 |(h,V1),S1=>(.ok (h,V1),S1)
theorem stmtsW_cons(V:Vs)(x:Stmt)(r:List Stmt)(S:RS):zXa ev (x::r) V S=andR (ev.stmt x V S) (contW ev r):=by
 rw[zXa];unfold andR;generalize ev.stmt x V S=q;obtain⟨a,S1⟩:=q;cases a with
 |stop k=>rfl
 |ok y=>obtain⟨h,V1⟩:=y;cases h<;>rfl
theorem blockW_eq(l:List Stmt)(V:Vs)(S:RS):zsa ev l V S=andR (zXa ev l V S) fun y S1=>(.ok (y.1,y.2.drop (y.2.length-V.length)),S1):=by
 unfold zsa andR;generalize zXa ev l V S=q;obtain⟨a,S1⟩:=q;cases a<;>rfl
def retN:How->Int
 | .ret n=>n
 |_=>0
theorem callW_eq(f:Func)(l:List Int)(S:RS):callW ev f l S=andR (zsa ev f.body (zMc f.params l) S) fun y S1=>(.ok (retN y.1),S1):=by
 unfold callW andR;generalize zsa ev f.body (zMc f.params l) S=q;obtain⟨a,S1⟩:=q;cases a with
 |stop k=>rfl
 |ok y=>obtain⟨h,V1⟩:=y;cases h<;>rfl
theorem shortW_eq(e:Expr)(V:Vs)(S:RS):shortW ev e V S=andR (ev.expr (arg0 e.args) V S) fun a S1=>if decide (a=0)=decide (e.op=18)then(.ok a,S1)else ev.expr (arg1 e.args) V S1:=by
 unfold shortW andR;generalize ev.expr (arg0 e.args) V S=q;obtain⟨a,S1⟩:=q;cases a<;>rfl
theorem exprW_eq(e:Expr)(V:Vs)(S:RS):exprW p ev e V S=if e.kind=1\/e.kind=2 then(.ok e.n,S)else if e.kind=3 then(.ok (getV e.name V),S)else if e.kind=5/\(e.op=18\/e.op=19)then shortW ev e V S
  else andR (zCd ev V e.args [] S) fun l S1=>madeW p ev e l (zea S1):=by
 unfold exprW andR;generalize zCd ev V e.args [] S=q;obtain⟨a,S1⟩:=q;cases a<;>rfl
def loopN(ev:Ev)(c:Expr)(b:List Stmt)(k:Nat):How×Vs->RS->Rt (How×Vs)×RS
 |(.brk,V1),S2=>(.ok (.on,V1),S2)
 |(.ret m,V1),S2=>(.ok (.ret m,V1),S2)
 |(_,V1),S2=>znd ev c b k V1 S2
theorem loopW_succ(c:Expr)(b:List Stmt)(k:Nat)(V:Vs)(S:RS):znd ev c b (k+1) V S=andR (ev.expr c V S) fun n S1=>if n=0 then(.ok (.on,V),S1)else andR (zsa ev b V S1) (loopN ev c b k):=by
 rw[znd];unfold andR;generalize ev.expr c V S=q;obtain⟨a,S1⟩:=q;cases a with
 |stop k=>rfl
 |ok n=>
  simp only;split
  ·rfl
  generalize zsa ev b V S1=q;obtain⟨a,S2⟩:=q;cases a with
  |stop k=>rfl
  |ok y=>obtain⟨h,V1⟩:=y;cases h<;>rfl
def putW(p:Prog)(s:Stmt)(V:Vs)(n m:Int)(S:RS):Rt (How×Vs)×RS:=match putAt p S s.name n m with
 |some S3=>(.ok (.on,V),S3)
 |none=>(.stop 3,S)
theorem plainW_eq(s:Stmt)(V:Vs)(n:Int)(S1:RS):zmd p ev s V n S1=
 if s.kind=1 then(.ok (.on,(s.name,n)::V),S1)
 else if s.kind=2 then(.ok (.on,setV s.name n V),S1)
 else if s.kind=3 then andR (ev.expr (arg1 s.args) V S1) fun m S2=>putW p s V n m (zea S2)
 else if s.kind=4 then zsa ev (if n=0 then s.els else s.thn) V S1
 else if s.kind=8 then(.ok (.ret n,V),S1)
 else if s.kind=9 then(.ok (.on,V),{zea S1 with out:=S1.out++[n]})
 else(.ok (.on,V),S1):=by
 unfold zmd andR putW;generalize ev.expr (arg1 s.args) V S1=q;obtain⟨a,S2⟩:=q;cases a with
 |stop k=>rfl
 |ok m=>
  simp only
  all_goals(cases putAt p (zea S2) s.name n m<;>rfl)
theorem stmtW_eq(w:Nat)(s:Stmt)(V:Vs)(S:RS):stmtW p ev w s V S=
 if s.kind=5 then znd ev (arg0 s.args) s.thn (w+1) V S
 else if s.kind=6 then(.ok (.brk,V),S)
 else if s.kind=7 then(.ok (.cont,V),S)
 else andR (ev.expr (arg0 s.args) V S) fun n S1=>zmd p ev s V n S1:=by
 unfold stmtW andR;generalize ev.expr (arg0 s.args) V S=q;obtain⟨a,S2⟩:=q;cases a<;>rfl
end
def Bd(c:Int)(S:RS):Prop:=0<=S.cost/\S.cost+S.fuel+c<=1000000000000
def Gr(c:Int)(S S1:RS):Prop:=S.out<+:S1.out/\S.cost<=S1.cost/\S1.cost+S1.fuel<=S.cost+S.fuel+c
structure GrOk(ev:Ev):Prop where
 expr:∀e V S,Bd 0 S->Gr 0 S (ev.expr e V S).2
 stmt:∀s V S,Bd 0 S->Gr 0 S (ev.stmt s V S).2
section
variable {p:Prog} {ev:Ev} (E:GrOk ev)
include E
end
inductive RN:Nm->Vs->Vs->Prop
 |nil:RN [] [] []
 |cons {N:Nm} {V V':Vs} (o w:List UInt8) (a:Int) (h:RN N V V'):RN ((o,w)::N) ((o,a)::V) ((w,a)::V')
theorem RN.len{N:Nm}{V V':Vs}(h:RN N V V'):V'.length=V.length/\N.length=V.length:=by
 induction h with
 |nil=>exact⟨rfl,rfl⟩
 |cons o w a h ih=>simp only[yj];omega
theorem RN.names{N:Nm}{V V':Vs}(h:RN N V V'):N.map (·.1)=zu V:=by
 induction h with
 |nil=>rfl
 |cons o w a h ih=>simp only[zu,yp]at ih ⊢;rw[ih]
theorem RN.get{N:Nm}{V V':Vs}(h:RN N V V')(hN:(N.map (·.2)).Nodup){nm:List UInt8}(hm:nm∈zu V):getV (zba nm N) V'=getV nm V:=by
 induction h with
 |nil=>simp[zu]at hm
 |cons o w a h ih=>
  rw[yp,List.nodup_cons]at hN;unfold zba;by_cases ho:o=nm
  ·subst ho;simp[getV]
  ·rw[if_neg ho];simp only[zu,yp,yw]at hm;have hm2:=hm.resolve_left (fun e=>ho e.symm);have hf:=findN_mem (N:=_) (by rw[h.names];exact hm2);have hw:¬w=zba nm _:=fun e=>hN.1 (e ▸ hf)
   unfold getV;simp only;rw[if_neg ho,if_neg hw];exact ih hN.2 hm2
theorem RN.set{N:Nm}{V V':Vs}(h:RN N V V')(hN:(N.map (·.2)).Nodup){nm:List UInt8}(hm:nm∈zu V)(n:Int):RN N (setV nm n V) (setV (zba nm N) n V'):=by
 induction h with
 |nil=>simp[zu]at hm
 |cons o w a h ih=>
  rw[yp,List.nodup_cons]at hN;unfold zba;by_cases ho:o=nm
  ·subst ho;simp only[if_true,setV];exact .cons _ _ _ h
  ·rw[if_neg ho];simp only[zu,yp,yw]at hm;have hm2:=hm.resolve_left (fun e=>ho e.symm);have hf:=findN_mem (N:=_) (by rw[h.names];exact hm2);have hw:¬w=zba nm _:=fun e=>hN.1 (e ▸ hf)
   unfold setV;simp only;rw[if_neg ho,if_neg hw];exact .cons _ _ _ (ih hN.2 hm2)
theorem RN.drop{A N:Nm}{V V':Vs}(h:RN (A++N) V V'):RN N (V.drop A.length) (V'.drop A.length):=by
 induction A generalizing V V' with
 |nil=>exact h
 |cons x r ih=>
  cases h with
  |cons o w a h=>exact ih h
mutual
def inE(p:Prog)(ns:List (List UInt8)):Expr->Prop
 |⟨k,o,n,nm,a⟩=>(k=3->nm∈ns)/\(k=7->∀f,zKa p nm=some f->f.params.length=a.length)/\inEs p ns a
def inEs(p:Prog)(ns:List (List UInt8)):List Expr->Prop
 | []=>True
 |x::r=>inE p ns x/\inEs p ns r
end
mutual
theorem inE_of{p:Prog}{ns:List (List UInt8)}:∀{e:Expr},okE p ns e->inE p ns e
 |⟨k,o,n,nm,a⟩,h=>by
  rw[okE]at h;rw[inE];refine⟨h.2.1,fun hk f hf=>?_,inEs_of h.2.2.2.2⟩;obtain⟨g,hg,hl⟩:=h.2.2.2.1 hk;rw[hf]at hg;cases hg;exact hl
theorem inEs_of{p:Prog}{ns:List (List UInt8)}:∀{l:List Expr},okEs p ns l->inEs p ns l
 | [],h=>by rw[inEs];trivial
 |x::r,h=>by
  rw[okEs]at h;rw[inEs];exact⟨inE_of h.1,inEs_of h.2⟩
end
theorem inE_e0(p:Prog)(ns:List (List UInt8)):inE p ns e0:=by
 unfold e0;rw[inE,inEs];exact⟨fun h=>absurd h (by decide),fun h=>absurd h (by decide),trivial⟩
theorem inE_arg0{p:Prog}{ns:List (List UInt8)}{l:List Expr}(h:inEs p ns l):inE p ns (arg0 l):=by
 cases l with
 |nil=>exact inE_e0 p ns
 |cons x r=>rw[inEs]at h;exact h.1
theorem inE_arg1{p:Prog}{ns:List (List UInt8)}{l:List Expr}(h:inEs p ns l):inE p ns (arg1 l):=by
 match l,h with
 | [],_=>exact inE_e0 p ns
 | [x],_=>exact inE_e0 p ns
 |x::y::r,h=>rw[inEs,inEs]at h;exact h.2.1
def RelT(N:Nm)(r r':Rt (How×Vs)×RS):Prop:=match r with
 |(.stop k,S)=>r'=(.stop k,S)
 |(.ok (h,V),S)=>∃V',r'=(.ok (h,V'),S)/\RN N V V'
def RelB(N:Nm)(r r':Rt (How×Vs)×RS):Prop:=match r with
 |(.stop k,S)=>r'=(.stop k,S)
 |(.ok (h,V),S)=>∃V' A,r'=(.ok (h,V'),S)/\RN (A++N) V V'
structure RenOk(p:Prog)(ev ev':Ev):Prop where
 expr:∀e N V V' S c,inE p (zu V) e->RN N V V'->NI N c->ev'.expr (renE N e) V' S=ev.expr e V S
 stmt:∀s N c V V' S loop,okS p (zu V) loop s->RN N V V'->NI N c->c+wtS s<=4000000000000->RelT (renS s N c).2.1 (ev.stmt s V S) (ev'.stmt (renS s N c).1 V' S)
section
variable {p:Prog} {ev ev':Ev} (E:RenOk p ev ev') (A:EvOk ev)
include E A
end
theorem rn_parsJ:∀(ps:List Par) (l:List Int) (N:Nm) (c:Nat) (V V':Vs),RN N V V'->l.length=ps.length→
  RN (shPs ps N c).2.1 (((ps.map (·.name)).zip l).reverse++V) ((((shPs ps N c).1.map (·.name)).zip l).reverse++V')
 | [],l,N,c,V,V',h,hl=>by simpa[shPs]using h
 |x::r,[],N,c,V,V',h,hl=>by simp at hl
 |x::r,a::l,N,c,V,V',h,hl=>by
  have:=rn_parsJ r l ((x.name,nthM c)::N) (c+1) ((x.name,a)::V) ((nthM c,a)::V') (.cons _ _ _ h) (by simpa using hl);simpa[shPs]using this
structure RenOkJ(p:Prog)(ev ev':Ev):Prop where
 expr:∀e N V V' S c,inE p (zu V) e->RN N V V'->NJ N c->ev'.expr (renE N e) V' S=ev.expr e V S
 stmt:∀s N c V V' S loop,okS p (zu V) loop s->RN N V V'->NJ N c->c+wtS s<=4000000000000->RelT (shS s N c).2.1 (ev.stmt s V S) (ev'.stmt (shS s N c).1 V' S)
section
variable {p:Prog} {ev ev':Ev} (E:RenOkJ p ev ev') (A:EvOk ev)
include E A
theorem args_renJ{N:Nm}{V V':Vs}{c:Nat}(h:RN N V V')(hN:NJ N c):∀(l:List Expr) (acc:List Int) (S:RS),inEs p (zu V) l->zCd ev' V' (zV N l) acc S=zCd ev V l acc S
 | [],acc,S,_=>by rw[zV];rfl
 |x::r,acc,S,hi=>by
  rw[inEs]at hi;rw[zV,argsW_cons,argsW_cons,E.expr x N V V' S c hi.1 h hN];congr 1;funext n S1;exact args_renJ h hN r _ S1 hi.2
theorem stmts_renJ:∀(l:List Stmt) (N:Nm) (c:Nat) (V V':Vs) (S:RS) (loop:Bool),okB p (zu V) loop l->RN N V V'->NJ N c->c+wtSs l<=4000000000000->RelB N (zXa ev l V S) (zXa ev' (shB l N c).1 V' S)
 | [],N,c,V,V',S,loop,_,h,_,_=>⟨V',[],by rw[shB];rfl,h⟩
 |x::r,N,c,V,V',S,loop,ho,h,hN,hc=>by
  rw[okB]at ho;have hw:wtSs (x::r)=1+wtS x+wtSs r:=rfl;have hb:=renS_bdJ x N c;have hs:=E.stmt x N c V V' S loop ho.1 h hN (by omega);have hn:=ni_renJ x N c hN (by omega);have hm:=(A.stmt x V S).2;have hN1:∃B,(shS x N c).2.1=B++N:=by
   obtain⟨k,ty,nm,ar,th,el⟩:=x;simp only[shS];split
   ·exact⟨[(nm,nthM c)],rfl⟩
   ·exact⟨[],rfl⟩
  obtain⟨B,hB⟩:=hN1;simp only[shB];rw[stmtsW_cons,stmtsW_cons];generalize ev.stmt x V S=q at*;obtain⟨a,S1⟩:=q;cases a with
  |stop k=>
   simp only[RelT]at hs;rw[hs];exact rfl
  |ok y=>
   obtain⟨hw',V1⟩:=y;obtain⟨V1',hs,hr⟩:=hs;rw[hs];have hnm:=(hm hw' V1 rfl).2;cases hw' with
   |on=>
    have ih:=stmts_renJ r (shS x N c).2.1 (shS x N c).2.2 V1 V1' S1 loop (by rw[hnm];exact ho.2) hr hn (by omega);show RelB N (zXa ev r V1 S1) (zXa ev' _ V1' S1)
    rw[hB]at ih ⊢;generalize zXa ev r V1 S1=q at*;obtain⟨a,S2⟩:=q;cases a with
    |stop k=>exact ih
    |ok y=>
     obtain⟨h2,V2⟩:=y;obtain⟨V2',C,e,hr2⟩:=ih;exact⟨V2',C++B,e,by rw[yR];exact hr2⟩
   |brk=>exact⟨V1',B,rfl,by rw[<-hB];exact hr⟩
   |cont=>exact⟨V1',B,rfl,by rw[<-hB];exact hr⟩
   |ret n=>exact⟨V1',B,rfl,by rw[<-hB];exact hr⟩
theorem block_renJ(l:List Stmt)(N:Nm)(c:Nat)(V V':Vs)(S:RS)(loop:Bool)(ho:okB p (zu V) loop l)(h:RN N V V')(hN:NJ N c)(hc:c+wtSs l<=4000000000000):RelT N (zsa ev l V S) (zsa ev' (shB l N c).1 V' S):=by
 have hs:=stmts_renJ E A l N c V V' S loop ho h hN hc;rw[blockW_eq,blockW_eq];generalize zXa ev l V S=q at*;obtain⟨a,S1⟩:=q;cases a with
 |stop k=>
  simp only[RelB]at hs;rw[hs];exact rfl
 |ok y=>
  obtain⟨h1,V1⟩:=y;obtain⟨V1',C,e,hr⟩:=hs;rw[e];have l1:=hr.len;have l2:=h.len;rw[yi]at l1;have e1:V1.length-V.length=C.length:=by omega
  have e2:V1'.length-V'.length=C.length:=by omega
  refine⟨V1'.drop C.length,by rw[<-e2];rfl,?_⟩;show RN N (V1.drop (V1.length-V.length)) _
  rw[e1];exact hr.drop
end
section
variable {p:Prog} {ev ev':Ev} (E:RenOk p ev ev') (A:EvOk ev) (O:OkP p)
include E A O
end
section
variable {p:Prog} {ev ev':Ev} (E:RenOkJ p ev ev') (A:EvOk ev) (O:OkP p)
include E A O
theorem call_renJ(f:Func)(hf:f∈p.funcs)(l:List Int)(hl:l.length=f.params.length)(S:RS):callW ev' (shF f) l S=callW ev f l S:=by
 obtain⟨z1,z2,z3⟩:=O.sz;have hz:=z3 f hf;have hp:=zWc f.params [] 0;have hr:=rn_parsJ f.params l [] 0 [] [] .nil hl;have hn:=ni_parsJ f.params [] 0 ⟨by simp,fun x h=>by simp at h⟩ (by omega);simp only[List.append_nil]at hr;have ho:=(O.fn f hf).1;have hnm:zu (zMc f.params l)=(f.params.map (·.name)).reverse:=by
  unfold zMc zu;rw[List.map_reverse,List.map_fst_zip (by simp;omega)]
 have hb:=block_renJ E A f.body (shPs f.params [] 0).2.1 (shPs f.params [] 0).2.2 (zMc f.params l) (zMc (shF f).params l) S false (by rw[hnm];exact ho) hr hn (by omega);have hbody:(shF f).body=(shB f.body (shPs f.params [] 0).2.1 (shPs f.params [] 0).2.2).1:=rfl;rw[callW_eq,callW_eq,hbody];generalize zsa ev f.body (zMc f.params l) S=q at*;obtain⟨a,S1⟩:=q;cases a with
 |stop k=>
  simp only[RelT]at hb;rw[hb]
  try rfl
 |ok y=>
  obtain⟨h1,V1⟩:=y;obtain⟨V1',e,hr1⟩:=hb;rw[e];rfl
theorem made_renJ(e:Expr)(nm':List UInt8)(ar':List Expr)(hnm:e.kind≠3->nm'=e.name)(l:List Int)(hl:e.kind=7->∀f,zKa p e.name=some f->l.length=f.params.length)(h3:e.kind≠3)(S:RS):
  madeW (shP p) ev' ⟨e.kind,e.op,e.n,nm',ar'⟩ l S=madeW p ev e l S:=by
 rw[hnm h3];unfold madeW;simp only;have hc:∀n,cellAt (shP p) S e.name n=cellAt p S e.name n:=fun _=>rfl
 rw[hc,ren_funcJ];by_cases k7:e.kind=7
 ·simp only[k7];rw[if_neg (by decide),if_neg (by decide),if_neg (by decide),if_pos trivial,if_neg (by decide),if_neg (by decide),if_neg (by decide),if_pos trivial];cases hf:zKa p e.name with
  |none=>rfl
  |some f=>exact call_renJ E A O f (List.mem_of_find?_eq_some hf) l (hl k7 f hf) S
 ·rw[if_neg k7,if_neg k7]
theorem short_renJ{N:Nm}{V V':Vs}{c:Nat}(h:RN N V V')(hN:NJ N c)(e:Expr)(nm':List UInt8)(S:RS)(hi:inEs p (zu V) e.args):shortW ev' ⟨e.kind,e.op,e.n,nm',zV N e.args⟩ V' S=shortW ev e V S:=by
 rw[shortW_eq,shortW_eq];simp only;rw[ren_arg0,ren_arg1,E.expr _ N V V' S c (inE_arg0 hi) h hN];congr 1;funext a S1;rw[E.expr _ N V V' S1 c (inE_arg1 hi) h hN]
theorem expr_renJ{N:Nm}{V V':Vs}{c:Nat}(h:RN N V V')(hN:NJ N c)(e:Expr)(S:RS)(hi:inE p (zu V) e):exprW (shP p) ev' (renE N e) V' S=exprW p ev e V S:=by
 obtain⟨k,o,n,nm,ar⟩:=e;rw[inE]at hi;rw[renE,exprW_eq,exprW_eq];simp only;by_cases k3:k=3
 ·subst k3;have e1:((3:Int)=1\/(3:Int)=2)=False:=by simp
  simp only[e1,if_false,if_true];rw[h.get hN.1 (hi.1 rfl)]
 ·rw[if_neg k3,if_neg k3,if_neg k3];rw[short_renJ E A O h hN ⟨k,o,n,nm,ar⟩ nm S hi.2.2];rw[args_renJ E A h hN ar [] S hi.2.2];have hm:=(argsW_mono A V ar [] S).2;generalize zCd ev V ar [] S=q at*;obtain⟨a,S1⟩:=q;cases a with
  |stop j=>rfl
  |ok l=>
   have hl:l.length=ar.length:=by have:=hm l rfl;simpa using this
   have:=made_renJ E A O ⟨k,o,n,nm,ar⟩ nm (zV N ar) (fun _=>rfl) l (fun hk f hf=>by rw[hl];exact(hi.2.1 hk f hf).symm) k3 (zea S1);show(if _ then _ else if _ then _ else madeW (shP p) ev' _ l (zea S1))=_
   rw[this];rfl
theorem loop_renJ{N:Nm}{c:Nat}(hN:NJ N c)(e:Expr)(b:List Stmt)(hc:c+wtSs b<=4000000000000):∀(k:Nat) (V V':Vs) (S:RS),inE p (zu V) e->okB p (zu V) true b->RN N V V'→
  RelT N (znd ev e b k V S) (znd ev' (renE N e) (shB b N c).1 k V' S)
 |0,V,V',S,_,_,_=>rfl
 |k+1,V,V',S,hi,ho,h=>by
  rw[loopW_succ,loopW_succ,E.expr e N V V' S c hi h hN];generalize ev.expr e V S=q;obtain⟨a,S1⟩:=q;cases a with
  |stop j=>rfl
  |ok n=>
   show RelT N (if n=0 then _ else _) (if n=0 then _ else _)
   by_cases hn:n=0
   ·rw[if_pos hn,if_pos hn];exact⟨V',rfl,h⟩
   rw[if_neg hn,if_neg hn];have hb:=block_renJ E A b N c V V' S1 true ho h hN hc;have hnm:=(zgd A b V S1).2;generalize zsa ev b V S1=q at*;obtain⟨a,S2⟩:=q;cases a with
   |stop j=>
    simp only[RelT]at hb;rw[hb]
    try rfl
   |ok y=>
    obtain⟨h1,V1⟩:=y;obtain⟨V1',e1,hr⟩:=hb;rw[e1];have hv:=hnm h1 V1 rfl;cases h1 with
    |on=>exact loop_renJ hN e b hc k V1 V1' S2 (by rw[hv];exact hi) (by rw[hv];exact ho) hr
    |brk=>exact⟨V1',rfl,hr⟩
    |cont=>exact loop_renJ hN e b hc k V1 V1' S2 (by rw[hv];exact hi) (by rw[hv];exact ho) hr
    |ret m=>exact⟨V1',rfl,hr⟩
end
section
variable {p:Prog} {ev ev':Ev} (E:RenOk p ev ev') (A:EvOk ev) (O:OkP p)
include E A O
end
section
variable {p:Prog} {ev ev':Ev} (E:RenOkJ p ev ev') (A:EvOk ev) (O:OkP p)
include E A O
theorem plain_renJ{N:Nm}{V V':Vs}{c:Nat}(h:RN N V V')(hN:NJ N c)(s:Stmt)(loop:Bool)(ho:okS p (zu V) loop s)(hc:c+wtS s<=4000000000000)(k5:s.kind≠5)(n:Int)(S:RS):
  RelT (shS s N c).2.1 (zmd p ev s V n S) (zmd (shP p) ev' (shS s N c).1 V' n S):=by
 obtain⟨k,ty,nm,ar,th,el⟩:=s;have hw:=zta ⟨k,ty,nm,ar,th,el⟩;simp only at hw k5;rw[okS]at ho;obtain⟨_,_,o3,o4,_,_,o7,o8⟩:=ho;simp only[shS];rw[plainW_eq,plainW_eq];simp only;by_cases k1:k=1
 ·subst k1;simp only[if_true,true_or];have hf:zba nm ((nm,nthM c)::N)=nthM c:=by simp[zba]
  rw[hf];exact⟨_,rfl,.cons _ _ _ h⟩
 simp only[k1,if_false,false_or,yla]at o7 o8 ⊢;by_cases k2:k=2
 ·subst k2;simp only[if_true];exact⟨_,rfl,h.set hN.1 (o4 rfl) n⟩
 simp only[k2,if_false];by_cases k3:k=3
 ·subst k3;simp only[if_true];rw[ren_arg1,E.expr _ N V V' S c (inE_arg1 (inEs_of o3)) h hN];generalize ev.expr (arg1 ar) V S=q;obtain⟨a,S1⟩:=q;cases a with
  |stop j=>exact rfl
  |ok m=>
   show RelT N (putW p _ V n m (zea S1)) (putW (shP p) _ V' n m (zea S1))
   have hp:putAt (shP p) (zea S1) nm n m=putAt p (zea S1) nm n m:=rfl;unfold putW;simp only;rw[hp];cases putAt p (zea S1) nm n m with
   |none=>exact rfl
   |some S3=>exact⟨V',rfl,h⟩
 simp only[k3,if_false];by_cases k4:k=4
 ·subst k4;simp only[if_true];have hb:=zxd th N c;by_cases hn:n=0
  ·simp only[hn,if_true];exact block_renJ E A el N (shB th N c).2.2 V V' S loop o8 h (hN.le hb.2.1) (by omega)
  ·simp only[hn,if_false];have e:(loop||decide ((4:Int)=5))=loop:=by simp
   rw[e]at o7;exact block_renJ E A th N c V V' S loop o7 h hN (by omega)
 simp only[k4,if_false];by_cases k8:k=8
 ·simp only[k8,if_true];exact⟨V',rfl,h⟩
 simp only[k8,if_false];by_cases k9:k=9
 ·simp only[k9,if_true];exact⟨V',rfl,h⟩
 simp only[k9,if_false];exact⟨V',rfl,h⟩
theorem stmt_renJ{N:Nm}{V V':Vs}{c:Nat}(h:RN N V V')(hN:NJ N c)(w:Nat)(s:Stmt)(loop:Bool)(ho:okS p (zu V) loop s)(hc:c+wtS s<=4000000000000)(S:RS):
  RelT (shS s N c).2.1 (stmtW p ev w s V S) (stmtW (shP p) ev' w (shS s N c).1 V' S):=by
 have hpl:=fun n S=>plain_renJ E A O h hN s loop ho hc (n:=n) (S:=S)
 obtain⟨k,ty,nm,ar,th,el⟩:=s;have hw:=zta ⟨k,ty,nm,ar,th,el⟩;simp only at hw;rw[okS]at ho;obtain⟨_,_,o3,o4,_,_,o7,o8⟩:=ho;rw[stmtW_eq,stmtW_eq];simp only[shS]at hpl ⊢;by_cases k5:k=5
 ·subst k5;have e1:((5:Int)=1)=False:=by simp
  simp only[e1,if_false,if_true,ren_arg0,yla]at o7 ⊢;have e:(loop||decide True)=true:=by simp
  rw[e]at o7;exact loop_renJ E A O hN (arg0 ar) th (by omega) (w+1) V V' S (inE_arg0 (inEs_of o3)) o7 h
 simp only[k5,if_false];by_cases k6:k=6
 ·subst k6;have e1:((6:Int)=1)=False:=by simp
  simp only[e1,if_false,if_true];exact⟨V',rfl,h⟩
 simp only[k6,if_false];by_cases k7:k=7
 ·subst k7;have e1:((7:Int)=1)=False:=by simp
  simp only[e1,if_false,if_true];exact⟨V',rfl,h⟩
 simp only[k7,if_false];rw[ren_arg0,E.expr _ N V V' S c (inE_arg0 (inEs_of o3)) h hN];generalize ev.expr (arg0 ar) V S=q;obtain⟨a,S1⟩:=q;cases a with
 |stop j=>exact rfl
 |ok n=>exact hpl n S1 k5
end
theorem evF_renJ(p:Prog)(O:OkP p):∀w,RenOkJ p (evF p w) (evF (shP p) w)
 |0=>⟨fun e N V V' S c _ _ _=>rfl,fun s N c V V' S loop _ _ _ _=>rfl⟩
 |w+1=>by
  have E:=evF_renJ p O w;have A:=zRe p w;refine⟨fun e N V V' S c hi h hN=>?_,fun s N c V V' S loop ho h hN hc=>?_⟩
  ·simp only[evF];cases S.fuel with
   |zero=>rfl
   |succ k=>exact expr_renJ E A O h hN e _ hi
  ·simp only[evF];cases S.fuel with
   |zero=>exact rfl
   |succ k=>exact stmt_renJ E A O h hN w s loop ho hc _
theorem evalM_renJ(p:Prog)(O:OkP p)(h0:(zQa p).1=0)(h1:(zQa (shP p)).1=0)(inp:List Int)(fu:Int):evalM (shP p) inp fu=evalM p inp fu:=by
 unfold evalM;rw[if_pos h0,if_pos h1];have hr:run0 (shP p) inp fu=run0 p inp fu:=rfl;rw[hr];congr 1;unfold mainW;rw[ren_funcJ];obtain⟨f,hf,hp⟩:=O.main;rw[hf];exact call_renJ (evF_renJ p O _) (zRe p _) O f (List.mem_of_find?_eq_some hf) [] (by rw[hp];rfl) _
open PE.R (nthK fromK)
mutual
theorem renS_cnt:∀(s:Stmt) (N:Nm) (c:Nat),(renS s N c).2.2=c+(let1 s).length
 |⟨k,ty,nm,ar,th,el⟩,N,c=>by
  have h1:=renB_cnt th (if k=1 then(nm,newN c)::N else N) (if k=1 then c+1 else c);have h2:=renB_cnt el (if k=1 then(nm,newN c)::N else N) (renB th (if k=1 then(nm,newN c)::N else N) (if k=1 then c+1 else c)).2.2;simp only[renS];rw[h2,h1,let1_eq];simp only[yi];by_cases hk:k=1<;>simp[hk]<;>omega
theorem renB_cnt:∀(l:List Stmt) (N:Nm) (c:Nat),(renB l N c).2.2=c+(zSa l).length
 | [],N,c=>by simp[renB,zSa]
 |x::r,N,c=>by
  have h1:=renS_cnt x N c;have h2:=renB_cnt r (renS x N c).2.1 (renS x N c).2.2;simp only[renB];rw[h2,h1,zSa,yi];omega
end
mutual
theorem shS_cnt:∀(s:Stmt) (N:Nm) (c:Nat),(shS s N c).2.2=c+(let1 s).length/\(let1 (shS s N c).1).length=(let1 s).length
 |⟨k,ty,nm,ar,th,el⟩,N,c=>by
  have h1:=shB_cnt th (if k=1 then(nm,nthM c)::N else N) (if k=1 then c+1 else c);have h2:=shB_cnt el (if k=1 then(nm,nthM c)::N else N) (shB th (if k=1 then(nm,nthM c)::N else N) (if k=1 then c+1 else c)).2.2;simp only[shS];rw[h2.1,h1.1,let1_eq,let1_eq];simp only[yi];rw[h1.2,h1.1.symm,h2.2];rw[h1.1];by_cases hk:k=1<;>simp[hk]<;>omega
theorem shB_cnt:∀(l:List Stmt) (N:Nm) (c:Nat),(shB l N c).2.2=c+(zSa l).length/\(zSa (shB l N c).1).length=(zSa l).length
 | [],N,c=>by simp[shB,zSa]
 |x::r,N,c=>by
  have h1:=shS_cnt x N c;have h2:=shB_cnt r (shS x N c).2.1 (shS x N c).2.2;simp only[shB];rw[zSa,zSa,yi,yi,h2.1,h2.2,h1.1,h1.2];omega
end
theorem findN_or:∀(N:Nm) (x:List UInt8),zba x N=x\/zba x N∈N.map (·.2)
 | [],x=> .inl rfl
 |(a,b)::r,x=>by
  unfold zba;by_cases h:a=x
  ·right;simp[h]
  ·simp only[h,if_false];rcases findN_or r x with h'|h'
   ·exact .inl h'
   ·exact .inr (by simp only[yp,yw];exact .inr h')
theorem findN_len2{N N':Nm}(hv:NL N)(hv':NL N')(nm:List UInt8):1+(zba (zba nm N) N').length<=13*(1+nm.length):=by
 rcases findN_or N' (zba nm N)with h|h
 ·rw[h];rcases findN_or N nm with h2|h2
  ·rw[h2];omega
  ·have:=hv _ h2;omega
 ·have:=hv' _ h;omega
theorem NL.cons{N:Nm}(h:NL N){a b:List UInt8}(hb:b.length<=12):NL ((a,b)::N):=by
 intro x hx;rw[yp,yw]at hx;rcases hx with rfl|hx
 ·exact hb
 ·exact h x hx
mutual
theorem wtE_ren2{N N':Nm}(hv:NL N)(hv':NL N'):∀(e:Expr),wtE (renE N' (renE N e))<=13*wtE e
 |⟨k,o,n,nm,ar⟩=>by
  have h1:=wtEs_ren2 hv hv' ar;have h2:=findN_len2 hv hv' nm;rw[renE,renE,wtE,wtE];by_cases hk:k=3
  ·simp only[hk,if_true];omega
  ·simp only[hk,if_false];omega
theorem wtEs_ren2{N N':Nm}(hv:NL N)(hv':NL N'):∀(l:List Expr),wtEs (zV N' (zV N l))<=13*wtEs l
 | []=>by rw[zV,zV,wtEs];omega
 |x::r=>by
  have h1:=wtE_ren2 hv hv' x;have h2:=wtEs_ren2 hv hv' r;rw[zV,zV,wtEs,wtEs];omega
end
mutual
theorem wtS_ren2:∀(s:Stmt) (N N':Nm) (c c':Nat),NL N->NL N'->c+(let1 s).length<100000000000->c'+(let1 s).length<100000000000→
  wtS (renS (shS s N c).1 N' c').1<=13*wtS s/\NL (shS s N c).2.1/\NL (renS (shS s N c).1 N' c').2.1
 |⟨k,ty,nm,ar,th,el⟩,N,N',c,c',hN,hN',hc,hc'=>by
  have hw:=zta ⟨k,ty,nm,ar,th,el⟩;simp only at hw;rw[let1_eq]at hc hc';simp only[yi]at hc hc';obtain⟨N1,eN1⟩:∃N1,N1=(if k=1 then(nm,nthM c)::N else N):=⟨_,rfl⟩
  obtain⟨c1,ec1⟩:∃c1,c1=(if k=1 then c+1 else c):=⟨_,rfl⟩
  obtain⟨nm1,enm1⟩:∃nm1,nm1=(if k=1\/k=2 then zba nm N1 else nm):=⟨_,rfl⟩
  obtain⟨N2,eN2⟩:∃N2,N2=(if k=1 then(nm1,newN c')::N' else N'):=⟨_,rfl⟩
  obtain⟨c2,ec2⟩:∃c2,c2=(if k=1 then c'+1 else c'):=⟨_,rfl⟩
  have hN1:NL N1:=by
   rw[eN1];by_cases hk:k=1
   ·rw[if_pos hk];simp only[hk,if_true,yC]at hc;exact hN.cons (nthM_len (by omega))
   ·rw[if_neg hk];exact hN
  have hN2:NL N2:=by
   rw[eN2];by_cases hk:k=1
   ·rw[if_pos hk];simp only[hk,if_true,yC]at hc';exact hN'.cons (newN_len (by omega))
   ·rw[if_neg hk];exact hN'
  have hc1:c1+((zSa th).length+(zSa el).length)<100000000000:=by
   rw[ec1];by_cases hk:k=1
   ·rw[if_pos hk];simp only[hk,if_true,yC]at hc;omega
   ·rw[if_neg hk];simp only[hk,if_false,yn]at hc;omega
  have hc2:c2+((zSa th).length+(zSa el).length)<100000000000:=by
   rw[ec2];by_cases hk:k=1
   ·rw[if_pos hk];simp only[hk,if_true,yC]at hc';omega
   ·rw[if_neg hk];simp only[hk,if_false,yn]at hc';omega
  have ht:=shB_cnt th N1 c1;have hr:=renB_cnt (shB th N1 c1).1 N2 c2;have g1:=wtSs_ren2 th N1 N2 c1 c2 hN1 hN2 (by omega) (by omega);have g2:=wtSs_ren2 el N1 N2 (shB th N1 c1).2.2 (renB (shB th N1 c1).1 N2 c2).2.2 hN1 hN2 (by omega) (by omega);have g3:=wtEs_ren2 hN hN' ar;have hnm:1+(if k=1\/k=2 then zba nm1 N2 else nm1).length<=13*(1+nm.length):=by
   by_cases hk:k=1\/k=2
   ·rw[if_pos hk,enm1,if_pos hk];exact findN_len2 hN1 hN2 nm
   ·rw[if_neg hk,enm1,if_neg hk];omega
  simp only[shS,renS];rw[<-eN1,<-ec1,<-enm1,<-eN2,<-ec2];refine⟨?_,hN1,hN2⟩;rw[wtS,hw];omega
theorem wtSs_ren2:∀(l:List Stmt) (N N':Nm) (c c':Nat),NL N->NL N'->c+(zSa l).length<100000000000->c'+(zSa l).length<100000000000→
  wtSs (renB (shB l N c).1 N' c').1<=13*wtSs l
 | [],N,N',c,c',_,_,_,_=>by simp[shB,renB,wtSs]
 |x::r,N,N',c,c',hN,hN',hc,hc'=>by
  rw[zSa,yi]at hc hc';have hw:wtSs (x::r)=1+wtS x+wtSs r:=rfl;obtain⟨h1,h2,h3⟩:=wtS_ren2 x N N' c c' hN hN' (by omega) (by omega);have s1:=shS_cnt x N c;have s2:=renS_cnt (shS x N c).1 N' c';have h4:=wtSs_ren2 r (shS x N c).2.1 (renS (shS x N c).1 N' c').2.1 (shS x N c).2.2 (renS (shS x N c).1 N' c').2.2 h2 h3 (by omega) (by omega);simp only[shB,renB];rw[wtSs,hw];omega
end
theorem ren_ok2{p:Prog}(hm:PSm p)(h0:(zQa p).1=0):(∀g∈(shP p).funcs.map renF,ShOk g)/\((shP p).funcs.map renF).map zMd=(shP p).funcs.map shF:=by
 have hz:=psz_of_psm hm;have hzq:=psz_renJ p hm;have hsc:=check_sc (shP p) (check_renJ p hz h0);refine⟨fun g hg=>?_,?_⟩
 ·obtain⟨f',hf',rfl⟩:=yHa.1 hg;have hzf:=hzq.2.2 f' hf';obtain⟨_,s2,s3,s4,s5⟩:=shortF_ren f' hzf.1 hzf.2 (hsc f' hf');obtain⟨f,hf,rfl⟩:=yHa.1 (show f'∈p.funcs.map shF from hf');have hmf:=hm.2.2 f hf;have hlets:=lets_le _ f.body (yd _);have l1:=zWc f.params [] 0;have l2:=zOd (shPs f.params [] 0).1 [] 0;simp only[yn]at l1 l2;have n1:NL (shPs f.params [] 0).2.1:=(ni_parsJ f.params [] 0 ⟨by simp,fun x h=>by simp at h⟩ (by omega)).short (by omega);have n2:NL (zY (shPs f.params [] 0).1 [] 0).2.1:=(ni_pars (shPs f.params [] 0).1 [] 0 ⟨by simp,fun x h=>by simp at h⟩ (by omega)).short (by omega);have hw:=wtSs_ren2 f.body (shPs f.params [] 0).2.1 (zY (shPs f.params [] 0).1 [] 0).2.1 (shPs f.params [] 0).2.2 (zY (shPs f.params [] 0).1 [] 0).2.2 n1 n2 (by omega) (by omega);have hc1:=shB_cnt f.body (shPs f.params [] 0).2.1 (shPs f.params [] 0).2.2;have hc2:=renB_cnt (shB f.body (shPs f.params [] 0).2.1 (shPs f.params [] 0).2.2).1 (zY (shPs f.params [] 0).1 [] 0).2.1 (zY (shPs f.params [] 0).1 [] 0).2.2;have hC:renC (shF f)=(renB (shB f.body (shPs f.params [] 0).2.1 (shPs f.params [] 0).2.2).1 (zY (shPs f.params [] 0).1 [] 0).2.1 (zY (shPs f.params [] 0).1 [] 0).2.2).2.2:=rfl;have hB:(renF (shF f)).body=(renB (shB f.body (shPs f.params [] 0).2.1 (shPs f.params [] 0).2.2).1 (zY (shPs f.params [] 0).1 [] 0).2.1 (zY (shPs f.params [] 0).1 [] 0).2.2).1:=rfl;refine⟨by rw[hB];omega,⟨renC (shF f),s4,?_,s2⟩,s3⟩;rw[hC,hc2,hc1.2];omega
 ·rw[List.map_map];refine List.map_congr_left fun f hf=>?_
  have hzf:=hzq.2.2 f hf;exact(shortF_ren f hzf.1 hzf.2 (hsc f hf)).1
theorem names_again(p:Prog)(hm:PSm p)(h0:(zQa p).1=0):zi E 12 [zf (shP p)] []=some (.ret (.tup [zf (shP p),.int .i64 0]),[]):=by
 have hz:=psz_of_psm hm;have hzq:=psz_renJ p hm;have hcq:=check_renJ p hz h0;obtain⟨a,b⟩:=ren_ok2 hm h0;have:=pnames_ok (shP p) hzq (check_funcs hzq hcq) hcq a;rw[b]at this;rw[show(⟨(shP p).arrays,(shP p).funcs.map shF⟩:Prog)=shP (shP p)from rfl,renP_againJ]at this;exact this
set_option maxHeartbeats 1000000 in
theorem namesDoes_spec(l:List UInt8)(inp:List Int)(fu:Int)(hl:l.length<=9223372036854775807)(hi:inp.length<=9223372036854775807)(hf:0<=fu/\fu<=255):zi E 5 [u8s l,ints inp,.int .u8 fu] []=some (.ret (.bool true),[]):=by
 refine zd rfl rfl rfl (by simp) ?_;have ha:=awake20_spec;have hin:=ins_spec inp hi;have hw:zC .i64 fu=fu:=zj (by omega) (by omega);have hw2:zC .i64 (2*fu)=2*fu:=zj (by omega) (by omega);obtain⟨r,st,hg,rfl,s,rfl⟩:=zee.1 (good_of l hl);have hz:=parse_psz s;have hsm:=parse_psm s;generalize(zmc s).1=p at*;generalize inp.take 10=i10 at*;have hrn:=pnames_spec p hsm;unfold shM at hrn;by_cases h0:(zQa p).1=0
 ·rw[if_pos h0]at hrn;have hzq:=psz_renJ p hsm;have h1:=refrun_spec p hz i10 (2*fu) (by omega);have h2:=refrun_spec (shP p) hzq i10 (2*fu) (by omega);rw[evalM_renJ p (checkT_ok hz h0) h0 (check_renJ p hz h0)]at h2;have hag:=names_again p hsm h0;have hsm3:=same03_self (shP p) hzq;have ho:=evalM_out p i10 (2*fu) (by omega);have hsame:=sameR_spec _ _ ho ho;rw[sameRn_self]at hsame;generalize evalM p i10 (2*fu)=a at*;generalize shP p=q at*;obtain⟨ar,fs⟩:=p;obtain⟨ar2,fs2⟩:=q;obtain⟨st,co,ou,cs,fl⟩:=a;clear hl hi hf hz hsm h0 ho hzq;simp[encRn,zf,encRen,ints]at h1 h2 hsame hg hin hrn hag hsm3;simp[*,F5,ints]
 ·rw[if_neg h0]at hrn;obtain⟨ar,fs⟩:=p;clear hl hi hf hz hsm h0;simp[zf,encRen,ints]at hg hin hrn;simp[*,F5,ints]
end PE.U

namespace PE.U
open Go PE Go.Proofs
theorem cells_of{w:World}{b:Nat}{v:Value}(h:w.cell? ⟨b,0,none⟩=some v):∃cs e fr,w.heap[b]? =some (.cells cs e fr)/\cs[0]? =some v/\b<w.heap.size:=by
 unfold World.cell? at h;simp only at h;split at h
 ·rename_i cs e fr hc;refine⟨cs,e,fr,hc,by simpa using h,?_⟩;rcases yB b w.heap.size with h'|h'
  ·exact h'
  ·rw[Array.getElem?_eq_none h']at hc;cases hc
 ·cases h
theorem start_tab{w:World}(hs:∃ev,w.cell? ⟨0,0,none⟩=some ev/\(ev= .nilIface\/∃te pe,ev= .iface te pe))(hr:∃ev,w.cell? ⟨1,0,none⟩=some ev/\(ev= .nilIface\/∃te pe,ev= .iface te pe))
  (h:Lib.TabIs Tryz.prog w "internal/strconv.uint64pow10" .u64 Lib.pow10Tab):∃c0 c1,TabsOk c0 c1/\(tabs c0 c1).In (gh0 w) w:=by
 obtain⟨es,hs,hs2⟩:=hs;obtain⟨er,hr,hr2⟩:=hr;obtain⟨c0,t0,f0,a0,b0,l0⟩:=cells_of hs;obtain⟨c1,t1,f1,a1,b1,l1⟩:=cells_of hr;have hg:Tryz.prog.globalNamed "internal/strconv.uint64pow10" =some 2:=by kernel_rfl
 unfold Lib.TabIs World.var? at h;rw[hg]at h;simp only[Option.bind_some]at h;refine⟨c0,c1,⟨⟨es,b0,hs2⟩,⟨er,b1,hr2⟩⟩,?_⟩;intro x hx;rw[show tabs c0 c1=[(0,c0),(1,c1),(2,tab10)]from rfl]at hx;simp only[yw,List.not_mem_nil,or_false]at hx;rcases hx with rfl|rfl|rfl
 ·exact⟨by simp[gh0,l0],t0,f0,a0⟩
 ·exact⟨by simp[gh0,l1],t1,f1,a1⟩
 ·split at h
  ·rename_i cs e fr hc;have hcs:cs=tab10:=Option.some.inj h;subst hcs;refine⟨?_,e,fr,hc⟩;have hlt:2<w.heap.size:=by
    rcases yB 2 w.heap.size with h'|h'
    ·exact h'
    ·rw[Array.getElem?_eq_none h']at hc;cases hc
   simp[gh0,hlt]
  ·cases h
end PE.U

namespace PE
open Go Go.RowKit
def Kept(w w':World):Prop:=w.keptBut w' (fun _=>False)/\∀k,k<w.heap.size->w'.heap[k]? =w.heap[k]?
theorem Kept.frame{w w':World}(h:Kept w w')(X:MemPlace->Prop):w.keptBut w' X:=World.keptBut_mono (fun p hp=>hp.elim) h.1
theorem kept_of_ext{w w':World}{G':Gh}{st':zc}(h:Ext (gh0 w) [] w G' st' w'):Kept w w':=
 ⟨by
  refine⟨h.os,h.output,fun i hi=>?_⟩;have hb:=(h.prot i (by simp[gh0,hi])).2.2;rw[hb];cases w.heap[i]? with
  |none=>rfl
  |some o=>cases o<;>first|exact⟨rfl,rfl,rfl,fun _ _=>rfl⟩|exact .inr ⟨rfl,rfl⟩|rfl,fun k hk=>(h.prot k (by simp[gh0,hk])).2.2⟩
theorem Kept.same{W w':World}(h:Kept W w'){p:MemPlace}(hp:p.block<W.heap.size):W.sameAt w' p:=by
 cases p with
 |cell b o=>exact World.cell?_of_block (w:=W) (h.2 b hp)
 |map b=>exact h.2 b hp
theorem Kept.trod{H:Type}{enc:TypeId×Value->H}{P:Program}{t:TypeId}(hl:laidOutB P=true)(hr:P.readableRec t=true)(hrow:t<P.types.size){W W':World}{v:Value}{d:DataW H}{ps:List MemPlace}
  (h:DataW.Trod enc P W 0 (fun _=>true) true t v d ps) (hb:Kept W W') (hlt:∀x∈ps,x.block<W.heap.size):
  DataW.Trod enc P W' 0 (fun b=>decide (b<W.heap.size)) true t v d ps:=
 WideElems.Trod_stays hl hr hrow h (fun x hx=>hb.same (hlt x hx)) (fun x hx=>by simpa using hlt x hx)
theorem walk_kept{P:Program}{T:Tabs}{E:Env}(hE:EnvOk P T E){f:Nat}{args:List PV}{margs:Array Value}{w:World}{st':zc}(hT:T.In (gh0 w) w)
  (h:zi E f args []=some (.ret (.bool true),st')) (hsz:margs.size=args.length)
  (hv:∀(j:Nat) c x,args[j]? =some c->margs[j]? =some x->VR ((gh0 w).im w) (fun _=>none) c x):
  Calls P f margs w fun e w'=>e= .returned (.bool true)/\Kept w w':=by
 obtain⟨n,hn⟩:=zPd.1 h;have hloc:zk (gh0 w).lc []=fun _=>none:=by funext l;simp[zk]
 refine((callF_good hE n _ _ _ _ _ hn (gh0 w) w margs rfl hT (gh0_sim w) hsz (by rw[hloc];exact hv)).2).mono ?_;intro e w' he;cases e with
 |returned mv=>
  obtain⟨G',q1,q2,q3⟩:=he;exact⟨by rw[VR.bool_inv q3],kept_of_ext q2⟩
 |panicked ch=>exact he.elim
 |outgrown=>exact he.elim
def IsRow(k:IntKind)(w:World)(a:Option Addr)(len cap:Nat)(zs:List Int):Prop:=
 (a=none/\len=0/\cap=0/\zs=[])∨
 ∃x,a=some x/\len<=cap/\cap<=maxLen/\zs.length=cap/\(∀i,i<zs.length->w.cell? (x.add i)=some (.int k (zs.getD i 0)))/\∀n∈zs,(Lit.int k n).wf=true
theorem row_vr{k:IntKind}{w:World}{a:Option Addr}{len cap:Nat}{zs:List Int}(h:IsRow k w a len cap zs):VR ((gh0 w).im w) (fun _=>none) (.slice .plain 1 ((zs.take len).map (PV.int k))) (.slice a len cap):=by
 rcases h with⟨rfl,rfl,rfl,rfl⟩|⟨x,rfl,hl,hm,hz,hcell,hwz⟩
 ·exact .slice0 _ _ _ _ (by simp) (by simp)
 ·by_cases h0:len=0
  ·subst h0;exact .slice0 _ _ _ _ (by simp) (by simp)
  ·obtain⟨b,off,spot⟩:=x;have hc:=hcell 0 (by omega);have hspot:spot=none:=by simpa[Addr.add]using World.cell?_spot hc
   subst hspot;have hlen:((zs.take len).map (PV.int k)).length=len:=by simp;omega
   have hget:∀(i:Nat) e,((zs.take len).map (PV.int k))[i]? =some e->i<len/\e= .int k (zs.getD i 0):=by
    intro i e he;rw[yo,yc]at he;obtain⟨n,hn,rfl⟩:=he;rw[yE]at hn;split at hn
    ·rename_i hi;refine⟨hi,?_⟩;rw[List.getD_eq_getElem?_getD,hn];rfl
    ·cases hn
   have:=VR.slice (I:=(gh0 w).im w) (L:=fun _=>none) (k:= .plain) (sz:=1) (l:=(zs.take len).map (PV.int k)) (b:=b) (o:=off) (cap:=cap)
    (by simp) (by simp) (by rw[hlen];exact hl) (fun i _=> .int k (zs.getD i 0)) ?_ ?_ ?_
   ·rw[hlen]at this;exact this
   ·intro i e he;obtain⟨_,rfl⟩:=hget i e he;exact⟨rfl,rfl⟩
   ·intro i e j c he hc;obtain⟨hi,rfl⟩:=hget i e he;cases j with
    |zero=>
     refine⟨gh0_im ?_,rfl⟩;have:=hcell i (by omega);have e:(⟨b,off,none⟩:Addr).add i=⟨b,off+i*1+0,none⟩:=by
      unfold Addr.add;by_cases hi0:i=0<;>simp[hi0]
     rw[<-e];exact this
    |succ j=>simp[cellsOf]at hc
   ·intro i e j c he hc;obtain⟨hi,rfl⟩:=hget i e he;cases j with
    |zero=>simp[cellsOf]at hc;subst hc;exact .int _ _
    |succ j=>simp[cellsOf]at hc
theorem row_len{k:IntKind}{w:World}{a:Option Addr}{len cap:Nat}{zs:List Int}(h:IsRow k w a len cap zs):(zs.take len).length<=maxLen:=by
 rcases h with⟨rfl,rfl,rfl,rfl⟩|⟨x,rfl,hl,hm,hz,hcell,hwz⟩
 ·simp
 ·rw[List.length_take];omega
def bytesOf(zs:List Int):List UInt8:=zs.map fun n=>yG n.toNat
theorem row_u8{w:World}{a:Option Addr}{len cap:Nat}{zs:List Int}(h:IsRow .u8 w a len cap zs):VR ((gh0 w).im w) (fun _=>none) (.slice .plain 1 ((bytesOf (zs.take len)).map fun b=> .int .u8 b.toNat)) (.slice a len cap):=by
 have hv:=row_vr h;have:(bytesOf (zs.take len)).map (fun b=>PV.int .u8 b.toNat)=(zs.take len).map (PV.int .u8):=by
  unfold bytesOf;rw[List.map_map];apply List.map_congr_left;intro n hn;have hwf:(Lit.int .u8 n).wf=true:=by
   rcases h with⟨rfl,rfl,rfl,rfl⟩|⟨x,rfl,hl,hm,hz,hcell,hwz⟩
   ·simp at hn
   ·exact hwz n (List.mem_of_mem_take hn)
  have hb:0<=n/\n<=255:=by
   simp only[Lit.wf,yb,decide_eq_true_eq]at hwf;exact hwf
  simp only[Function.comp_apply,PV.int.injEq,true_and];have:(yG n.toNat).toNat=n.toNat:=by
   rw[UInt8.toNat_ofNat'];omega
  omega
 rw[this];exact hv
theorem bytes_len{w:World}{a:Option Addr}{len cap:Nat}{zs:List Int}(h:IsRow .u8 w a len cap zs):(bytesOf (zs.take len)).length<=maxLen:=by
 unfold bytesOf;rw[yu];exact row_len h
theorem str_vr(I:Im)(L:Loc){b:ByteArray}:VR I L (.str b.data.toList) (.string b):=VR.str b.data.toList
theorem str_len{b:ByteArray}(h:b.size<=maxLen):b.data.toList.length<=maxLen:=by
 rw[Array.length_toList];exact h
theorem maxLen_eq:maxLen=9223372036854775807:=by decide
def packT(P:Program)(e:TypeId)(l:List PV):PV:=match P.underlying e with
 |some (.struct _)=> .agg l
 |_=>l.headD .undef
def CellsT(P:Program):Nat->TypeId->List PV->Prop
 |0,_,_=>False
 |n+1,t,l=>match P.underlying t with
  |some (.int k)=>∃z,l=[.int k z]/\(Lit.int k z).wf=true
  |some .bool=>∃b,l=[.bool b]
  |some .string=>∃s:List UInt8,l=[.str s]/\s.length<=maxLen
  |some (.struct fs)=>l.length=P.cellsOf t/\∀f∈fs.toList,CellsT P n f.type ((l.drop f.offset).take (P.cellsOf f.type))
  |some (.slice e)=>∃es:List (List PV),l=[.slice .plain (P.cellsOf e) (es.map (packT P e))]/\es.length<=maxLen/\∀c∈es,CellsT P n e c
  |_=>False
def layB(P:Program):List Field->Nat->Nat->Bool
 | [],o,total=>o==total
 |f::r,o,total=>f.offset==o&&layB P r (o+P.cellsOf f.type) total
def plainB(P:Program)(S:List TypeId):Bool:=S.all fun t=>match P.underlying t with
 |some (.int _)=>P.cellsOf t==1
 |some .bool=>P.cellsOf t==1
 |some .string=>P.cellsOf t==1
 |some (.struct fs)=>fs.toList.all (fun f=>S.contains f.type)&&layB P fs.toList 0 (P.cellsOf t)
 |some (.slice e)=>S.contains e&&decide (0<P.cellsOf e)&&(P.cellsOf t==1)
 |_=>false
def R1(w:World)(c:PV)(v:Value):Prop:=VR ((gh0 w).im w) (fun _=>none) c v/\zwd c=true/\v.oneCell'=true
def Rs(w:World)(l:List PV)(cs:List Value):Prop:=l.length=cs.length/\∀(j:Nat) c v,l[j]? =some c->cs[j]? =some v->R1 w c v
theorem Rs.one{w:World}{c:PV}{v:Value}(h:R1 w c v):Rs w [c] [v]:=by
 refine⟨rfl,fun j c' v' hc hv=>?_⟩;cases j with
 |zero=>cases hc;cases hv;exact h
 |succ j=>simp at hc
theorem Rs.append{w:World}{l l':List PV}{cs cs':List Value}(h:Rs w l cs)(h':Rs w l' cs'):Rs w (l++l') (cs++cs'):=by
 refine⟨by simp[h.1,h'.1],fun j c v hc hv=>?_⟩;by_cases hj:j<l.length
 ·rw[yf hj]at hc;rw[yf (by rw[<-h.1];exact hj)]at hv;exact h.2 j c v hc hv
 ·rw[yh (by omega)]at hc;rw[yh (by rw[<-h.1];omega)]at hv;rw[<-h.1]at hv;exact h'.2 _ c v hc hv
theorem lay_join{P:Program}{w:World}{n:Nat}{cs:List Value}:∀(fs:List Field) (o total:Nat),layB P fs o total=true->total=cs.length→
  (∀f∈fs,∃l,Rs w l ((cs.drop f.offset).take (P.cellsOf f.type))/\CellsT P n f.type l)→
  ∃l,Rs w l (cs.drop o)/\∀f∈fs,o<=f.offset/\CellsT P n f.type ((l.drop (f.offset-o)).take (P.cellsOf f.type)):=by
 intro fs
 induction fs with
 |nil=>
  intro o total hl ht _;simp only[layB,beq_iff_eq]at hl;refine⟨[],⟨?_,fun j c v hc=>by simp at hc⟩,fun f hf=>by simp at hf⟩;simp;omega
 |cons f r ih=>
  intro o total hl ht hf;simp only[layB,yb,beq_iff_eq]at hl;obtain⟨ho,hl⟩:=hl;obtain⟨l1,h1,c1⟩:=hf f (by simp);obtain⟨l2,h2,c2⟩:=ih _ _ hl ht (fun g hg=>hf g (by simp[hg]));have hle:∀(fs:List Field) (o total:Nat),layB P fs o total=true->o<=total:=by
   intro fs
   induction fs with
   |nil=>intro o total h;simp only[layB,beq_iff_eq]at h;omega
   |cons g s ihs=>
    intro o total h;simp only[layB,yb,beq_iff_eq]at h;have:=ihs _ _ h.2;omega
  have hn:=hle _ _ _ hl;have hlen1:l1.length=P.cellsOf f.type:=by
   rw[h1.1,List.length_take,yra,ho];omega
  refine⟨l1++l2,?_,?_⟩
  ·have:cs.drop o=(cs.drop f.offset).take (P.cellsOf f.type)++cs.drop (o+P.cellsOf f.type):=by
    rw[ho,<-List.drop_drop,List.take_append_drop]
   rw[this];exact h1.append h2
  ·intro g hg;rcases yw.1 hg with rfl|hg
   ·refine⟨by omega,?_⟩;rw[ho,Nat.sub_self,List.drop_zero,List.take_append_of_le_length (by omega),<-hlen1,yGa];exact c1
   ·obtain⟨h3,h4⟩:=c2 g hg;refine⟨by omega,?_⟩;have:(l1++l2).drop (g.offset-o)=l2.drop (g.offset-(o+P.cellsOf f.type)):=by
     rw[List.drop_append,List.drop_of_length_le (by omega),yla];congr 1;omega
    rw[this];exact h4
theorem cells_packed{P:Program}{n:Nat}{e:TypeId}{l:List PV}{w:World}{cs:List Value}(hr:Rs w l cs)(h:CellsT P n e l)(hsz:cs.length=P.cellsOf e):cellsOf (packT P e l)=l/\zE (packT P e l)=true:=by
 cases n with
 |zero=>exact h.elim
 |succ n=>
  unfold CellsT at h;unfold packT;split at h
  ·rename_i hu;rw[hu];obtain⟨z,rfl,_⟩:=h;exact⟨rfl,rfl⟩
  ·rename_i hu;rw[hu];obtain⟨z,rfl⟩:=h;exact⟨rfl,rfl⟩
  ·rename_i hu;rw[hu];obtain⟨z,rfl,_⟩:=h;exact⟨rfl,rfl⟩
  ·rename_i hu;rw[hu];exact⟨rfl,rfl⟩
  ·rename_i hu;rw[hu];obtain⟨z,rfl,_⟩:=h;exact⟨rfl,rfl⟩
  ·exact h.elim
theorem cells?_get{w:World}{a:Addr}{n:Nat}{cs:List Value}(h:w.cells? 0 a n=some cs):cs.length=n/\∀(j:Nat) v,cs[j]? =some v->w.cell? (a.add j)=some v:=by
 unfold World.cells? at h;rw[if_pos (Nat.zero_le _)]at h;have hl:=mapM_some_length h;rw[List.length_range]at hl;refine⟨hl,fun j v hv=>?_⟩;have hj:j<n:=by rw[<-hl];exact(ya.1 hv).1
 have:=mapM_some_get h j j (by rw[List.getElem?_range hj]);rw[this,hv]
theorem add_add(a:Addr)(ha:a.spot=none)(x:Nat):a.add x=⟨a.block,a.off+x,none⟩:=by
 obtain⟨b,o,s⟩:=a;simp only at ha;subst ha;unfold Addr.add;by_cases h:x=0<;>simp[h]
theorem read_cells{P:Program}{S:List TypeId}(hp:plainB P S=true){H:Type}{enc:TypeId×Value->H}{w:World}{sp:Nat->Bool}:∀(n:Nat) (t:TypeId) (cs:List Value) (x:DataW H×List MemPlace),t∈S→
  DataW.trod enc P w 0 sp true n t cs=some x->∃l,Rs w l cs/\CellsT P n t l/\cs.length=P.cellsOf t:=by
 intro n
 induction n with
 |zero=>intro t cs x _ h;simp[DataW.trod]at h
 |succ n ih=>
  intro t cs x ht h;have hp':=yq.1 hp t ht;split at hp'
  ·rename_i k hu;obtain⟨z,rfl,_,hw⟩:=DataW.trod_int hu h;simp only[beq_iff_eq]at hp';exact⟨[.int k z],Rs.one ⟨.int _ _,rfl,rfl⟩,by unfold CellsT;rw[hu];exact⟨z,rfl,hw⟩,by simp[hp']⟩
  ·rename_i hu;obtain⟨z,rfl,_⟩:=DataW.trod_bool hu h;simp only[beq_iff_eq]at hp';exact⟨[.bool z],Rs.one ⟨.bool _,rfl,rfl⟩,by unfold CellsT;rw[hu];exact⟨z,rfl⟩,by simp[hp']⟩
  ·rename_i hu;obtain⟨s,rfl,_,hm⟩:=DataW.trod_string hu h;simp only[beq_iff_eq]at hp';exact⟨[.str s.data.toList],Rs.one ⟨str_vr _ _,rfl,rfl⟩,by unfold CellsT;rw[hu];exact⟨_,rfl,str_len hm⟩,by simp[hp']⟩
  ·rename_i fs hu;simp only[yb,yq,List.contains_iff_mem]at hp';obtain⟨hS,hlay⟩:=hp';obtain⟨xs,m,hm,_,hlen,hxs,hget⟩:=DataW.trod_struct hu h;cases hm;obtain⟨l,hl,hc⟩:=lay_join (w:=w) (n:=n) (cs:=cs) fs.toList 0 _ hlay hlen.symm (by
    intro f hf;obtain⟨i,hi⟩:=List.getElem?_of_mem hf;have hi':fs[i]? =some f:=by simpa using hi
    have hg:=hget i f hi';have hlt:i<xs.length:=by rw[hxs];simpa using(ya.1 hi).1
    rw[yg hlt]at hg;obtain⟨l,h1,h2,_⟩:=ih _ _ _ (hS f hf) hg;exact⟨l,h1,h2⟩)
   rw[List.drop_zero]at hl;refine⟨l,hl,?_,hlen⟩;unfold CellsT;rw[hu];exact⟨by rw[hl.1,hlen],fun f hf=>by have:=(hc f hf).2;rwa[Nat.sub_zero]at this⟩
  ·rename_i e hu;simp only[yb,List.contains_iff_mem,decide_eq_true_eq,beq_iff_eq]at hp';obtain⟨⟨hS,hpos⟩,h1⟩:=hp';rcases DataW.trod_slice hu h with⟨rfl,_⟩|⟨a,len,cap,elems,rest,m,hm,rfl,_,_,hle,hcap,hel,hget,_,_⟩
   ·exact⟨[.slice .plain (P.cellsOf e) []],Rs.one ⟨.slice0 _ _ _ _ (by simp) (by simp),rfl,rfl⟩,by unfold CellsT;rw[hu];exact⟨[],rfl,by simp,by simp⟩,by simp[h1]⟩
   ·cases hm;have key:∀i,i<len->∃l:List PV,l.length=P.cellsOf e/\CellsT P n e l/\cellsOf (packT P e l)=l/\zE (packT P e l)=true/\∀(j:Nat) c,l[j]? =some c->∃v,w.cell? ((a.add (i*P.cellsOf e)).add j)=some v/\R1 w c v:=by
     intro i hi;have hg:=hget i hi;have hlt:i<elems.length:=by omega
     rw[yg hlt,yia]at hg;obtain⟨cs',h2,h3⟩:=hg;obtain⟨l,h4,h5,h6⟩:=ih _ _ _ hS h3;obtain⟨h7,h8⟩:=cells?_get h2;obtain⟨h9,h10⟩:=cells_packed h4 h5 h6;refine⟨l,by rw[h4.1,h6],h5,h9,h10,fun j c hc=>?_⟩;have hj:j<cs'.length:=by rw[<-h4.1];exact(ya.1 hc).1
     exact⟨cs'[j],h8 j _ (yg hj),h4.2 j c _ hc (yg hj)⟩
    let g:Nat->List PV:=fun i=>if hi:i<len then(key i hi).choose else[]
    have hg:∀i,i<len->(g i).length=P.cellsOf e/\CellsT P n e (g i)/\cellsOf (packT P e (g i))=g i/\zE (packT P e (g i))=true/\∀(j:Nat) c,(g i)[j]? =some c->∃v,w.cell? ((a.add (i*P.cellsOf e)).add j)=some v/\R1 w c v:=by
     intro i hi;have:=(key i hi).choose_spec;simp only[g,dif_pos hi];exact this
    have hel':∀(i:Nat) x,(((yI len).map g).map (packT P e))[i]? =some x->i<len/\x=packT P e (g i):=by
     intro i x hx;rw[List.map_map,yo,yc]at hx;obtain⟨k,hk,rfl⟩:=hx;obtain⟨hk1,hk2⟩:=ya.1 hk;rw[List.length_range]at hk1;rw[List.getElem_range]at hk2;subst hk2;exact⟨hk1,rfl⟩
    refine⟨[.slice .plain (P.cellsOf e) (((yI len).map g).map (packT P e))],Rs.one ⟨?_,rfl,rfl⟩,?_,by simp[h1]⟩
    ·by_cases h0:len=0
     ·subst h0;exact .slice0 _ _ _ _ (by simp) (by simp)
     ·obtain⟨q1,q2,q3,q4,q5⟩:=hg 0 (by omega);have hspot:a.spot=none:=by
       have hlt:0<(g 0).length:=by omega
       obtain⟨v,hv,_⟩:=q5 0 _ (yg hlt);have hsp:=World.cell?_spot hv;obtain⟨b,o,s⟩:=a;simpa[Addr.add]using hsp
      obtain⟨b,o,s⟩:=a;simp only at hspot;subst hspot;have hcell:∀(i:Nat) x (j:Nat) c,(((yI len).map g).map (packT P e))[i]? =some x->(cellsOf x)[j]? =some c->∃v,(gh0 w).im w b (o+i*P.cellsOf e+j)=some v/\R1 w c v:=by
       intro i x j c hx hc;obtain⟨hi,rfl⟩:=hel' i x hx;obtain⟨r1,r2,r3,r4,r5⟩:=hg i hi;rw[r3]at hc;obtain⟨v,hv,hr⟩:=r5 j c hc;refine⟨v,gh0_im ?_,hr⟩;rw[add_add ⟨b,o,none⟩ rfl,add_add ⟨b,o+i*P.cellsOf e,none⟩ rfl]at hv;exact hv
      have hlen:(((yI len).map g).map (packT P e)).length=len:=by simp
      have:=VR.slice (I:=(gh0 w).im w) (L:=fun _=>none) (k:= .plain) (sz:=P.cellsOf e) (l:=((yI len).map g).map (packT P e)) (b:=b) (o:=o) (cap:=cap)
       (by simp) (by simp) (by rw[hlen];exact hle) (fun i j=>((gh0 w).im w b (o+i*P.cellsOf e+j)).getD (.bool false)) ?_ ?_ ?_
      ·rw[hlen]at this;exact this
      ·intro i x hx;obtain⟨hi,rfl⟩:=hel' i x hx;obtain⟨r1,r2,r3,r4,r5⟩:=hg i hi;exact⟨by rw[r3,r1],r4⟩
      ·intro i x j c hx hc;obtain⟨v,hv,hr⟩:=hcell i x j c hx hc;simp only[hv,yoa];exact⟨trivial,hr.2.2⟩
      ·intro i x j c hx hc;obtain⟨v,hv,hr⟩:=hcell i x j c hx hc;simp only[hv,yoa];exact hr.1
    ·unfold CellsT;rw[hu];refine⟨(yI len).map g,rfl,by simp;omega,?_⟩;intro c hc;rw[yHa]at hc;obtain⟨i,hi,rfl⟩:=hc;exact(hg i (List.mem_range.1 hi)).2.1
  ·cases hp'
theorem packT_struct{P:Program}{e:TypeId}{fs:Array Field}(hu:P.underlying e=some (.struct fs))(l:List PV):packT P e l= .agg l:=by
 unfold packT;rw[hu]
theorem le_max{n:Nat}(h:n<=maxLen):n<=9223372036854775807:=by rw[maxLen_eq]at h;exact h
theorem read_row{P:Program}{S:List TypeId}(hp:plainB P S=true){H:Type}{enc:TypeId×Value->H}{w:World}{sp:Nat->Bool}{t e:TypeId}(hu:P.underlying t=some (.slice e))(ht:t∈S){v:Value}{d:DataW H}{ps:List MemPlace}(h:DataW.Trod enc P w 0 sp true t v d ps){a:Option Addr}{len cap:Nat}(hv:v= .slice a len cap):
  ∃(n:Nat) (es:List (List PV)),VR ((gh0 w).im w) (fun _=>none) (.slice .plain (P.cellsOf e) (es.map (packT P e))) v/\es.length<=maxLen/\∀c∈es,CellsT P n e c:=by
 subst hv;obtain⟨n,hf⟩:=h;obtain⟨l,h1,h2,h3⟩:=read_cells hp n t _ _ ht hf;cases n with
 |zero=>exact h2.elim
 |succ n=>
  unfold CellsT at h2;rw[hu]at h2;obtain⟨es,rfl,hm,hc⟩:=h2;exact⟨n,es,(h1.2 0 _ _ rfl (by simp[Value.cells])).1,hm,hc⟩
end PE
