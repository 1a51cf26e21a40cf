/-
  Texts joined by program: A4P12, A4P13, A4P14, A4P15, A4P16, A4P21, A4P22, A4P23, A4P17, A4P18, A4P19, A4P20, A4P24, A4P25, A4P26, A4P27, A4P28, A4P29, A4T15, A4D0, A4F13, A4M1, A4F20, A4F21, A4F22, A4F14, A4F15, A4F16, A4F17, A4F18, A4F19, A4T0r, A4DN1, A4L1.
-/
import Derived.Test.YthkagfbknifmmaaGreatDoorA03
import Derived.Lib.ItoaNum
set_option linter.unusedVariables false
set_option linter.unusedSectionVars false
set_option linter.unusedSimpArgs false
open Bool renaming and_eq_false_iff→yKa,and_eq_true→ya,false_eq_true→yi,false_or→yI,not_eq_true'→yC,or_eq_false_iff→ywa,or_eq_true→yF,true_and→yca
open List renaming all_append→yla,all_eq_true→yr,append_assoc→ym,cons_append→yk,eq_nil_of_length_eq_zero→yy,exists_cons_of_ne_nil→yoa,find?_eq_none→yO,flatten_cons→yTa,getElem?_eq_none→yfa,getElem?_map→yn,getElem_range→yqa,isPrefixOf→yga,length_append→ye,length_cons→yd,length_drop→yU,length_eq_one_iff→yM,length_map→yea,length_nil→yg,map_append→yMa,map_cons→yz,map_nil→yW,mem_append→yw,mem_cons→yia,mem_range→yta,mem_singleton→yJ,nil_append→yp,range→yQ,takeWhile_cons→yT
open Nat renaming le_max_left→yS,le_max_right→yL,le_refl→yh,le_trans→yha,lt_or_ge→yA,lt_succ_self→yK,mul_le_mul_left→yxa,pow_succ→yLa,zero_add→yV
open Option renaming map_eq_some_iff→yb
open Or renaming inl→yOa,inr→yQa
open UInt8 renaming ofNat→yY
namespace PE.U
open Go PE
theorem espec_all(T:List Tok):∀n k,k<=n->ESpec T k
 |0,k,h=>by
  have:k=0:=by omega
  subst this;exact⟨fun _ _ _ _ h=>by simp[zV]at h,fun _ _ _ _ h=>by simp[zFa]at h,fun _ _ _ _ _ h=>by simp[zda]at h,fun _ _ _ _ h=>by simp[zMb]at h⟩
 |n+1,k,h=>by
  have ih:=espec_all T n;rcases yA k (n+1)with h1|h1
  ·exact ih k (by omega)
  ·have:k=n+1:=by omega
   subst this;exact⟨primary_of (ih n (yh n)),unary_of (ih n (yh n)),expr_of ih,args_of ih⟩
theorem espec(T:List Tok)(n:Nat):ESpec T n:=espec_all T n n (yh n)
theorem zPa{T:List Tok}{n:Nat}{p p':PS}{v:Expr}(h:zda T n 1 1 p=some (v,p'))(I:Inv1 T p)(hn:n<=999999990):zk E 134 [.ptr 0 0 0,.int .i64 1,.int .i64 1] (pob T p)=some (.ret (zA v),pob T p')/\Inv1 T p':=
 (espec T n).expr 1 1 p v p' h I (by omega) (by omega) (by omega) (by omega)
def zTa(T:List Tok)(n:Nat)(p:PS):Option (Expr×PS):=
 match zda T n 1 1 (zC T [40] p)with
 |none=>none
 |some q=>some (q.1,zC T [41] q.2)
theorem zeb{T:List Tok}{n:Nat}{p p':PS}{v:Expr}(h:zTa T n p=some (v,p'))(I:Inv1 T p)(hn:n<=999999990):zk E 135 [.ptr 0 0 0] (pob T p)=some (.ret (zd [v]),pob T p')/\Inv1 T p':=by
 unfold zTa at h;split at h
 ·cases h
 ·rename_i q hq;obtain⟨e,p1⟩:=q;cases h;have m1:=zF I [40];obtain⟨x1,I1⟩:=zPa hq (I.must _) hn;have m2:=zF I1 [41];refine⟨?_,I1.must _⟩;refine zc rfl rfl rfl (by simp) ?_;clear hq;rw[za]at x1;simp[*,F135,zd,za]
def zAb(T:List Tok)(n:Nat)(p:PS):Option (Stmt×PS):=
 if isF T [40] (zy T 1 p).2 then
  match zMb T n 2 (adv (zy T 1 p).2)with
  |none=>none
  |some q=>some (⟨10,0,[],[⟨7,0,0,(zy T 1 p).1,q.1⟩],[],[]⟩,q.2)
 else if isF T [91] (zy T 1 p).2 then
  match zda T n 1 1 (adv (zy T 1 p).2)with
  |none=>none
  |some q=>match zda T n 1 1 (zC T [61] (zC T [93] q.2))with
   |none=>none
   |some r=>some (⟨3,0,(zy T 1 p).1,[q.1,r.1],[],[]⟩,r.2)
 else match zda T n 1 1 (zC T [61] (zy T 1 p).2)with
  |none=>none
  |some q=>some (⟨2,0,(zy T 1 p).1,[q.1],[],[]⟩,q.2)
theorem named_spec{T:List Tok}{n:Nat}{p p':PS}{v:Stmt}(h:zAb T n p=some (v,p'))(I:Inv1 T p)(hn:n<=999999990):zk E 136 [.ptr 0 0 0] (pob T p)=some (.ret (zDa v),pob T p')/\Inv1 T p':=by
 unfold zAb at h;have tx:=zwd I 1;have I1:=I.text 1 (by decide);have t6:=zL I1 [40];rw[zaa]at t6;generalize htt:zy T 1 p=tt at*;obtain⟨s,p1⟩:=tt;simp only at h tx I1 t6;clear htt;cases c6:isF T [40] p1
 case true=>
  rw[if_pos c6]at h;rw[c6]at t6;split at h
  ·cases h
  ·rename_i q hq;obtain⟨l,p2⟩:=q;cases h;have IA:=I1.adv _ c6;obtain⟨x1,I3⟩:=(espec T n).args 2 _ l p2 hq IA (by omega) (by omega);refine⟨?_,I3⟩;refine zc rfl rfl rfl (by simp) ?_;clear hq c6;rw[zb];simp[zd]at x1;simp[*,F136,zd,zl,za]
 rw[if_neg (by rw[c6];decide)]at h;rw[c6]at t6;have t7:=zL I1 [91];rw[zaa]at t7;cases c7:isF T [91] p1
 case true=>
  rw[if_pos c7]at h;rw[c7]at t7;split at h
  ·cases h
  ·rename_i q hq;obtain⟨e,p2⟩:=q;simp only at h;have IA:=I1.adv _ c7;obtain⟨x1,I3⟩:=zPa hq IA hn;have m2:=zF I3 [93];have I4:=I3.must [93];have m3:=zF I4 [61];have I5:=I4.must [61];split at h
   ·cases h
   ·rename_i r hr;obtain⟨e2,p3⟩:=r;cases h;obtain⟨x2,I6⟩:=zPa hr I5 hn;refine⟨?_,I6⟩;refine zc rfl rfl rfl (by simp) ?_;clear hq hr c6 c7;rw[za]at x1 x2;rw[zb];simp[*,F136,zd,zl,za]
 rw[if_neg (by rw[c7];decide)]at h;rw[c7]at t7;split at h
 ·cases h
 ·rename_i q hq;obtain⟨e,p2⟩:=q;cases h;have m1:=zF I1 [61];obtain⟨x1,I3⟩:=zPa hq (I1.must _) hn;refine⟨?_,I3⟩;refine zc rfl rfl rfl (by simp) ?_;clear hq c6 c7;rw[za]at x1;rw[zb];simp[*,F136,zd,zl,za]
def deepS(d:Int)(p:PS):PS:=if 100<d then{p with deep:=true}else p
theorem Inv1.deepS{T:List Tok}{p:PS}(I:Inv1 T p)(d:Int):Inv1 T (deepS d p):=by
 unfold PE.U.deepS;split
 ·exact I.deep'
 ·exact I
mutual
def zgb(T:List Tok):Nat->Int->PS->Option (Stmt×PS)
 |0,_,_=>none
 |n+1,d,p=>
  if isF T [105,110,116] (deepS d p)||isF T [98,111,111,108] (deepS d p)then
   match zda T n 1 1 (zC T [61] (zy T 1 (zx T (deepS d p)).2).2)with
   |none=>none
   |some q=>some (⟨1,(zx T (deepS d p)).1,(zy T 1 (zx T (deepS d p)).2).1,[q.1],[],[]⟩,zC T [59] q.2)
  else if isF T [105,102] (deepS d p)then
   match zTa T n (adv (deepS d p))with
   |none=>none
   |some q=>match zW T n (d+1) [] (zC T [123] q.2)with
    |none=>none
    |some r=>
     if isF T [101,108,115,101] r.2 then
      match zW T n (d+1) [] (zC T [123] (adv r.2))with
      |none=>none
      |some t=>some (⟨4,0,[],[q.1],r.1,t.1⟩,t.2)
     else some (⟨4,0,[],[q.1],r.1,[]⟩,r.2)
  else if isF T [119,104,105,108,101] (deepS d p)then
   match zTa T n (adv (deepS d p))with
   |none=>none
   |some q=>match zW T n (d+1) [] (zC T [123] q.2)with
    |none=>none
    |some r=>some (⟨5,0,[],[q.1],r.1,[]⟩,r.2)
  else if isF T [98,114,101,97,107] (deepS d p)then some (⟨6,0,[],[],[],[]⟩,zC T [59] (adv (deepS d p)))
  else if isF T [99,111,110,116,105,110,117,101] (deepS d p)then some (⟨7,0,[],[],[],[]⟩,zC T [59] (adv (deepS d p)))
  else if isF T [114,101,116,117,114,110] (deepS d p)then
   match zda T n 1 1 (adv (deepS d p))with
   |none=>none
   |some q=>some (⟨8,0,[],[q.1],[],[]⟩,zC T [59] q.2)
  else if isF T [112,114,105,110,116] (deepS d p)then
   match zTa T n (adv (deepS d p))with
   |none=>none
   |some q=>some (⟨9,0,[],[q.1],[],[]⟩,zC T [59] q.2)
  else match zAb T n (deepS d p)with
   |none=>none
   |some q=>some (q.1,zC T [59] q.2)
def zW(T:List Tok):Nat->Int->List Stmt->PS->Option (List Stmt×PS)
 |0,_,_,_=>none
 |n+1,d,l,p=>
  if zf p then some (l,p)
  else if isF T [125] p then some (l,adv p)
  else match zgb T n d p with
   |none=>none
   |some q=>zW T n d (l++[q.1]) q.2
end
structure SSpec(T:List Tok)(n:Nat):Prop where
 stmt:∀d p v p',zgb T n d p=some (v,p')->Inv1 T p->0<=d->d+n<=999999990->zk E 119 [.ptr 0 0 0,.int .i64 d] (pob T p)=some (.ret (zDa v),pob T p')/\Inv1 T p'
 block:∀d p v p',zW T n d [] (zC T [123] p)=some (v,p')->Inv1 T p->0<=d->d+n<=999999990->zk E 101 [.ptr 0 0 0,.int .i64 d] (pob T p)=some (.ret (zl v),pob T p')/\Inv1 T p'
structure BS where
 m:Nat
 l:List Stmt
 p:PS
set_option maxHeartbeats 2000000 in
theorem block_of{T:List Tok}{n:Nat}(S:∀k,k<n->SSpec T k):∀d p v p',zW T n d [] (zC T [123] p)=some (v,p')->Inv1 T p->0<=d->d+n<=999999990->zk E 101 [.ptr 0 0 0,.int .i64 d] (pob T p)=some (.ret (zl v),pob T p')/\Inv1 T p':=by
 intro d p v p' h I hd hn;have hI:∀m l p v p',m<=n->zW T m d l p=some (v,p')->Inv1 T p->Inv1 T p':=by
  intro m
  induction m with
  |zero=>intro l p v p' _ h;simp[zW]at h
  |succ m ih=>
   intro l p v p' hm h I;simp only[zW]at h;split at h
   ·cases h;exact I
   ·split at h
    ·rename_i hc;cases h;exact I.adv _ hc
    ·split at h
     ·cases h
     ·rename_i x hx;exact ih _ _ _ _ (by omega) h ((S m (by omega)).stmt _ _ _ _ hx I hd (by omega)).2
 have m1:=zF I [123];have I1:=I.must [123];have I':=hI n _ _ _ _ (yh _) h I1;refine⟨?_,I'⟩;refine zc rfl rfl rfl (by simp) ?_;simp[*,F101,zl];refine zmb K101_0 B101_0 (fun c:BS=>c.m) (fun c=>[(5,acc 6 (c.l.map zDa))]) (fun c=>[]) (fun c=>pob T c.p) (fun c=>c.m<=n/\c.l.length+c.m<=n/\zW T c.m d c.l c.p=some (v,p')/\Inv1 T c.p) ⟨n,[],zC T [123] p⟩ ⟨by simp,by simp,by simp,yh _,by simp,h,I1⟩ ?_
 rintro⟨m,l,p⟩ s1 ⟨hm,hlm,hr,I⟩ g1 g2 g3 g4 g5
 simp at g1 g3 g5 hm hlm hr I;clear g2 g4 m1 h I' hI I1;cases m with
 |zero=>simp[zW]at hr
 |succ m=>
  simp only[zW]at hr;have hroom:(l.length+1)*104<=zU:=by simp only[zU];omega
  have ho:=zxc I;have t2:=zL I [125];rw[zaa]at t2;cases o:zf p
  ·rw[if_neg (by rw[o];decide)]at hr;rw[o]at ho;cases c2:isF T [125] p
   ·rw[if_neg (by rw[c2];decide)]at hr;rw[c2]at t2;split at hr
    ·cases hr
    ·rename_i x hx;obtain⟨e,p2⟩:=x;simp only at hr;obtain⟨x1,I3⟩:=(S m (by omega)).stmt _ _ _ _ hx I hd (by omega);rw[zb]at x1;clear hx o c2;simp[*];exact⟨⟨m,l++[e],p2⟩,yK m,by simp[zb],rfl,by simp only;omega,by simp only[ye,yd,yg];omega,hr,I3⟩
   ·rw[if_pos c2]at hr;rw[c2]at t2;cases hr;clear o c2;simp[*]
  ·rw[if_pos o]at hr;rw[o]at ho;cases hr;clear o t2;simp[*]
set_option maxHeartbeats 8000000 in
theorem stmt_of{T:List Tok}{n:Nat}(S:SSpec T n):∀d p v p',zgb T (n+1) d p=some (v,p')->Inv1 T p->0<=d->d+(n+1:Nat)<=999999990->zk E 119 [.ptr 0 0 0,.int .i64 d] (pob T p)=some (.ret (zDa v),pob T p')/\Inv1 T p':=by
 intro d p v p' h I0 hd hn;have hw:zra .i64 (d+1)=d+1:=zp (by omega) (by omega);simp only[zgb]at h;have I:=I0.deepS d;have hn':n<=999999990:=by omega
 obtain⟨pa,pb,pd⟩:=p;by_cases h100:100<d
 ·have hdp:deepS d ⟨pa,pb,pd⟩=⟨pa,pb,true⟩:=by unfold deepS;rw[if_pos h100]
  rw[hdp]at h I;clear hdp I0;replace h100:=eqp h100;have i1:=is_spec I [105,110,116];have i2:=is_spec I [98,111,111,108];cases c0:(isF T [105,110,116] ⟨pa,pb,true⟩||isF T [98,111,111,108] ⟨pa,pb,true⟩)
  case true=>
   rw[if_pos c0]at h;have ty:=typed_spec I;have I1:=I.typed;generalize hty:zx T ⟨pa,pb,true⟩=tt at*;obtain⟨t,p1⟩:=tt;simp only at h ty I1;have tx:=zwd I1 1;have I2:=I1.text 1 (by decide);generalize htx:zy T 1 p1=tt at*;obtain⟨s,p2⟩:=tt;simp only at h tx I2;have m1:=zF I2 [61];split at h
   ·cases h
   rename_i x hq;obtain⟨e,p3⟩:=x;cases h;obtain⟨x1,I3⟩:=zPa hq (I2.must _) hn';have m2:=zF I3 [59];refine⟨?_,I3.must _⟩;clear htx hty hq;rw[za]at x1;simp[pob,toks,adv,zd]at i1 i2 ty tx m1 m2 x1;refine zc rfl rfl rfl (by simp) ?_;rw[zb];cases c1:isF T [105,110,116] ⟨pa,pb,true⟩
   ·rw[c1]at c0 i1;have c0:isF T [98,111,111,108] ⟨pa,pb,true⟩=true:=c0;rw[c0]at i2;clear c0 c1;simp[*,F119,zd,zl,pob,toks,zb,za]
   ·rw[c1]at i1;clear c0 c1;simp[*,F119,zd,zl,pob,toks,zb,za]
  rw[if_neg (by rw[c0];decide)]at h;simp only[ywa]at c0;rw[c0.1]at i1;rw[c0.2]at i2;clear c0;have t1:=zL I [105,102];rw[zaa]at t1;cases c_t1:isF T [105,102] ⟨pa,pb,true⟩
  case true=>
   rw[if_pos c_t1]at h;rw[c_t1]at t1;have IA:=I.adv _ c_t1;clear c_t1;split at h
   ·cases h
   rename_i x hq;obtain⟨e,p1⟩:=x;simp only at h;obtain⟨x1,I1⟩:=zeb hq IA hn';split at h
   ·cases h
   rename_i x hr;obtain⟨l1,p2⟩:=x;simp only at h;obtain⟨x2,I2⟩:=S.block (d+1) _ l1 p2 hr I1 (by omega) (by omega);have te:=zL I2 [101,108,115,101];rw[zaa]at te;cases ce:isF T [101,108,115,101] p2
   case true=>
    rw[if_pos ce]at h;rw[ce]at te;split at h
    ·cases h
    rename_i x hs;obtain⟨l2,p3⟩:=x;cases h;obtain⟨x3,I3⟩:=S.block (d+1) _ l2 p3 hs (I2.adv _ ce) (by omega) (by omega);refine⟨?_,I3⟩;clear hq hr hs ce;simp[pob,toks,adv,zd,zl]at i1 i2 t1 x1 x2 x3 te;refine zc rfl rfl rfl (by simp) ?_;rw[zb];simp[*,F119,zd,zl,pob,toks,zb,za]
   rw[if_neg (by rw[ce];decide)]at h;rw[ce]at te;cases h;refine⟨?_,I2⟩;clear hq hr ce;simp[pob,toks,adv,zd,zl]at i1 i2 t1 x1 x2 te;refine zc rfl rfl rfl (by simp) ?_;rw[zb];simp[*,F119,zd,zl,pob,toks,zb,za]
  rw[if_neg (by rw[c_t1];decide)]at h;rw[c_t1]at t1;clear c_t1;have t2:=zL I [119,104,105,108,101];rw[zaa]at t2;cases c_t2:isF T [119,104,105,108,101] ⟨pa,pb,true⟩
  case true=>
   rw[if_pos c_t2]at h;rw[c_t2]at t2;have IA:=I.adv _ c_t2;clear c_t2;split at h
   ·cases h
   rename_i x hq;obtain⟨e,p1⟩:=x;simp only at h;obtain⟨x1,I1⟩:=zeb hq IA hn';split at h
   ·cases h
   rename_i x hr;obtain⟨l1,p2⟩:=x;cases h;obtain⟨x2,I2⟩:=S.block (d+1) _ l1 p2 hr I1 (by omega) (by omega);refine⟨?_,I2⟩;clear hq hr;simp[pob,toks,adv,zd,zl]at i1 i2 t1 t2 x1 x2;refine zc rfl rfl rfl (by simp) ?_;rw[zb];simp[*,F119,zd,zl,pob,toks,zb,za]
  rw[if_neg (by rw[c_t2];decide)]at h;rw[c_t2]at t2;clear c_t2;have t3:=zL I [98,114,101,97,107];rw[zaa]at t3;cases c_t3:isF T [98,114,101,97,107] ⟨pa,pb,true⟩
  case true=>
   rw[if_pos c_t3]at h;rw[c_t3]at t3;have IA:=I.adv _ c_t3;clear c_t3;cases h;have m1:=zF IA [59];refine⟨?_,IA.must _⟩;simp[pob,toks,adv,zd,zl]at i1 i2 t1 t2 t3 m1;refine zc rfl rfl rfl (by simp) ?_;rw[zb];simp[*,F119,zd,zl,pob,toks,zb,za];exact⟨rfl,rfl,rfl⟩
  rw[if_neg (by rw[c_t3];decide)]at h;rw[c_t3]at t3;clear c_t3;have t4:=zL I [99,111,110,116,105,110,117,101];rw[zaa]at t4;cases c_t4:isF T [99,111,110,116,105,110,117,101] ⟨pa,pb,true⟩
  case true=>
   rw[if_pos c_t4]at h;rw[c_t4]at t4;have IA:=I.adv _ c_t4;clear c_t4;cases h;have m1:=zF IA [59];refine⟨?_,IA.must _⟩;simp[pob,toks,adv,zd,zl]at i1 i2 t1 t2 t3 t4 m1;refine zc rfl rfl rfl (by simp) ?_;rw[zb];simp[*,F119,zd,zl,pob,toks,zb,za];exact⟨rfl,rfl,rfl⟩
  rw[if_neg (by rw[c_t4];decide)]at h;rw[c_t4]at t4;clear c_t4;have t5:=zL I [114,101,116,117,114,110];rw[zaa]at t5;cases c_t5:isF T [114,101,116,117,114,110] ⟨pa,pb,true⟩
  case true=>
   rw[if_pos c_t5]at h;rw[c_t5]at t5;have IA:=I.adv _ c_t5;clear c_t5;split at h
   ·cases h
   rename_i x hq;obtain⟨e,p1⟩:=x;cases h;obtain⟨x1,I1⟩:=zPa hq IA hn';have m1:=zF I1 [59];refine⟨?_,I1.must _⟩;clear hq;rw[za]at x1;simp[pob,toks,adv,zd,zl]at i1 i2 t1 t2 t3 t4 t5 x1 m1;refine zc rfl rfl rfl (by simp) ?_;rw[zb];simp[*,F119,zd,zl,pob,toks,zb,za]
  rw[if_neg (by rw[c_t5];decide)]at h;rw[c_t5]at t5;clear c_t5;have t6:=zL I [112,114,105,110,116];rw[zaa]at t6;cases c_t6:isF T [112,114,105,110,116] ⟨pa,pb,true⟩
  case true=>
   rw[if_pos c_t6]at h;rw[c_t6]at t6;have IA:=I.adv _ c_t6;clear c_t6;split at h
   ·cases h
   rename_i x hq;obtain⟨e,p1⟩:=x;cases h;obtain⟨x1,I1⟩:=zeb hq IA hn';have m1:=zF I1 [59];refine⟨?_,I1.must _⟩;clear hq;simp[pob,toks,adv,zd,zl]at i1 i2 t1 t2 t3 t4 t5 t6 x1 m1;refine zc rfl rfl rfl (by simp) ?_;rw[zb];simp[*,F119,zd,zl,pob,toks,zb,za]
  rw[if_neg (by rw[c_t6];decide)]at h;rw[c_t6]at t6;clear c_t6;split at h
  ·cases h
  rename_i x hq;obtain⟨w,p1⟩:=x;cases h;obtain⟨x1,I1⟩:=named_spec hq I hn';have m1:=zF I1 [59];refine⟨?_,I1.must _⟩;clear hq;rw[zb]at x1;simp[pob,toks,adv,zd,zl]at i1 i2 t1 t2 t3 t4 t5 t6 x1 m1;refine zc rfl rfl rfl (by simp) ?_;rw[zb];simp[*,F119,zd,zl,pob,toks,zb,za]
 ·have hdp:deepS d ⟨pa,pb,pd⟩=⟨pa,pb,pd⟩:=by unfold deepS;rw[if_neg h100]
  rw[hdp]at h I;clear hdp I0;replace h100:=eqn h100;have i1:=is_spec I [105,110,116];have i2:=is_spec I [98,111,111,108];cases c0:(isF T [105,110,116] ⟨pa,pb,pd⟩||isF T [98,111,111,108] ⟨pa,pb,pd⟩)
  case true=>
   rw[if_pos c0]at h;have ty:=typed_spec I;have I1:=I.typed;generalize hty:zx T ⟨pa,pb,pd⟩=tt at*;obtain⟨t,p1⟩:=tt;simp only at h ty I1;have tx:=zwd I1 1;have I2:=I1.text 1 (by decide);generalize htx:zy T 1 p1=tt at*;obtain⟨s,p2⟩:=tt;simp only at h tx I2;have m1:=zF I2 [61];split at h
   ·cases h
   rename_i x hq;obtain⟨e,p3⟩:=x;cases h;obtain⟨x1,I3⟩:=zPa hq (I2.must _) hn';have m2:=zF I3 [59];refine⟨?_,I3.must _⟩;clear htx hty hq;rw[za]at x1;simp[pob,toks,adv,zd]at i1 i2 ty tx m1 m2 x1;refine zc rfl rfl rfl (by simp) ?_;rw[zb];cases c1:isF T [105,110,116] ⟨pa,pb,pd⟩
   ·rw[c1]at c0 i1;have c0:isF T [98,111,111,108] ⟨pa,pb,pd⟩=true:=c0;rw[c0]at i2;clear c0 c1;simp[*,F119,zd,zl,pob,toks,zb,za]
   ·rw[c1]at i1;clear c0 c1;simp[*,F119,zd,zl,pob,toks,zb,za]
  rw[if_neg (by rw[c0];decide)]at h;simp only[ywa]at c0;rw[c0.1]at i1;rw[c0.2]at i2;clear c0;have t1:=zL I [105,102];rw[zaa]at t1;cases c_t1:isF T [105,102] ⟨pa,pb,pd⟩
  case true=>
   rw[if_pos c_t1]at h;rw[c_t1]at t1;have IA:=I.adv _ c_t1;clear c_t1;split at h
   ·cases h
   rename_i x hq;obtain⟨e,p1⟩:=x;simp only at h;obtain⟨x1,I1⟩:=zeb hq IA hn';split at h
   ·cases h
   rename_i x hr;obtain⟨l1,p2⟩:=x;simp only at h;obtain⟨x2,I2⟩:=S.block (d+1) _ l1 p2 hr I1 (by omega) (by omega);have te:=zL I2 [101,108,115,101];rw[zaa]at te;cases ce:isF T [101,108,115,101] p2
   case true=>
    rw[if_pos ce]at h;rw[ce]at te;split at h
    ·cases h
    rename_i x hs;obtain⟨l2,p3⟩:=x;cases h;obtain⟨x3,I3⟩:=S.block (d+1) _ l2 p3 hs (I2.adv _ ce) (by omega) (by omega);refine⟨?_,I3⟩;clear hq hr hs ce;simp[pob,toks,adv,zd,zl]at i1 i2 t1 x1 x2 x3 te;refine zc rfl rfl rfl (by simp) ?_;rw[zb];simp[*,F119,zd,zl,pob,toks,zb,za]
   rw[if_neg (by rw[ce];decide)]at h;rw[ce]at te;cases h;refine⟨?_,I2⟩;clear hq hr ce;simp[pob,toks,adv,zd,zl]at i1 i2 t1 x1 x2 te;refine zc rfl rfl rfl (by simp) ?_;rw[zb];simp[*,F119,zd,zl,pob,toks,zb,za]
  rw[if_neg (by rw[c_t1];decide)]at h;rw[c_t1]at t1;clear c_t1;have t2:=zL I [119,104,105,108,101];rw[zaa]at t2;cases c_t2:isF T [119,104,105,108,101] ⟨pa,pb,pd⟩
  case true=>
   rw[if_pos c_t2]at h;rw[c_t2]at t2;have IA:=I.adv _ c_t2;clear c_t2;split at h
   ·cases h
   rename_i x hq;obtain⟨e,p1⟩:=x;simp only at h;obtain⟨x1,I1⟩:=zeb hq IA hn';split at h
   ·cases h
   rename_i x hr;obtain⟨l1,p2⟩:=x;cases h;obtain⟨x2,I2⟩:=S.block (d+1) _ l1 p2 hr I1 (by omega) (by omega);refine⟨?_,I2⟩;clear hq hr;simp[pob,toks,adv,zd,zl]at i1 i2 t1 t2 x1 x2;refine zc rfl rfl rfl (by simp) ?_;rw[zb];simp[*,F119,zd,zl,pob,toks,zb,za]
  rw[if_neg (by rw[c_t2];decide)]at h;rw[c_t2]at t2;clear c_t2;have t3:=zL I [98,114,101,97,107];rw[zaa]at t3;cases c_t3:isF T [98,114,101,97,107] ⟨pa,pb,pd⟩
  case true=>
   rw[if_pos c_t3]at h;rw[c_t3]at t3;have IA:=I.adv _ c_t3;clear c_t3;cases h;have m1:=zF IA [59];refine⟨?_,IA.must _⟩;simp[pob,toks,adv,zd,zl]at i1 i2 t1 t2 t3 m1;refine zc rfl rfl rfl (by simp) ?_;rw[zb];simp[*,F119,zd,zl,pob,toks,zb,za];exact⟨rfl,rfl,rfl⟩
  rw[if_neg (by rw[c_t3];decide)]at h;rw[c_t3]at t3;clear c_t3;have t4:=zL I [99,111,110,116,105,110,117,101];rw[zaa]at t4;cases c_t4:isF T [99,111,110,116,105,110,117,101] ⟨pa,pb,pd⟩
  case true=>
   rw[if_pos c_t4]at h;rw[c_t4]at t4;have IA:=I.adv _ c_t4;clear c_t4;cases h;have m1:=zF IA [59];refine⟨?_,IA.must _⟩;simp[pob,toks,adv,zd,zl]at i1 i2 t1 t2 t3 t4 m1;refine zc rfl rfl rfl (by simp) ?_;rw[zb];simp[*,F119,zd,zl,pob,toks,zb,za];exact⟨rfl,rfl,rfl⟩
  rw[if_neg (by rw[c_t4];decide)]at h;rw[c_t4]at t4;clear c_t4;have t5:=zL I [114,101,116,117,114,110];rw[zaa]at t5;cases c_t5:isF T [114,101,116,117,114,110] ⟨pa,pb,pd⟩
  case true=>
   rw[if_pos c_t5]at h;rw[c_t5]at t5;have IA:=I.adv _ c_t5;clear c_t5;split at h
   ·cases h
   rename_i x hq;obtain⟨e,p1⟩:=x;cases h;obtain⟨x1,I1⟩:=zPa hq IA hn';have m1:=zF I1 [59];refine⟨?_,I1.must _⟩;clear hq;rw[za]at x1;simp[pob,toks,adv,zd,zl]at i1 i2 t1 t2 t3 t4 t5 x1 m1;refine zc rfl rfl rfl (by simp) ?_;rw[zb];simp[*,F119,zd,zl,pob,toks,zb,za]
  rw[if_neg (by rw[c_t5];decide)]at h;rw[c_t5]at t5;clear c_t5;have t6:=zL I [112,114,105,110,116];rw[zaa]at t6;cases c_t6:isF T [112,114,105,110,116] ⟨pa,pb,pd⟩
  case true=>
   rw[if_pos c_t6]at h;rw[c_t6]at t6;have IA:=I.adv _ c_t6;clear c_t6;split at h
   ·cases h
   rename_i x hq;obtain⟨e,p1⟩:=x;cases h;obtain⟨x1,I1⟩:=zeb hq IA hn';have m1:=zF I1 [59];refine⟨?_,I1.must _⟩;clear hq;simp[pob,toks,adv,zd,zl]at i1 i2 t1 t2 t3 t4 t5 t6 x1 m1;refine zc rfl rfl rfl (by simp) ?_;rw[zb];simp[*,F119,zd,zl,pob,toks,zb,za]
  rw[if_neg (by rw[c_t6];decide)]at h;rw[c_t6]at t6;clear c_t6;split at h
  ·cases h
  rename_i x hq;obtain⟨w,p1⟩:=x;cases h;obtain⟨x1,I1⟩:=named_spec hq I hn';have m1:=zF I1 [59];refine⟨?_,I1.must _⟩;clear hq;rw[zb]at x1;simp[pob,toks,adv,zd,zl]at i1 i2 t1 t2 t3 t4 t5 t6 x1 m1;refine zc rfl rfl rfl (by simp) ?_;rw[zb];simp[*,F119,zd,zl,pob,toks,zb,za]
theorem sspec_all(T:List Tok):∀n k,k<=n->SSpec T k
 |0,k,h=>by
  have:k=0:=by omega
  subst this;exact⟨fun _ _ _ _ h=>by simp[zgb]at h,block_of (fun k hk=>absurd hk (by omega))⟩
 |n+1,k,h=>by
  have ih:=sspec_all T n;rcases yA k (n+1)with h1|h1
  ·exact ih k (by omega)
  ·have:k=n+1:=by omega
   subst this;exact⟨stmt_of (ih n (yh n)),block_of (fun k hk=>ih k (by omega))⟩
theorem sspec(T:List Tok)(n:Nat):SSpec T n:=sspec_all T n n (yh n)
theorem acc_snoc(sz:Nat)(l:List PV)(x:PV):acc sz (l++[x])= .slice .own sz (l++[x]):=acc_ne (by simp)
@[simp] theorem isOwn_acc_snoc(sz:Nat)(l:List PV)(x:PV):isOwn (acc sz (l++[x]))=some (sz,l++[x]):=by rw[acc_snoc];rfl
def zN(T:List Tok):Nat->List Par->Bool->PS->Option (List Par×PS)
 |0,_,_,_=>none
 |n+1,l,first,p=>
  if first||isF T [44] p then
   if zf (if first then p else adv p)then some (l,if first then p else adv p)
   else zN T n (l++[⟨(zy T 1 (zx T (if first then p else adv p)).2).1,(zx T (if first then p else adv p)).1⟩]) false (zy T 1 (zx T (if first then p else adv p)).2).2
  else some (l,p)
def zka(T:List Tok)(n:Nat)(t:Int)(s:List UInt8)(p:PS):Option (Func×PS):=
 if isF T [41] (zC T [40] p)then
  match zW T n 1 [] (zC T [123] (adv (zC T [40] p)))with
  |none=>none
  |some q=>some (⟨s,t,[],q.1⟩,q.2)
 else match zN T n [] true (zC T [40] p)with
  |none=>none
  |some r=>match zW T n 1 [] (zC T [123] (zC T [41] r.2))with
   |none=>none
   |some q=>some (⟨s,t,r.1,q.1⟩,q.2)
structure FS where
 m:Nat
 l:List Par
 f:Bool
 p:PS
theorem paramsF_inv{T:List Tok}:∀m l f p v p',zN T m l f p=some (v,p')->Inv1 T p->Inv1 T p':=by
 intro m
 induction m with
 |zero=>intro l f p v p' h;simp[zN]at h
 |succ m ih=>
  intro l f p v p' h I;simp only[zN]at h;have fin:∀q:PS,Inv1 T q->(if zf q then some (l,q)else zN T m (l++[⟨(zy T 1 (zx T q).2).1,(zx T q).1⟩]) false (zy T 1 (zx T q).2).2)=some (v,p')->Inv1 T p':=by
   intro q Iq h;split at h
   ·cases h;exact Iq
   ·exact ih _ _ _ _ _ h (Iq.typed.text 1 (by decide))
  cases f
  ·cases c2:isF T [44] p
   ·rw[c2]at h;simp at h;exact h.2 ▸ I
   ·rw[c2]at h;simp at h;exact fin _ (I.adv _ c2) h
  ·simp at h;exact fin _ I h
set_option maxHeartbeats 4000000 in
theorem function_spec{T:List Tok}{n:Nat}{t:Int}{s:List UInt8}{p p':PS}{v:Func}(h:zka T n t s p=some (v,p'))(I:Inv1 T p)(hn:n<=999999980):zk E 84 [.ptr 0 0 0,.int .i64 t,.str s] (pob T p)=some (.ret (zQ v),pob T p')/\Inv1 T p':=by
 unfold zka at h;have m1:=zF I [40];have I1:=I.must [40];have t1:=zL I1 [41];rw[zaa]at t1;cases c1:isF T [41] (zC T [40] p)
 case true=>
  rw[if_pos c1]at h;rw[c1]at t1;split at h
  ·cases h
  rename_i q hq;obtain⟨l,p2⟩:=q;cases h;obtain⟨x1,I3⟩:=(sspec T n).block 1 _ l p2 hq (I1.adv _ c1) (by omega) (by omega);refine⟨?_,I3⟩;refine zc rfl rfl rfl (by simp) ?_;clear hq c1;simp[zl]at x1;simp[*,F84,zQ,parsV,zl]
 rw[if_neg (by rw[c1];decide)]at h;rw[c1]at t1;split at h
 ·cases h
 rename_i r hr;obtain⟨ps,p1⟩:=r;simp only at h;split at h
 ·cases h
 rename_i q hq;obtain⟨l,p2⟩:=q;cases h;have Ip:=paramsF_inv _ _ _ _ _ _ hr I1;have m2:=zF Ip [41];obtain⟨x1,I3⟩:=(sspec T n).block 1 _ l p2 hq (Ip.must [41]) (by omega) (by omega);refine⟨?_,I3⟩;refine zc rfl rfl rfl (by simp) ?_;clear hq c1;simp[zl]at x1;simp[*,F84,zQ,parsV,zl];refine zmb K84_0 B84_0 (fun c:FS=>c.m) (fun c=>[(8,.bool c.f)]) (fun c=>[(7,.cells [.str s,.int .i64 t,acc 2 (c.l.map encPar),.slice .fit 6 []])]) (fun c=>pob T c.p) (fun c=>c.m<=n/\c.l.length+c.m<=n/\zN T c.m c.l c.f c.p=some (ps,p1)/\Inv1 T c.p) ⟨n,[],true,zC T [40] p⟩ ⟨by simp,by simp,by simp,yh _,by simp,hr,I1⟩ ?_
 rintro⟨m,l2,f,p⟩ s1 ⟨hm,hlm,hr,I⟩ g1 g2 g3 g4 g5
 simp at g1 g2 g3 g4 g5 hm hlm hr I;clear t1 I1 I3 Ip;cases m with
 |zero=>simp[zN]at hr
 |succ m=>
  simp only[zN]at hr;have hroom:(l2.length+1)*24<=zU:=by simp only[zU];omega
  have t2:=zL I [44];rw[zaa]at t2;have key:∀q:PS,Inv1 T q->(if zf q then some (l2,q)else zN T m (l2++[⟨(zy T 1 (zx T q).2).1,(zx T q).1⟩]) false (zy T 1 (zx T q).2).2)=some (ps,p1)→
    (zf q=true/\l2=ps/\q=p1)\/(zf q=false/\∃ty pt tx p3,zk E 79 [.ptr 0 0 0] (pob T q)=some (.ret (.int .i64 ty),pob T pt)/\zk E 80 [.ptr 0 0 0,.int .i64 1] (pob T pt)=some (.ret (.str tx),pob T p3)/\Inv1 T p3/\zN T m (l2++[⟨tx,ty⟩]) false p3=some (ps,p1)):=by
   intro q Iq h;cases ho:zf q
   ·right;rw[if_neg (by rw[ho];decide)]at h;exact⟨rfl,_,_,_,_,typed_spec Iq,zwd Iq.typed 1,Iq.typed.text 1 (by decide),h⟩
   ·left;rw[if_pos ho]at h;cases h;exact⟨rfl,rfl,rfl⟩
  cases f
  ·cases c2:isF T [44] p
   ·rw[c2]at hr t2;simp at hr;obtain⟨rfl,rfl⟩:=hr;clear key c2;simp[*]
   ·have IA:=I.adv _ c2;rw[c2]at hr t2;simp at hr;have ho:=zxc IA;rcases key _ IA hr with⟨k1,rfl,rfl⟩|⟨k1,ty,pt,tx,p3,x2,x3,I3,hr2⟩
    ·rw[k1]at ho;clear key c2 hr;simp[*]
    ·rw[k1]at ho;clear key c2 hr k1;simp[*];exact⟨⟨m,l2++[⟨tx,ty⟩],false,p3⟩,yK m,rfl,by simp[encPar,acc_snoc],rfl,by simp only;omega,by simp only[ye,yd,yg];omega,hr2,I3⟩
  ·simp at hr;have ho:=zxc I;rcases key _ I hr with⟨k1,rfl,rfl⟩|⟨k1,ty,pt,tx,p3,x2,x3,I3,hr2⟩
   ·rw[k1]at ho;clear key hr t2;simp[*]
   ·rw[k1]at ho;clear key hr k1 t2;simp[*];exact⟨⟨m,l2++[⟨tx,ty⟩],false,p3⟩,yK m,rfl,by simp[encPar,acc_snoc],rfl,by simp only;omega,by simp only[ye,yd,yg];omega,hr2,I3⟩
def zCb(T:List Tok):Nat->List PArr->List Func->PS->Option (Prog×PS)
 |0,_,_,_=>none
 |n+1,ars,fs,p=>
  if zf p then some (⟨ars,fs⟩,p)
  else if(tk T p.at').kind=3 then some (⟨ars,fs⟩,p)
  else if(zx T p).1=1/\fs=[]/\isF T [91] (zy T 1 (zx T p).2).2=true then
   zCb T n (ars++[⟨(zy T 1 (zx T p).2).1,zwc (zy T 0 (adv (zy T 1 (zx T p).2).2)).1⟩]) fs (zC T [59] (zC T [93] (zy T 0 (adv (zy T 1 (zx T p).2).2)).2))
  else match zka T n (zx T p).1 (zy T 1 (zx T p).2).1 (zy T 1 (zx T p).2).2 with
   |none=>none
   |some q=>zCb T n ars (fs++[q.1]) q.2
structure GS where
 m:Nat
 ars:List PArr
 fs:List Func
 p:PS
def left(T:List Tok)(p:PS):Nat:=T.length-p.at'
def Fw(p q:PS):Prop:=p.at'<=q.at'/\(zf p=true->zf q=true)
theorem Fw.refl(p:PS):Fw p p:=⟨yh _,id⟩
theorem Fw.trans{p q r:PS}(a:Fw p q)(b:Fw q r):Fw p r:=⟨yha a.1 b.1,fun h=>b.2 (a.2 h)⟩
theorem zu(p:PS):Fw p (adv p):=⟨Nat.le_succ _,id⟩
theorem zm(T:List Tok)(s:List UInt8)(p:PS):Fw p (zC T s p):=by
 unfold zC;split
 ·exact⟨Nat.le_succ _,id⟩
 ·split
  ·exact Fw.refl _
  ·exact⟨yh _,fun _=>rfl⟩
theorem zfb(T:List Tok)(k:Int)(p:PS):Fw p (zy T k p).2:=by
 unfold zy;split
 ·exact Fw.refl _
 ·split
  ·exact⟨Nat.le_succ _,id⟩
  ·exact⟨yh _,fun _=>rfl⟩
theorem zbe(T:List Tok)(p:PS):Fw p (zx T p).2:=by
 unfold zx;split
 ·exact zu p
 ·exact zm T _ p
theorem fw_deepF(d:Int)(p:PS):Fw p (deepF d p):=by
 unfold deepF;split
 ·split
  ·exact Fw.refl _
  ·exact⟨yh _,fun _=>by simp[zf]⟩
 ·exact Fw.refl _
theorem fw_deepS(d:Int)(p:PS):Fw p (deepS d p):=by
 unfold deepS;split
 ·exact⟨yh _,fun _=>by simp[zf]⟩
 ·exact Fw.refl _
theorem znb{T:List Tok}{p:PS}{s:List UInt8}(I:Inv1 T p)(h:isF T s p=true):left T (adv p)+1=left T p:=by
 have:=I.lt;unfold left adv;simp only;omega
theorem zLa{T:List Tok}{p q:PS}(h:Fw p q):left T q<=left T p:=by
 unfold left;have:=h.1;omega
structure Enough(T:List Tok)(n:Nat):Prop where
 primary:∀d p,Inv1 T p->64*left T p+1<=n->∃v p',zV T n d p=some (v,p')/\Inv1 T p'/\Fw p p'
 unary:∀d p,Inv1 T p->64*left T p+2<=n->∃v p',zFa T n d p=some (v,p')/\Inv1 T p'/\Fw p p'
 expr:∀(k:Nat) L d p,Inv1 T p->L=11-(k:Int)->k<=10->64*left T p+3+2*k<=n->∃v p',zda T n L d p=some (v,p')/\Inv1 T p'/\Fw p p'
 loop:∀(k:Nat) L d a p,Inv1 T p->L=11-(k:Int)->1<=k->k<=10->64*left T p+2+2*k<=n->∃v p',zB T n L d a p=some (v,p')/\Inv1 T p'/\Fw p p'
 args:∀d p,Inv1 T p->64*left T p+26<=n->∃v p',zMb T n d p=some (v,p')/\Inv1 T p'/\Fw p p'
 al:∀d l (f:Bool) p,Inv1 T p->64*left T p+24+f.toNat<=n->∃v p',zw T n d l f p=some (v,p')/\Inv1 T p'/\Fw p p'
theorem enough_of{T:List Tok}{n:Nat}(E:Enough T n):Enough T (n+1):=by
 refine⟨?_,?_,?_,?_,?_,?_⟩
 ·intro d p I h;simp only[zV];split
  ·exact⟨_,_,rfl,I,Fw.refl _⟩
  split
  ·rename_i hc;have hl:=znb I hc;obtain⟨v,p',e,I',F⟩:=E.expr 10 1 (d+1) (adv p) (I.adv _ hc) (by omega) (by omega) (by omega);rw[e];exact⟨_,_,rfl,I'.must _,((zu p).trans F).trans (zm _ _ _)⟩
  split
  ·rename_i hc;exact⟨_,_,rfl,I.adv _ hc,zu p⟩
  split
  ·rename_i hc;exact⟨_,_,rfl,I.adv _ hc,zu p⟩
  split
  ·rename_i hc;exact⟨_,_,rfl,((I.adv _ hc).must _).must _,((zu p).trans (zm _ _ _)).trans (zm _ _ _)⟩
  split
  ·rename_i hc;exact⟨_,_,rfl,I.next (by rw[hc];decide) _ _,zu p⟩
  have I1:=I.text 1 (by decide);have F1:=zfb T 1 p;have hl1:=zLa (T:=T) F1;split
  ·rename_i hc;have hl:=znb I1 hc;obtain⟨v,p',e,I',F⟩:=E.args (d+1) _ (I1.adv _ hc) (by omega);rw[e];exact⟨_,_,rfl,I',(F1.trans (zu _)).trans F⟩
  split
  ·rename_i hc;have hl:=znb I1 hc;obtain⟨v,p',e,I',F⟩:=E.expr 10 1 (d+1) _ (I1.adv _ hc) (by omega) (by omega) (by omega);rw[e];exact⟨_,_,rfl,I'.must _,((F1.trans (zu _)).trans F).trans (zm _ _ _)⟩
  exact⟨_,_,rfl,I1,F1⟩
 ·intro d p I h;simp only[zFa];have I1:=I.deepF d;have F1:=fw_deepF d p;have hl1:=zLa (T:=T) F1;cases hu:unF T (deepF d p)with
  |none=>
   simp only;obtain⟨v,p',e,I',F⟩:=E.primary d _ I1 (by omega);exact⟨v,p',e,I',F1.trans F⟩
  |some i=>
   simp only;have hi:isF T (zP ((i+20:Nat):Int)) (deepF d p)=true:=(unF_get hu).2.1;have hl:=znb I1 hi;split
   ·have F2:=zm T [40] (adv (deepF d p));have hl2:=zLa (T:=T) F2;obtain⟨v,p',e,I',F⟩:=E.expr 10 1 (d+1) _ ((I1.adv _ hi).must [40]) (by omega) (by omega) (by omega);rw[e];exact⟨_,_,rfl,I'.must _,(((F1.trans (zu _)).trans F2).trans F).trans (zm _ _ _)⟩
   ·obtain⟨v,p',e,I',F⟩:=E.unary (d+1) _ (I1.adv _ hi) (by omega);rw[e];exact⟨_,_,rfl,I',(F1.trans (zu _)).trans F⟩
 ·intro k L d p I hL hk h;simp only[zda];split
  ·exact E.unary d p I (by omega)
  ·rename_i h10;obtain⟨v,p',e,I',F⟩:=E.expr (k-1) (L+1) d p I (by omega) (by omega) (by omega);rw[e];have hl:=zLa (T:=T) F;obtain⟨v2,p2,e2,I2,F2⟩:=E.loop k L d v p' I' hL (by omega) hk (by omega);exact⟨v2,p2,e2,I2,F.trans F2⟩
 ·intro k L d a p I hL hk1 hk h;simp only[zB];split
  ·exact⟨_,_,rfl,I,Fw.refl _⟩
  ·rename_i hne;obtain⟨s,hs⟩:=opF_pos hne;have hl:=znb I hs;obtain⟨v,p',e,I',F⟩:=E.expr (k-1) (L+1) d (adv p) (I.adv _ hs) (by omega) (by omega) (by omega);rw[e];have hl2:=zLa (T:=T) F;obtain⟨v2,p2,e2,I2,F2⟩:=E.loop k L d _ p' I' hL hk1 hk (by omega);exact⟨v2,p2,e2,I2,((zu p).trans F).trans F2⟩
 ·intro d p I h;simp only[zMb];split
  ·rename_i hc;exact⟨_,_,rfl,I.adv _ hc,zu p⟩
  ·obtain⟨v,p',e,I',F⟩:=E.al d [] true p I (by simp;omega);rw[e];exact⟨_,_,rfl,I'.must _,F.trans (zm _ _ _)⟩
 ·intro d l f p I h;simp only[zw];have fin:∀q:PS,Inv1 T q->Fw p q->64*left T q+24<=n->∃v p',(if zf q then some (l,q)else match zda T n 1 d q with|none=>none|some x=>zw T n d (l++[x.1]) false x.2)=some (v,p')/\Inv1 T p'/\Fw p p':=by
   intro q Iq Fq hq;split
   ·exact⟨_,_,rfl,Iq,Fq⟩
   ·obtain⟨v,p',e,I',F⟩:=E.expr 10 1 d q Iq (by omega) (by omega) (by omega);rw[e];have hl:=zLa (T:=T) F;obtain⟨v2,p2,e2,I2,F2⟩:=E.al d (l++[v]) false p' I' (by simp;omega);exact⟨v2,p2,e2,I2,(Fq.trans F).trans F2⟩
  cases f
  ·cases c2:isF T [44] p
   ·exact⟨l,p,rfl,I,Fw.refl _⟩
   ·have hl:=znb I c2;replace h:64*left T p+24<=n+1:=by simpa using h
    have hh:=fin (adv p) (I.adv _ c2) (zu p) (by omega);exact hh
  ·simp at h;have hh:=fin p I (Fw.refl _) (by omega);exact hh
theorem enough(T:List Tok):∀n,Enough T n
 |0=>⟨fun _ _ _ h=>by omega,fun _ _ _ h=>by omega,fun _ _ _ _ _ _ _ h=>by omega,fun _ _ _ _ _ _ _ _ _ h=>by omega,fun _ _ _ h=>by omega,fun _ _ _ _ _ h=>by omega⟩
 |n+1=>enough_of (enough T n)
theorem zNb{T:List Tok}{n:Nat}{p:PS}(I:Inv1 T p)(h:64*left T p+23<=n):∃v p',zda T n 1 1 p=some (v,p')/\Inv1 T p'/\Fw p p':=
 (enough T n).expr 10 1 1 p I (by omega) (by omega) (by omega)
theorem zae{T:List Tok}{n:Nat}{p:PS}(I:Inv1 T p)(h:64*left T p+23<=n):∃v p',zTa T n p=some (v,p')/\Inv1 T p'/\Fw p p':=by
 unfold zTa;have hl:=zLa (T:=T) (zm T [40] p);obtain⟨v,p',e,I',F⟩:=zNb (n:=n) (I.must [40]) (by omega);rw[e];exact⟨_,_,rfl,I'.must _,((zm _ _ _).trans F).trans (zm _ _ _)⟩
def Go1(p q:PS):Prop:=p.at'<q.at'\/zf q=true
theorem text_go{T:List Tok}{k:Int}{p:PS}:Go1 p (zy T k p).2:=by
 unfold zy;split
 ·rename_i h;exact yQa h
 ·split
  ·exact yOa (yK _)
  ·exact yQa (by simp[zf])
theorem must_go{T:List Tok}{s:List UInt8}{p:PS}:Go1 p (zC T s p):=by
 unfold zC;split
 ·exact yOa (yK _)
 ·split
  ·rename_i h;exact yQa (by simp[zf,h])
  ·exact yQa (by simp[zf])
theorem typed_go{T:List Tok}{p:PS}:Go1 p (zx T p).2:=by
 unfold zx;split
 ·exact yOa (yK _)
 ·exact must_go
theorem adv_go(p:PS):Go1 p (adv p):=yOa (yK _)
theorem Go1.fw{p q r:PS}(h:Go1 p q)(f:Fw q r):Go1 p r:=by
 rcases h with h|h
 ·exact yOa (Nat.lt_of_lt_of_le h f.1)
 ·exact yQa (f.2 h)
theorem Fw.go{p q r:PS}(f:Fw p q)(h:Go1 q r):Go1 p r:=by
 rcases h with h|h
 ·exact yOa (Nat.lt_of_le_of_lt f.1 h)
 ·exact yQa h
theorem named_enough{T:List Tok}{n:Nat}{p:PS}(I:Inv1 T p)(h:64*left T p+26<=n):∃v p',zAb T n p=some (v,p')/\Inv1 T p'/\Fw p p'/\Go1 p p':=by
 unfold zAb;have I1:=I.text 1 (by decide);have F1:=zfb T 1 p;have G1:=text_go (T:=T) (k:=1) (p:=p);have hl1:=zLa (T:=T) F1;split
 ·rename_i hc;have hl:=znb I1 hc;obtain⟨v,p',e,I',F⟩:=(enough T n).args 2 _ (I1.adv _ hc) (by omega);rw[e];exact⟨_,_,rfl,I',(F1.trans (zu _)).trans F,G1.fw ((zu _).trans F)⟩
 split
 ·rename_i hc;have hl:=znb I1 hc;obtain⟨v,p',e,I',F⟩:=zNb (n:=n) (I1.adv _ hc) (by omega);rw[e];simp only;have F2:=(zm T [93] p').trans (zm T [61] _);have hl2:=zLa (T:=T) F;have hl3:=zLa (T:=T) F2;obtain⟨v2,p2,e2,I2,F3⟩:=zNb (n:=n) ((I'.must [93]).must [61]) (by omega);rw[e2];exact⟨_,_,rfl,I2,(((F1.trans (zu _)).trans F).trans F2).trans F3,G1.fw ((((zu _).trans F).trans F2).trans F3)⟩
 ·have F2:=zm T [61] (zy T 1 p).2;have hl3:=zLa (T:=T) F2;obtain⟨v2,p2,e2,I2,F3⟩:=zNb (n:=n) (I1.must [61]) (by omega);rw[e2];exact⟨_,_,rfl,I2,(F1.trans F2).trans F3,G1.fw (F2.trans F3)⟩
structure EnoughS(T:List Tok)(n:Nat):Prop where
 stmt:∀d p,Inv1 T p->64*left T p+28<=n->∃v p',zgb T n d p=some (v,p')/\Inv1 T p'/\Fw p p'/\Go1 p p'
 block:∀d l p,Inv1 T p->64*left T p+30<=n->∃v p',zW T n d l p=some (v,p')/\Inv1 T p'/\Fw p p'
 over:∀d l p,Inv1 T p->1<=n->zf p=true->∃v p',zW T n d l p=some (v,p')/\Inv1 T p'/\Fw p p'
theorem enoughS_of{T:List Tok}{n:Nat}(E:EnoughS T n):EnoughS T (n+1):=by
 refine⟨?_,?_,?_⟩
 ·intro d p I0 h;simp only[zgb];have I:=I0.deepS d;have F0:=fw_deepS d p;have hl0:=zLa (T:=T) F0;generalize deepS d p=q at*;have fin:∀r,Fw q r->Go1 q r->Fw p r/\Go1 p r:=fun r a b=>⟨F0.trans a,F0.go b⟩
  split
  ·have G1:=typed_go (T:=T) (p:=q);have F1:=((zbe T q).trans (zfb T 1 _)).trans (zm T [61] _);have hl:=zLa (T:=T) F1;obtain⟨v,p',e,I',F⟩:=zNb (n:=n) ((I.typed.text 1 (by decide)).must [61]) (by omega);rw[e];have:=fin _ ((F1.trans F).trans (zm T [59] _)) (G1.fw ((((zfb T 1 _).trans (zm T [61] _)).trans F).trans (zm T [59] _)));exact⟨_,_,rfl,I'.must _,this.1,this.2⟩
  split
  ·rename_i hc;have hl:=znb I hc;obtain⟨v,p',e,I',F⟩:=zae (n:=n) (I.adv _ hc) (by omega);rw[e];simp only;have F2:=F.trans (zm T [123] p');have hl2:=zLa (T:=T) F2;obtain⟨v2,p2,e2,I2,F3⟩:=E.block (d+1) [] _ (I'.must [123]) (by omega);rw[e2];simp only;have hl3:=zLa (T:=T) F3;split
   ·rename_i hc2;have hl4:=znb I2 hc2;have F4:=(zu p2).trans (zm T [123] _);have hl5:=zLa (T:=T) (zm T [123] (adv p2));obtain⟨v3,p3,e3,I3,F5⟩:=E.block (d+1) [] _ ((I2.adv _ hc2).must [123]) (by omega);rw[e3];have:=fin _ (((((zu q).trans F2).trans F3).trans F4).trans F5) ((adv_go q).fw (((F2.trans F3).trans F4).trans F5));exact⟨_,_,rfl,I3,this.1,this.2⟩
   ·have:=fin _ (((zu q).trans F2).trans F3) ((adv_go q).fw (F2.trans F3));exact⟨_,_,rfl,I2,this.1,this.2⟩
  split
  ·rename_i hc;have hl:=znb I hc;obtain⟨v,p',e,I',F⟩:=zae (n:=n) (I.adv _ hc) (by omega);rw[e];simp only;have F2:=F.trans (zm T [123] p');have hl2:=zLa (T:=T) F2;obtain⟨v2,p2,e2,I2,F3⟩:=E.block (d+1) [] _ (I'.must [123]) (by omega);rw[e2];have:=fin _ (((zu q).trans F2).trans F3) ((adv_go q).fw (F2.trans F3));exact⟨_,_,rfl,I2,this.1,this.2⟩
  split
  ·rename_i hc;have:=fin _ ((zu q).trans (zm T [59] _)) ((adv_go q).fw (zm T [59] _));exact⟨_,_,rfl,(I.adv _ hc).must _,this.1,this.2⟩
  split
  ·rename_i hc;have:=fin _ ((zu q).trans (zm T [59] _)) ((adv_go q).fw (zm T [59] _));exact⟨_,_,rfl,(I.adv _ hc).must _,this.1,this.2⟩
  split
  ·rename_i hc;have hl:=znb I hc;obtain⟨v,p',e,I',F⟩:=zNb (n:=n) (I.adv _ hc) (by omega);rw[e];have:=fin _ (((zu q).trans F).trans (zm T [59] _)) ((adv_go q).fw (F.trans (zm T [59] _)));exact⟨_,_,rfl,I'.must _,this.1,this.2⟩
  split
  ·rename_i hc;have hl:=znb I hc;obtain⟨v,p',e,I',F⟩:=zae (n:=n) (I.adv _ hc) (by omega);rw[e];have:=fin _ (((zu q).trans F).trans (zm T [59] _)) ((adv_go q).fw (F.trans (zm T [59] _)));exact⟨_,_,rfl,I'.must _,this.1,this.2⟩
  ·obtain⟨v,p',e,I',F,G⟩:=named_enough (n:=n) I (by omega);rw[e];have:=fin _ (F.trans (zm T [59] _)) (G.fw (zm T [59] _));exact⟨_,_,rfl,I'.must _,this.1,this.2⟩
 ·intro d l p I h;simp only[zW];split
  ·exact⟨_,_,rfl,I,Fw.refl _⟩
  split
  ·rename_i hc;exact⟨_,_,rfl,I.adv _ hc,zu p⟩
  ·obtain⟨v,p',e,I',F,G⟩:=E.stmt d p I (by omega);rw[e];simp only;rcases G with hg|hg
   ·have hl:left T p'+1<=left T p:=by
     have:=I'.lt;have:=I.lt;unfold left;omega
    obtain⟨v2,p2,e2,I2,F2⟩:=E.block d (l++[v]) p' I' (by omega);exact⟨v2,p2,e2,I2,F.trans F2⟩
   ·obtain⟨v2,p2,e2,I2,F2⟩:=E.over d (l++[v]) p' I' (by omega) hg;exact⟨v2,p2,e2,I2,F.trans F2⟩
 ·intro d l p I h ho;simp only[zW];rw[if_pos ho];exact⟨_,_,rfl,I,Fw.refl _⟩
theorem enoughS(T:List Tok):∀n,EnoughS T n
 |0=>⟨fun _ _ _ h=>by omega,fun _ _ _ _ h=>by omega,fun _ _ _ _ h=>by omega⟩
 |n+1=>enoughS_of (enoughS T n)
theorem params_enough{T:List Tok}:∀n l (f:Bool) p,Inv1 T p->left T p+2+f.toNat<=n->∃v p',zN T n l f p=some (v,p')/\Inv1 T p'/\Fw p p':=by
 intro n
 induction n with
 |zero=>intro l f p _ h;omega
 |succ n ih=>
  intro l f p I h;simp only[zN];have ov:∀l q,Inv1 T q->zf q=true->1<=n->∃v p',zN T n l false q=some (v,p')/\Inv1 T p'/\Fw q p':=by
   intro l q Iq ho hn;obtain⟨n,rfl⟩:∃m,n=m+1:=⟨n-1,by omega⟩
   have hc:isF T [44] q=false:=by unfold isF;rw[ho];rfl
   refine⟨l,q,?_,Iq,Fw.refl _⟩;simp[zN,hc]
  have fin:∀q:PS,Inv1 T q->Fw p q->left T q+2<=n->∃v p',(if zf q then some (l,q)else zN T n (l++[⟨(zy T 1 (zx T q).2).1,(zx T q).1⟩]) false (zy T 1 (zx T q).2).2)=some (v,p')/\Inv1 T p'/\Fw p p':=by
   intro q Iq Fq hq;split
   ·exact⟨_,_,rfl,Iq,Fq⟩
   ·have F:=(zbe T q).trans (zfb T 1 _);have hl:=zLa (T:=T) F;have I2:=Iq.typed.text 1 (by decide);obtain⟨v2,p2,e2,I3,F2⟩:=ih (l++[⟨(zy T 1 (zx T q).2).1,(zx T q).1⟩]) false _ I2 (by simp;omega);exact⟨v2,p2,e2,I3,(Fq.trans F).trans F2⟩
  cases f
  ·cases c2:isF T [44] p
   ·exact⟨l,p,rfl,I,Fw.refl _⟩
   ·have hl:=znb I c2;replace h:left T p+2<=n+1:=by simpa using h
    have hh:=fin (adv p) (I.adv _ c2) (zu p) (by omega);exact hh
  ·replace h:left T p+2+1<=n+1:=by simpa using h
   have hh:=fin p I (Fw.refl _) (by omega);exact hh
theorem function_enough{T:List Tok}{n:Nat}{t:Int}{s:List UInt8}{p:PS}(I:Inv1 T p)(h:64*left T p+30<=n):∃v p',zka T n t s p=some (v,p')/\Inv1 T p'/\Fw p p':=by
 unfold zka;have I1:=I.must [40];have F1:=zm T [40] p;have hl1:=zLa (T:=T) F1;split
 ·rename_i hc;have F2:=(zu (zC T [40] p)).trans (zm T [123] _);have hl2:=zLa (T:=T) F2;obtain⟨v,p',e,I',F⟩:=(enoughS T n).block 1 [] _ ((I1.adv _ hc).must [123]) (by omega);rw[e];exact⟨_,_,rfl,I',(F1.trans F2).trans F⟩
 ·obtain⟨v,p',e,I',F⟩:=params_enough n [] true _ I1 (by simp;omega);rw[e];simp only;have F2:=(zm T [41] p').trans (zm T [123] _);have hl2:=zLa (T:=T) F;have hl3:=zLa (T:=T) F2;obtain⟨v2,p2,e2,I2,F3⟩:=(enoughS T n).block 1 [] _ ((I'.must [41]).must [123]) (by omega);rw[e2];exact⟨_,_,rfl,I2,((F1.trans F).trans F2).trans F3⟩
theorem prog_enough{T:List Tok}:∀n ars fs p,Inv1 T p->64*left T p+31<=n\/(zf p=true/\1<=n)->∃v p',zCb T n ars fs p=some (v,p')/\Inv1 T p':=by
 intro n
 induction n with
 |zero=>intro ars fs p _ h;omega
 |succ n ih=>
  intro ars fs p I h;simp only[zCb];split
  ·exact⟨_,_,rfl,I⟩
  rename_i hno;replace h:64*left T p+31<=n+1:=by
   rcases h with h|h
   ·exact h
   ·exact absurd h.1 hno
  split
  ·exact⟨_,_,rfl,I⟩
  have G1:=typed_go (T:=T) (p:=p);have I2:=I.typed.text 1 (by decide);have F1:=(zbe T p).trans (zfb T 1 _);have G2:Go1 p (zy T 1 (zx T p).2).2:=G1.fw (zfb T 1 _);have hl:=zLa (T:=T) F1;have nx:∀q,Inv1 T q->Go1 p q->64*left T q+31<=n\/(zf q=true/\1<=n):=by
   intro q Iq G;rcases G with g|g
   ·left;have:=Iq.lt;have:=I.lt;unfold left at*;omega
   ·exact yQa ⟨g,by omega⟩
  split
  ·rename_i hc;have I3:=(((I2.adv _ hc.2.2).text 0 (by decide)).must [93]).must [59];exact ih _ _ _ I3 (nx _ I3 (G2.fw ((((zu _).trans (zfb T 0 _)).trans (zm T [93] _)).trans (zm T [59] _))))
  ·obtain⟨v,p',e,I',F⟩:=function_enough (n:=n) (t:=(zx T p).1) (s:=(zy T 1 (zx T p).2).1) I2 (by omega);rw[e];exact ih _ _ _ I' (nx _ I' (G2.fw F))
def kindR(k o n:Int)(s:List UInt8)(a:Nat):Bool:=
 if k=1 then decide (o=0)&&(decide (0<=n)&&(decide (s=[])&&decide (a=0)))
 else if k=2 then decide (o=0)&&((decide (n=0)||decide (n=1))&&(decide (s=[])&&decide (a=0)))
 else if k=3 then(decide (o=0)&&decide (n=0))&&(zXa s&&decide (a=0))
 else if k=4 then oneR o&&(decide (n=0)&&(decide (s=[])&&decide (a=1)))
 else if k=5 then decide (0<zI o)&&(decide (n=0)&&(decide (s=[])&&decide (a=2)))
 else if k=6 then(decide (o=0)&&decide (n=0))&&(zXa s&&decide (a=1))
 else if k=7 then(decide (o=0)&&decide (n=0))&&(zXa s&&decide (a<=8))
 else if k=8 then(decide (o=0)&&decide (n=0))&&(decide (s=[])&&decide (a=0))
 else false
mutual
def zCc:Expr->Int->Bool
 |⟨k,o,n,s,a⟩,m=>zdc a m&&kindR k o n s a.length
def zdc:List Expr->Int->Bool
 | [],_=>true
 |x::r,m=>(decide (2<=m)&&zCc x (m-1))&&zdc r m
end
theorem exprR_eq(e:Expr)(m:Int):zCc e m=(zdc e.args m&&kindR e.kind e.op e.n e.name e.args.length):=by cases e;rw[zCc]
theorem zee(a b:List Expr)(m:Int):zdc (a++b) m=(zdc a m&&zdc b m):=by
 induction a with
 |nil=>simp[zdc]
 |cons x r ih=>simp[zdc,ih,Bool.and_assoc]
set_option maxHeartbeats 4000000 in
theorem exprR_spec':∀w (e:Expr) (m:Int),wtE e<=w->w<1099511000000->m<=1000000->zk E 72 [zA e,.int .i64 m] []=some (.ret (.bool (zCc e m)),[])
 |0,e,m,h,_,_=>by rw[wtE_eq]at h;omega
 |w+1,e,m,h,hw,hm=>by
  refine zc rfl rfl rfl (by simp[za]) ?_;have hlen:=len_wtEs e.args;rw[wtE_eq]at h;simp[F72,za,zd];refine zsa e.args K72_0 B72_0 (fun d=>[(5,.int .i64 d.length)]) (fun _=>[]) (fun d=>zdc d m=true) (by omega) (by simp[zdc]) ?_ ?_
  ·intros d x r s1 hl' hlt hget hget' hw1 hp h1 h2 h3 h4;simp at h1 h2 h3;have hwx:=wtE_mem hl'.mem;have hf:zCc e m=false\/(2<=m/\zCc x (m-1)=true):=by
    by_cases h2m:2<=m
    ·cases hx:zCc x (m-1)
     ·left;rw[exprR_eq,hl'.eq,zee];simp[zdc,hx]
     ·exact yQa ⟨h2m,rfl⟩
    ·left;rw[exprR_eq,hl'.eq,zee];simp[zdc,h2m]
   have hnx:2<=m->zCc x (m-1)=true->zdc (d++[x]) m=true:=by
    intro a b;rw[zee,hp];simp[zdc,a,b]
   by_cases h2m:m<2
   ·rcases hf with hf|hf
    ·clear hnx hl' hp
     (simp[*])<;>(repeat' (first|((first|refine sP _ ?_ ?_|refine gP _ ?_ ?_|refine sN _ ?_ ?_|refine gN _ ?_ ?_)<;>intro hc<;>(first|replace hc:=eqn hc|replace hc:=eqp hc)<;>simp[*])|((first|refine sM _ ?_ ?_|refine gM _ ?_ ?_|refine sB _ ?_ ?_|refine gB _ ?_ ?_)<;>intro hc<;>simp[*])))
    ·omega
   ·have ih:=exprR_spec' w x (m-1) (by omega) (by omega) (by omega);have hwm:zra .i64 (m-1)=m-1:=zp (by omega) (by omega);rw[za]at ih;cases hx:zCc x (m-1)
    ·rcases hf with hf|hf
     ·rw[hx]at ih;clear hnx hl' hp;simp[zd]at ih
      (simp[*,za,zd])<;>(repeat' (first|((first|refine sP _ ?_ ?_|refine gP _ ?_ ?_|refine sN _ ?_ ?_|refine gN _ ?_ ?_)<;>intro hc<;>(first|replace hc:=eqn hc|replace hc:=eqp hc)<;>simp[*,za,zd])|((first|refine sM _ ?_ ?_|refine gM _ ?_ ?_|refine sB _ ?_ ?_|refine gB _ ?_ ?_)<;>intro hc<;>simp[*,za,zd])))
     ·rw[hx]at hf;exact absurd hf.2 (by decide)
    ·replace hnx:=hnx (by omega) hx;rw[hx]at ih;clear hf hl' hp;simp[zd]at ih
     (simp[*,za,zd])<;>(repeat' (first|((first|refine sP _ ?_ ?_|refine gP _ ?_ ?_|refine sN _ ?_ ?_|refine gN _ ?_ ?_)<;>intro hc<;>(first|replace hc:=eqn hc|replace hc:=eqp hc)<;>simp[*,za,zd])|((first|refine sM _ ?_ ?_|refine gM _ ?_ ?_|refine sB _ ?_ ?_|refine gB _ ?_ ?_)<;>intro hc<;>simp[*,za,zd])))
  ·intros s1 hp h1 h2 h3 h4;simp at h1 h2 h3;rw[exprR_eq,hp,yca];have hn:=zBd e.name [];have h5:=zVd e.op;have h6:=roneR_spec e.op;clear h hlen hp;generalize hal:e.args.length=al at*;unfold kindR;by_cases k1:e.kind=1
   ·replace k1:=eqp k1
    (simp[*])<;>(repeat' (first|((first|refine sP _ ?_ ?_|refine gP _ ?_ ?_|refine sN _ ?_ ?_|refine gN _ ?_ ?_)<;>intro hc<;>(first|replace hc:=eqn hc|replace hc:=eqp hc)<;>simp[*])|((first|refine sM _ ?_ ?_|refine gM _ ?_ ?_|refine sB _ ?_ ?_|refine gB _ ?_ ?_)<;>intro hc<;>simp[*])))
    all_goals(try omega)
   by_cases k2:e.kind=2
   ·replace k1:=eqn k1;replace k2:=eqp k2
    (simp[*])<;>(repeat' (first|((first|refine sP _ ?_ ?_|refine gP _ ?_ ?_|refine sN _ ?_ ?_|refine gN _ ?_ ?_)<;>intro hc<;>(first|replace hc:=eqn hc|replace hc:=eqp hc)<;>simp[*])|((first|refine sM _ ?_ ?_|refine gM _ ?_ ?_|refine sB _ ?_ ?_|refine gB _ ?_ ?_)<;>intro hc<;>simp[*])))
    all_goals(try omega)
   by_cases k3:e.kind=3
   ·replace k1:=eqn k1;replace k2:=eqn k2;replace k3:=eqp k3
    (simp[*])<;>(repeat' (first|((first|refine sP _ ?_ ?_|refine gP _ ?_ ?_|refine sN _ ?_ ?_|refine gN _ ?_ ?_)<;>intro hc<;>(first|replace hc:=eqn hc|replace hc:=eqp hc)<;>simp[*])|((first|refine sM _ ?_ ?_|refine gM _ ?_ ?_|refine sB _ ?_ ?_|refine gB _ ?_ ?_)<;>intro hc<;>simp[*])))
    all_goals(try omega)
   by_cases k4:e.kind=4
   ·replace k1:=eqn k1;replace k2:=eqn k2;replace k3:=eqn k3;replace k4:=eqp k4
    (simp[*])<;>(repeat' (first|((first|refine sP _ ?_ ?_|refine gP _ ?_ ?_|refine sN _ ?_ ?_|refine gN _ ?_ ?_)<;>intro hc<;>(first|replace hc:=eqn hc|replace hc:=eqp hc)<;>simp[*])|((first|refine sM _ ?_ ?_|refine gM _ ?_ ?_|refine sB _ ?_ ?_|refine gB _ ?_ ?_)<;>intro hc<;>simp[*])))
    all_goals(try omega)
   by_cases k5:e.kind=5
   ·replace k1:=eqn k1;replace k2:=eqn k2;replace k3:=eqn k3;replace k4:=eqn k4;replace k5:=eqp k5
    (simp[*])<;>(repeat' (first|((first|refine sP _ ?_ ?_|refine gP _ ?_ ?_|refine sN _ ?_ ?_|refine gN _ ?_ ?_)<;>intro hc<;>(first|replace hc:=eqn hc|replace hc:=eqp hc)<;>simp[*])|((first|refine sM _ ?_ ?_|refine gM _ ?_ ?_|refine sB _ ?_ ?_|refine gB _ ?_ ?_)<;>intro hc<;>simp[*])))
    all_goals(try omega)
   replace k1:=eqn k1;replace k2:=eqn k2;replace k3:=eqn k3;replace k4:=eqn k4;replace k5:=eqn k5;by_cases k6:e.kind=6
   ·replace k6:=eqp k6
    (simp[*])<;>(repeat' (first|((first|refine sP _ ?_ ?_|refine gP _ ?_ ?_|refine sN _ ?_ ?_|refine gN _ ?_ ?_)<;>intro hc<;>(first|replace hc:=eqn hc|replace hc:=eqp hc)<;>simp[*])|((first|refine sM _ ?_ ?_|refine gM _ ?_ ?_|refine sB _ ?_ ?_|refine gB _ ?_ ?_)<;>intro hc<;>simp[*])))
    all_goals(try omega)
   replace k6:=eqn k6;by_cases k7:e.kind=7
   ·replace k7:=eqp k7
    (simp[*])<;>(repeat' (first|((first|refine sP _ ?_ ?_|refine gP _ ?_ ?_|refine sN _ ?_ ?_|refine gN _ ?_ ?_)<;>intro hc<;>(first|replace hc:=eqn hc|replace hc:=eqp hc)<;>simp[*])|((first|refine sM _ ?_ ?_|refine gM _ ?_ ?_|refine sB _ ?_ ?_|refine gB _ ?_ ?_)<;>intro hc<;>simp[*])))
    all_goals(try omega)
   replace k7:=eqn k7;by_cases k8:e.kind=8
   ·replace k8:=eqp k8
    (simp[*])<;>(repeat' (first|((first|refine sP _ ?_ ?_|refine gP _ ?_ ?_|refine sN _ ?_ ?_|refine gN _ ?_ ?_)<;>intro hc<;>(first|replace hc:=eqn hc|replace hc:=eqp hc)<;>simp[*])|((first|refine sM _ ?_ ?_|refine gM _ ?_ ?_|refine sB _ ?_ ?_|refine gB _ ?_ ?_)<;>intro hc<;>simp[*])))
    all_goals(try omega)
   replace k8:=eqn k8
   (simp[*])<;>(repeat' (first|((first|refine sP _ ?_ ?_|refine gP _ ?_ ?_|refine sN _ ?_ ?_|refine gN _ ?_ ?_)<;>intro hc<;>(first|replace hc:=eqn hc|replace hc:=eqp hc)<;>simp[*])|((first|refine sM _ ?_ ?_|refine gM _ ?_ ?_|refine sB _ ?_ ?_|refine gB _ ?_ ?_)<;>intro hc<;>simp[*])))
   all_goals(try omega)
theorem exprR_spec(e:Expr)(m:Int)(h:wtE e<1099510000000)(hm:m<=1000000):zk E 72 [zA e,.int .i64 m] []=some (.ret (.bool (zCc e m)),[]):=exprR_spec' (wtE e) e m (yh _) (by omega) hm
def zna(k:Int):Bool×Bool×Int×Bool×Bool:=
 if k=1 then(true,true,1,false,false)
 else if k=2 then(false,true,1,false,false)
 else if k=3 then(false,true,2,false,false)
 else if k=4 then(false,false,1,true,true)
 else if k=5 then(false,false,1,true,false)
 else if k=6\/k=7 then(false,false,0,false,false)
 else if k=8\/k=9\/k=10 then(false,false,1,false,false)
 else(false,false,-1,false,false)
theorem shape_spec(k:Int):zk E 71 [.int .i64 k] []=some (.ret (.tup [.bool (zna k).1,.bool (zna k).2.1,.int .i64 (zna k).2.2.1,.bool (zna k).2.2.2.1,.bool (zna k).2.2.2.2]),[]):=by
 refine zc rfl rfl rfl (by simp) ?_;unfold zna
 (simp[*,F71])<;>(repeat' ((first|refine sP _ ?_ ?_|refine gP _ ?_ ?_|refine sN _ ?_ ?_|refine gN _ ?_ ?_|refine sM _ ?_ ?_|refine gM _ ?_ ?_|refine sB _ ?_ ?_|refine gB _ ?_ ?_)<;>intro hc<;>simp[*,F71]))
def headR(s:Stmt)(m:Int):Bool:=
 !(decide (m<1)||(decide (¬(s.args.length:Int)=(zna s.kind).2.2.1)||((zna s.kind).1 !=(decide (s.type=1)||decide (s.type=2))||((!(zna s.kind).1&&decide (¬s.type=0))||((zna s.kind).2.1 !=zXa s.name||(!(zna s.kind).2.1&&decide (¬s.name=[])))))))
def argsR(l:List Expr):Bool:=l.all fun e=>zCc e 100
def doR(k:Int)(l:List Expr):Bool:= !(decide (k=10)&&(match l with| []=>false|e::_=>decide (¬e.kind=7)))
mutual
def zTc:Stmt->Int->Bool
 |⟨k,t,s,a,th,el⟩,m=>headR ⟨k,t,s,a,th,el⟩ m&&(argsR a&&(doR k a&&((((zna k).2.2.2.1||th.isEmpty)&&((zna k).2.2.2.2||el.isEmpty))&&(zoa th (m-1)&&zoa el (m-1)))))
def zoa:List Stmt->Int->Bool
 | [],_=>true
 |x::r,m=>zTc x m&&zoa r m
end
theorem stmtR_eq(s:Stmt)(m:Int):zTc s m=(headR s m&&(argsR s.args&&(doR s.kind s.args&&((((zna s.kind).2.2.2.1||s.thn.isEmpty)&&((zna s.kind).2.2.2.2||s.els.isEmpty))&&(zoa s.thn (m-1)&&zoa s.els (m-1)))))):=by cases s;rw[zTc]
theorem stmtsR_append(a b:List Stmt)(m:Int):zoa (a++b) m=(zoa a m&&zoa b m):=by
 induction a with
 |nil=>simp[zoa]
 |cons x r ih=>simp[zoa,ih,Bool.and_assoc]
theorem rtype_spec(t:Int):zk E 43 [.int .i64 t] []=some (.ret (.bool (decide (t=1)||decide (t=2))),[]):=by
 refine zc rfl rfl rfl (by simp) ?_
 (simp[*,F43])<;>(repeat' ((first|refine sP _ ?_ ?_|refine gP _ ?_ ?_|refine sN _ ?_ ?_|refine gN _ ?_ ?_|refine sM _ ?_ ?_|refine gM _ ?_ ?_|refine sB _ ?_ ?_|refine gB _ ?_ ?_)<;>intro hc<;>simp[*,F43]))
set_option maxHeartbeats 8000000 in
theorem stmtsR_spec':∀w (l:List Stmt) (m:Int),wtSs l<=w->w<1099509000000->m<=1000000->zk E 44 [zl l,.int .i64 m] []=some (.ret (.bool (zoa l m)),[]):=by
 intro w
 induction w with
 |zero=>
  intro l m h hw hm;have:l=[]:=by
   cases l with
   |nil=>rfl
   |cons x r=>simp[wtSs]at h
  subst this;refine zc rfl rfl rfl (by simp) ?_;simp[F44,zl,zoa];refine zsa ([]:List Stmt) K44_1 B44_1 (fun d=>[(5,.int .i64 d.length)]) (fun _=>[]) (fun _=>True) (by simp) (by simp) ?_ ?_
  ·intros d x r s1 hl' hlt;simp at hlt
  ·intros s1 hp h1 h2 h3 h4;simp at h1 h3;clear h2;simp[*]
 |succ w ih=>
  intro l m h hw hm;refine zc rfl rfl rfl (by simp) ?_;have hlen:=len_wtSs l;simp[F44,zl];refine zsa l K44_1 B44_1 (fun d=>[(5,.int .i64 d.length)]) (fun _=>[]) (fun d=>zoa d m=true) (by omega) (by simp[zoa]) ?_ ?_
  ·intros d x r s1 hl' hlt hget hget' hw1 hp h1 h2 h3 h4;simp at h1 h3;clear h2;have hwx:=wtS_mem hl'.mem;have hwe:=wtS_eq x;have hf:zTc x m=false->zoa l m=false:=fun hx=>by
    rw[hl'.eq,stmtsR_append];simp[zoa,hx]
   have hnx:zTc x m=true->zoa (d++[x]) m=true:=fun hx=>by
    rw[stmtsR_append,hp];simp[zoa,hx]
   clear hl' hp;have e1:=shape_spec x.kind;have e2:=zBd x.name [];have hlw:=len_wtEs x.args;cases hh:headR x m
   ·
    replace hf:=hf (by rw[stmtR_eq,hh];rfl);clear hnx;simp only[headR,Bool.not_eq_false',yF,decide_eq_true_eq,ya,yC,bne_iff_ne]at hh;generalize zna x.kind=sh at*;obtain⟨t,nm,n,th,ot⟩:=sh;simp only at hh e1;have hh2:=hh;clear hh;cases hnn:zXa x.name<;>rw[hnn]at e2 hh2<;>cases t<;>cases nm<;>
    ·simp at e1 hh2
     (simp[*,zb,zd,zl])<;>(repeat' (first|((first|refine sP _ ?_ ?_|refine gP _ ?_ ?_|refine sN _ ?_ ?_|refine gN _ ?_ ?_)<;>intro hc<;>(first|replace hc:=eqn hc|replace hc:=eqp hc)<;>simp[*,zb,zd,zl])|((first|refine sM _ ?_ ?_|refine gM _ ?_ ?_|refine sB _ ?_ ?_|refine gB _ ?_ ?_)<;>intro hc<;>simp[*,zb,zd,zl])))
     all_goals(exfalso;grind)
   ·
    have hs:=stmtR_eq x m;rw[hh,yca]at hs;simp only[headR,yC,Bool.not_eq_false',ywa,decide_eq_false_iff_not,yKa,bne_eq_false_iff_eq,Decidable.not_not,Bool.not_eq_true]at hh;generalize hsh:zna x.kind=sh at*;obtain⟨t,nm,n,th,ot⟩:=sh;simp only at hh hs e1;obtain⟨a1,a2,a3,a4,a5,a6⟩:=hh;subst a2;rw[<-a5]at e2;have hm1:zra .i64 (m-1)=m-1:=zp (by omega) (by omega);rcases(show(t=true/\x.type=1)\/(t=true/\x.type=2)\/(t=false/\x.type=0) by
     cases t
     ·right;right;exact⟨rfl,by simpa using a4⟩
     ·have:=a3.symm;simp only[yF,decide_eq_true_eq]at this;rcases this with h|h
      ·exact yOa ⟨rfl,h⟩
      ·exact yQa (yOa ⟨rfl,h⟩))with⟨rfl,ht⟩|⟨rfl,ht⟩|⟨rfl,ht⟩
    all_goals
     clear a3 a4 a5;cases nm
     ·replace a6:x.name=[]:=by simpa using a6
      rw[a6]at e2;simp[*,zb,zd,zl];have hlt0:x.args.length<2^62:=by omega
      refine zsa x.args K44_0 B44_0 (fun d=>[(12,.int .i64 d.length)]) (fun _=>[]) (fun d=>argsR d=true) hlt0 (by simp[argsR]) ?_ ?_
      ·intros d2 y r2 s2 hl2 hlt2 hget2 hget2' hw2 hp2 g1 g2 g3 g4;simp at g1 g2 g3;have hwy:=wtE_mem hl2.mem;have ey:=exprR_spec y 100 (by omega) (by omega);rw[za]at ey;simp[zd]at ey;have hlt2':(d2.length:Int)<x.args.length:=by omega
       cases hy:zCc y 100
       ·have ha:argsR x.args=false:=by
         rw[hl2.eq];simp[argsR,hy]
        replace hf:=hf (by rw[hs,ha];rfl);rw[hy]at ey;clear hnx hs hp2 hl2 e1 e2 ht;simp[*,za,zd]
       ·have ha:argsR (d2++[y])=true:=by
         simp only[argsR]at hp2 ⊢;rw[yla,hp2];simp[hy]
        rw[hy]at ey;clear hnx hs hf hp2 hl2 e1 e2 ht;simp[*,za,zd]
      ·intros s2 hp2 g1 g2 g3 g4;simp at g1 g2 g3;rw[hp2,yca]at hs;have i1:=ih x.thn (m-1) (by omega) (by omega) (by omega);have i2:=ih x.els (m-1) (by omega) (by omega) (by omega);simp[zl]at i1 i2;have k1:(x.kind=10/\∃e,x.args=[e])\/¬x.kind=10:=by
        by_cases hk:x.kind=10
        ·refine yOa ⟨hk,?_⟩;have hn1:(x.args.length:Int)=1:=by
          have:=congrArg (fun p=>p.2.2.1) hsh;rw[hk]at this;exact this.symm
         have:x.args.length=1:=by omega
         exact yM.1 this
        ·exact yQa hk
       clear hp2 hsh;clear e1 e2 a6;rcases k1 with⟨hk,e,hae⟩|hk
       ·have hdo:doR x.kind x.args=decide (e.kind=7):=by
         rw[hk,hae];simp[doR]
        rw[hdo]at hs;by_cases h7:e.kind=7
        ·have hd7:decide (e.kind=7)=true:=decide_eq_true h7;rw[hd7,yca]at hs;replace hk:=eqp hk;replace h7:=eqp h7;clear hdo hd7 ht a1;have e3:(x.thn.isEmpty=true<->x.thn.length=0):=by cases x.thn<;>simp
         have e4:(x.els.isEmpty=true<->x.els.length=0):=by cases x.els<;>simp
         have tree:zTc x m=true\/zTc x m=false:=by cases zTc x m<;>simp
         by_cases b1:th=false/\0<x.thn.length
         ·have hb:(th||x.thn.isEmpty)=false:=by
           rw[b1.1,yI];cases hx:x.thn.isEmpty
           ·rfl
           ·have:=e3.1 hx;omega
          rw[hb]at hs;replace hf:=hf (by rw[hs];rfl);obtain⟨rfl,b1⟩:=b1;clear hs hnx tree e3 e4 i1 i2 hb;simp[*,zl,za]
         by_cases b2:ot=false/\0<x.els.length
         ·have hb:(ot||x.els.isEmpty)=false:=by
           rw[b2.1,yI];cases hx:x.els.isEmpty
           ·rfl
           ·have:=e4.1 hx;omega
          rw[hb]at hs;replace hf:=hf (by rw[hs];simp);obtain⟨rfl,b2⟩:=b2;clear hs hnx tree e3 e4 i1 i2 hb;cases th
          ·have b1':¬0<x.thn.length:=fun h=>b1 ⟨rfl,h⟩
           clear b1;simp[*,zl,za]
          ·clear b1;simp[*,zl,za]
         have hb1:(th||x.thn.isEmpty)=true:=by
          cases th
          ·rw[yI];exact e3.2 (by by_cases h:0<x.thn.length;exact absurd ⟨rfl,h⟩ b1;omega)
          ·rfl
         have hb2:(ot||x.els.isEmpty)=true:=by
          cases ot
          ·rw[yI];exact e4.2 (by by_cases h:0<x.els.length;exact absurd ⟨rfl,h⟩ b2;omega)
          ·rfl
         rw[hb1,hb2]at hs;clear e3 e4 tree hb1 hb2;have b1':th=true\/(th=false/\¬0<x.thn.length):=by
          cases th
          ·exact yQa ⟨rfl,fun h=>b1 ⟨rfl,h⟩⟩
          ·exact yOa rfl
         have b2':ot=true\/(ot=false/\¬0<x.els.length):=by
          cases ot
          ·exact yQa ⟨rfl,fun h=>b2 ⟨rfl,h⟩⟩
          ·exact yOa rfl
         clear b1 b2;cases q1:zoa x.thn (m-1)
         ·rw[q1]at i1 hs;replace hf:=hf (by rw[hs];rfl);clear hs hnx i2 q1;rcases b1' with rfl|⟨rfl,b1⟩<;>rcases b2' with rfl|⟨rfl,b2⟩<;>simp[*,zl,za]
         ·rw[q1]at i1 hs;cases q2:zoa x.els (m-1)
          ·rw[q2]at i2 hs;replace hf:=hf (by rw[hs];rfl);clear hs hnx q1 q2;rcases b1' with rfl|⟨rfl,b1⟩<;>rcases b2' with rfl|⟨rfl,b2⟩<;>simp[*,zl,za]
          ·rw[q2]at i2 hs;replace hnx:=hnx (by rw[hs];rfl);clear hs hf q1 q2;rcases b1' with rfl|⟨rfl,b1⟩<;>rcases b2' with rfl|⟨rfl,b2⟩<;>simp[*,zl,za]
        ·have hd7:decide (e.kind=7)=false:=decide_eq_false h7;rw[hd7,Bool.false_and]at hs;replace hf:=hf hs;replace hk:=eqp hk;replace h7:=eqn h7;clear hdo hd7 hs hnx ht a1;simp[*,za]
       ·have hdo:doR x.kind x.args=true:=by simp[doR,hk]
        rw[hdo,yca]at hs;replace hk:=eqn hk;clear hdo ht a1;have e3:(x.thn.isEmpty=true<->x.thn.length=0):=by cases x.thn<;>simp
        have e4:(x.els.isEmpty=true<->x.els.length=0):=by cases x.els<;>simp
        have tree:zTc x m=true\/zTc x m=false:=by cases zTc x m<;>simp
        by_cases b1:th=false/\0<x.thn.length
        ·have hb:(th||x.thn.isEmpty)=false:=by
          rw[b1.1,yI];cases hx:x.thn.isEmpty
          ·rfl
          ·have:=e3.1 hx;omega
         rw[hb]at hs;replace hf:=hf (by rw[hs];rfl);obtain⟨rfl,b1⟩:=b1;clear hs hnx tree e3 e4 i1 i2 hb;simp[*,zl,za]
        by_cases b2:ot=false/\0<x.els.length
        ·have hb:(ot||x.els.isEmpty)=false:=by
          rw[b2.1,yI];cases hx:x.els.isEmpty
          ·rfl
          ·have:=e4.1 hx;omega
         rw[hb]at hs;replace hf:=hf (by rw[hs];simp);obtain⟨rfl,b2⟩:=b2;clear hs hnx tree e3 e4 i1 i2 hb;cases th
         ·have b1':¬0<x.thn.length:=fun h=>b1 ⟨rfl,h⟩
          clear b1;simp[*,zl,za]
         ·clear b1;simp[*,zl,za]
        have hb1:(th||x.thn.isEmpty)=true:=by
         cases th
         ·rw[yI];exact e3.2 (by by_cases h:0<x.thn.length;exact absurd ⟨rfl,h⟩ b1;omega)
         ·rfl
        have hb2:(ot||x.els.isEmpty)=true:=by
         cases ot
         ·rw[yI];exact e4.2 (by by_cases h:0<x.els.length;exact absurd ⟨rfl,h⟩ b2;omega)
         ·rfl
        rw[hb1,hb2]at hs;clear e3 e4 tree hb1 hb2;have b1':th=true\/(th=false/\¬0<x.thn.length):=by
         cases th
         ·exact yQa ⟨rfl,fun h=>b1 ⟨rfl,h⟩⟩
         ·exact yOa rfl
        have b2':ot=true\/(ot=false/\¬0<x.els.length):=by
         cases ot
         ·exact yQa ⟨rfl,fun h=>b2 ⟨rfl,h⟩⟩
         ·exact yOa rfl
        clear b1 b2;cases q1:zoa x.thn (m-1)
        ·rw[q1]at i1 hs;replace hf:=hf (by rw[hs];rfl);clear hs hnx i2 q1;rcases b1' with rfl|⟨rfl,b1⟩<;>rcases b2' with rfl|⟨rfl,b2⟩<;>simp[*,zl,za]
        ·rw[q1]at i1 hs;cases q2:zoa x.els (m-1)
         ·rw[q2]at i2 hs;replace hf:=hf (by rw[hs];rfl);clear hs hnx q1 q2;rcases b1' with rfl|⟨rfl,b1⟩<;>rcases b2' with rfl|⟨rfl,b2⟩<;>simp[*,zl,za]
         ·rw[q2]at i2 hs;replace hnx:=hnx (by rw[hs];rfl);clear hs hf q1 q2;rcases b1' with rfl|⟨rfl,b1⟩<;>rcases b2' with rfl|⟨rfl,b2⟩<;>simp[*,zl,za]
     ·clear a6;have a6:True:=trivial;simp[*,zb,zd,zl];have hlt0:x.args.length<2^62:=by omega
      refine zsa x.args K44_0 B44_0 (fun d=>[(12,.int .i64 d.length)]) (fun _=>[]) (fun d=>argsR d=true) hlt0 (by simp[argsR]) ?_ ?_
      ·intros d2 y r2 s2 hl2 hlt2 hget2 hget2' hw2 hp2 g1 g2 g3 g4;simp at g1 g2 g3;have hwy:=wtE_mem hl2.mem;have ey:=exprR_spec y 100 (by omega) (by omega);rw[za]at ey;simp[zd]at ey;have hlt2':(d2.length:Int)<x.args.length:=by omega
       cases hy:zCc y 100
       ·have ha:argsR x.args=false:=by
         rw[hl2.eq];simp[argsR,hy]
        replace hf:=hf (by rw[hs,ha];rfl);rw[hy]at ey;clear hnx hs hp2 hl2 e1 e2 ht;simp[*,za,zd]
       ·have ha:argsR (d2++[y])=true:=by
         simp only[argsR]at hp2 ⊢;rw[yla,hp2];simp[hy]
        rw[hy]at ey;clear hnx hs hf hp2 hl2 e1 e2 ht;simp[*,za,zd]
      ·intros s2 hp2 g1 g2 g3 g4;simp at g1 g2 g3;rw[hp2,yca]at hs;have i1:=ih x.thn (m-1) (by omega) (by omega) (by omega);have i2:=ih x.els (m-1) (by omega) (by omega) (by omega);simp[zl]at i1 i2;have k1:(x.kind=10/\∃e,x.args=[e])\/¬x.kind=10:=by
        by_cases hk:x.kind=10
        ·refine yOa ⟨hk,?_⟩;have hn1:(x.args.length:Int)=1:=by
          have:=congrArg (fun p=>p.2.2.1) hsh;rw[hk]at this;exact this.symm
         have:x.args.length=1:=by omega
         exact yM.1 this
        ·exact yQa hk
       clear hp2 hsh;clear e1 e2 a6;rcases k1 with⟨hk,e,hae⟩|hk
       ·have hdo:doR x.kind x.args=decide (e.kind=7):=by
         rw[hk,hae];simp[doR]
        rw[hdo]at hs;by_cases h7:e.kind=7
        ·have hd7:decide (e.kind=7)=true:=decide_eq_true h7;rw[hd7,yca]at hs;replace hk:=eqp hk;replace h7:=eqp h7;clear hdo hd7 ht a1;have e3:(x.thn.isEmpty=true<->x.thn.length=0):=by cases x.thn<;>simp
         have e4:(x.els.isEmpty=true<->x.els.length=0):=by cases x.els<;>simp
         have tree:zTc x m=true\/zTc x m=false:=by cases zTc x m<;>simp
         by_cases b1:th=false/\0<x.thn.length
         ·have hb:(th||x.thn.isEmpty)=false:=by
           rw[b1.1,yI];cases hx:x.thn.isEmpty
           ·rfl
           ·have:=e3.1 hx;omega
          rw[hb]at hs;replace hf:=hf (by rw[hs];rfl);obtain⟨rfl,b1⟩:=b1;clear hs hnx tree e3 e4 i1 i2 hb;simp[*,zl,za]
         by_cases b2:ot=false/\0<x.els.length
         ·have hb:(ot||x.els.isEmpty)=false:=by
           rw[b2.1,yI];cases hx:x.els.isEmpty
           ·rfl
           ·have:=e4.1 hx;omega
          rw[hb]at hs;replace hf:=hf (by rw[hs];simp);obtain⟨rfl,b2⟩:=b2;clear hs hnx tree e3 e4 i1 i2 hb;cases th
          ·have b1':¬0<x.thn.length:=fun h=>b1 ⟨rfl,h⟩
           clear b1;simp[*,zl,za]
          ·clear b1;simp[*,zl,za]
         have hb1:(th||x.thn.isEmpty)=true:=by
          cases th
          ·rw[yI];exact e3.2 (by by_cases h:0<x.thn.length;exact absurd ⟨rfl,h⟩ b1;omega)
          ·rfl
         have hb2:(ot||x.els.isEmpty)=true:=by
          cases ot
          ·rw[yI];exact e4.2 (by by_cases h:0<x.els.length;exact absurd ⟨rfl,h⟩ b2;omega)
          ·rfl
         rw[hb1,hb2]at hs;clear e3 e4 tree hb1 hb2;have b1':th=true\/(th=false/\¬0<x.thn.length):=by
          cases th
          ·exact yQa ⟨rfl,fun h=>b1 ⟨rfl,h⟩⟩
          ·exact yOa rfl
         have b2':ot=true\/(ot=false/\¬0<x.els.length):=by
          cases ot
          ·exact yQa ⟨rfl,fun h=>b2 ⟨rfl,h⟩⟩
          ·exact yOa rfl
         clear b1 b2;cases q1:zoa x.thn (m-1)
         ·rw[q1]at i1 hs;replace hf:=hf (by rw[hs];rfl);clear hs hnx i2 q1;rcases b1' with rfl|⟨rfl,b1⟩<;>rcases b2' with rfl|⟨rfl,b2⟩<;>simp[*,zl,za]
         ·rw[q1]at i1 hs;cases q2:zoa x.els (m-1)
          ·rw[q2]at i2 hs;replace hf:=hf (by rw[hs];rfl);clear hs hnx q1 q2;rcases b1' with rfl|⟨rfl,b1⟩<;>rcases b2' with rfl|⟨rfl,b2⟩<;>simp[*,zl,za]
          ·rw[q2]at i2 hs;replace hnx:=hnx (by rw[hs];rfl);clear hs hf q1 q2;rcases b1' with rfl|⟨rfl,b1⟩<;>rcases b2' with rfl|⟨rfl,b2⟩<;>simp[*,zl,za]
        ·have hd7:decide (e.kind=7)=false:=decide_eq_false h7;rw[hd7,Bool.false_and]at hs;replace hf:=hf hs;replace hk:=eqp hk;replace h7:=eqn h7;clear hdo hd7 hs hnx ht a1;simp[*,za]
       ·have hdo:doR x.kind x.args=true:=by simp[doR,hk]
        rw[hdo,yca]at hs;replace hk:=eqn hk;clear hdo ht a1;have e3:(x.thn.isEmpty=true<->x.thn.length=0):=by cases x.thn<;>simp
        have e4:(x.els.isEmpty=true<->x.els.length=0):=by cases x.els<;>simp
        have tree:zTc x m=true\/zTc x m=false:=by cases zTc x m<;>simp
        by_cases b1:th=false/\0<x.thn.length
        ·have hb:(th||x.thn.isEmpty)=false:=by
          rw[b1.1,yI];cases hx:x.thn.isEmpty
          ·rfl
          ·have:=e3.1 hx;omega
         rw[hb]at hs;replace hf:=hf (by rw[hs];rfl);obtain⟨rfl,b1⟩:=b1;clear hs hnx tree e3 e4 i1 i2 hb;simp[*,zl,za]
        by_cases b2:ot=false/\0<x.els.length
        ·have hb:(ot||x.els.isEmpty)=false:=by
          rw[b2.1,yI];cases hx:x.els.isEmpty
          ·rfl
          ·have:=e4.1 hx;omega
         rw[hb]at hs;replace hf:=hf (by rw[hs];simp);obtain⟨rfl,b2⟩:=b2;clear hs hnx tree e3 e4 i1 i2 hb;cases th
         ·have b1':¬0<x.thn.length:=fun h=>b1 ⟨rfl,h⟩
          clear b1;simp[*,zl,za]
         ·clear b1;simp[*,zl,za]
        have hb1:(th||x.thn.isEmpty)=true:=by
         cases th
         ·rw[yI];exact e3.2 (by by_cases h:0<x.thn.length;exact absurd ⟨rfl,h⟩ b1;omega)
         ·rfl
        have hb2:(ot||x.els.isEmpty)=true:=by
         cases ot
         ·rw[yI];exact e4.2 (by by_cases h:0<x.els.length;exact absurd ⟨rfl,h⟩ b2;omega)
         ·rfl
        rw[hb1,hb2]at hs;clear e3 e4 tree hb1 hb2;have b1':th=true\/(th=false/\¬0<x.thn.length):=by
         cases th
         ·exact yQa ⟨rfl,fun h=>b1 ⟨rfl,h⟩⟩
         ·exact yOa rfl
        have b2':ot=true\/(ot=false/\¬0<x.els.length):=by
         cases ot
         ·exact yQa ⟨rfl,fun h=>b2 ⟨rfl,h⟩⟩
         ·exact yOa rfl
        clear b1 b2;cases q1:zoa x.thn (m-1)
        ·rw[q1]at i1 hs;replace hf:=hf (by rw[hs];rfl);clear hs hnx i2 q1;rcases b1' with rfl|⟨rfl,b1⟩<;>rcases b2' with rfl|⟨rfl,b2⟩<;>simp[*,zl,za]
        ·rw[q1]at i1 hs;cases q2:zoa x.els (m-1)
         ·rw[q2]at i2 hs;replace hf:=hf (by rw[hs];rfl);clear hs hnx q1 q2;rcases b1' with rfl|⟨rfl,b1⟩<;>rcases b2' with rfl|⟨rfl,b2⟩<;>simp[*,zl,za]
         ·rw[q2]at i2 hs;replace hnx:=hnx (by rw[hs];rfl);clear hs hf q1 q2;rcases b1' with rfl|⟨rfl,b1⟩<;>rcases b2' with rfl|⟨rfl,b2⟩<;>simp[*,zl,za]
  ·intros s1 hp h1 h2 h3 h4;simp at h1 h3;clear h2;simp[*]
def arrR(a:PArr):Bool:=zXa a.name&&(decide (1<=a.size)&&decide (a.size<=1000))
def parR(p:Par):Bool:=zXa p.name&&(decide (p.type=1)||decide (p.type=2))
def funcR(f:Func):Bool:=zXa f.name&&((decide (f.type=1)||decide (f.type=2))&&(decide (f.params.length<=8)&&(zoa f.body 100&&f.params.all parR)))
def zjc(p:Prog):Bool:=p.arrays.all arrR&&p.funcs.all funcR
theorem stmtsR_spec(l:List Stmt)(m:Int)(h:wtSs l<1099508000000)(hm:m<=1000000):zk E 44 [zl l,.int .i64 m] []=some (.ret (.bool (zoa l m)),[]):=stmtsR_spec' (wtSs l) l m (yh _) (by omega) hm
def PSz(p:Prog):Prop:=p.arrays.length<1099509000000/\p.funcs.length<1099509000000/\∀f∈p.funcs,wtSs f.body<1099508000000/\f.params.length<1099509000000
set_option maxHeartbeats 4000000 in
theorem right_spec(p:Prog)(hz:PSz p):zk E 22 [zua p] []=some (.ret (.bool (zjc p)),[]):=by
 obtain⟨z1,z2,z3⟩:=hz;refine zc rfl rfl rfl (by simp[zua]) ?_;simp[F22,zua,zHb,funcs];refine zsa p.arrays K22_0 B22_0 (fun d=>[(3,.int .i64 d.length)]) (fun _=>[]) (fun d=>d.all arrR=true) (by omega) (by simp) ?_ ?_
 ·intros d x r s1 hl' hlt hget hget' hw hp h1 h2 h3 h4;simp at h1 h2 h3;have hf:arrR x=false->zjc p=false:=fun h=>by
   unfold zjc;rw[hl'.eq];simp[h]
  have hnx:arrR x=true->(d++[x]).all arrR=true:=fun h=>by rw[yla,hp];simp[h]
  have e1:=zBd x.name [];clear hl' hp;cases c1:zXa x.name
  ·replace hf:=hf (by unfold arrR;rw[c1];rfl);rw[c1]at e1;clear hnx;simp[*,zxa]
  ·rw[c1]at e1;by_cases c2:x.size<1
   ·replace hf:=hf (by unfold arrR;simp;omega);clear hnx;simp[*,zxa]
   ·by_cases c3:1000<x.size
    ·replace hf:=hf (by unfold arrR;simp;omega);clear hnx;simp[*,zxa]
    ·replace hnx:=hnx (by unfold arrR;rw[c1];simp;omega);clear hf;simp[*,zxa]
     all_goals(try grind)
 intros s1 hp h1 h2 h3 h4;simp at h1 h2 h3;have har:p.arrays.all arrR=true:=hp;clear hp;simp[*];refine zsa p.funcs K22_2 B22_2 (fun d=>[(4,.int .i64 d.length)]) (fun _=>[]) (fun d=>d.all funcR=true) (by omega) (by simp) ?_ ?_
 ·intros d x r s2 hl' hlt hget hget' hw hp g1 g2 g3 g4;simp at g1 g2 g3;obtain⟨y1,y2⟩:=z3 x hl'.mem;have hf:funcR x=false->zjc p=false:=fun h=>by
   unfold zjc;rw[har,hl'.eq];simp[h]
  have hnx:funcR x=true->(d++[x]).all funcR=true:=fun h=>by rw[yla,hp];simp[h]
  have e1:=zBd x.name [];have e2:=rtype_spec x.type;have e3:=stmtsR_spec x.body 100 y1 (by omega);have hp0:True->d.all funcR=true:=fun _=>hp
  clear hl' hp har;simp[zl]at e3;generalize htt:(decide (x.type=1)||decide (x.type=2))=tt at*;have hq:funcR x=(zXa x.name&&(tt&&(decide (x.params.length<=8)&&(zoa x.body 100&&x.params.all parR)))):=by unfold funcR;rw[htt]
  clear htt;cases c1:zXa x.name
  ·replace hf:=hf (by rw[hq,c1];rfl);rw[c1]at e1;clear hnx hq;simp[*,zQ,parsV,zl]
  rw[c1]at e1;cases tt
  ·replace hf:=hf (by rw[hq];simp);clear hnx hq;simp[*,zQ,parsV,zl]
  by_cases c2:8<x.params.length
  ·replace hf:=hf (by rw[hq];simp;omega);have c2':(8:Int)<x.params.length:=by omega
   clear hnx hq;simp[*,zQ,parsV,zl]
  have c2':¬(8:Int)<x.params.length:=by omega
  cases c3:zoa x.body 100
  ·replace hf:=hf (by rw[hq,c3];simp);rw[c3]at e3;clear hnx hq;simp[*,zQ,parsV,zl]
  rw[c3]at e3;have hd8:decide (x.params.length<=8)=true:=decide_eq_true (by omega);rw[c1,c3,hd8,yca,yca,yca,yca]at hq;clear hd8;simp[*,zQ,parsV,zl];refine zsa x.params K22_1 B22_1 (fun d=>[(6,.int .i64 d.length)]) (fun _=>[]) (fun d=>d.all parR=true) (by omega) (by simp) ?_ ?_
  ·intros d2 y r2 s3 hl2 hlt2 hget2 hget2' hw2 hp2 k1 k2 k3 k4;simp at k1 k2 k3;have hfy:parR y=false->zjc p=false:=fun h=>hf (by rw[hq,hl2.eq];simp[h])
   have hny:parR y=true->(d2++[y]).all parR=true:=fun h=>by rw[yla,hp2];simp[h]
   have i1:=zBd y.name [];have i2:=rtype_spec y.type;generalize htt:(decide (y.type=1)||decide (y.type=2))=tt at*;have hqy:parR y=(zXa y.name&&tt):=by unfold parR;rw[htt]
   clear htt hl2 hp2 hq hf hnx e1 e2 e3;cases c4:zXa y.name
   ·rw[c4]at i1;replace hfy:=hfy (by rw[hqy,c4];rfl);clear hny hqy;simp[*,encPar]
   ·rw[c4]at i1;cases tt
    ·replace hfy:=hfy (by rw[hqy];simp);clear hny hqy;simp[*,encPar]
    ·replace hny:=hny (by rw[hqy,c4];rfl);clear hfy hqy;simp[*,encPar]
     all_goals(try grind)
  ·intros s3 hp2 k1 k2 k3 k4;simp at k1 k2 k3;replace hnx:=hnx (by rw[hq];exact hp2);replace hp0:=hp0 trivial;clear hf hq e1 e2 e3;simp only[yr]at hp0 hp2;simp[*]
   first|exact hp2|exact⟨hp0,hp2⟩
 ·intros s2 hp g1 g2 g3 g4;simp at g1 g2 g3;have hr:zjc p=true:=by unfold zjc;rw[har,hp];rfl
  clear hp har;simp[*]
def TokOK(t:Tok):Prop:=t.kind=0->digs t.text=true/\t.text.length<1000000
theorem tokGo_ok:∀n (q:List UInt8) line acc,q.length<n->q.length<=100000->(∀t∈acc,TokOK t)->(zZa n q line acc).2.1=0→
  (∀t∈(zZa n q line acc).1,TokOK t)/\(zZa n q line acc).1.length<=acc.length+q.length+1/\0<(zZa n q line acc).1.length/\∃t,(zZa n q line acc).1[(zZa n q line acc).1.length-1]? =some t/\t.kind=3:=by
 intro n
 induction n with
 |zero=>intro q line acc h;omega
 |succ n ih=>
  intro q line acc hq hs ha h0;cases q with
  |nil=>
   simp only[zZa];refine⟨?_,by simp,by simp,⟨3,[],line⟩,by simp,rfl⟩;intro t ht;rcases yw.1 ht with h|h
   ·exact ha t h
   ·rw[yJ.1 h];intro h;exact absurd h (by simp)
  |cons b r=>
   simp only[yd]at hq hs;have mono:∀(q':List UInt8) line' acc',q'.length<=r.length->acc'.length+q'.length<=acc.length+r.length+1->(∀t∈acc',TokOK t)->(zZa n q' line' acc').2.1=0→
     (∀t∈(zZa n q' line' acc').1,TokOK t)/\(zZa n q' line' acc').1.length<=acc.length+(b::r).length+1/\0<(zZa n q' line' acc').1.length/\∃t,(zZa n q' line' acc').1[(zZa n q' line' acc').1.length-1]? =some t/\t.kind=3:=by
    intro q' line' acc' h1 h2 h3 h4;obtain⟨x1,x2,x3,x4⟩:=ih q' line' acc' (by omega) (by omega) h3 h4;exact⟨x1,by simp only[yd];omega,x3,x4⟩
   simp only[zZa]at h0 ⊢;split at h0
   ·rename_i c;rw[if_pos c];exact mono r _ _ (yh _) (by omega) ha h0
   rename_i c;rw[if_neg c];split at h0
   ·rename_i c;rw[if_pos c];exact mono r _ _ (yh _) (by omega) ha h0
   rename_i c;rw[if_neg c];split at h0
   ·rename_i c;rw[if_pos c];have hl:((b::r).dropWhile (· !=10)).length<=r.length:=by
     rw[List.dropWhile_cons,c.1];simp only[show((47:UInt8) !=10)=true from rfl,if_true];rw[zwb,yU];omega
    exact mono _ _ _ hl (by omega) ha h0
   rename_i c;rw[if_neg c];split at h0
   ·rename_i c;rw[if_pos c];split at h0
    ·exact absurd h0 (by simp)
    rename_i c2;rw[if_neg c2];have hw:0<((b::r).takeWhile zq).length:=by rw[yT,c];simp
    have hw2:=(List.takeWhile_prefix (l:=b::r) (p:=zq)).length_le;simp only[yd]at hw2;refine mono _ _ _ (by rw[yU];simp only[yd];omega) (by rw[yU];simp only[yd,ye,yg];omega) ?_ h0;intro t ht;rcases yw.1 ht with h|h
    ·exact ha t h
    ·rw[yJ.1 h];intro hk;simp only at hk;refine⟨?_,by simp only;omega⟩;simp only[tokBad,hk,yF,ya,decide_eq_true_eq,yC,not_or,not_and,Bool.not_eq_false]at c2;have:=c2.2 trivial;simp only[zud,ya]at this;exact this.1
   rename_i c;rw[if_neg c];split at h0
   ·exact absurd h0 (by simp)
   rename_i c2;rw[if_neg c2];have hp:0<(zsb (b::r)).length:=List.length_pos_iff.2 c2;have hp2:=sign_len (b::r);simp only[yd]at hp2;refine mono _ _ _ (by rw[yU];simp only[yd];omega) (by rw[yU];simp only[yd,ye,yg];omega) ?_ h0;intro t ht;rcases yw.1 ht with h|h
   ·exact ha t h
   ·rw[yJ.1 h];intro h;exact absurd h (by simp)
theorem tokens_inv(s:List UInt8)(h:(zr s).2.1=0):Inv1 (zr s).1 ⟨0,false,false⟩:=by
 unfold zr at h ⊢;split at h
 ·exact absurd h (by decide)
 rename_i hs;rw[if_neg hs];obtain⟨x1,x2,x3,x4⟩:=tokGo_ok (s.length+1) s 1 [] (by omega) (by omega) (by simp) h;exact⟨x3,x4,by simp at x2;omega,x1⟩
def fuel(l:List Tok):Nat:=64*l.length+100
def zea(s:List UInt8):Prog×Int×Int:=
 if(zr s).2.1=0 then
  match zCb (zr s).1 (fuel (zr s).1) [] [] ⟨0,false,false⟩with
  |none=>(⟨[],[]⟩,0,0)
  |some q=>
   if q.2.deep then(⟨[],[]⟩,2,(tk (zr s).1 q.2.at').line)
   else if q.2.bad then(⟨[],[]⟩,20,(tk (zr s).1 q.2.at').line)
   else if zjc q.1 then(q.1,0,0)else(⟨[],[]⟩,2,0)
 else(⟨[],[]⟩,(zr s).2.1,(zr s).2.2)
def Short(T:List Tok)(M:Nat):Prop:=8<=M/\∀t∈T,t.text.length+8<=M
theorem short_text{T:List Tok}{M:Nat}{k:Int}{p:PS}(I:Inv1 T p)(h:Short T M):(zy T k p).1.length+8<=M:=by
 unfold zy;split
 ·simpa using h.1
 ·split
  ·refine h.2 _ ?_;rw[<-tk_get' I.lt];exact List.getElem_mem I.lt
  ·simpa using h.1
def wa(M:Nat)(p:PS):Nat:=M*p.at'
theorem zSb(M:Nat)(p:PS):wa M (adv p)=wa M p+M:=Nat.mul_succ _ _
theorem zQb{M:Nat}{p q:PS}(h:Fw p q):wa M p<=wa M q:=yxa _ h.1
structure Light(T:List Tok)(M n:Nat):Prop where
 primary:∀d p v p',Inv1 T p->zV T n d p=some (v,p')->Inv1 T p'/\Fw p p'/\wtE v+2*wa M p<=2*wa M p'+M
 unary:∀d p v p',Inv1 T p->zFa T n d p=some (v,p')->Inv1 T p'/\Fw p p'/\wtE v+2*wa M p<=2*wa M p'+M
 expr:∀L d p v p',Inv1 T p->zda T n L d p=some (v,p')->Inv1 T p'/\Fw p p'/\wtE v+2*wa M p<=2*wa M p'+M
 loop:∀L d a p v p',Inv1 T p->zB T n L d a p=some (v,p')->∀k:Nat,wtE a+k<=2*wa M p+M->Inv1 T p'/\Fw p p'/\wtE v+k<=2*wa M p'+M
 args:∀d p v p',Inv1 T p->zMb T n d p=some (v,p')->Inv1 T p'/\Fw p p'/\wtEs v+2*wa M p<=2*wa M p'+2*M
 al:∀d l (f:Bool) p v p',Inv1 T p->zw T n d l f p=some (v,p')->∀k:Nat,wtEs l+k<=2*wa M p+(if f then 0 else 2*M)->Inv1 T p'/\Fw p p'/\wtEs v+k<=2*wa M p'+2*M
theorem light_of{T:List Tok}{M n:Nat}(hS:Short T M)(E:Light T M n):Light T M (n+1):=by
 have h8:=hS.1;refine⟨?_,?_,?_,?_,?_,?_⟩
 ·intro d p v p' I h;simp only[zV]at h;split at h
  ·cases h;exact⟨I,Fw.refl _,by simp[wtE,wtEs];omega⟩
  split at h
  ·rename_i hc;split at h
   ·cases h
   ·rename_i q hq;cases h;obtain⟨I',F,W⟩:=E.expr _ _ _ _ _ (I.adv _ hc) hq;have:=zSb M p;have:=zQb (M:=M) (zm T [41] q.2);exact⟨I'.must _,((zu p).trans F).trans (zm _ _ _),by omega⟩
  split at h
  ·rename_i hc;cases h;have:=zSb M p;exact⟨I.adv _ hc,zu p,by simp[wtE,wtEs];omega⟩
  split at h
  ·rename_i hc;cases h;have:=zSb M p;exact⟨I.adv _ hc,zu p,by simp[wtE,wtEs];omega⟩
  split at h
  ·rename_i hc;cases h;have F:=((zu p).trans (zm T [40] _)).trans (zm T [41] _);have:=zQb (M:=M) F;exact⟨((I.adv _ hc).must _).must _,F,by simp[wtE,wtEs];omega⟩
  split at h
  ·rename_i hc;cases h;have:=zSb M p;exact⟨I.next (by rw[hc];decide) _ _,zu p,by simp[wtE,wtEs];omega⟩
  have I1:=I.text 1 (by decide);have F1:=zfb T 1 p;have w1:=zQb (M:=M) F1;have hs:=short_text (k:=1) I hS;split at h
  ·rename_i hc;split at h
   ·cases h
   ·rename_i q hq;cases h;obtain⟨I',F,W⟩:=E.args _ _ _ _ (I1.adv _ hc) hq;have:=zSb M (zy T 1 p).2;exact⟨I',(F1.trans (zu _)).trans F,by simp only[wtE];omega⟩
  split at h
  ·rename_i hc;split at h
   ·cases h
   ·rename_i q hq;cases h;obtain⟨I',F,W⟩:=E.expr _ _ _ _ _ (I1.adv _ hc) hq;have:=zSb M (zy T 1 p).2;have:=zQb (M:=M) (zm T [93] q.2);exact⟨I'.must _,((F1.trans (zu _)).trans F).trans (zm _ _ _),by simp only[wtE,wtEs];omega⟩
  ·cases h;exact⟨I1,F1,by simp only[wtE,wtEs];omega⟩
 ·intro d p v p' I h;simp only[zFa]at h;have I1:=I.deepF d;have F1:=fw_deepF d p;have w1:=zQb (M:=M) F1;cases hu:unF T (deepF d p)with
  |none=>
   rw[hu]at h;obtain⟨I',F,W⟩:=E.primary _ _ _ _ I1 h;exact⟨I',F1.trans F,by omega⟩
  |some i=>
   rw[hu]at h;simp only at h;have hi:isF T (zP ((i+20:Nat):Int)) (deepF d p)=true:=(unF_get hu).2.1;have:=zSb M (deepF d p);split at h
   ·split at h
    ·cases h
    ·rename_i q hq;cases h;have F2:=zm T [40] (adv (deepF d p));have:=zQb (M:=M) F2;obtain⟨I',F,W⟩:=E.expr _ _ _ _ _ ((I1.adv _ hi).must _) hq;have:=zQb (M:=M) (zm T [41] q.2);exact⟨I'.must _,(((F1.trans (zu _)).trans F2).trans F).trans (zm _ _ _),by simp only[wtE,wtEs,yg];omega⟩
   ·split at h
    ·cases h
    ·rename_i q hq;cases h;obtain⟨I',F,W⟩:=E.unary _ _ _ _ (I1.adv _ hi) hq;exact⟨I',(F1.trans (zu _)).trans F,by simp only[wtE,wtEs,yg];omega⟩
 ·intro L d p v p' I h;simp only[zda]at h;split at h
  ·exact E.unary _ _ _ _ I h
  ·split at h
   ·cases h
   ·rename_i q hq;obtain⟨I',F,W⟩:=E.expr _ _ _ _ _ I hq;obtain⟨I2,F2,W2⟩:=E.loop _ _ _ _ _ _ I' h (2*wa M p) W;exact⟨I2,F.trans F2,W2⟩
 ·intro L d a p v p' I h k hk;simp only[zB]at h;split at h
  ·cases h;exact⟨I,Fw.refl _,hk⟩
  ·rename_i hne;obtain⟨s,hs⟩:=opF_pos hne;have:=zSb M p;split at h
   ·cases h
   ·rename_i q hq;obtain⟨I',F,W⟩:=E.expr _ _ _ _ _ (I.adv _ hs) hq;obtain⟨I2,F2,W2⟩:=E.loop _ _ _ _ _ _ I' h k (by simp only[wtE,wtEs,yg];omega);exact⟨I2,((zu p).trans F).trans F2,W2⟩
 ·intro d p v p' I h;simp only[zMb]at h;split at h
  ·rename_i hc;cases h;have:=zSb M p;exact⟨I.adv _ hc,zu p,by simp only[wtEs];omega⟩
  ·split at h
   ·cases h
   ·rename_i q hq;cases h;obtain⟨I',F,W⟩:=E.al _ _ _ _ _ _ I hq (2*wa M p) (by simp[wtEs]);have:=zQb (M:=M) (zm T [41] q.2);exact⟨I'.must _,F.trans (zm _ _ _),by omega⟩
 ·intro d l f p v p' I h k hk;simp only[zw]at h;have fin:∀q:PS,Inv1 T q->Fw p q->wtEs l+k+(if f then 0 else M+1)<=2*wa M q+(if f then 0 else M+1)->(f=false->wtEs l+k<=2*wa M q)->(if zf q then some (l,q)else match zda T n 1 d q with|none=>none|some x=>zw T n d (l++[x.1]) false x.2)=some (v,p')->Inv1 T p'/\Fw p p'/\wtEs v+k<=2*wa M p'+2*M:=by
   intro q Iq Fq hq hq2 h;have hq3:wtEs l+k<=2*wa M q:=by cases f<;>simp at hq<;>omega
   split at h
   ·cases h;exact⟨Iq,Fq,by omega⟩
   ·split at h
    ·cases h
    ·rename_i x hx;obtain⟨I',F,W⟩:=E.expr _ _ _ _ _ Iq hx;obtain⟨I2,F2,W2⟩:=E.al _ _ _ _ _ _ I' h k (by rw[wtEs_append];simp[wtEs];omega);exact⟨I2,(Fq.trans F).trans F2,W2⟩
  cases f
  ·cases c2:isF T [44] p
   ·rw[c2]at h;simp at h hk;obtain⟨rfl,rfl⟩:=h;exact⟨I,Fw.refl _,by omega⟩
   ·have:=zSb M p;rw[c2]at h;simp at hk;exact fin (adv p) (I.adv _ c2) (zu p) (by simp;omega) (fun _=>by omega) h
  ·simp at hk;exact fin p I (Fw.refl _) (by simp;omega) (fun h=>by cases h) h
theorem light{T:List Tok}{M:Nat}(hS:Short T M):∀n,Light T M n
 |0=>⟨fun _ _ _ _ _ h=>by simp[zV]at h,fun _ _ _ _ _ h=>by simp[zFa]at h,fun _ _ _ _ _ _ h=>by simp[zda]at h,fun _ _ _ _ _ _ _ h=>by simp[zB]at h,fun _ _ _ _ _ h=>by simp[zMb]at h,fun _ _ _ _ _ _ _ h=>by simp[zw]at h⟩
 |n+1=>light_of hS (light hS n)
section
variable {T:List Tok} {M:Nat}
theorem light1(hS:Short T M){n:Nat}{p p':PS}{v:Expr}(I:Inv1 T p)(h:zda T n 1 1 p=some (v,p')):Inv1 T p'/\Fw p p'/\wtE v+2*wa M p<=2*wa M p'+M:=(light hS n).expr _ _ _ _ _ I h
theorem lightI(hS:Short T M){n:Nat}{p p':PS}{v:Expr}(I:Inv1 T p)(h:zTa T n p=some (v,p')):Inv1 T p'/\Fw p p'/\wtE v+2*wa M p<=2*wa M p'+M:=by
 unfold zTa at h;split at h
 ·cases h
 ·rename_i q hq;cases h;obtain⟨I',F,W⟩:=light1 hS (I.must _) hq;have:=zQb (M:=M) (zm T [40] p);have:=zQb (M:=M) (zm T [41] q.2);exact⟨I'.must _,((zm _ _ _).trans F).trans (zm _ _ _),by omega⟩
theorem lightN(hS:Short T M){n:Nat}{p p':PS}{v:Stmt}(I:Inv1 T p)(h:zAb T n p=some (v,p')):Inv1 T p'/\Fw p p'/\wtS v+2*wa M p<=2*wa M p'+3*M:=by
 unfold zAb at h;have h8:=hS.1;have I1:=I.text 1 (by decide);have F1:=zfb T 1 p;have w1:=zQb (M:=M) F1;have hs:=short_text (k:=1) I hS;split at h
 ·rename_i hc;split at h
  ·cases h
  ·rename_i q hq;cases h;obtain⟨I',F,W⟩:=(light hS n).args _ _ _ _ (I1.adv _ hc) hq;have:=zSb M (zy T 1 p).2;exact⟨I',(F1.trans (zu _)).trans F,by simp only[wtS,wtE,wtEs,wtSs,yg];omega⟩
 split at h
 ·rename_i hc;split at h
  ·cases h
  ·rename_i q hq;obtain⟨I',F,W⟩:=light1 hS (I1.adv _ hc) hq;have:=zSb M (zy T 1 p).2;have F2:=(zm T [93] q.2).trans (zm T [61] _);have:=zQb (M:=M) F2;split at h
   ·cases h
   ·rename_i r hr;cases h;obtain⟨I2,F3,W2⟩:=light1 hS ((I'.must [93]).must [61]) hr;exact⟨I2,(((F1.trans (zu _)).trans F).trans F2).trans F3,by simp only[wtS,wtE,wtEs,wtSs,yg];omega⟩
 ·split at h
  ·cases h
  ·rename_i q hq;cases h;obtain⟨I',F,W⟩:=light1 hS (I1.must _) hq;have:=zQb (M:=M) (zm T [61] (zy T 1 p).2);exact⟨I',(F1.trans (zm _ _ _)).trans F,by simp only[wtS,wtE,wtEs,wtSs,yg];omega⟩
end
def ovM(M:Nat)(p:PS):Nat:=if zf p then 8*M else 0
theorem ovM_le(M:Nat)(p:PS):ovM M p<=8*M:=by unfold ovM;split<;>omega
theorem ovM_fw{M:Nat}{p q:PS}(h:Fw p q):ovM M p<=ovM M q:=by
 unfold ovM;cases ho:zf p
 ·simp
 ·rw[h.2 ho];exact yh _
theorem go_wa{M:Nat}{p q:PS}(h:Go1 p q):wa M p+M<=wa M q\/ovM M q=8*M:=by
 rcases h with h|h
 ·left;unfold wa;have:=yxa M h;rw[Nat.mul_succ]at this;exact this
 ·right;unfold ovM;rw[if_pos h]
theorem named_go{T:List Tok}{M n:Nat}{p p':PS}{v:Stmt}(hS:Short T M)(I:Inv1 T p)(h:zAb T n p=some (v,p')):Go1 p p':=by
 unfold zAb at h;have I1:=I.text 1 (by decide);have F1:=zfb T 1 p;have G1:=text_go (T:=T) (k:=1) (p:=p);split at h
 ·rename_i hc;split at h
  ·cases h
  ·rename_i q hq;cases h;obtain⟨I',F,W⟩:=(light hS n).args _ _ _ _ (I1.adv _ hc) hq;exact G1.fw ((zu _).trans F)
 split at h
 ·rename_i hc;split at h
  ·cases h
  ·rename_i q hq;obtain⟨I',F,W⟩:=light1 hS (I1.adv _ hc) hq;have F2:=(zm T [93] q.2).trans (zm T [61] _);split at h
   ·cases h
   ·rename_i r hr;cases h;obtain⟨I2,F3,W2⟩:=light1 hS ((I'.must [93]).must [61]) hr;exact G1.fw ((((zu _).trans F).trans F2).trans F3)
 ·split at h
  ·cases h
  ·rename_i q hq;cases h;obtain⟨I',F,W⟩:=light1 hS (I1.must _) hq;exact G1.fw ((zm _ _ _).trans F)
structure LightS(T:List Tok)(M n:Nat):Prop where
 stmt:∀d p v p',Inv1 T p->zgb T n d p=some (v,p')->Inv1 T p'/\Fw p p'/\wtS v+1+8*wa M p<=8*wa M p'+ovM M p'
 block:∀d l p v p',Inv1 T p->zW T n d l p=some (v,p')->∀k:Nat,wtSs l+k<=8*wa M p+ovM M p->Inv1 T p'/\Fw p p'/\wtSs v+k<=8*wa M p'+ovM M p'
theorem lightS_of{T:List Tok}{M n:Nat}(hS:Short T M)(E:LightS T M n):LightS T M (n+1):=by
 have h8:=hS.1;refine⟨?_,?_⟩
 ·intro d p v p' I0 h;simp only[zgb]at h;have I:=I0.deepS d;have F0:=fw_deepS d p;have w0:wa M (deepS d p)=wa M p:=by unfold wa deepS;split<;>rfl
  generalize deepS d p=q at*;have fin:∀r:PS,Fw q r->Go1 q r->∀W:Nat,W+2*wa M q<=2*wa M r+4*M->Fw p r/\W+1+8*wa M p<=8*wa M r+ovM M r:=by
   intro r F G W hW;refine⟨F0.trans F,?_⟩;have:=zQb (M:=M) F;rcases go_wa (M:=M) G with g|g<;>omega
  split at h
  ·have G1:=typed_go (T:=T) (p:=q);have Ft:=(zbe T q).trans (zfb T 1 _);have F1:=Ft.trans (zm T [61] _);have hs:=short_text (k:=1) I.typed hS;split at h
   ·cases h
   ·rename_i x hx;cases h;obtain⟨I',F,W⟩:=light1 hS ((I.typed.text 1 (by decide)).must [61]) hx;have F2:=zm T [59] x.2;have:=zQb (M:=M) F1;have:=zQb (M:=M) F2;have:=fin _ ((F1.trans F).trans F2) (G1.fw ((((zfb T 1 _).trans (zm T [61] _)).trans F).trans F2)) (wtS ⟨1,(zx T q).1,(zy T 1 (zx T q).2).1,[x.1],[],[]⟩) (by simp only[wtS,wtEs,wtSs];omega);exact⟨I'.must _,this.1,this.2⟩
  split at h
  ·rename_i hc;have wadv:=zSb M q;split at h
   ·cases h
   ·rename_i x hx;obtain⟨I',F,W⟩:=lightI hS (I.adv _ hc) hx;have F2:=zm T [123] x.2;have w2:=zQb (M:=M) F2;have w1:=zQb (M:=M) F;split at h
    ·cases h
    ·rename_i y hy;obtain⟨I2,F3,W3⟩:=E.block _ _ _ _ _ (I'.must [123]) hy (8*wa M (zC T [123] x.2)+ovM M (zC T [123] x.2)) (by simp[wtSs]);split at h
     ·rename_i hc2;split at h
      ·cases h
      ·rename_i z hz;cases h;have F4:=(zu y.2).trans (zm T [123] _);have w4:=zQb (M:=M) F4;have o4:=ovM_fw (M:=M) F4;obtain⟨I3,F5,W5⟩:=E.block _ _ _ _ _ ((I2.adv _ hc2).must [123]) hz (8*wa M (zC T [123] (adv y.2))+ovM M (zC T [123] (adv y.2))) (by simp[wtSs]);have w5:=zQb (M:=M) F5;have w3:=zQb (M:=M) F3;exact⟨I3,F0.trans ((((((zu q).trans F).trans F2).trans F3).trans F4).trans F5),by simp only[wtS,wtEs,yg];omega⟩
     ·cases h;have w3:=zQb (M:=M) F3;exact⟨I2,F0.trans ((((zu q).trans F).trans F2).trans F3),by simp only[wtS,wtEs,wtSs,yg];omega⟩
  split at h
  ·rename_i hc;have wadv:=zSb M q;split at h
   ·cases h
   ·rename_i x hx;obtain⟨I',F,W⟩:=lightI hS (I.adv _ hc) hx;have F2:=zm T [123] x.2;have w2:=zQb (M:=M) F2;have w1:=zQb (M:=M) F;split at h
    ·cases h
    ·rename_i y hy;obtain⟨I2,F3,W3⟩:=E.block _ _ _ _ _ (I'.must [123]) hy (8*wa M (zC T [123] x.2)+ovM M (zC T [123] x.2)) (by simp[wtSs]);cases h;have w3:=zQb (M:=M) F3;exact⟨I2,F0.trans ((((zu q).trans F).trans F2).trans F3),by simp only[wtS,wtEs,wtSs,yg];omega⟩
  split at h
  ·rename_i hc;cases h;have wadv:=zSb M q;have F2:=zm T [59] (adv q);have:=zQb (M:=M) F2;have:=fin _ ((zu q).trans F2) ((adv_go q).fw F2) (wtS ⟨6,0,[],[],[],[]⟩) (by simp only[wtS,wtEs,wtSs,yg];omega);exact⟨(I.adv _ hc).must _,this.1,this.2⟩
  split at h
  ·rename_i hc;cases h;have wadv:=zSb M q;have F2:=zm T [59] (adv q);have:=zQb (M:=M) F2;have:=fin _ ((zu q).trans F2) ((adv_go q).fw F2) (wtS ⟨7,0,[],[],[],[]⟩) (by simp only[wtS,wtEs,wtSs,yg];omega);exact⟨(I.adv _ hc).must _,this.1,this.2⟩
  split at h
  ·rename_i hc;have wadv:=zSb M q;split at h
   ·cases h
   ·rename_i x hx;cases h;obtain⟨I',F,W⟩:=light1 hS (I.adv _ hc) hx;have F2:=zm T [59] x.2;have:=zQb (M:=M) F2;have:=fin _ (((zu q).trans F).trans F2) ((adv_go q).fw (F.trans F2)) (wtS ⟨8,0,[],[x.1],[],[]⟩) (by simp only[wtS,wtEs,wtSs,yg];omega);exact⟨I'.must _,this.1,this.2⟩
  split at h
  ·rename_i hc;have wadv:=zSb M q;split at h
   ·cases h
   ·rename_i x hx;cases h;obtain⟨I',F,W⟩:=lightI hS (I.adv _ hc) hx;have F2:=zm T [59] x.2;have:=zQb (M:=M) F2;have:=fin _ (((zu q).trans F).trans F2) ((adv_go q).fw (F.trans F2)) (wtS ⟨9,0,[],[x.1],[],[]⟩) (by simp only[wtS,wtEs,wtSs,yg];omega);exact⟨I'.must _,this.1,this.2⟩
  ·split at h
   ·cases h
   ·rename_i x hx;cases h;obtain⟨I',F,W⟩:=lightN hS I hx;have G:=named_go hS I hx;have F2:=zm T [59] x.2;have:=zQb (M:=M) F2;have:=fin _ (F.trans F2) (G.fw F2) (wtS x.1) (by omega);exact⟨I'.must _,this.1,this.2⟩
 ·intro d l p v p' I h k hk;simp only[zW]at h;split at h
  ·cases h;exact⟨I,Fw.refl _,hk⟩
  rename_i hno;have ho0:ovM M p=0:=by unfold ovM;rw[if_neg hno]
  split at h
  ·rename_i hc;cases h;have:=zSb M p;exact⟨I.adv _ hc,zu p,by omega⟩
  ·split at h
   ·cases h
   ·rename_i x hx;obtain⟨I',F,W⟩:=E.stmt _ _ _ _ I hx;obtain⟨I2,F2,W2⟩:=E.block _ _ _ _ _ I' h k (by rw[wtSs_append];simp only[wtSs];omega);exact⟨I2,F.trans F2,W2⟩
theorem lightS{T:List Tok}{M:Nat}(hS:Short T M):∀n,LightS T M n
 |0=>⟨fun _ _ _ _ _ h=>by simp[zgb]at h,fun _ _ _ _ _ _ h=>by simp[zW]at h⟩
 |n+1=>lightS_of hS (lightS hS n)
theorem tokGo_short(N:Nat):∀n (q:List UInt8) line acc,q.length<=N->(∀t∈acc,t.text.length<=N)->∀t∈(zZa n q line acc).1,t.text.length<=N:=by
 intro n
 induction n with
 |zero=>intro q line acc hs ha;exact ha
 |succ n ih=>
  intro q line acc hs ha;cases q with
  |nil=>
   simp only[zZa];intro t ht;rcases yw.1 ht with h|h
   ·exact ha t h
   ·rw[yJ.1 h];simp
  |cons b r=>
   simp only[yd]at hs;simp only[zZa];split
   ·exact ih _ _ _ (by omega) ha
   split
   ·exact ih _ _ _ (by omega) ha
   split
   ·refine ih _ _ _ ?_ ha;rw[zwb,yU];simp only[yd];omega
   split
   ·split
    ·intro t ht;cases ht
    ·have hw2:=(List.takeWhile_prefix (l:=b::r) (p:=zq)).length_le;simp only[yd]at hw2;refine ih _ _ _ (by rw[yU];simp only[yd];omega) ?_;intro t ht;rcases yw.1 ht with h|h
     ·exact ha t h
     ·rw[yJ.1 h];simp only;omega
   split
   ·intro t ht;cases ht
   ·have hp2:=sign_len (b::r);simp only[yd]at hp2;refine ih _ _ _ (by rw[yU];simp only[yd];omega) ?_;intro t ht;rcases yw.1 ht with h|h
    ·exact ha t h
    ·rw[yJ.1 h];simp only;omega
theorem tokens_short(s:List UInt8):Short (zr s).1 100008:=by
 refine⟨by decide,?_⟩;unfold zr;split
 ·intro t ht;cases ht
 ·rename_i h;intro t ht;have:=tokGo_short 100000 _ _ _ _ (by omega) (by simp) t ht;omega
theorem tokens_count(s:List UInt8)(h:(zr s).2.1=0):(zr s).1.length<=100001:=by
 unfold zr at h ⊢;split at h
 ·exact absurd h (by decide)
 rename_i hs;rw[if_neg hs];obtain⟨x1,x2,x3,x4⟩:=tokGo_ok (s.length+1) s 1 [] (by omega) (by omega) (by simp) h;simp at x2;omega
section
variable {T:List Tok} {M:Nat} (hS:Short T M)
theorem block_wt{n:Nat}{d:Int}{p p':PS}{v:List Stmt}(hS:Short T M)(I:Inv1 T p)(h:zW T n d [] p=some (v,p')):wtSs v<=8*(M*T.length)+8*M:=by
 obtain⟨I',F,W⟩:=(lightS hS n).block _ _ _ _ _ I h (8*wa M p+ovM M p) (by simp[wtSs]);have:=ovM_le M p';have h2:wa M p'<=M*T.length:=yxa _ (Nat.le_of_lt I'.lt);omega
theorem params_len:∀n l (f:Bool) p v p',zN T n l f p=some (v,p')->v.length<=l.length+n:=by
 intro n
 induction n with
 |zero=>intro l f p v p' h;simp[zN]at h
 |succ n ih=>
  intro l f p v p' h;simp only[zN]at h;by_cases hc:(f||isF T [44] p)=true
  ·rw[if_pos hc]at h;generalize(if f=true then p else adv p)=q at h;split at h
   ·cases h;omega
   ·have:=ih _ _ _ _ _ h;simp only[ye,yd,yg]at this;omega
  ·rw[if_neg hc]at h;cases h;omega
theorem function_wt{n:Nat}{t:Int}{s:List UInt8}{p p':PS}{v:Func}(hS:Short T M)(I:Inv1 T p)(h:zka T n t s p=some (v,p')):wtSs v.body<=8*(M*T.length)+8*M/\v.params.length<=n:=by
 unfold zka at h;have I1:=I.must [40];split at h
 ·rename_i hc;split at h
  ·cases h
  ·rename_i q hq;cases h;exact⟨block_wt hS ((I1.adv _ hc).must _) hq,by simp⟩
 ·split at h
  ·cases h
  ·rename_i r hr;have Ir:=paramsF_inv _ _ _ _ _ _ hr I1;have hl:=params_len _ _ _ _ _ _ hr;split at h
   ·cases h
   ·rename_i q hq;cases h;exact⟨block_wt hS ((Ir.must _).must _) hq,by simpa using hl⟩
theorem prog_wt(hS:Short T M):∀n ars fs p v p',n<=999999980->Inv1 T p->zCb T n ars fs p=some (v,p')->∀B:Nat,n<=B→
  (∀f∈fs,wtSs f.body<=8*(M*T.length)+8*M/\f.params.length<=B)→
  v.arrays.length<=ars.length+n/\v.funcs.length<=fs.length+n/\∀f∈v.funcs,wtSs f.body<=8*(M*T.length)+8*M/\f.params.length<=B:=by
 intro n
 induction n with
 |zero=>intro ars fs p v p' _ I h;simp[zCb]at h
 |succ n ih=>
  intro ars fs p v p' hn I h B hB hf;simp only[zCb]at h;have I2:=I.typed.text 1 (by decide);split at h
  ·cases h;exact⟨Nat.le_add_right _ _,Nat.le_add_right _ _,hf⟩
  split at h
  ·cases h;exact⟨Nat.le_add_right _ _,Nat.le_add_right _ _,hf⟩
  split at h
  ·rename_i hc;have I3:=(((I2.adv _ hc.2.2).text 0 (by decide)).must [93]).must [59];obtain⟨a1,a2,a3⟩:=ih _ _ _ _ _ (by omega) I3 h B (by omega) hf;simp only[ye,yd,yg]at a1;exact⟨by omega,by omega,a3⟩
  ·split at h
   ·cases h
   ·rename_i q hq;have I3:=(function_spec hq I2 (by omega)).2;have hw:=function_wt hS I2 hq;obtain⟨a1,a2,a3⟩:=ih _ _ _ _ _ (by omega) I3 h B (by omega) (by
     intro f hff;rcases yw.1 hff with h'|h'
     ·exact hf f h'
     ·rw[yJ.1 h'];exact⟨hw.1,by omega⟩)
    simp only[ye,yd,yg]at a2;exact⟨by omega,by omega,a3⟩
end
theorem parse_sz(s:List UInt8)(h0:(zr s).2.1=0){v:Prog}{p':PS}(h:zCb (zr s).1 (fuel (zr s).1) [] [] ⟨0,false,false⟩=some (v,p')):PSz v:=by
 have I:=tokens_inv s h0;have hc:=tokens_count s h0;have hS:=tokens_short s;have hf:fuel (zr s).1<=6400164:=by unfold fuel;omega
 obtain⟨a1,a2,a3⟩:=prog_wt hS _ _ _ _ _ _ (by omega) I h (fuel (zr s).1) (yh _) (by simp);simp only[yg]at a1 a2;have hm:100008*(zr s).1.length<=100008*100001:=yxa _ hc;refine⟨by omega,by omega,fun f hff=>?_⟩;obtain⟨b1,b2⟩:=a3 f hff;exact⟨by omega,by omega⟩
theorem parse_run(s:List UInt8)(h0:(zr s).2.1=0):∃v p',zCb (zr s).1 (fuel (zr s).1) [] [] ⟨0,false,false⟩=some (v,p')/\Inv1 (zr s).1 p'/\PSz v:=by
 have I:=tokens_inv s h0;obtain⟨v,p',e,I'⟩:=prog_enough (fuel (zr s).1) [] [] _ I (yOa (by unfold fuel left;omega));exact⟨v,p',e,I',parse_sz s h0 e⟩
def zfc(r:Prog×Int×Int):PV:= .tup [zua r.1,.int .i64 r.2.1,.int .i64 r.2.2]
def Up(T T':List Tok)(δ:Nat):Prop:=∀i,kt (tk T (i+δ))=kt (tk T' i)
def up(δ:Nat)(p:PS):PS:=⟨p.at'+δ,p.bad,p.deep⟩
section
variable {T T':List Tok} {δ:Nat}
theorem Up.kind(U:Up T T' δ)(i:Nat):(tk T (i+δ)).kind=(tk T' i).kind:=congrArg Prod.fst (U i)
theorem Up.text(U:Up T T' δ)(i:Nat):(tk T (i+δ)).text=(tk T' i).text:=congrArg Prod.snd (U i)
theorem zWd(p:PS):zf (up δ p)=zf p:=rfl
theorem zgd(p:PS):adv (up δ p)=up δ (adv p):=by unfold adv up;simp only;congr 1;omega
theorem zqd(U:Up T T' δ)(s:List UInt8)(p:PS):isF T s (up δ p)=isF T' s p:=by
 unfold isF;rw[zWd,show(up δ p).at'=p.at'+δ from rfl,U.kind,U.text]
theorem zva(U:Up T T' δ)(s:List UInt8)(p:PS):zC T s (up δ p)=up δ (zC T' s p):=by
 unfold zC;rw[zqd U];split
 ·exact zgd p
 ·rw[show(up δ p).deep=p.deep from rfl];split<;>rfl
theorem textF_up(U:Up T T' δ)(k:Int)(p:PS):zy T k (up δ p)=((zy T' k p).1,up δ (zy T' k p).2):=by
 unfold zy;rw[zWd,show(up δ p).at'=p.at'+δ from rfl,U.kind,U.text];split
 ·rfl
 ·split
  ·simp only;congr 1;exact zgd p
  ·rfl
theorem typedF_up(U:Up T T' δ)(p:PS):zx T (up δ p)=((zx T' p).1,up δ (zx T' p).2):=by
 unfold zx;rw[zqd U];split
 ·simp only;congr 1;exact zgd p
 ·rw[zva U]
theorem deepF_up(d:Int)(p:PS):deepF d (up δ p)=up δ (deepF d p):=by
 unfold deepF;rw[show(up δ p).bad=p.bad from rfl]
 repeat' (first|rfl|split)
theorem deepS_up(d:Int)(p:PS):deepS d (up δ p)=up δ (deepS d p):=by
 unfold deepS
 repeat' (first|rfl|split)
theorem unF_up(U:Up T T' δ)(p:PS):unF T (up δ p)=unF T' p:=by
 unfold unF;congr 1;funext i;unfold zJa;rw[zqd U]
theorem opF_up(U:Up T T' δ)(L:Int)(p:PS):opF T L (up δ p)=opF T' L p:=by
 unfold opF;have:zNa T L (up δ p)=zNa T' L p:=by
  funext i;unfold zNa;rw[zqd U]
 rw[this]
theorem at_up(p:PS):(up δ p).at'=p.at'+δ:=rfl
end
structure UpE(T T':List Tok)(δ n:Nat):Prop where
 primary:∀m d p v p',n<=m->zV T' n d p=some (v,p')->zV T m d (up δ p)=some (v,up δ p')
 unary:∀m d p v p',n<=m->zFa T' n d p=some (v,p')->zFa T m d (up δ p)=some (v,up δ p')
 expr:∀m L d p v p',n<=m->zda T' n L d p=some (v,p')->zda T m L d (up δ p)=some (v,up δ p')
 loop:∀m L d a p v p',n<=m->zB T' n L d a p=some (v,p')->zB T m L d a (up δ p)=some (v,up δ p')
 args:∀m d p v p',n<=m->zMb T' n d p=some (v,p')->zMb T m d (up δ p)=some (v,up δ p')
 al:∀m d l (f:Bool) p v p',n<=m->zw T' n d l f p=some (v,p')->zw T m d l f (up δ p)=some (v,up δ p')
theorem upE_of{T T':List Tok}{δ n:Nat}(U:Up T T' δ)(E:UpE T T' δ n):UpE T T' δ (n+1):=by
 refine⟨?_,?_,?_,?_,?_,?_⟩
 ·intro m d p v p' hm h;obtain⟨m,rfl⟩:∃k,m=k+1:=⟨m-1,by omega⟩
  have hm:n<=m:=by omega
  simp only[zV]at h ⊢;simp only[zWd,zgd,zqd U,textF_up U,at_up,U.kind,U.text,zva U];split at h
  ·rename_i c;rw[if_pos c];cases h;rfl
  rename_i c;rw[if_neg c];split at h
  ·rename_i c;rw[if_pos c];split at h
   ·cases h
   ·rename_i q hq;cases h;rw[E.expr m _ _ _ _ _ hm hq];simp only[zva U]
  rename_i c;rw[if_neg c];split at h
  ·rename_i c;rw[if_pos c];cases h;rfl
  rename_i c;rw[if_neg c];split at h
  ·rename_i c;rw[if_pos c];cases h;rfl
  rename_i c;rw[if_neg c];split at h
  ·rename_i c;rw[if_pos c];cases h;rfl
  rename_i c;rw[if_neg c];split at h
  ·rename_i c;rw[if_pos c];cases h;rfl
  rename_i c;rw[if_neg c];split at h
  ·rename_i c;rw[if_pos c];split at h
   ·cases h
   ·rename_i q hq;cases h;rw[E.args m _ _ _ _ hm hq]
  rename_i c;rw[if_neg c];split at h
  ·rename_i c;rw[if_pos c];split at h
   ·cases h
   ·rename_i q hq;cases h;rw[E.expr m _ _ _ _ _ hm hq];simp only[zva U]
  rename_i c;rw[if_neg c];cases h;rfl
 ·intro m d p v p' hm h;obtain⟨m,rfl⟩:∃k,m=k+1:=⟨m-1,by omega⟩
  have hm:n<=m:=by omega
  simp only[zFa]at h ⊢;rw[deepF_up,unF_up U];cases hu:unF T' (deepF d p)with
  |none=>
   rw[hu]at h;exact E.primary m _ _ _ _ hm h
  |some i=>
   rw[hu]at h;simp only at h ⊢;simp only[zgd,zva U];split at h
   ·rename_i c;rw[if_pos c];split at h
    ·cases h
    ·rename_i q hq;cases h;rw[E.expr m _ _ _ _ _ hm hq];simp only[zva U]
   ·rename_i c;rw[if_neg c];split at h
    ·cases h
    ·rename_i q hq;cases h;rw[E.unary m _ _ _ _ hm hq]
 ·intro m L d p v p' hm h;obtain⟨m,rfl⟩:∃k,m=k+1:=⟨m-1,by omega⟩
  have hm:n<=m:=by omega
  simp only[zda]at h ⊢;split at h
  ·rename_i c;rw[if_pos c];exact E.unary m _ _ _ _ hm h
  ·rename_i c;rw[if_neg c];split at h
   ·cases h
   ·rename_i q hq;rw[E.expr m _ _ _ _ _ hm hq];exact E.loop m _ _ _ _ _ _ hm h
 ·intro m L d a p v p' hm h;obtain⟨m,rfl⟩:∃k,m=k+1:=⟨m-1,by omega⟩
  have hm:n<=m:=by omega
  simp only[zB]at h ⊢;simp only[opF_up U,zgd];split at h
  ·rename_i c;rw[if_pos c];cases h;rfl
  ·rename_i c;rw[if_neg c];split at h
   ·cases h
   ·rename_i q hq;rw[E.expr m _ _ _ _ _ hm hq];exact E.loop m _ _ _ _ _ _ hm h
 ·intro m d p v p' hm h;obtain⟨m,rfl⟩:∃k,m=k+1:=⟨m-1,by omega⟩
  have hm:n<=m:=by omega
  simp only[zMb]at h ⊢;simp only[zqd U,zgd];split at h
  ·rename_i c;rw[if_pos c];cases h;rfl
  ·rename_i c;rw[if_neg c];split at h
   ·cases h
   ·rename_i q hq;cases h;rw[E.al m _ _ _ _ _ _ hm hq];simp only[zva U]
 ·intro m d l f p v p' hm h;obtain⟨m,rfl⟩:∃k,m=k+1:=⟨m-1,by omega⟩
  have hm:n<=m:=by omega
  simp only[zw]at h ⊢;simp only[zqd U,zgd];have hq:(if f=true then up δ p else up δ (adv p))=up δ (if f=true then p else adv p):=by split<;>rfl
  rw[hq];generalize(if f=true then p else adv p)=q at*;by_cases c:(f||isF T' [44] p)=true
  ·rw[if_pos c]at h ⊢;rw[zWd];split at h
   ·rename_i c;rw[if_pos c];cases h;rfl
   ·rename_i c;rw[if_neg c];split at h
    ·cases h
    ·rename_i x hx;rw[E.expr m _ _ _ _ _ hm hx];exact E.al m _ _ _ _ _ _ hm h
  ·rw[if_neg c]at h ⊢;cases h;rfl
theorem upE{T T':List Tok}{δ:Nat}(U:Up T T' δ):∀n,UpE T T' δ n
 |0=>⟨fun _ _ _ _ _ _ h=>by simp[zV]at h,fun _ _ _ _ _ _ h=>by simp[zFa]at h,fun _ _ _ _ _ _ _ h=>by simp[zda]at h,fun _ _ _ _ _ _ _ _ h=>by simp[zB]at h,fun _ _ _ _ _ _ h=>by simp[zMb]at h,fun _ _ _ _ _ _ _ _ h=>by simp[zw]at h⟩
 |n+1=>upE_of U (upE U n)
section
variable {T T':List Tok} {δ:Nat}
theorem expr1_up(U:Up T T' δ){n m:Nat}{p p':PS}{v:Expr}(hm:n<=m)(h:zda T' n 1 1 p=some (v,p')):zda T m 1 1 (up δ p)=some (v,up δ p'):=(upE U n).expr m _ _ _ _ _ hm h
theorem inside_up(U:Up T T' δ){n m:Nat}{p p':PS}{v:Expr}(hm:n<=m)(h:zTa T' n p=some (v,p')):zTa T m (up δ p)=some (v,up δ p'):=by
 unfold zTa at h ⊢;rw[zva U];split at h
 ·cases h
 ·rename_i q hq;cases h;rw[expr1_up U hm hq];simp only[zva U]
theorem named_up(U:Up T T' δ){n m:Nat}{p p':PS}{v:Stmt}(hm:n<=m)(h:zAb T' n p=some (v,p')):zAb T m (up δ p)=some (v,up δ p'):=by
 unfold zAb at h ⊢;simp only[textF_up U,zqd U,zgd,zva U];split at h
 ·rename_i c;rw[if_pos c];split at h
  ·cases h
  ·rename_i q hq;cases h;rw[(upE U n).args m _ _ _ _ hm hq]
 rename_i c;rw[if_neg c];split at h
 ·rename_i c;rw[if_pos c];split at h
  ·cases h
  ·rename_i q hq;rw[expr1_up U hm hq];simp only[zva U];split at h
   ·cases h
   ·rename_i r hr;cases h;rw[expr1_up U hm hr]
 ·rename_i c;rw[if_neg c];split at h
  ·cases h
  ·rename_i q hq;cases h;rw[expr1_up U hm hq]
end
structure UpS(T T':List Tok)(δ n:Nat):Prop where
 stmt:∀m d p v p',n<=m->zgb T' n d p=some (v,p')->zgb T m d (up δ p)=some (v,up δ p')
 block:∀m d l p v p',n<=m->zW T' n d l p=some (v,p')->zW T m d l (up δ p)=some (v,up δ p')
theorem upS_of{T T':List Tok}{δ n:Nat}(U:Up T T' δ)(E:UpS T T' δ n):UpS T T' δ (n+1):=by
 refine⟨?_,?_⟩
 ·intro m d p v p' hm h;obtain⟨m,rfl⟩:∃k,m=k+1:=⟨m-1,by omega⟩
  have hm:n<=m:=by omega
  simp only[zgb]at h ⊢;rw[deepS_up];generalize deepS d p=q at*;simp only[zqd U,zgd,typedF_up U,textF_up U,zva U];split at h
  ·rename_i c;rw[if_pos c];split at h
   ·cases h
   ·rename_i x hx;cases h;rw[expr1_up U hm hx];simp only[zva U]
  rename_i c;rw[if_neg c];split at h
  ·rename_i c;rw[if_pos c];split at h
   ·cases h
   ·rename_i x hx;rw[inside_up U hm hx];simp only[zva U];split at h
    ·cases h
    ·rename_i y hy;rw[E.block m _ _ _ _ _ hm hy];simp only[zqd U,zgd,zva U];split at h
     ·rename_i c;rw[if_pos c];split at h
      ·cases h
      ·rename_i z hz;cases h;rw[E.block m _ _ _ _ _ hm hz]
     ·rename_i c;rw[if_neg c];cases h;rfl
  rename_i c;rw[if_neg c];split at h
  ·rename_i c;rw[if_pos c];split at h
   ·cases h
   ·rename_i x hx;rw[inside_up U hm hx];simp only[zva U];split at h
    ·cases h
    ·rename_i y hy;cases h;rw[E.block m _ _ _ _ _ hm hy]
  rename_i c;rw[if_neg c];split at h
  ·rename_i c;rw[if_pos c];cases h;rfl
  rename_i c;rw[if_neg c];split at h
  ·rename_i c;rw[if_pos c];cases h;rfl
  rename_i c;rw[if_neg c];split at h
  ·rename_i c;rw[if_pos c];split at h
   ·cases h
   ·rename_i x hx;cases h;rw[expr1_up U hm hx];simp only[zva U]
  rename_i c;rw[if_neg c];split at h
  ·rename_i c;rw[if_pos c];split at h
   ·cases h
   ·rename_i x hx;cases h;rw[inside_up U hm hx];simp only[zva U]
  rename_i c;rw[if_neg c];split at h
  ·cases h
  ·rename_i x hx;cases h;rw[named_up U hm hx];simp only[zva U]
 ·intro m d l p v p' hm h;obtain⟨m,rfl⟩:∃k,m=k+1:=⟨m-1,by omega⟩
  have hm:n<=m:=by omega
  simp only[zW]at h ⊢;simp only[zWd,zqd U,zgd];split at h
  ·rename_i c;rw[if_pos c];cases h;rfl
  rename_i c;rw[if_neg c];split at h
  ·rename_i c;rw[if_pos c];cases h;rfl
  rename_i c;rw[if_neg c];split at h
  ·cases h
  ·rename_i x hx;rw[E.stmt m _ _ _ _ hm hx];exact E.block m _ _ _ _ _ hm h
theorem upS{T T':List Tok}{δ:Nat}(U:Up T T' δ):∀n,UpS T T' δ n
 |0=>⟨fun _ _ _ _ _ _ h=>by simp[zgb]at h,fun _ _ _ _ _ _ _ h=>by simp[zW]at h⟩
 |n+1=>upS_of U (upS U n)
section
variable {T T':List Tok} {δ:Nat}
theorem params_up(U:Up T T' δ):∀n m l (f:Bool) p v p',n<=m->zN T' n l f p=some (v,p')->zN T m l f (up δ p)=some (v,up δ p'):=by
 intro n
 induction n with
 |zero=>intro m l f p v p' _ h;simp[zN]at h
 |succ n ih=>
  intro m l f p v p' hm h;obtain⟨m,rfl⟩:∃k,m=k+1:=⟨m-1,by omega⟩
  have hm:n<=m:=by omega
  simp only[zN]at h ⊢;simp only[zqd U,zgd];have hq:(if f=true then up δ p else up δ (adv p))=up δ (if f=true then p else adv p):=by split<;>rfl
  rw[hq];generalize(if f=true then p else adv p)=q at*;by_cases c:(f||isF T' [44] p)=true
  ·rw[if_pos c]at h ⊢;simp only[zWd,typedF_up U,textF_up U];split at h
   ·rename_i c;rw[if_pos c];cases h;rfl
   ·rename_i c;rw[if_neg c];exact ih m _ _ _ _ _ hm h
  ·rw[if_neg c]at h ⊢;cases h;rfl
theorem function_up(U:Up T T' δ){n m:Nat}{t:Int}{s:List UInt8}{p p':PS}{v:Func}(hm:n<=m)(h:zka T' n t s p=some (v,p')):zka T m t s (up δ p)=some (v,up δ p'):=by
 unfold zka at h ⊢;simp only[zva U,zqd U,zgd];split at h
 ·rename_i c;rw[if_pos c];split at h
  ·cases h
  ·rename_i q hq;cases h;rw[(upS U n).block m _ _ _ _ _ hm hq]
 ·rename_i c;rw[if_neg c];split at h
  ·cases h
  ·rename_i r hr;rw[params_up U n m _ _ _ _ _ hm hr];simp only[zva U];split at h
   ·cases h
   ·rename_i q hq;cases h;rw[(upS U n).block m _ _ _ _ _ hm hq]
end
def digF:Nat->Nat->List UInt8
 |0,_=>[]
 |k+1,n=>if n<10 then[yY (48+n)]else digF k (n/10)++[yY (48+n%10)]
def zla(n:Nat):List UInt8:=digF 20 n
theorem digF_len:∀k n,(digF k n).length<=k
 |0,_=>yh _
 |k+1,n=>by
  unfold digF;split
  ·simp
  ·have:=digF_len k (n/10);simp;omega
theorem dig_byte{a:Nat}(h:a<10):zq (yY (48+a))=true:=by
 have:a=0\/a=1\/a=2\/a=3\/a=4\/a=5\/a=6\/a=7\/a=8\/a=9:=by omega
 rcases this with rfl|rfl|rfl|rfl|rfl|rfl|rfl|rfl|rfl|rfl<;>decide
theorem digF_bytes:∀(k n:Nat),(digF k n).all zq=true
 |0,n=>rfl
 |k+1,n=>by
  unfold digF;split
  ·rename_i h;rw[List.all_cons,dig_byte h];rfl
  ·rw[yla,digF_bytes k];rw[List.all_cons,dig_byte (Nat.mod_lt n (by omega:0<10))];rfl
theorem digF_dig:∀(k n:Nat),∀b∈digF k n,48<=b.toNat/\b.toNat<=57
 |0,n,b,h=>by simp[digF]at h
 |k+1,n,b,h=>by
  have one:∀a,a<10->48<=(yY (48+a)).toNat/\(yY (48+a)).toNat<=57:=by
   intro a ha;rw[UInt8.toNat_ofNat'];omega
  unfold digF at h;split at h
  ·rename_i hn;simp only[yJ]at h;subst h;exact one n hn
  ·rcases yw.1 h with h|h
   ·exact digF_dig k _ b h
   ·simp only[yJ]at h;subst h;exact one _ (Nat.mod_lt n (by omega))
theorem digF_ne(k n:Nat):digF (k+1) n≠ []:=by unfold digF;split<;>simp
def e00:Expr:=⟨0,0,0,[],[]⟩
def brP(e:Expr)(L:Int):Bool:=decide (e.kind=5)&&decide (zI e.op<L)
def brX(e:Expr)(L:Int)(t:List UInt8):List UInt8:=if brP e L then 40::(t++[41])else t
def brT(e:Expr)(L:Int)(t:List KT):List KT:=if brP e L then(2,[40])::(t++[(2,[41])])else t
def brH(e:Expr)(L:Int)(h:Nat):Nat:=if brP e L then h+1 else h
def zfa:List (List UInt8)->List UInt8
 | []=>[]
 | [x]=>x
 |x::y::r=>x++44::32::zfa (y::r)
def zS:List (List KT)->List KT
 | []=>[]
 | [x]=>x
 |x::y::r=>x++(2,[44])::zS (y::r)
def maxL:List Nat->Nat
 | []=>0
 |x::r=>max x (maxL r)
def nodeX(k o n:Int)(s:List UInt8)(a:List Expr)(ts:List (List UInt8)):List UInt8:=
 if k=1 then zla n.toNat
 else if k=2 then(if n=1 then[116,114,117,101]else[102,97,108,115,101])
 else if k=3 then s
 else if k=4 then(if 23<=o then zP o++40::(ts.headD []++[41])else zP o++brX (a.headD e00) 11 (ts.headD []))
 else if k=5 then brX (a.headD e00) (zI o) (ts.headD [])++32::(zP o++32::brX (a.tail.headD e00) (zI o+1) (ts.tail.headD []))
 else if k=6 then s++91::(ts.headD []++[93])
 else if k=7 then s++40::(zfa ts++[41])
 else[114,101,97,100,40,41]
def nodeT(k o n:Int)(s:List UInt8)(a:List Expr)(ts:List (List KT)):List KT:=
 if k=1 then[(0,zla n.toNat)]
 else if k=2 then(if n=1 then[(2,[116,114,117,101])]else[(2,[102,97,108,115,101])])
 else if k=3 then[(1,s)]
 else if k=4 then(if 23<=o then(2,zP o)::(2,[40])::(ts.headD []++[(2,[41])])else(2,zP o)::brT (a.headD e00) 11 (ts.headD []))
 else if k=5 then brT (a.headD e00) (zI o) (ts.headD [])++(2,zP o)::brT (a.tail.headD e00) (zI o+1) (ts.tail.headD [])
 else if k=6 then(1,s)::(2,[91])::(ts.headD []++[(2,[93])])
 else if k=7 then(1,s)::(2,[40])::(zS ts++[(2,[41])])
 else[(2,[114,101,97,100]),(2,[40]),(2,[41])]
def nodeH(k o:Int)(a:List Expr)(ts:List Nat):Nat:=
 if k=4 then(if 23<=o then ts.headD 0+1 else brH (a.headD e00) 11 (ts.headD 0)+1)
 else if k=5 then max (brH (a.headD e00) (zI o) (ts.headD 0)) (brH (a.tail.headD e00) (zI o+1) (ts.tail.headD 0))
 else if k=6 then ts.headD 0+1
 else if k=7 then(if ts=[]then 0 else maxL ts+1)
 else 0
mutual
def xE:Expr->List UInt8
 |⟨k,o,n,s,a⟩=>nodeX k o n s a (xEs a)
def xEs:List Expr->List (List UInt8)
 | []=>[]
 |x::r=>xE x::xEs r
end
mutual
def tE:Expr->List KT
 |⟨k,o,n,s,a⟩=>nodeT k o n s a (tEs a)
def tEs:List Expr->List (List KT)
 | []=>[]
 |x::r=>tE x::tEs r
end
mutual
def hE:Expr->Nat
 |⟨k,o,n,s,a⟩=>nodeH k o a (hEs a)
def hEs:List Expr->List Nat
 | []=>[]
 |x::r=>hE x::hEs r
end
mutual
def nbE:Expr->Bool
 |⟨k,o,n,s,a⟩=>(decide (k=1->n<=9223372036854775807))&&nbEs a
def nbEs:List Expr->Bool
 | []=>true
 |x::r=>nbE x&&nbEs r
end
theorem xEs_eq(l:List Expr):xEs l=l.map xE:=by
 induction l with
 |nil=>rfl
 |cons x r ih=>rw[xEs,ih];rfl
theorem tEs_eq(l:List Expr):tEs l=l.map tE:=by
 induction l with
 |nil=>rfl
 |cons x r ih=>rw[tEs,ih];rfl
theorem hEs_eq(l:List Expr):hEs l=l.map hE:=by
 induction l with
 |nil=>rfl
 |cons x r ih=>rw[hEs,ih];rfl
theorem nbEs_eq(l:List Expr):nbEs l=l.all nbE:=by
 induction l with
 |nil=>rfl
 |cons x r ih=>rw[nbEs,ih];rfl
theorem xE_one(o:Int)(x:Expr):xE ⟨4,o,0,[],[x]⟩=if 23<=o then zP o++40::(xE x++[41])else zP o++brX x 11 (xE x):=rfl
theorem tE_one(o:Int)(x:Expr):tE ⟨4,o,0,[],[x]⟩=if 23<=o then(2,zP o)::(2,[40])::(tE x++[(2,[41])])else(2,zP o)::brT x 11 (tE x):=rfl
theorem hE_one(o:Int)(x:Expr):hE ⟨4,o,0,[],[x]⟩=if 23<=o then hE x+1 else brH x 11 (hE x)+1:=rfl
theorem xE_two(o:Int)(x y:Expr):xE ⟨5,o,0,[],[x,y]⟩=brX x (zI o) (xE x)++32::(zP o++32::brX y (zI o+1) (xE y)):=rfl
theorem tE_two(o:Int)(x y:Expr):tE ⟨5,o,0,[],[x,y]⟩=brT x (zI o) (tE x)++(2,zP o)::brT y (zI o+1) (tE y):=rfl
theorem hE_two(o:Int)(x y:Expr):hE ⟨5,o,0,[],[x,y]⟩=max (brH x (zI o) (hE x)) (brH y (zI o+1) (hE y)):=rfl
theorem xE_index(s:List UInt8)(x:Expr):xE ⟨6,0,0,s,[x]⟩=s++91::(xE x++[93]):=rfl
theorem tE_index(s:List UInt8)(x:Expr):tE ⟨6,0,0,s,[x]⟩=(1,s)::(2,[91])::(tE x++[(2,[93])]):=rfl
theorem xE_call(s:List UInt8)(l:List Expr):xE ⟨7,0,0,s,l⟩=s++40::(zfa (l.map xE)++[41]):=by rw[<-xEs_eq];rfl
theorem tE_call(s:List UInt8)(l:List Expr):tE ⟨7,0,0,s,l⟩=(1,s)::(2,[40])::(zS (l.map tE)++[(2,[41])]):=by rw[<-tEs_eq];rfl
theorem hE_call(s:List UInt8)(l:List Expr):hE ⟨7,0,0,s,l⟩=if l=[]then 0 else maxL (l.map hE)+1:=by
 have:hE ⟨7,0,0,s,l⟩=if hEs l=[]then 0 else maxL (hEs l)+1:=rfl
 rw[this,hEs_eq];simp
inductive RE:Expr->Prop
 |num (n:Nat) (h:n<=9223372036854775807):RE ⟨1,0,n,[],[]⟩
 |truth (n:Int) (h:n=0\/n=1):RE ⟨2,0,n,[],[]⟩
 |var (s:List UInt8) (h:zXa s=true):RE ⟨3,0,0,s,[]⟩
 |one (i:Nat) (h:i<9) (x:Expr) (hx:RE x):RE ⟨4,((i+20:Nat):Int),0,[],[x]⟩
 |two (i:Nat) (h:i<19) (x y:Expr) (hx:RE x) (hy:RE y):RE ⟨5,((i+1:Nat):Int),0,[],[x,y]⟩
 |index (s:List UInt8) (h:zXa s=true) (x:Expr) (hx:RE x):RE ⟨6,0,0,s,[x]⟩
 |call (s:List UInt8) (h:zXa s=true) (l:List Expr) (hl:l.length<=8) (hx:∀x∈l,RE x):RE ⟨7,0,0,s,l⟩
 |read:RE ⟨8,0,0,[],[]⟩
theorem level_pos{o:Int}(h:0<zI o):1<=o/\o<=19:=by
 unfold zI at h
 repeat' split at h
 all_goals omega
mutual
theorem RE_of:∀(e:Expr) (m:Int),zCc e m=true->nbE e=true->RE e
 |⟨k,o,n,s,a⟩,m,h,hn=>by
  rw[zCc,ya]at h;rw[nbE,ya,decide_eq_true_eq]at hn;have ih:=RE_ofs a m h.1 hn.2;have h2:=h.2;clear h;unfold kindR at h2;split at h2
  ·rename_i hk;subst hk;simp at h2;obtain⟨rfl,h3,rfl,h4⟩:=h2;obtain rfl:a=[]:=by simpa using h4
   obtain⟨j,rfl⟩:=Int.eq_ofNat_of_zero_le h3;exact .num j (by have:=hn.1 rfl;omega)
  split at h2
  ·rename_i hk;subst hk;simp at h2;obtain⟨rfl,h3,rfl,h4⟩:=h2;obtain rfl:a=[]:=by simpa using h4
   exact .truth n h3
  split at h2
  ·rename_i hk;subst hk;simp at h2;obtain⟨⟨rfl,rfl⟩,h3,h4⟩:=h2;obtain rfl:a=[]:=by simpa using h4
   exact .var s h3
  split at h2
  ·rename_i hk;subst hk;simp[oneR]at h2;obtain⟨⟨g1,g2⟩,rfl,rfl,h4⟩:=h2;obtain⟨x,rfl⟩:=yM.1 h4;obtain⟨i,rfl⟩:∃i:Nat,o=((i+20:Nat):Int):=⟨(o-20).toNat,by omega⟩
   exact .one i (by omega) x (ih x (by simp))
  split at h2
  ·rename_i hk;subst hk;simp at h2;obtain⟨g1,rfl,rfl,h4⟩:=h2;obtain⟨g1,g2⟩:=level_pos g1;obtain⟨i,rfl⟩:∃i:Nat,o=((i+1:Nat):Int):=⟨(o-1).toNat,by omega⟩
   match a,h4 with
   | [x,y],_=>exact .two i (by omega) x y (ih x (by simp)) (ih y (by simp))
  split at h2
  ·rename_i hk;subst hk;simp at h2;obtain⟨⟨rfl,rfl⟩,h3,h4⟩:=h2;obtain⟨x,rfl⟩:=yM.1 h4;exact .index s h3 x (ih x (by simp))
  split at h2
  ·rename_i hk;subst hk;simp at h2;obtain⟨⟨rfl,rfl⟩,h3,h4⟩:=h2;exact .call s h3 a (by omega) ih
  split at h2
  ·rename_i hk;subst hk;simp at h2;obtain⟨⟨rfl,rfl⟩,rfl,h4⟩:=h2;obtain rfl:a=[]:=by simpa using h4
   exact .read
  ·simp at h2
theorem RE_ofs:∀(l:List Expr) (m:Int),zdc l m=true->nbEs l=true->∀x∈l,RE x
 | [],_,_,_=>by simp
 |y::r,m,h,hn=>by
  rw[zdc,ya,ya]at h;rw[nbEs,ya]at hn;intro x hx;rcases yia.1 hx with e|hx
  ·rw[e];exact RE_of y _ h.1.2 hn.1
  ·exact RE_ofs r m h.2 hn.2 x hx
end
def typX(t:Int):List UInt8:=if t=1 then[105,110,116]else[98,111,111,108]
def stX(k t:Int)(s:List UInt8)(a:List Expr)(tabs th el:List UInt8)(no:Bool):List UInt8:=
 if k=1 then typX t++32::(s++32::61::32::(xE (a.headD e00)++[59,10]))
 else if k=2 then s++32::61::32::(xE (a.headD e00)++[59,10])
 else if k=3 then s++91::(xE (a.headD e00)++93::32::61::32::(xE (a.tail.headD e00)++[59,10]))
 else if k=4 then 105::102::32::40::(xE (a.headD e00)++41::32::123::10::(th++(tabs++125::((if no then[]else 32::101::108::115::101::32::123::10::(el++(tabs++[125])))++[10]))))
 else if k=5 then 119::104::105::108::101::32::40::(xE (a.headD e00)++41::32::123::10::(th++(tabs++[125,10])))
 else if k=6 then[98,114,101,97,107,59,10]
 else if k=7 then[99,111,110,116,105,110,117,101,59,10]
 else if k=8 then 114::101::116::117::114::110::32::(xE (a.headD e00)++[59,10])
 else if k=9 then 112::114::105::110::116::40::(xE (a.headD e00)++[41,59,10])
 else xE (a.headD e00)++[59,10]
def stT(k t:Int)(s:List UInt8)(a:List Expr)(th el:List KT)(no:Bool):List KT:=
 if k=1 then(2,typX t)::(1,s)::(2,[61])::(tE (a.headD e00)++[(2,[59])])
 else if k=2 then(1,s)::(2,[61])::(tE (a.headD e00)++[(2,[59])])
 else if k=3 then(1,s)::(2,[91])::(tE (a.headD e00)++(2,[93])::(2,[61])::(tE (a.tail.headD e00)++[(2,[59])]))
 else if k=4 then(2,[105,102])::(2,[40])::(tE (a.headD e00)++(2,[41])::(2,[123])::(th++(2,[125])::(if no then[]else(2,[101,108,115,101])::(2,[123])::(el++[(2,[125])]))))
 else if k=5 then(2,[119,104,105,108,101])::(2,[40])::(tE (a.headD e00)++(2,[41])::(2,[123])::(th++[(2,[125])]))
 else if k=6 then[(2,[98,114,101,97,107]),(2,[59])]
 else if k=7 then[(2,[99,111,110,116,105,110,117,101]),(2,[59])]
 else if k=8 then(2,[114,101,116,117,114,110])::(tE (a.headD e00)++[(2,[59])])
 else if k=9 then(2,[112,114,105,110,116])::(2,[40])::(tE (a.headD e00)++[(2,[41]),(2,[59])])
 else tE (a.headD e00)++[(2,[59])]
mutual
def xS:Stmt->List UInt8->List UInt8
 |⟨k,t,s,a,th,el⟩,tabs=>tabs++stX k t s a tabs (xSs th (tabs++[9])) (xSs el (tabs++[9])) el.isEmpty
def xSs:List Stmt->List UInt8->List UInt8
 | [],_=>[]
 |x::r,tabs=>xS x tabs++xSs r tabs
end
mutual
def tS:Stmt->List KT
 |⟨k,t,s,a,th,el⟩=>stT k t s a (tSs th) (tSs el) el.isEmpty
def tSs:List Stmt->List KT
 | []=>[]
 |x::r=>tS x++tSs r
end
theorem xS_let(t:Int)(s:List UInt8)(x:Expr)(tabs:List UInt8):xS ⟨1,t,s,[x],[],[]⟩ tabs=tabs++(typX t++32::(s++32::61::32::(xE x++[59,10]))):=rfl
theorem tS_let(t:Int)(s:List UInt8)(x:Expr):tS ⟨1,t,s,[x],[],[]⟩=(2,typX t)::(1,s)::(2,[61])::(tE x++[(2,[59])]):=rfl
theorem xS_set(s:List UInt8)(x:Expr)(tabs:List UInt8):xS ⟨2,0,s,[x],[],[]⟩ tabs=tabs++(s++32::61::32::(xE x++[59,10])):=rfl
theorem tS_set(s:List UInt8)(x:Expr):tS ⟨2,0,s,[x],[],[]⟩=(1,s)::(2,[61])::(tE x++[(2,[59])]):=rfl
theorem xS_put(s:List UInt8)(x y:Expr)(tabs:List UInt8):xS ⟨3,0,s,[x,y],[],[]⟩ tabs=tabs++(s++91::(xE x++93::32::61::32::(xE y++[59,10]))):=rfl
theorem tS_put(s:List UInt8)(x y:Expr):tS ⟨3,0,s,[x,y],[],[]⟩=(1,s)::(2,[91])::(tE x++(2,[93])::(2,[61])::(tE y++[(2,[59])])):=rfl
theorem xS_if(x:Expr)(th el:List Stmt)(tabs:List UInt8):xS ⟨4,0,[],[x],th,el⟩ tabs=tabs++(105::102::32::40::(xE x++41::32::123::10::(xSs th (tabs++[9])++(tabs++125::((if el.isEmpty then[]else 32::101::108::115::101::32::123::10::(xSs el (tabs++[9])++(tabs++[125])))++[10]))))):=rfl
theorem tS_if(x:Expr)(th el:List Stmt):tS ⟨4,0,[],[x],th,el⟩=(2,[105,102])::(2,[40])::(tE x++(2,[41])::(2,[123])::(tSs th++(2,[125])::(if el.isEmpty then[]else(2,[101,108,115,101])::(2,[123])::(tSs el++[(2,[125])])))):=rfl
theorem xS_while(x:Expr)(th:List Stmt)(tabs:List UInt8):xS ⟨5,0,[],[x],th,[]⟩ tabs=tabs++(119::104::105::108::101::32::40::(xE x++41::32::123::10::(xSs th (tabs++[9])++(tabs++[125,10])))):=rfl
theorem tS_while(x:Expr)(th:List Stmt):tS ⟨5,0,[],[x],th,[]⟩=(2,[119,104,105,108,101])::(2,[40])::(tE x++(2,[41])::(2,[123])::(tSs th++[(2,[125])])):=rfl
def dpA(l:List Expr):Bool:=l.all fun e=>decide (hE e<=99)&&nbE e
mutual
def dpS:Stmt->Bool
 |⟨k,t,s,a,th,el⟩=>dpA a&&(dpSs th&&dpSs el)
def dpSs:List Stmt->Bool
 | []=>true
 |x::r=>dpS x&&dpSs r
end
theorem xSs_app(a b:List Stmt)(t:List UInt8):xSs (a++b) t=xSs a t++xSs b t:=by
 induction a with
 |nil=>rfl
 |cons x r ih=>rw[yk,xSs,xSs,ih,ym]
theorem tSs_app(a b:List Stmt):tSs (a++b)=tSs a++tSs b:=by
 induction a with
 |nil=>rfl
 |cons x r ih=>rw[yk,tSs,tSs,ih,ym]
theorem dpSs_app(a b:List Stmt):dpSs (a++b)=(dpSs a&&dpSs b):=by
 induction a with
 |nil=>rfl
 |cons x r ih=>rw[yk,dpSs,dpSs,ih,Bool.and_assoc]
inductive RS:Nat->Stmt->Prop
 |lets (m:Nat) (t:Int) (s:List UInt8) (x:Expr) (ht:t=1\/t=2) (hs:zXa s=true) (hx:RE x) (hd:hE x<=99):RS (m+1) ⟨1,t,s,[x],[],[]⟩
 |sets (m:Nat) (s:List UInt8) (x:Expr) (hs:zXa s=true) (hx:RE x) (hd:hE x<=99):RS (m+1) ⟨2,0,s,[x],[],[]⟩
 |puts (m:Nat) (s:List UInt8) (x y:Expr) (hs:zXa s=true) (hx:RE x) (hd:hE x<=99) (hy:RE y) (hd2:hE y<=99):RS (m+1) ⟨3,0,s,[x,y],[],[]⟩
 |ifs (m:Nat) (x:Expr) (th el:List Stmt) (hx:RE x) (hd:hE x<=99) (h1:∀y∈th,RS m y) (h2:∀y∈el,RS m y):RS (m+1) ⟨4,0,[],[x],th,el⟩
 |whiles (m:Nat) (x:Expr) (th:List Stmt) (hx:RE x) (hd:hE x<=99) (h1:∀y∈th,RS m y):RS (m+1) ⟨5,0,[],[x],th,[]⟩
 |breaks (m:Nat):RS (m+1) ⟨6,0,[],[],[],[]⟩
 |continues (m:Nat):RS (m+1) ⟨7,0,[],[],[],[]⟩
 |returns (m:Nat) (x:Expr) (hx:RE x) (hd:hE x<=99):RS (m+1) ⟨8,0,[],[x],[],[]⟩
 |prints (m:Nat) (x:Expr) (hx:RE x) (hd:hE x<=99):RS (m+1) ⟨9,0,[],[x],[],[]⟩
 |does (m:Nat) (s:List UInt8) (l:List Expr) (hx:RE ⟨7,0,0,s,l⟩) (hd:hE ⟨7,0,0,s,l⟩<=99):RS (m+1) ⟨10,0,[],[⟨7,0,0,s,l⟩],[],[]⟩
theorem argsRE_of{l:List Expr}(h:argsR l=true)(hd:dpA l=true):∀x∈l,RE x/\hE x<=99:=by
 intro x hx;have h1:=yr.1 h x hx;have h2:=yr.1 hd x hx;simp only[ya,decide_eq_true_eq]at h2;exact⟨RE_of x 100 h1 h2.2,h2.1⟩
mutual
theorem RS_of:∀(s:Stmt) (m:Nat),zTc s (m:Int)=true->dpS s=true->RS m s
 |⟨k,t,s,a,th,el⟩,m,h,hd=>by
  rw[zTc]at h;simp only[ya]at h;obtain⟨h1,h2,h3,⟨h4,h5⟩,h6,h7⟩:=h;rw[dpS]at hd;simp only[ya]at hd;obtain⟨d1,d2,d3⟩:=hd;have hA:=argsRE_of h2 d1;unfold headR at h1;simp only[yC,ywa,decide_eq_false_iff_not]at h1;obtain⟨g1,g2,g3⟩:=h1;obtain⟨m,rfl⟩:∃j,m=j+1:=⟨m-1,by omega⟩
  have em:((m+1:Nat):Int)-1=(m:Int):=by omega
  rw[em]at h6 h7;have ih1:=RS_ofs th m h6 d2;have ih2:=RS_ofs el m h7 d3;simp only[Decidable.not_not]at g2;clear h6 h7 d1 d2 d3 h2 em;by_cases k1:k=1
  ·subst k1;simp[zna]at g2 g3 h4 h5;obtain⟨x,rfl⟩:=yM.1 (by omega:a.length=1);subst h4;subst h5;have hx:=hA x (by simp);exact .lets m t s x (by grind) (by grind) hx.1 hx.2
  by_cases k2:k=2
  ·subst k2;simp[zna]at g2 g3 h4 h5;obtain⟨x,rfl⟩:=yM.1 (by omega:a.length=1);subst h4;subst h5;have hx:=hA x (by simp);obtain rfl:t=0:=by grind
   exact .sets m s x (by grind) hx.1 hx.2
  by_cases k3:k=3
  ·subst k3;simp[zna]at g2 g3 h4 h5
   match a,(by omega:a.length=2),hA with
   | [x,y],_,hA=>
    subst h4;subst h5;have hx:=hA x (by simp);have hy:=hA y (by simp);obtain rfl:t=0:=by grind
    exact .puts m s x y (by grind) hx.1 hx.2 hy.1 hy.2
  by_cases k4:k=4
  ·subst k4;simp[zna]at g2 g3 h4 h5;obtain⟨x,rfl⟩:=yM.1 (by omega:a.length=1);have hx:=hA x (by simp);obtain rfl:t=0:=by grind
   obtain rfl:s=[]:=by grind
   exact .ifs m x th el hx.1 hx.2 ih1 ih2
  by_cases k5:k=5
  ·subst k5;simp[zna]at g2 g3 h4 h5;obtain⟨x,rfl⟩:=yM.1 (by omega:a.length=1);have hx:=hA x (by simp);obtain rfl:t=0:=by grind
   obtain rfl:s=[]:=by grind
   subst h5;exact .whiles m x th hx.1 hx.2 ih1
  by_cases k6:k=6
  ·subst k6;simp[zna]at g2 g3 h4 h5;obtain rfl:a=[]:=yy (by simpa using g2);obtain rfl:t=0:=by grind
   obtain rfl:s=[]:=by grind
   subst h4;subst h5;exact .breaks m
  by_cases k7:k=7
  ·subst k7;simp[zna]at g2 g3 h4 h5;obtain rfl:a=[]:=yy (by simpa using g2);obtain rfl:t=0:=by grind
   obtain rfl:s=[]:=by grind
   subst h4;subst h5;exact .continues m
  by_cases k8:k=8
  ·subst k8;simp[zna]at g2 g3 h4 h5;obtain⟨x,rfl⟩:=yM.1 (by omega:a.length=1);have hx:=hA x (by simp);obtain rfl:t=0:=by grind
   obtain rfl:s=[]:=by grind
   subst h4;subst h5;exact .returns m x hx.1 hx.2
  by_cases k9:k=9
  ·subst k9;simp[zna]at g2 g3 h4 h5;obtain⟨x,rfl⟩:=yM.1 (by omega:a.length=1);have hx:=hA x (by simp);obtain rfl:t=0:=by grind
   obtain rfl:s=[]:=by grind
   subst h4;subst h5;exact .prints m x hx.1 hx.2
  by_cases k10:k=10
  ·subst k10;simp[zna]at g2 g3 h4 h5;obtain⟨x,rfl⟩:=yM.1 (by omega:a.length=1);have hx:=hA x (by simp);obtain rfl:t=0:=by grind
   obtain rfl:s=[]:=by grind
   subst h4;subst h5;simp[doR]at h3;obtain⟨hx1,hx2⟩:=hx;cases hx1 with
   |call s h l hl hx=>exact .does m s l (.call s h l hl hx) hx2
   |_=>simp at h3
  ·exfalso;simp[zna,k1,k2,k3,k4,k5,k6,k7,k8,k9,k10]at g2
theorem RS_ofs:∀(l:List Stmt) (m:Nat),zoa l (m:Int)=true->dpSs l=true->∀x∈l,RS m x
 | [],_,_,_=>by simp
 |y::r,m,h,hn=>by
  rw[zoa,ya]at h;rw[dpSs,ya]at hn;intro x hx;rcases yia.1 hx with e|hx
  ·rw[e];exact RS_of y _ h.1 hn.1
  ·exact RS_ofs r m h.2 hn.2 x hx
end
def arrX(a:PArr):List UInt8:=105::110::116::32::(a.name++91::(zla a.size.toNat++[93,59,10]))
def parX(p:Par):List UInt8:=typX p.type++32::p.name
def funX(f:Func):List UInt8:=typX f.type++32::(f.name++40::(zfa (f.params.map parX)++41::32::123::10::(xSs f.body [9]++[125,10])))
def zXb(p:Prog):List UInt8:=(p.arrays.map arrX).flatten++(p.funcs.map funX).flatten
def arrT(a:PArr):List KT:=[(2,[105,110,116]),(1,a.name),(2,[91]),(0,zla a.size.toNat),(2,[93]),(2,[59])]
def parT(p:Par):List KT:=[(2,typX p.type),(1,p.name)]
def funT(f:Func):List KT:=(2,typX f.type)::(1,f.name)::(2,[40])::(zS (f.params.map parT)++(2,[41])::(2,[123])::(tSs f.body++[(2,[125])]))
def zkc(p:Prog):List KT:=(p.arrays.map arrT).flatten++(p.funcs.map funT).flatten
def RA(a:PArr):Prop:=zXa a.name=true/\1<=a.size/\a.size<=1000
def RPar(p:Par):Prop:=zXa p.name=true/\(p.type=1\/p.type=2)
def RF(f:Func):Prop:=zXa f.name=true/\(f.type=1\/f.type=2)/\f.params.length<=8/\(∀x∈f.params,RPar x)/\∀s∈f.body,RS 100 s
def RP(p:Prog):Prop:=(∀a∈p.arrays,RA a)/\∀f∈p.funcs,RF f
def dpP(p:Prog):Bool:=p.funcs.all fun f=>dpSs f.body
theorem RP_of{p:Prog}(h:zjc p=true)(hd:dpP p=true):RP p:=by
 unfold zjc at h;rw[ya]at h;refine⟨fun a ha=>?_,fun f hf=>?_⟩
 ·have:=yr.1 h.1 a ha;simp only[arrR,ya,decide_eq_true_eq]at this;exact this
 ·have h1:=yr.1 h.2 f hf;have h2:=yr.1 hd f hf;simp only[funcR,ya,yF,decide_eq_true_eq]at h1;obtain⟨a1,a2,a3,a4,a5⟩:=h1;refine⟨a1,a2,a3,fun x hx=>?_,RS_ofs f.body 100 a4 h2⟩;have:=yr.1 a5 x hx;simp only[parR,ya,yF,decide_eq_true_eq]at this;exact this
theorem digits_spec':∀(k n:Nat),n<10^(k+1)->n<=9223372036854775807->k<=100->zk E 23 [.int .i64 n] []=some (.ret (.str (digF (k+1) n)),[])
 |k,n,h,hn,hk=>by
  refine zc rfl rfl rfl (by simp) ?_;have hm:n%10<10:=Nat.mod_lt _ (by omega);obtain⟨z,hz,z0,z9⟩:∃z:Int,z=((n%10:Nat):Int)/\0<=z/\z<10:=⟨_,rfl,by omega,by omega⟩
  have hr:remK (n:Int) 10=z:=by rw[hz,remK_eq];rfl
  have hw:zra .i64 (48+z)=48+z:=by rw[zp]<;>omega
  have hw8:zra .u8 (48+z)=48+z:=by rw[zRd,IntKind.wrap_u8];omega
  have hu:yY (48+z).toNat=yY (48+n%10):=by congr 1;omega
  by_cases h10:n<10
  ·have c1:((n:Int)<10)=True:=eqp (by omega);have hd:digF (k+1) n=[yY (48+n%10)]:=by rw[digF,if_pos h10,Nat.mod_eq_of_lt h10]
   rw[hd];generalize yY (48+n%10)=y at*;clear hz hd h h10 hm;simp[*,F23]
  ·cases k with
   |zero=>simp at h;omega
   |succ k=>
    have c1:((n:Int)<10)=False:=eqn (by omega);have hd:digF (k+1+1) n=digF (k+1) (n/10)++[yY (48+n%10)]:=by rw[digF,if_neg h10]
    rw[hd];have ih:=digits_spec' k (n/10) (by rw[yLa]at h;omega) (by omega) (by omega);have hl:=digF_len (k+1) (n/10);have hl2:(digF (k+1) (n/10)).length+1<=9223372036854775807:=by omega
    have hl3:(digF (k+1) (n/10)).length<=9223372036854775806:=by omega
    have hq:(n:Int).tdiv 10=((n/10:Nat):Int):=rfl;have hwq:zra .i64 ((n/10:Nat):Int)=((n/10:Nat):Int):=by rw[zp]<;>omega
    obtain⟨q,hq2⟩:∃q:Int,q=((n/10:Nat):Int):=⟨_,rfl⟩
    rw[<-hq2]at ih hq hwq;generalize yY (48+n%10)=y at*;generalize digF (k+1) (n/10)=dg at*;clear hz hd h h10 hm hl hq2;simp[*,F23]
theorem digits_spec(n:Nat)(hn:n<=9223372036854775807):zk E 23 [.int .i64 n] []=some (.ret (.str (zla n)),[]):=
 digits_spec' 19 n (Nat.lt_of_le_of_lt hn (by decide)) hn (by omega)
theorem gI{cf:zH}{s0 s:St}{r:List GOp}{Q:Ex->St->Prop}{a:_}{b:_}{o:_}{x:_}{c:Prop}[Decidable c](hc:c)(h:after cf s0 r Q (doOp a b o s (some x))):after cf s0 r Q (doOp a b o s (if c then some x else none)):=by rw[if_pos hc];exact h
theorem part_of(e:Expr)(L:Int)(hp:zk E 45 [zA e] []=some (.ret (.str (xE e)),[]))(hl:(xE e).length<=1000000):zk E 74 [zA e,.int .i64 L] []=some (.ret (.str (brX e L (xE e))),[]):=by
 refine zc rfl rfl rfl (by simp[za]) ?_;have hv:=zVd e.op;unfold brX brP;generalize xE e=t at*;obtain⟨k,o,n,s,a⟩:=e;simp only at hv ⊢;generalize zI o=l at*;simp[za,zd]at hp;by_cases hk:k=5
 ·have hk':=eqp hk;by_cases hL:l<L
  ·have hL':=eqp hL;clear hk hL
   (simp[*,za,zd,F74])<;>(repeat' (refine gI (by omega) ?_<;>simp[*,za,zd,F74]))<;>(try omega)
  ·have hL':=eqn hL;clear hk hL;simp[*,za,zd,F74]
 ·have hk':=eqn hk;clear hk;simp[*,za,zd,F74]
theorem zfe:∀(l:List (List UInt8)) (x:List UInt8),zfa (l++[x])=if l=[]then x else zfa l++([44,32]++x)
 | [],x=>rfl
 | [y],x=>by simp[zfa]
 |y::z::l,x=>by
  have ih:=zfe (z::l) x;rw[if_neg (by simp)]at ih ⊢;simp only[yk]at ih ⊢;simp only[zfa]at ih ⊢;rw[ih];simp
theorem commaX_pre:∀(l:List (List UInt8)) (r:List (List UInt8)),(zfa l).length<=(zfa (l++r)).length
 |l,[]=>by simp
 |l,x::r=>by
  have h1:=commaX_pre (l++[x]) r;have h2:(zfa l).length<=(zfa (l++[x])).length:=by
   rw[zfe];split
   ·rename_i h;subst h;simp[zfa]
   ·simp
  rw[ym]at h1;exact yha h2 h1
theorem commaX_mem:∀(l:List (List UInt8)) (x:List UInt8),x∈l->x.length<=(zfa l).length
 | [y],x,h=>by
  have:x=y:=by simpa using h
  rw[this];exact yh _
 |y::z::l,x,h=>by
  rcases yia.1 h with rfl|h
  ·simp[zfa]
  ·have:=commaX_mem (z::l) x h;simp only[zfa,ye,yd];omega
set_option maxHeartbeats 4000000 in
theorem zjb{e:Expr}(h:RE e):(xE e).length<=1000000->zk E 45 [zA e] []=some (.ret (.str (xE e)),[]):=by
 induction h with
 |num n h=>
  intro hl;refine zc rfl rfl rfl (by simp[zA]) ?_;have hd:=digits_spec n h;have e1:xE ⟨1,0,(n:Int),[],[]⟩=zla n:=rfl;rw[e1];simp[*,za,zd,F45]
 |truth n h=>
  intro hl;refine zc rfl rfl rfl (by simp[zA]) ?_;rcases h with rfl|rfl
  ·have e1:xE ⟨2,0,0,[],[]⟩=[102,97,108,115,101]:=rfl;rw[e1];simp[*,za,zd,F45]
  ·have e1:xE ⟨2,0,1,[],[]⟩=[116,114,117,101]:=rfl;rw[e1];simp[*,za,zd,F45]
 |var s h=>
  intro hl;refine zc rfl rfl rfl (by simp[zA]) ?_;have e1:xE ⟨3,0,0,s,[]⟩=s:=rfl;rw[e1];simp[*,za,zd,F45]
 |one i h x hx ih=>
  intro hl;have hall:∀j,j<9->(zP ((j+20:Nat):Int)).length<=3:=by decide
  have hs3:=hall i h;have hsg:=zNc ((i+20:Nat):Int);by_cases hc:(23:Int)<=((i+20:Nat):Int)
  ·have e1:xE ⟨4,((i+20:Nat):Int),0,[],[x]⟩=zP ((i+20:Nat):Int)++40::(xE x++[41]):=by
    rw[xE_one,if_pos hc]
   rw[e1]at hl ⊢;simp only[ye,yd,yg]at hl;have hx1:=ih (by omega);have hlx:(xE x).length<=1000000:=by omega
   refine zc rfl rfl rfl (by simp[zA]) ?_;have hc':=eqp hc;generalize((i+20:Nat):Int)=o at*;generalize xE x=t at*;generalize zP o=sg at*;clear hc ih hl h hall;simp[za,zd]at hx1
   (simp[*,za,zd,F45])<;>(repeat' (refine gI (by omega) ?_<;>simp[*,za,zd,F45]))<;>(try omega)
  ·have e1:xE ⟨4,((i+20:Nat):Int),0,[],[x]⟩=zP ((i+20:Nat):Int)++brX x 11 (xE x):=by
    rw[xE_one,if_neg hc]
   have hbl:(xE x).length<=(brX x 11 (xE x)).length/\(brX x 11 (xE x)).length<=(xE x).length+2:=by unfold brX;split<;>simp<;>omega
   rw[e1]at hl ⊢;simp only[ye]at hl;have hlx:(xE x).length<=1000000:=by omega
   have hx1:=part_of x 11 (ih hlx) hlx;refine zc rfl rfl rfl (by simp[zA]) ?_;have hc':=eqn hc;have hlb:(brX x 11 (xE x)).length<=1000000:=by omega
   generalize((i+20:Nat):Int)=o at*;generalize brX x 11 (xE x)=t at*;generalize zP o=sg at*;clear hc ih hl h hall hbl hlx;simp[za,zd]at hx1
   (simp[*,za,zd,F45])<;>(repeat' (refine gI (by omega) ?_<;>simp[*,za,zd,F45]))<;>(try omega)
 |two i h x y hx hy ihx ihy=>
  intro hl;have hall:∀j,j<19->(zP ((j+1:Nat):Int)).length<=3/\1<=zI ((j+1:Nat):Int)/\zI ((j+1:Nat):Int)<=10:=by decide
  obtain⟨hs3,hl1,hl2⟩:=hall i h;have hsg:=zNc ((i+1:Nat):Int);have hlv:=zVd ((i+1:Nat):Int);have e1:xE ⟨5,((i+1:Nat):Int),0,[],[x,y]⟩=brX x (zI ((i+1:Nat):Int)) (xE x)++32::(zP ((i+1:Nat):Int)++32::brX y (zI ((i+1:Nat):Int)+1) (xE y)):=by
   rw[xE_two]
  have hbl:∀(e:Expr) (L:Int),(xE e).length<=(brX e L (xE e)).length/\(brX e L (xE e)).length<=(xE e).length+2:=by intro e L;unfold brX;split<;>simp<;>omega
  rw[e1]at hl ⊢;simp only[ye,yd]at hl;have b1:=hbl x (zI ((i+1:Nat):Int));have b2:=hbl y (zI ((i+1:Nat):Int)+1);have hlx:(xE x).length<=1000000:=by omega
  have hly:(xE y).length<=1000000:=by omega
  have hx1:=part_of x (zI ((i+1:Nat):Int)) (ihx hlx) hlx;have hy1:=part_of y (zI ((i+1:Nat):Int)+1) (ihy hly) hly;refine zc rfl rfl rfl (by simp[zA]) ?_;have hw:zra .i64 (zI ((i+1:Nat):Int)+1)=zI ((i+1:Nat):Int)+1:=zp (by omega) (by omega);have hlb:(brX x (zI ((i+1:Nat):Int)) (xE x)).length<=1000000:=by omega
  have hlc:(brX y (zI ((i+1:Nat):Int)+1) (xE y)).length<=1000000:=by omega
  generalize((i+1:Nat):Int)=o at*;generalize zI o=lv at*;generalize brX x lv (xE x)=t at*;generalize brX y (lv+1) (xE y)=t2 at*;generalize zP o=sg at*;clear ihx ihy hl h hall hbl hlx hly b1 b2 hl1 hl2;simp[za,zd]at hx1 hy1
  (simp[*,za,zd,F45])<;>(repeat' (refine gI (by omega) ?_<;>simp[*,za,zd,F45]))<;>(try omega)
 |index s h x hx ih=>
  intro hl;have e1:xE ⟨6,0,0,s,[x]⟩=s++91::(xE x++[93]):=rfl;rw[e1]at hl ⊢;simp only[ye,yd,yg]at hl;have hx1:=ih (by omega);have hlx:(xE x).length<=1000000:=by omega
  have hls:s.length<=1000000:=by omega
  refine zc rfl rfl rfl (by simp[zA]) ?_;generalize xE x=t at*;clear ih hl h;simp[za,zd]at hx1
  (simp[*,za,zd,F45])<;>(repeat' (refine gI (by omega) ?_<;>simp[*,za,zd,F45]))<;>(try omega)
 |call s h l hll hx ih=>
  intro hl;have e1:xE ⟨7,0,0,s,l⟩=s++40::(zfa (l.map xE)++[41]):=by rw[<-xEs_eq];rfl
  rw[e1]at hl ⊢;simp only[ye,yd,yg]at hl;have hlx:(zfa (l.map xE)).length<=1000000:=by omega
  have hls:s.length<=1000000:=by omega
  refine zc rfl rfl rfl (by simp[zA]) ?_;clear h hx hl;simp[F45,za,zd];refine zsa l K45_0 B45_0 (fun d=>[(4,.str (zfa (d.map xE))),(5,.int .i64 d.length)]) (fun _=>[]) (fun d=>True) (by omega) (by simp[zfa]) ?_ ?_
  ·intros d x r s1 hl' hlt hget hget' hw1 hp h1 h2 h3 h4;simp at h1 h2 h3;have hm:x∈l:=hl'.mem;have hxl:(xE x).length<=1000000:=yha (commaX_mem (l.map xE) (xE x) (List.mem_map_of_mem hm)) hlx;have hx1:=ih x hm hxl;have hdl:(zfa (d.map xE)).length<=1000000:=by
    have:l.map xE=d.map xE++(x::r).map xE:=by rw[<-yMa,<-hl'.eq]
    have h5:=commaX_pre (d.map xE) ((x::r).map xE);rw[<-this]at h5;omega
   have hsn:zfa ((d++[x]).map xE)=if d=[]then xE x else zfa (d.map xE)++([44,32]++xE x):=by
    rw[yMa];have:=zfe (d.map xE) (xE x);simp only[List.map_eq_nil_iff]at this;exact this
   have hdec:decide (d.length<l.length)=true:=decide_eq_true hlt;by_cases hd:d=[]
   ·subst hd;rw[if_pos rfl]at hsn;simp at hsn;simp only[yg]at hget hget';have hlt0:(0<l.length)=True:=eqp (by simpa using hlt);have hne0:(l=[])=False:=eqn (by rintro rfl;simp at hlt);clear ih hl' hm hll hlx hdl;generalize hxt:xE x=t at*;have hw0:zra .i64 (1:Int)=1:=zp (by omega) (by omega);simp[zfa]at h1 h3 ⊢;simp[za,zd]at hx1
    (simp[*,za,zd])<;>(repeat' (refine gI (by omega) ?_<;>simp[*,za,zd]))<;>(try omega)
   ·rw[if_neg hd]at hsn;have hpos:¬d.length=0:=fun h=>hd (List.length_eq_zero_iff.1 h)
    have hgt:((0:Int)<d.length)=True:=eqp (by omega);have hgt2:(0<d.length)=True:=eqp (by omega);generalize zfa (d.map xE)=c at*;generalize xE x=t at*;clear ih hl' hm hll hlx hd;simp at hsn;simp[za,zd]at hx1
    (simp[*,za,zd])<;>(repeat' (refine gI (by omega) ?_<;>simp[*,za,zd]))<;>(try omega)
  ·intros s1 hp h1 h2 h3 h4;simp at h1 h2 h3;generalize zfa (l.map xE)=c at*;clear ih hll
   (simp[*])<;>(repeat' (refine gI (by omega) ?_<;>simp[*]))<;>(try omega)
 |read=>
  intro hl;refine zc rfl rfl rfl (by simp[zA]) ?_;have e1:xE ⟨8,0,0,[],[]⟩=[114,101,97,100,40,41]:=rfl;rw[e1];simp[*,za,zd,F45]
theorem xtypes_spec(t:Int):zk E 24 [.int .i64 t] []=some (.ret (.str (typX t)),[]):=by
 refine zc rfl rfl rfl (by simp) ?_;unfold typX;by_cases h:t=1
 ·have h':=eqp h;clear h;simp[*,F24]
 ·have h':=eqn h;clear h;simp[*,F24]
theorem xSs_pre(d r:List Stmt)(t:List UInt8):(xSs d t).length<=(xSs (d++r) t).length:=by rw[xSs_app,ye];omega
set_option maxHeartbeats 8000000 in
theorem rblock_spec:∀(m:Nat) (l:List Stmt),(∀s∈l,RS m s)->m<=100->∀tabs:List UInt8,tabs.length+m<=1000->(xSs l tabs).length<=1000000->zk E 25 [zl l,.str tabs] []=some (.ret (.str (xSs l tabs)),[]):=by
 intro m
 induction m with
 |zero=>
  intro l hR _ tabs ht hl;have:l=[]:=by
   cases l with
   |nil=>rfl
   |cons x r=>have:=hR x (by simp);cases this
  subst this;refine zc rfl rfl rfl (by simp[zl]) ?_;simp[F25,zl,xSs];refine zsa ([]:List Stmt) K25_0 B25_0 (fun d=>[(5,.str (xSs d tabs)),(6,.int .i64 d.length)]) (fun _=>[]) (fun d=>True) (by simp) (by simp[xSs]) ?_ ?_
  ·intros d x r s1 hl' hlt;simp at hlt
  ·intros s1 hp h1 h2 h3 h4;simp at h1 h2 h3;simp[*,xSs]
 |succ m IH=>
  intro l hR hm tabs ht hl;have IH:=fun l h=>IH l h (by omega)
  have hlen:l.length<=1000000:=by
   have:∀l:List Stmt,(∀s∈l,RS (m+1) s)->l.length<=(xSs l tabs).length:=by
    intro l
    induction l with
    |nil=>intro _;exact Nat.zero_le _
    |cons x r ih=>
     intro h;have h1:=ih (fun y hy=>h y (by simp[hy]));have h2:1<=(xS x tabs).length:=by
      have:=h x (by simp);cases this<;>simp[xS,stX]<;>omega
     rw[xSs,ye,yd];omega
   exact yha (this l hR) hl
  refine zc rfl rfl rfl (by simp[zl]) ?_;simp[F25,zl];refine zsa l K25_0 B25_0 (fun d=>[(5,.str (xSs d tabs)),(6,.int .i64 d.length)]) (fun _=>[]) (fun d=>True) (by omega) (by simp[xSs]) ?_ ?_
  ·intros d x r s1 hl' hlt hget hget' hw1 hp h1 h2 h3 h4;simp at h1 h2 h3;have hm:x∈l:=hl'.mem;have hx:=hR x hm;have hdec:decide (d.length<l.length)=true:=decide_eq_true hlt;have hsn:xSs (d++[x]) tabs=xSs d tabs++xS x tabs:=by rw[xSs_app,xSs,xSs,List.append_nil]
   have hsl:(xSs d tabs).length+(xS x tabs).length<=1000000:=by
    have:=xSs_pre (d++[x]) r tabs;rw[<-ye,<-hsn];have e:l=d++[x]++r:=by rw[hl'.eq];simp
    rw[<-e]at this;omega
   generalize hacc:xSs d tabs=acc at*;clear hR hl' hl hlen hacc;cases hx with
   |lets m t s x ht' hs hx hd=>
    have e1:xS ⟨1,t,s,[x],[],[]⟩ tabs=tabs++(typX t++32::(s++32::61::32::(xE x++[59,10]))):=rfl;rw[e1]at hsn hsl;simp only[ye,yd,yg]at hsl;have p1:=zjb hx (by omega);have p2:=xtypes_spec t;have l1:acc.length<=1000000:=by omega
    have l2:(typX t).length<=1000000:=by omega
    have l3:s.length<=1000000:=by omega
    have l4:(xE x).length<=1000000:=by omega
    have l5:tabs.length<=1000000:=by omega
    generalize xE x=ex at*;generalize typX t=tx at*;clear hsl hx hd hs ht' IH ht e1 hm
    try simp at hsn
    simp[za,zd]at p1
    (simp[*,zb,za,zd,zl])<;>(repeat' (refine gI (by omega) ?_<;>simp[*,zb,za,zd,zl]))<;>(try omega)
   |sets m s x hs hx hd=>
    have e1:xS ⟨2,0,s,[x],[],[]⟩ tabs=tabs++(s++32::61::32::(xE x++[59,10])):=rfl;rw[e1]at hsn hsl;simp only[ye,yd,yg]at hsl;have p1:=zjb hx (by omega);have l1:acc.length<=1000000:=by omega
    have l3:s.length<=1000000:=by omega
    have l4:(xE x).length<=1000000:=by omega
    have l5:tabs.length<=1000000:=by omega
    generalize xE x=ex at*;clear hsl hx hd hs IH ht e1 hm
    try simp at hsn
    simp[za,zd]at p1
    (simp[*,zb,za,zd,zl])<;>(repeat' (refine gI (by omega) ?_<;>simp[*,zb,za,zd,zl]))<;>(try omega)
   |puts m s x y hs hx hd hy hd2=>
    have e1:xS ⟨3,0,s,[x,y],[],[]⟩ tabs=tabs++(s++91::(xE x++93::32::61::32::(xE y++[59,10]))):=rfl;rw[e1]at hsn hsl;simp only[ye,yd,yg]at hsl;have p1:=zjb hx (by omega);have p2:=zjb hy (by omega);have l1:acc.length<=1000000:=by omega
    have l3:s.length<=1000000:=by omega
    have l4:(xE x).length<=1000000:=by omega
    have l6:(xE y).length<=1000000:=by omega
    have l5:tabs.length<=1000000:=by omega
    generalize xE x=ex at*;generalize xE y=ey at*;clear hsl hx hd hy hd2 hs IH ht e1 hm
    try simp at hsn
    simp[za,zd]at p1 p2
    (simp[*,zb,za,zd,zl])<;>(repeat' (refine gI (by omega) ?_<;>simp[*,zb,za,zd,zl]))<;>(try omega)
   |ifs m x th el hx hd g1 g2=>
    have e1:xS ⟨4,0,[],[x],th,el⟩ tabs=tabs++(105::102::32::40::(xE x++41::32::123::10::(xSs th (tabs++[9])++(tabs++125::((if el.isEmpty then[]else 32::101::108::115::101::32::123::10::(xSs el (tabs++[9])++(tabs++[125])))++[10]))))):=rfl;have l5:tabs.length<=1000000:=by omega
    have l7:tabs.length+1<=1000000:=by omega
    by_cases hel:el=[]
    ·subst hel;rw[e1]at hsn hsl;simp only[List.isEmpty_nil,if_true,yp,ye,yd,yg]at hsl hsn;have p1:=zjb hx (by omega);have p2:=IH th g1 (tabs++[9]) (by simp;omega) (by omega);have l1:acc.length<=1000000:=by omega
     have l4:(xE x).length<=1000000:=by omega
     have l6:(xSs th (tabs++[9])).length<=1000000:=by omega
     generalize xE x=ex at*;generalize xSs th (tabs++[9])=et at*;clear hsl hx hd g1 g2 IH ht e1 hm;simp[zl]at hsn p2;simp[za,zd]at p1
     (simp[*,zb,za,zd,zl])<;>(repeat' (refine gI (by omega) ?_<;>simp[*,zb,za,zd,zl]))<;>(try omega)
    ·have hie:el.isEmpty=false:=by cases el with|nil=>exact absurd rfl hel|cons a b=>rfl
     rw[e1,hie]at hsn hsl;simp only[if_neg (by decide:¬(false=true)),ye,yd,yg]at hsl hsn;have hpos:¬el.length=0:=fun h=>hel (List.length_eq_zero_iff.1 h)
     have hgt:((0:Int)<el.length)=True:=eqp (by omega);have hgt2:(0<el.length)=True:=eqp (by omega);have p1:=zjb hx (by omega);have p2:=IH th g1 (tabs++[9]) (by simp;omega) (by omega);have p3:=IH el g2 (tabs++[9]) (by simp;omega) (by omega);have l1:acc.length<=1000000:=by omega
     have l4:(xE x).length<=1000000:=by omega
     have l6:(xSs th (tabs++[9])).length<=1000000:=by omega
     have l8:(xSs el (tabs++[9])).length<=1000000:=by omega
     generalize xE x=ex at*;generalize xSs th (tabs++[9])=et at*;generalize xSs el (tabs++[9])=ee at*;clear hsl hx hd g1 g2 IH ht e1 hm hel;simp[zl]at hsn p2 p3;simp[za,zd]at p1
     (simp[*,zb,za,zd,zl])<;>(repeat' (refine gI (by omega) ?_<;>simp[*,zb,za,zd,zl]))<;>(try omega)
   |whiles m x th hx hd g1=>
    have e1:xS ⟨5,0,[],[x],th,[]⟩ tabs=tabs++(119::104::105::108::101::32::40::(xE x++41::32::123::10::(xSs th (tabs++[9])++(tabs++[125,10])))):=rfl;rw[e1]at hsn hsl;simp only[ye,yd,yg]at hsl;have l5:tabs.length<=1000000:=by omega
    have l7:tabs.length+1<=1000000:=by omega
    have p1:=zjb hx (by omega);have p2:=IH th g1 (tabs++[9]) (by simp;omega) (by omega);have l1:acc.length<=1000000:=by omega
    have l4:(xE x).length<=1000000:=by omega
    have l6:(xSs th (tabs++[9])).length<=1000000:=by omega
    generalize xE x=ex at*;generalize xSs th (tabs++[9])=et at*;clear hsl hx hd g1 IH ht e1 hm;simp[zl]at hsn p2;simp[za,zd]at p1
    (simp[*,zb,za,zd,zl])<;>(repeat' (refine gI (by omega) ?_<;>simp[*,zb,za,zd,zl]))<;>(try omega)
   |breaks m=>
    have e1:xS ⟨6,0,[],[],[],[]⟩ tabs=tabs++[98,114,101,97,107,59,10]:=rfl;rw[e1]at hsn hsl;simp only[ye,yd,yg]at hsl;have l1:acc.length<=1000000:=by omega
    have l5:tabs.length<=1000000:=by omega
    clear hsl IH ht e1 hm
    try simp at hsn
    (simp[*,zb,za,zd,zl])<;>(repeat' (refine gI (by omega) ?_<;>simp[*,zb,za,zd,zl]))<;>(try omega)
   |continues m=>
    have e1:xS ⟨7,0,[],[],[],[]⟩ tabs=tabs++[99,111,110,116,105,110,117,101,59,10]:=rfl;rw[e1]at hsn hsl;simp only[ye,yd,yg]at hsl;have l1:acc.length<=1000000:=by omega
    have l5:tabs.length<=1000000:=by omega
    clear hsl IH ht e1 hm
    try simp at hsn
    (simp[*,zb,za,zd,zl])<;>(repeat' (refine gI (by omega) ?_<;>simp[*,zb,za,zd,zl]))<;>(try omega)
   |returns m x hx hd=>
    have e1:xS ⟨8,0,[],[x],[],[]⟩ tabs=tabs++(114::101::116::117::114::110::32::(xE x++[59,10])):=rfl;rw[e1]at hsn hsl;simp only[ye,yd,yg]at hsl;have p1:=zjb hx (by omega);have l1:acc.length<=1000000:=by omega
    have l4:(xE x).length<=1000000:=by omega
    have l5:tabs.length<=1000000:=by omega
    generalize xE x=ex at*;clear hsl hx hd IH ht e1 hm
    try simp at hsn
    simp[za,zd]at p1
    (simp[*,zb,za,zd,zl])<;>(repeat' (refine gI (by omega) ?_<;>simp[*,zb,za,zd,zl]))<;>(try omega)
   |prints m x hx hd=>
    have e1:xS ⟨9,0,[],[x],[],[]⟩ tabs=tabs++(112::114::105::110::116::40::(xE x++[41,59,10])):=rfl;rw[e1]at hsn hsl;simp only[ye,yd,yg]at hsl;have p1:=zjb hx (by omega);have l1:acc.length<=1000000:=by omega
    have l4:(xE x).length<=1000000:=by omega
    have l5:tabs.length<=1000000:=by omega
    generalize xE x=ex at*;clear hsl hx hd IH ht e1 hm
    try simp at hsn
    simp[za,zd]at p1
    (simp[*,zb,za,zd,zl])<;>(repeat' (refine gI (by omega) ?_<;>simp[*,zb,za,zd,zl]))<;>(try omega)
   |does m s q hx hd=>
    have e1:xS ⟨10,0,[],[⟨7,0,0,s,q⟩],[],[]⟩ tabs=tabs++(xE ⟨7,0,0,s,q⟩++[59,10]):=rfl;rw[e1]at hsn hsl;simp only[ye,yd,yg]at hsl;have p1:=zjb hx (by omega);have l1:acc.length<=1000000:=by omega
    have l4:(xE ⟨7,0,0,s,q⟩).length<=1000000:=by omega
    have l5:tabs.length<=1000000:=by omega
    generalize xE ⟨7,0,0,s,q⟩=ex at*;generalize(⟨7,0,0,s,q⟩:Expr)=z at*;clear hsl hx hd IH ht e1 hm
    try simp at hsn
    simp[za,zd]at p1
    (simp[*,zb,za,zd,zl])<;>(repeat' (refine gI (by omega) ?_<;>simp[*,zb,za,zd,zl]))<;>(try omega)
  ·intros s1 hp h1 h2 h3 h4;simp at h1 h2 h3;clear hR IH;simp[*]
theorem flat_snoc{α:Type}(f:α->List UInt8)(d:List α)(x:α):((d++[x]).map f).flatten=(d.map f).flatten++f x:=by simp
theorem flat_pre{α:Type}(f:α->List UInt8)(d r:List α):((d.map f).flatten).length<=(((d++r).map f).flatten).length:=by
 simp[ye]
set_option maxHeartbeats 8000000 in
theorem print_spec(p:Prog)(hz:PSz p)(hR:RP p)(hr:zjc p=true)(hl:(zXb p).length<=100000):zk E 13 [zua p] []=some (.ret (.tup [.str (zXb p),.int .i64 0]),[]):=by
 have hright:=right_spec p hz;obtain⟨z1,z2,z3⟩:=hz;obtain⟨r1,r2⟩:=hR;unfold zXb at hl ⊢;obtain⟨ars,fs⟩:=p;simp only at z1 z2 z3 r1 r2 hl ⊢;rw[hr]at hright;clear hr;rw[ye]at hl;simp[zua,zHb,funcs]at hright;refine zc rfl rfl rfl (by simp[zua]) ?_;simp[*,F13,zua,zHb,funcs];refine zsa ars K13_0 B13_0 (fun d=>[(4,.str ((d.map arrX).flatten)),(5,.int .i64 d.length)]) (fun _=>[]) (fun d=>True) (by omega) (by simp) ?_ ?_
 ·intros d x r s1 hl' hlt hget hget' hw hp h1 h2 h3 h4;simp at h1 h2 h3;obtain⟨x1,x2,x3⟩:=r1 x hl'.mem;have hdec:decide (d.length<ars.length)=true:=decide_eq_true hlt;have hsn:=flat_snoc arrX d x;have hsl:((d.map arrX).flatten).length+(arrX x).length<=100000:=by
   have h5:=flat_pre arrX (d++[x]) r;have e:ars=d++[x]++r:=by rw[hl'.eq];simp
   rw[<-e,hsn,ye]at h5;omega
  have hds:=digits_spec x.size.toNat (by omega);have hcs:((x.size.toNat:Nat):Int)=x.size:=by omega
  rw[hcs]at hds;have e1:arrX x=105::110::116::32::(x.name++91::(zla x.size.toNat++[93,59,10])):=rfl;rw[e1]at hsn hsl;simp only[ye,yd,yg]at hsl;generalize hacc:(d.map arrX).flatten=acc at*;generalize zla x.size.toNat=dg at*;have l1:acc.length<=1000000:=by omega
  have l2:x.name.length<=1000000:=by omega
  have l3:dg.length<=1000000:=by omega
  clear hl' hl hsl hsn r1 r2 z3 x1 x2 x3 hright hcs;obtain⟨nm,sz⟩:=x;simp only at*
  (simp[*,zxa])<;>(repeat' (refine gI (by omega) ?_<;>simp[*,zxa]))<;>(try omega)
 intros s1 hp h1 h2 h3 h4;simp at h1 h2 h3;generalize hA:(ars.map arrX).flatten=A at*;clear hright r1 hA hp;simp[*];refine zsa fs K13_2 B13_2 (fun d=>[(4,.str (A++(d.map funX).flatten)),(6,.int .i64 d.length)]) (fun _=>[]) (fun d=>True) (by omega) (by simp) ?_ ?_
 ·intros d x r s2 hl' hlt hget hget' hw hp g1 g2 g3 g4;simp at g1 g2 g3;obtain⟨x1,x2,x3,x4,x5⟩:=r2 x hl'.mem;obtain⟨y1,y2⟩:=z3 x hl'.mem;have hdec:decide (d.length<fs.length)=true:=decide_eq_true hlt;have hsn:=flat_snoc funX d x;have hsl:A.length+((d.map funX).flatten).length+(funX x).length<=100000:=by
   have h5:=flat_pre funX (d++[x]) r;have e:fs=d++[x]++r:=by rw[hl'.eq];simp
   rw[<-e,hsn,ye]at h5;omega
  have e1:funX x=typX x.type++32::(x.name++40::(zfa (x.params.map parX)++41::32::123::10::(xSs x.body [9]++[125,10]))):=rfl;rw[e1]at hsn hsl;simp only[ye,yd,yg]at hsl;have p1:=xtypes_spec x.type;have p2:=rblock_spec 100 x.body x5 (by omega) [9] (by simp) (by omega);have l1:A.length<=1000000:=by omega
  have l0:((d.map funX).flatten).length<=1000000:=by omega
  have l2:(typX x.type).length<=1000000:=by omega
  have l3:x.name.length<=1000000:=by omega
  have l4:(zfa (x.params.map parX)).length<=1000000:=by omega
  have l5:(xSs x.body [9]).length<=1000000:=by omega
  clear hsn;generalize hD:(d.map funX).flatten=D at*;generalize typX x.type=tx at*;generalize xSs x.body [9]=bx at*;clear hl' hl hsl r2 z3 x1 x2 x5;obtain⟨fnm,fty,ps,body⟩:=x;simp only at*;simp[zl]at p2;simp[*,zQ,parsV,zl];refine zsa ps K13_1 B13_1 (fun e=>[(8,.str (zfa (e.map parX))),(9,.int .i64 e.length)]) (fun _=>[]) (fun e=>True) (by omega) (by simp[zfa]) ?_ ?_
  ·intros e y r' s3 jl jlt jget jget' jw1 jp j1 j2 j3 j4;simp at j1 j2 j3;have jdec:decide (e.length<ps.length)=true:=decide_eq_true jlt;have hyl:(parX y).length<=1000000:=yha (commaX_mem (ps.map parX) (parX y) (List.mem_map_of_mem jl.mem)) l4;have e2:parX y=typX y.type++32::y.name:=rfl;have q1:=xtypes_spec y.type;rw[e2,ye,yd]at hyl;have k1:(typX y.type).length<=1000000:=by omega
   have k2:y.name.length<=1000000:=by omega
   have hel:(zfa (e.map parX)).length<=1000000:=by
    have:ps.map parX=e.map parX++(y::r').map parX:=by rw[<-yMa,<-jl.eq]
    have h5:=commaX_pre (e.map parX) ((y::r').map parX);rw[<-this]at h5;omega
   have hsc:zfa ((e++[y]).map parX)=if e=[]then parX y else zfa (e.map parX)++([44,32]++parX y):=by
    rw[yMa];have:=zfe (e.map parX) (parX y);simp only[List.map_eq_nil_iff]at this;exact this
   rw[e2]at hsc;by_cases he:e=[]
   ·subst he;rw[if_pos rfl]at hsc;simp only[yg]at jget jget';have hlt0:(0<ps.length)=True:=eqp (by simpa using jlt);have hne0:(ps=[])=False:=eqn (by rintro rfl;simp at jlt);have hw0:zra .i64 (1:Int)=1:=zp (by omega) (by omega);simp at hsc;clear jl hyl hel p1 p2 e1;generalize typX y.type=ty at*;simp[zfa]at j1 j3 ⊢;obtain⟨ynm,yty⟩:=y;simp only at*
    (simp[*,encPar])<;>(repeat' (refine gI (by omega) ?_<;>simp[*,encPar]))<;>(try omega)
   ·rw[if_neg he]at hsc;have hpos:¬e.length=0:=fun h=>he (List.length_eq_zero_iff.1 h)
    have hgt:((0:Int)<e.length)=True:=eqp (by omega);have hgt2:(0<e.length)=True:=eqp (by omega);generalize zfa (e.map parX)=c at*;generalize typX y.type=ty at*;clear jl hyl he p1 p2 e1 e2;simp at hsc;obtain⟨ynm,yty⟩:=y;simp only at*
    (simp[*,encPar])<;>(repeat' (refine gI (by omega) ?_<;>simp[*,encPar]))<;>(try omega)
  ·intros s3 jp j1 j2 j3 j4;simp at j1 j2 j3;generalize zfa (ps.map parX)=cm at*
   (simp[*])<;>(repeat' (refine gI (by omega) ?_<;>simp[*]))<;>(try omega)
 ·intros s2 hp g1 g2 g3 g4;simp at g1 g2 g3;clear hl r2 z3;simp[*]
def NN(r:List UInt8):Prop:=zq (r.head?.getD 0)=false
theorem NN.cons{b:UInt8}{r:List UInt8}(h:zq b=false):NN (b::r):=h
theorem takeWhile_stop1{w r:List UInt8}(h1:w.all zq=true)(hr:NN r):(w++r).takeWhile zq=w:=by
 induction w with
 |nil=>
  cases r with
  |nil=>rfl
  |cons b r=>rw[yp,yT,if_neg (by rw[show zq b=false from hr];decide)]
 |cons b w ih=>
  rw[List.all_cons,ya]at h1;rw[yk,yT,if_pos h1.1,ih h1.2]
theorem nameB_not{b:UInt8}(h:zq b=true):¬b=10/\¬blank b=true/\¬b=47:=by
 refine⟨?_,?_,?_⟩
 ·rintro rfl;exact absurd h (by decide)
 ·intro hb;simp only[blank,yF,beq_iff_eq]at hb;rcases hb with(rfl|rfl)|rfl<;>exact absurd h (by decide)
 ·rintro rfl;exact absurd h (by decide)
theorem lexW{w:List UInt8}{k:Int}(h1:w.all zq=true)(h2:w≠ [])(h3:tokBad w (w.head?.getD 0)=false)(h4:zBb w (w.head?.getD 0)=k){r:List UInt8}(hr:NN r):tokS (w++r)=(tokS r).map ((k,w):: ·):=by
 obtain⟨b,q,rfl⟩:=yoa h2;have hh:((b::q).head?.getD 0)=b:=rfl;rw[hh]at h3 h4;have htw:(b::(q++r)).takeWhile zq=b::q:=by
  rw[<-yk];exact takeWhile_stop1 h1 hr
 have hb:zq b=true:=by rw[List.all_cons,ya]at h1;exact h1.1
 obtain⟨n1,n2,n3⟩:=nameB_not hb;have e:tokS ((b::q)++r)=tokK ((q++r).length+1+1) (b::(q++r)):=rfl;rw[e,tokK,if_neg n1,if_neg n2,if_neg (fun h=>n3 h.1),if_pos hb,htw,if_neg (by rw[h3];decide)];have hd:(b::(q++r)).drop (b::q).length=r:=by
  rw[<-yk,List.drop_left]
 rw[hd,tokK_S (by simp;omega),<-h4]
theorem lexB{b:UInt8}(r:List UInt8)(h:blank b=true):tokS (b::r)=tokS r:=by
 have hn:¬b=10:=by rintro rfl;exact absurd h (by decide)
 unfold tokS;rw[yd,tokK,if_neg hn,if_pos h]
theorem lexN(r:List UInt8):tokS (10::r)=tokS r:=by
 unfold tokS;rw[yd,tokK,if_pos rfl]
theorem lexS{w:List UInt8}{r:List UInt8}(h:zsb (w++r)=w)(h2:w≠ [])(h3:zq (w.head?.getD 0)=false)(h4:blank (w.head?.getD 0)=false)(h5:¬w.head?.getD 0=10)(h6:¬(w.head?.getD 0=47/\(w++r).tail.head? =some 47)):
  tokS (w++r)=(tokS r).map ((2,w):: ·):=by
 obtain⟨b,q,rfl⟩:=yoa h2;have hh:((b::q).head?.getD 0)=b:=rfl;rw[hh]at h3 h4 h5 h6;have e:tokS ((b::q)++r)=tokK ((q++r).length+1+1) (b::(q++r)):=rfl;rw[yk]at h h6;have h6':¬(b=47/\(q++r).head? =some 47):=h6;rw[e,tokK,if_neg h5,if_neg (by rw[h4];decide),if_neg h6',if_neg (by rw[h3];decide),h,if_neg h2];have hd:(b::(q++r)).drop (b::q).length=r:=by
  rw[<-yk,List.drop_left]
 rw[hd,tokK_S (by simp;omega)]
theorem lex1{b:UInt8}(h:b=40\/b=41\/b=123\/b=125\/b=91\/b=93\/b=44\/b=59\/b=45\/b=126)(r:List UInt8):tokS (b::r)=(tokS r).map ((2,[b]):: ·):=by
 have hs:zsb ([b]++r)=[b]:=by
  rcases h with rfl|rfl|rfl|rfl|rfl|rfl|rfl|rfl|rfl|rfl<;>simp[zsb,signsL,yga]
 refine lexS (w:=[b]) hs (by simp) ?_ ?_ ?_ ?_
 ·rcases h with rfl|rfl|rfl|rfl|rfl|rfl|rfl|rfl|rfl|rfl<;>decide
 ·rcases h with rfl|rfl|rfl|rfl|rfl|rfl|rfl|rfl|rfl|rfl<;>decide
 ·rcases h with rfl|rfl|rfl|rfl|rfl|rfl|rfl|rfl|rfl|rfl<;>decide
 ·rintro⟨e,_⟩
  rcases h with rfl|rfl|rfl|rfl|rfl|rfl|rfl|rfl|rfl|rfl<;>exact absurd e (by decide)
theorem lexEq(r:List UInt8):tokS (61::32::r)=(tokS r).map ((2,[61]):: ·):=by
 have:=lexS (w:=[61]) (r:=32::r) (by simp[zsb,signsL,yga]) (by simp) (by decide) (by decide) (by decide) (fun h=>absurd h.1 (by decide));rw[<-lexB r (b:=32) (by decide)];exact this
theorem lexNot{r:List UInt8}(h:¬r.head? =some 61):tokS (33::r)=(tokS r).map ((2,[33]):: ·):=by
 refine lexS (w:=[33]) ?_ (by simp) (by decide) (by decide) (by decide) (fun h=>absurd h.1 (by decide));cases r with
 |nil=>decide
 |cons c r=>
  have:¬c=61:=by intro e;exact h (by rw[e];rfl)
  have:¬(61:UInt8)=c:=fun e=>this e.symm
  simp[zsb,signsL,yga,this]
theorem lexOp{i:Nat}(h:i<19)(r:List UInt8):tokS (zP ((i+1:Nat):Int)++32::r)=(tokS r).map ((2,zP ((i+1:Nat):Int)):: ·):=by
 have hall:∀j,j<19->(zP ((j+1:Nat):Int)≠ []/\zq ((zP ((j+1:Nat):Int)).head?.getD 0)=false/\blank ((zP ((j+1:Nat):Int)).head?.getD 0)=false/\¬(zP ((j+1:Nat):Int)).head?.getD 0=10/\¬((zP ((j+1:Nat):Int)).tail.head? =some 47)/\(zP ((j+1:Nat):Int))∈[[43],[45],[42],[47],[37],[38],[124],[94],[60,60],[62,62],[62,62,62],[60],[60,61],[62],[62,61],[61,61],[33,61],[38,38],[124,124]]):=by decide
 obtain⟨a1,a2,a3,a4,a5,a6⟩:=hall i h;rw[<-lexB r (b:=32) (by decide)];generalize zP ((i+1:Nat):Int)=w at*;refine lexS ?_ a1 a2 a3 a4 ?_
 ·clear a1 a2 a3 a4 a5 hall;simp only[yia,List.not_mem_nil,or_false]at a6;rcases a6 with rfl|rfl|rfl|rfl|rfl|rfl|rfl|rfl|rfl|rfl|rfl|rfl|rfl|rfl|rfl|rfl|rfl|rfl|rfl<;>simp[zsb,signsL,yga]
 ·rintro⟨_,e⟩
  cases w with
  |nil=>exact a1 rfl
  |cons b q=>
   cases q with
   |nil=>simp at e
   |cons c q=>exact a5 (by simpa using e)
theorem lexWord{w:List UInt8}(h:w∈words){r:List UInt8}(hr:NN r):tokS (w++r)=(tokS r).map ((2,w):: ·):=by
 have hall:∀w∈words,w.all zq=true/\w≠ []/\tokBad w (w.head?.getD 0)=false/\zBb w (w.head?.getD 0)=2:=by decide
 obtain⟨a1,a2,a3,a4⟩:=hall w h;exact lexW a1 a2 a3 a4 hr
theorem zZd{w:List UInt8}(h:zXa w=true){r:List UInt8}(hr:NN r):tokS (w++r)=(tokS r).map ((1,w):: ·):=by
 have hn:=h;unfold zXa at h;simp only[ya,decide_eq_true_eq,yC]at h;obtain⟨h1,h2,h3,h4,h5⟩:=h;have hk:zBb w (w.head?.getD 0)=1:=by unfold zBb;rw[if_neg (by rw[h5];decide),if_pos h2]
 exact lexW h3 h1 (by unfold tokBad;rw[hk,hn];rfl) hk hr
theorem digF_val:∀(k n:Nat),n<10^k->n<=9223372036854775807->zAc 0 (digF k n)=some (n:Int)
 |0,n,h,_=>by
  have:n=0:=by simpa using h
  subst this;rfl
 |k+1,n,h,hn=>by
  unfold digF;split
  ·rename_i h10;have hb:(yY (48+n)).toNat=48+n:=by simp;omega
   simp only[zAc,hb];have c:¬(9223372036854775807-(((48+n:Nat):Int)-48))/10<0:=by omega
   rw[if_neg c];congr 1;omega
  ·rename_i h10;have hm:n%10<10:=Nat.mod_lt _ (by omega);have hb:(yY (48+n%10)).toNat=48+n%10:=by simp;omega
   rw[zhd,digF_val k (n/10) (by rw[yLa]at h;omega) (by omega)];simp only[Option.bind_some,zAc,hb];have c:¬(9223372036854775807-(((48+n%10:Nat):Int)-48))/10<((n/10:Nat):Int):=by omega
   rw[if_neg c];congr 1;omega
theorem digF_head:∀(k n:Nat),1<=n->n<10^k->¬(digF k n).head? =some 48
 |0,n,h1,h=>by simp at h;omega
 |k+1,n,h1,h=>by
  unfold digF;split
  ·rename_i h10;intro e;simp only[List.head?_cons,Option.some.injEq]at e;have:=congrArg UInt8.toNat e;simp at this;omega
  ·rename_i h10;have ih:=digF_head k (n/10) (by omega) (by rw[yLa]at h;omega);cases hd:digF k (n/10)with
   |nil=>
    cases k with
    |zero=>simp at h;omega
    |succ k=>exact absurd hd (digF_ne k _)
   |cons b r=>rw[hd]at ih;simpa using ih
theorem digits_val{n:Nat}(h:n<=9223372036854775807):zwc (zla n)=(n:Int):=by
 have hp:n<10^20:=Nat.lt_of_le_of_lt h (by decide);unfold zwc zla;rw[digF_val 20 n hp h];simp only;rw[if_neg]
 rintro(e|⟨e1,e2⟩)
 ·exact digF_ne 19 n e
 ·by_cases h0:n=0
  ·subst h0;simp[digF]at e1
  ·exact digF_head 20 n (by omega) hp e2
theorem digits_digs(n:Nat):digs (zla n)=true:=by
 unfold digs zla;rw[yr];intro b hb;have:=digF_dig 20 n b hb;simp only[znc,ya,decide_eq_true_eq];omega
theorem digits_headD(n:Nat):∃b q,zla n=b::q/\48<=b.toNat/\b.toNat<=57:=by
 obtain⟨b,q,e⟩:=yoa (digF_ne 19 n:digF (19+1) n≠ []);exact⟨b,q,e,digF_dig 20 n b (by rw[e];simp)⟩
theorem digits_word(n:Nat):wordM (zla n)=false:=by
 obtain⟨b,q,e,h1,h2⟩:=digits_headD n;have hall:∀w∈words,¬(48<=(w.head?.getD 0).toNat/\(w.head?.getD 0).toNat<=57):=by decide
 cases hw:wordM (zla n)with
 |false=>rfl
 |true=>
  exfalso;refine hall (zla n) ?_ ?_
  ·simpa[wordM]using hw
  ·rw[e];exact⟨h1,h2⟩
theorem lexNum{n:Nat}(h:n<=9223372036854775807){r:List UInt8}(hr:NN r):tokS (zla n++r)=(tokS r).map ((0,zla n):: ·):=by
 have hk:zBb (zla n) ((zla n).head?.getD 0)=0:=by
  obtain⟨b,q,e,h1,h2⟩:=digits_headD n;unfold zBb;have hn:zlb (b.toNat:Int)=false:=by
   simp only[zlb,ywa,yKa,decide_eq_false_iff_not];omega
  rw[digits_word,e,if_neg (by decide)];exact if_neg (by show¬zlb (b.toNat:Int)=true;rw[hn];decide)
 refine lexW (w:=zla n) (digF_bytes 20 n) (digF_ne 19 n) ?_ hk hr;unfold tokBad;rw[hk];simp only[zud,digits_digs,digits_val h];simp
def LexN(x:List UInt8)(l:List KT):Prop:=∀r,NN r->tokS (x++r)=(tokS r).map (l++ ·)
theorem lexBr{e:Expr}{x:List UInt8}{l:List KT}(h:LexN x l)(L:Int):LexN (brX e L x) (brT e L l):=by
 unfold brX brT;split
 ·intro r hr;rw[yk,ym,yk,lex1 (.inl rfl),h _ (NN.cons (by decide)),yp,lex1 (.inr (.inl rfl))];cases tokS r<;>simp
 ·exact h
theorem lexCommas:∀(xs:List (List UInt8)) (ls:List (List KT)),xs.length=ls.length->(∀i (h:i<xs.length) (h':i<ls.length),LexN xs[i] ls[i])->∀r,NN r->tokS (zfa xs++r)=(tokS r).map (zS ls++ ·)
 | [],[],_,_,r,_=>by simp[zfa,zS]
 | [x],[l],_,h,r,hr=>h 0 (by simp) (by simp) r hr
 |x::y::xs,l::k::ls,hl,h,r,hr=>by
  have h0:=h 0 (by simp) (by simp);have ih:=lexCommas (y::xs) (k::ls) (by simpa using hl) (fun i h1 h2=>by have:=h (i+1) (by simpa using h1) (by simpa using h2);simpa using this) r hr;rw[zfa,zS,ym,yk,yk];have h0':=h0 (44::32::(zfa (y::xs)++r)) (NN.cons (by decide));simp only[List.getElem_cons_zero]at h0';rw[h0',lex1 (by simp),lexB _ (by decide),ih];cases tokS r<;>simp
 | [],_::_,hl,_,_,_=>by simp at hl
 |_::_,[],hl,_,_,_=>by simp at hl
 | [_],_::_::_,hl,_,_,_=>by simp at hl
 |_::_::_,[_],hl,_,_,_=>by simp at hl
theorem brX_head(e:Expr)(L:Int)(x:List UInt8)(h:¬x.head? =some 61)(hn:x≠ []):¬(brX e L x).head? =some 61/\brX e L x≠ []:=by
 unfold brX;split
 ·simp
 ·exact⟨h,hn⟩
theorem name_head{s:List UInt8}(h:zXa s=true):¬s.head? =some 61/\s≠ []:=by
 unfold zXa at h;simp only[ya,decide_eq_true_eq,yC]at h;refine⟨fun e=>?_,h.1⟩;rw[e]at h;exact absurd h.2.1 (by decide)
theorem app_head{a b:List UInt8}(h:¬a.head? =some 61/\a≠ []):¬(a++b).head? =some 61/\a++b≠ []:=by
 obtain⟨h1,h2⟩:=h;cases a with
 |nil=>exact absurd rfl h2
 |cons c a=>exact⟨h1,by simp⟩
theorem xE_head{e:Expr}(h:RE e):¬(xE e).head? =some 61/\xE e≠ []:=by
 induction h with
 |num n h=>
  obtain⟨b,q,e,h1,h2⟩:=digits_headD n;have e0:xE ⟨1,0,(n:Int),[],[]⟩=zla n:=rfl;rw[e0,e];refine⟨fun e=>?_,by simp⟩;simp only[List.head?_cons,Option.some.injEq]at e;rw[e]at h2;exact absurd h2 (by decide)
 |truth n h=>rcases h with rfl|rfl<;>decide
 |var s h=>exact name_head h
 |one i h x hx ih=>
  have hall:∀j,j<9->¬(zP ((j+20:Nat):Int)).head? =some 61/\zP ((j+20:Nat):Int)≠ []:=by decide
  rw[xE_one];split<;>exact app_head (hall i h)
 |two i h x y hx hy ihx ihy=>
  rw[xE_two];exact app_head (brX_head _ _ _ ihx.1 ihx.2)
 |index s h x hx ih=>exact app_head (name_head h)
 |call s h l hl hx ih=>exact app_head (name_head h)
 |read=>decide
theorem lexE{e:Expr}(h:RE e):LexN (xE e) (tE e):=by
 induction h with
 |num n h=>
  intro r hr;have:=lexNum h hr;simpa[xE,tE,nodeX,nodeT,xEs,tEs]using this
 |truth n h=>
  intro r hr;have h1:=lexWord (w:=[116,114,117,101]) (by decide) hr;have h2:=lexWord (w:=[102,97,108,115,101]) (by decide) hr;rcases h with rfl|rfl
  ·simpa[xE,tE,nodeX,nodeT,xEs,tEs]using h2
  ·simpa[xE,tE,nodeX,nodeT,xEs,tEs]using h1
 |var s h=>
  intro r hr;have:=zZd h hr;simpa[xE,tE,nodeX,nodeT,xEs,tEs]using this
 |one i h x hx ih=>
  intro r hr;rw[xE_one,tE_one];by_cases hc:(23:Int)<=((i+20:Nat):Int)
  ·rw[if_pos hc,if_pos hc];have hw:∀j,j<9->3<=j->zP ((j+20:Nat):Int)∈words:=by decide
   simp only[ym,yk,yp];rw[lexWord (hw i h (by omega)) (NN.cons (by decide)),lex1 (.inl rfl),ih _ (NN.cons (by decide)),lex1 (.inr (.inl rfl))];cases tokS r<;>simp
  ·rw[if_neg hc,if_neg hc];have hb:=lexBr (e:=x) ih 11 r hr;have hd:=brX_head x 11 (xE x) (xE_head hx).1 (xE_head hx).2;have hi:i=0\/i=1\/i=2:=by omega
   rcases hi with rfl|rfl|rfl
   ·have:zP ((0+20:Nat):Int)=[45]:=by decide
    rw[this,ym,yk,yp,lex1 (by simp),hb];cases tokS r<;>simp
   ·have:zP ((1+20:Nat):Int)=[126]:=by decide
    rw[this,ym,yk,yp,lex1 (by simp),hb];cases tokS r<;>simp
   ·have:zP ((2+20:Nat):Int)=[33]:=by decide
    have hd2:=app_head (b:=r) hd;rw[this,ym,yk,yp,lexNot hd2.1,hb];cases tokS r<;>simp
 |two i h x y hx hy ihx ihy=>
  intro r hr;rw[xE_two,tE_two];have hb:=lexBr (e:=y) ihy (zI ((i+1:Nat):Int)+1) r hr;rw[ym,yk,ym,yk,lexBr ihx _ _ (NN.cons (by decide)),lexB _ (by decide),lexOp h,hb];cases tokS r<;>simp
 |index s h x hx ih=>
  intro r hr;rw[xE_index,tE_index];simp only[ym,yk,yp];rw[zZd h (NN.cons (by decide)),lex1 (by simp),ih _ (NN.cons (by decide)),lex1 (by simp)];cases tokS r<;>simp
 |call s h l hl hx ih=>
  intro r hr;rw[xE_call,tE_call];simp only[ym,yk,yp];rw[zZd h (NN.cons (by decide)),lex1 (by simp)];rw[lexCommas (l.map xE) (l.map tE) (by simp) (fun i h1 h2=>by
   simp only[List.getElem_map];exact ih _ (List.getElem_mem _)) _ (NN.cons (by decide))]
  rw[lex1 (by simp)];cases tokS r<;>simp
 |read=>
  intro r hr;have h1:=lexWord (w:=[114,101,97,100]) (by decide) (r:=40::41::r) (NN.cons (by decide));have e1:xE ⟨8,0,0,[],[]⟩++r=[114,101,97,100]++40::41::r:=rfl;rw[e1,h1,lex1 (by simp),lex1 (by simp)];cases tokS r<;>rfl
theorem zoc(t r:List UInt8)(h:∀b∈t,b=9):tokS (t++r)=tokS r:=by
 induction t with
 |nil=>rfl
 |cons b t ih=>
  rw[yk,lexB _ (by rw[h b (by simp)];decide),ih (fun c hc=>h c (by simp[hc]))]
theorem lexTyp{t:Int}(r:List UInt8)(hr:NN r):tokS (typX t++r)=(tokS r).map ((2,typX t):: ·):=by
 unfold typX;split
 ·exact lexWord (by decide) hr
 ·exact lexWord (by decide) hr
def LexA(x:List UInt8)(l:List KT):Prop:=∀r,tokS (x++r)=(tokS r).map (l++ ·)
theorem lexA_list{tabs:List UInt8}:∀l:List Stmt,(∀x∈l,LexA (xS x tabs) (tS x))->LexA (xSs l tabs) (tSs l)
 | [],_=>fun r=>by simp[xSs,tSs]
 |x::l,h=>fun r=>by
  rw[xSs,tSs,ym,h x (by simp),lexA_list l (fun y hy=>h y (by simp[hy]))];cases tokS r<;>simp
theorem lexW9(w:List UInt8)(hw:w∈words)(b:UInt8)(r:List UInt8)(hb:zq b=false):tokS (w++b::r)=(tokS (b::r)).map ((2,w):: ·):=lexWord hw (NN.cons hb)
theorem lexSt{m:Nat}{s:Stmt}(h:RS m s):∀tabs:List UInt8,(∀b∈tabs,b=9)->LexA (xS s tabs) (tS s):=by
 induction h with
 |lets m t s x ht hs hx hd=>
  intro tabs h9 r;rw[xS_let,tS_let];simp only[ym,yk,yp];rw[zoc _ _ h9,lexTyp _ (NN.cons (by decide)),lexB _ (by decide),zZd hs (NN.cons (by decide)),lexB _ (by decide),lexEq,lexE hx _ (NN.cons (by decide)),lex1 (by simp),lexN];cases tokS r<;>simp
 |sets m s x hs hx hd=>
  intro tabs h9 r;rw[xS_set,tS_set];simp only[ym,yk,yp];rw[zoc _ _ h9,zZd hs (NN.cons (by decide)),lexB _ (by decide),lexEq,lexE hx _ (NN.cons (by decide)),lex1 (by simp),lexN];cases tokS r<;>simp
 |puts m s x y hs hx hd hy hd2=>
  intro tabs h9 r;rw[xS_put,tS_put];simp only[ym,yk,yp];rw[zoc _ _ h9,zZd hs (NN.cons (by decide)),lex1 (by simp),lexE hx _ (NN.cons (by decide)),lex1 (by simp),lexB _ (by decide),lexEq,lexE hy _ (NN.cons (by decide)),lex1 (by simp),lexN];cases tokS r<;>simp
 |ifs m x th el hx hd h1 h2 ih1 ih2=>
  intro tabs h9 r;have h9':∀b∈tabs++[9],b=9:=by
   intro b hb;rcases yw.1 hb with hb|hb
   ·exact h9 b hb
   ·simpa using hb
  have a1:=lexA_list th (fun y hy=>ih1 y hy _ h9');have a2:=lexA_list el (fun y hy=>ih2 y hy _ h9');rw[xS_if,tS_if];simp only[ym,yk,yp];have w1:=lexW9 [105,102] (by decide) 32;have w2:=lexW9 [101,108,115,101] (by decide) 32;simp only[yk,yp]at w1 w2;rw[zoc _ _ h9,w1 _ (by decide),lexB _ (by decide),lex1 (by simp),lexE hx _ (NN.cons (by decide)),lex1 (by simp),lexB _ (by decide),lex1 (by simp),lexN,a1,zoc _ _ h9,lex1 (by simp)];split
  ·simp only[yp];rw[lexN];cases tokS r<;>simp
  ·simp only[ym,yk,yp];rw[lexB _ (by decide),w2 _ (by decide),lexB _ (by decide),lex1 (by simp),lexN,a2,zoc _ _ h9,lex1 (by simp),lexN];cases tokS r<;>simp
 |whiles m x th hx hd h1 ih1=>
  intro tabs h9 r;have h9':∀b∈tabs++[9],b=9:=by
   intro b hb;rcases yw.1 hb with hb|hb
   ·exact h9 b hb
   ·simpa using hb
  have a1:=lexA_list th (fun y hy=>ih1 y hy _ h9');rw[xS_while,tS_while];simp only[ym,yk,yp];have w1:=lexW9 [119,104,105,108,101] (by decide) 32;simp only[yk,yp]at w1;rw[zoc _ _ h9,w1 _ (by decide),lexB _ (by decide),lex1 (by simp),lexE hx _ (NN.cons (by decide)),lex1 (by simp),lexB _ (by decide),lex1 (by simp),lexN,a1,zoc _ _ h9,lex1 (by simp),lexN];cases tokS r<;>simp
 |breaks m=>
  intro tabs h9 r;have w1:=lexW9 [98,114,101,97,107] (by decide) 59;simp only[yk,yp]at w1;have e:xS ⟨6,0,[],[],[],[]⟩ tabs=tabs++[98,114,101,97,107,59,10]:=rfl;rw[e,ym,zoc _ _ h9];simp only[yk,yp];rw[w1 _ (by decide),lex1 (by simp),lexN];cases tokS r<;>rfl
 |continues m=>
  intro tabs h9 r;have w1:=lexW9 [99,111,110,116,105,110,117,101] (by decide) 59;simp only[yk,yp]at w1;have e:xS ⟨7,0,[],[],[],[]⟩ tabs=tabs++[99,111,110,116,105,110,117,101,59,10]:=rfl;rw[e,ym,zoc _ _ h9];simp only[yk,yp];rw[w1 _ (by decide),lex1 (by simp),lexN];cases tokS r<;>rfl
 |returns m x hx hd=>
  intro tabs h9 r;have w1:=lexW9 [114,101,116,117,114,110] (by decide) 32;simp only[yk,yp]at w1;have e:xS ⟨8,0,[],[x],[],[]⟩ tabs=tabs++(114::101::116::117::114::110::32::(xE x++[59,10])):=rfl;rw[e,ym,zoc _ _ h9];simp only[ym,yk,yp];rw[w1 _ (by decide),lexB _ (by decide),lexE hx _ (NN.cons (by decide)),lex1 (by simp),lexN];cases tokS r<;>simp[tS,stT]
 |prints m x hx hd=>
  intro tabs h9 r;have w1:=lexW9 [112,114,105,110,116] (by decide) 40;simp only[yk,yp]at w1;have e:xS ⟨9,0,[],[x],[],[]⟩ tabs=tabs++(112::114::105::110::116::40::(xE x++[41,59,10])):=rfl;rw[e,ym,zoc _ _ h9];simp only[ym,yk,yp];rw[w1 _ (by decide),lex1 (by simp),lexE hx _ (NN.cons (by decide)),lex1 (by simp),lex1 (by simp),lexN];cases tokS r<;>simp[tS,stT]
 |does m s l hx hd=>
  intro tabs h9 r;have e:xS ⟨10,0,[],[⟨7,0,0,s,l⟩],[],[]⟩ tabs=tabs++(xE ⟨7,0,0,s,l⟩++[59,10]):=rfl;rw[e,ym,zoc _ _ h9];simp only[ym,yk,yp];rw[lexE hx _ (NN.cons (by decide)),lex1 (by simp),lexN];have e2:tS ⟨10,0,[],[⟨7,0,0,s,l⟩],[],[]⟩=tE ⟨7,0,0,s,l⟩++[(2,[59])]:=rfl;rw[e2];cases tokS r<;>simp
theorem lexSts{m:Nat}{l:List Stmt}(h:∀s∈l,RS m s)(tabs:List UInt8)(h9:∀b∈tabs,b=9):LexA (xSs l tabs) (tSs l):=
 lexA_list l (fun x hx=>lexSt (h x hx) tabs h9)
theorem lexArr{a:PArr}(h:RA a):LexA (arrX a) (arrT a):=by
 intro r;obtain⟨h1,h2,h3⟩:=h;have w1:=lexW9 [105,110,116] (by decide) 32;simp only[yk,yp]at w1;unfold arrX arrT;simp only[ym,yk,yp];rw[w1 _ (by decide),lexB _ (by decide),zZd h1 (NN.cons (by decide)),lex1 (by simp),lexNum (by omega) (NN.cons (by decide)),lex1 (by simp),lex1 (by simp),lexN];cases tokS r<;>simp
theorem lexPar{p:Par}(h:RPar p):LexN (parX p) (parT p):=by
 intro r hr;unfold parX parT;simp only[ym,yk,yp];rw[lexTyp _ (NN.cons (by decide)),lexB _ (by decide),zZd h.1 hr];cases tokS r<;>simp
theorem lexFun{f:Func}(h:RF f):LexA (funX f) (funT f):=by
 intro r;obtain⟨h1,h2,h3,h4,h5⟩:=h;unfold funX funT;simp only[ym,yk,yp];rw[lexTyp _ (NN.cons (by decide)),lexB _ (by decide),zZd h1 (NN.cons (by decide)),lex1 (by simp)];rw[lexCommas (f.params.map parX) (f.params.map parT) (by simp) (fun i h1 h2=>by
   simp only[List.getElem_map];exact lexPar (h4 _ (List.getElem_mem _))) _ (NN.cons (by decide))]
 rw[lex1 (by simp),lexB _ (by decide),lex1 (by simp),lexN,lexSts h5 [9] (by simp),lex1 (by simp),lexN];cases tokS r<;>simp
theorem lexFlat{α:Type}(f:α->List UInt8)(g:α->List KT):∀l:List α,(∀x∈l,LexA (f x) (g x))->LexA (l.map f).flatten (l.map g).flatten
 | [],_=>fun r=>by simp
 |x::l,h=>fun r=>by
  simp only[yz,yTa,ym];rw[h x (by simp),lexFlat f g l (fun y hy=>h y (by simp[hy]))];cases tokS r<;>simp
theorem lexProg{p:Prog}(h:RP p):tokS (zXb p)=some (zkc p):=by
 have h1:=lexFlat arrX arrT p.arrays (fun a ha=>lexArr (h.1 a ha));have h2:=lexFlat funX funT p.funcs (fun f hf=>lexFun (h.2 f hf));have:=h2 [];rw[List.append_nil]at this;unfold zXb zkc;rw[h1,this];have e:tokS []=some []:=rfl;rw[e];simp
def Seg(T:List Tok):Nat->List KT->Prop
 |_,[]=>True
 |i,x::l=>kt (tk T i)=x/\Seg T (i+1) l
theorem zta{T:List Tok}:∀(a b:List KT) (i:Nat),Seg T i (a++b)<->Seg T i a/\Seg T (i+a.length) b
 | [],b,i=>by simp[Seg]
 |x::a,b,i=>by
  rw[yk,Seg,Seg,zta a b (i+1),and_assoc];have:i+1+a.length=i+(x::a).length:=by simp;omega
  rw[this]
abbrev P0s(i:Nat):PS:=⟨i,false,false⟩
theorem zqa{T:List Tok}{i:Nat}{x:KT}(h:kt (tk T i)=x)(s:List UInt8):isF T s (P0s i)=decide (x=(2,s)):=by
 subst h;simp only[isF,zf,kt,Prod.mk.injEq,Bool.or_self,Bool.not_false,yca];by_cases h1:(tk T i).kind=2<;>by_cases h2:(tk T i).text=s<;>simp[h1,h2]
theorem zAa{T:List Tok}{i:Nat}{s:List UInt8}(h:kt (tk T i)=(2,s)):isF T s (P0s i)=true:=by rw[zqa h];simp
theorem zOa{T:List Tok}{i:Nat}{x:KT}{s:List UInt8}(h:kt (tk T i)=x)(hn:x≠(2,s)):isF T s (P0s i)=false:=by rw[zqa h];simpa using hn
theorem zT{T:List Tok}{i:Nat}{s:List UInt8}(h:kt (tk T i)=(2,s)):zC T s (P0s i)=P0s (i+1):=by
 unfold zC;rw[if_pos (zAa h)]
theorem zuc{T:List Tok}{i:Nat}{k:Int}{s:List UInt8}(h:kt (tk T i)=(k,s)):zy T k (P0s i)=(s,P0s (i+1)):=by
 unfold zy;have h1:(tk T i).kind=k:=congrArg Prod.fst h;have h2:(tk T i).text=s:=congrArg Prod.snd h;rw[if_neg (by simp[zf]),if_pos h1,h2]
theorem deepF_no{d:Int}(h:d<=100)(p:PS):deepF d p=p:=by unfold deepF;rw[if_neg (by omega)]
def stop(L:Int)(x:KT):Prop:=x≠(2,[40])/\x≠(2,[91])/\∀i,i<19->L<=zI ((i+1:Nat):Int)->x≠(2,zP ((i+1:Nat):Int))
theorem zxd{L M:Int}{x:KT}(h:stop L x)(hl:L<=M):stop M x:=⟨h.1,h.2.1,fun i hi h1=>h.2.2 i hi (by omega)⟩
theorem stop_end(L:Int){b:List UInt8}(h:b∈[[41],[93],[44],[59]]):stop L (2,b):=by
 have hall:∀b∈[[41],[93],[44],[59]],b≠([40]:List UInt8)/\b≠ [91]/\∀i,i<19->b≠zP ((i+1:Nat):Int):=by decide
 obtain⟨a1,a2,a3⟩:=hall b h;exact⟨fun e=>a1 (congrArg Prod.snd e),fun e=>a2 (congrArg Prod.snd e),fun i hi _ e=>a3 i hi (congrArg Prod.snd e)⟩
theorem signs_inj:∀i,i<19->∀j,j<19->zP ((i+1:Nat):Int)=zP ((j+1:Nat):Int)->i=j:=by decide
theorem stop_op{i:Nat}(h:i<19):stop (zI ((i+1:Nat):Int)+1) (2,zP ((i+1:Nat):Int)):=by
 have hall:∀i,i<19->zP ((i+1:Nat):Int)≠ [40]/\zP ((i+1:Nat):Int)≠ [91]:=by decide
 obtain⟨a1,a2⟩:=hall i h;refine⟨fun e=>a1 (congrArg Prod.snd e),fun e=>a2 (congrArg Prod.snd e),fun j hj hl e=>?_⟩;have:=signs_inj i h j hj (congrArg Prod.snd e);subst this;omega
theorem opF_stop{T:List Tok}{L:Int}{i:Nat}(h:stop L (kt (tk T i))):opF T L (P0s i)=0:=by
 unfold opF;have:(yQ 19).find? (zNa T L (P0s i))=none:=by
  rw[yO];intro j hj;have hj:=yta.1 hj;unfold zNa;rw[zqa rfl];intro c;simp only[ya,decide_eq_true_eq]at c;exact h.2.2 j hj (by omega) c.2
 rw[this]
theorem opF_here{T:List Tok}{i j:Nat}(hj:j<19)(h:kt (tk T i)=(2,zP ((j+1:Nat):Int))):opF T (zI ((j+1:Nat):Int)) (P0s i)=((j+1:Nat):Int):=by
 unfold opF;have:(yQ 19).find? (zNa T (zI ((j+1:Nat):Int)) (P0s i))=some j:=by
  rw[List.find?_eq_some_iff_getElem];refine⟨?_,j,by simpa using hj,by simp,?_⟩
  ·unfold zNa;rw[zAa h];simp
  ·intro k hk;simp only[yqa];have:¬(zP ((j+1:Nat):Int)=zP ((k+1:Nat):Int)):=fun e=>by have:=signs_inj j hj k (by omega) e;omega
   have hf:zNa T (zI ((j+1:Nat):Int)) (P0s i) k=false:=by
    unfold zNa;rw[zqa h];simp only[yKa,decide_eq_false_iff_not,Prod.mk.injEq,true_and];exact .inr this
   rw[hf];rfl
 rw[this]
theorem unF_none{T:List Tok}{i:Nat}{x:KT}(h:kt (tk T i)=x)(hn:∀j,j<9->x≠(2,zP ((j+20:Nat):Int))):unF T (P0s i)=none:=by
 unfold unF;rw[yO];intro j hj;unfold zJa;rw[zqa h];simpa using hn j (yta.1 hj)
theorem unF_here{T:List Tok}{i j:Nat}(hj:j<9)(h:kt (tk T i)=(2,zP ((j+20:Nat):Int))):unF T (P0s i)=some j:=by
 have hall:∀i,i<9->∀j,j<9->zP ((i+20:Nat):Int)=zP ((j+20:Nat):Int)->i=j:=by decide
 unfold unF;rw[List.find?_eq_some_iff_getElem];refine⟨?_,j,by simpa using hj,by simp,?_⟩
 ·unfold zJa;rw[zAa h]
 ·intro k hk;simp only[yqa];unfold zJa;rw[zqa h];have:¬(zP ((j+20:Nat):Int)=zP ((k+20:Nat):Int)):=fun e=>by have:=hall j hj k (by omega) e;omega
  simpa using this
theorem up_self(T:List Tok):Up T T 0:=fun i=>rfl
theorem zec{T:List Tok}{n m:Nat}{L d:Int}{p:PS}{r:Expr×PS}(h:zda T n L d p=some r)(hm:n<=m):zda T m L d p=some r:=by
 obtain⟨v,q⟩:=r;exact(upE (up_self T) n).expr m L d p v q hm h
theorem loop_more{T:List Tok}{n m:Nat}{L d:Int}{a:Expr}{p:PS}{r:Expr×PS}(h:zB T n L d a p=some r)(hm:n<=m):zB T m L d a p=some r:=by
 obtain⟨v,q⟩:=r;exact(upE (up_self T) n).loop m L d a p v q hm h
theorem al_more{T:List Tok}{n m:Nat}{d:Int}{l:List Expr}{f:Bool}{p:PS}{r:List Expr×PS}(h:zw T n d l f p=some r)(hm:n<=m):zw T m d l f p=some r:=by
 obtain⟨v,q⟩:=r;exact(upE (up_self T) n).al m d l f p v q hm h
theorem expr_lift{T:List Tok}{L d:Int}{p q:PS}{e:Expr}{r:Expr×PS}(hL:L<=10)(h:∃n,zda T n (L+1) d p=some (e,q))(h2:∃m,zB T m L d e q=some r):∃n,zda T n L d p=some r:=by
 obtain⟨n,h⟩:=h;obtain⟨m,h2⟩:=h2;refine⟨max n m+1,?_⟩;rw[zda,if_neg (by omega),zec h (yS n m)];exact loop_more h2 (yL n m)
theorem loop_stop{T:List Tok}{L d:Int}{i:Nat}{e:Expr}(h:stop L (kt (tk T i))):∃m,zB T m L d e (P0s i)=some (e,P0s i):=
 ⟨1,by rw[zB,if_pos (opF_stop h)]⟩
theorem expr_un{T:List Tok}{d:Int}{p:PS}{i:Nat}{e:Expr}(h:∃n,zFa T n d p=some (e,P0s i)):∀(k:Nat),k<=10->stop (11-(k:Int)) (kt (tk T i))->∃n,zda T n (11-(k:Int)) d p=some (e,P0s i)
 |0,_,_=>by
  obtain⟨n,h⟩:=h;exact⟨n+1,by rw[zda,if_pos (by omega)];exact h⟩
 |k+1,hk,hs=>by
  have ih:=expr_un h k (by omega) (zxd hs (by omega));have e1:(11-((k+1:Nat):Int))+1=11-(k:Int):=by omega
  exact expr_lift (by omega) (by rw[e1];exact ih) (loop_stop hs)
structure PA(T:List Tok)(e:Expr):Prop where
 un:∀i (d:Int),Seg T i (brT e 11 (tE e))->stop 11 (kt (tk T (i+(brT e 11 (tE e)).length)))->d+(brH e 11 (hE e):Nat)<=100->∃n,zFa T n d (P0s i)=some (e,P0s (i+(brT e 11 (tE e)).length))
 ex:∀i (L d:Int),1<=L->L<=10->Seg T i (brT e L (tE e))->stop (L+1) (kt (tk T (i+(brT e L (tE e)).length)))->d+(brH e L (hE e):Nat)<=100->∀r,(∃m,zB T m L d e (P0s (i+(brT e L (tE e)).length))=some r)->∃n,zda T n L d (P0s i)=some r
theorem PA.all{T:List Tok}{e:Expr}(A:PA T e)(i:Nat)(L d:Int)(h1:1<=L)(h2:L<=11)(hs:Seg T i (brT e L (tE e)))(hp:stop L (kt (tk T (i+(brT e L (tE e)).length))))(hd:d+(brH e L (hE e):Nat)<=100):
  ∃n,zda T n L d (P0s i)=some (e,P0s (i+(brT e L (tE e)).length)):=by
 by_cases hL:L=11
 ·subst hL;exact expr_un (A.un i d hs hp hd) 0 (by omega) hp
 ·exact A.ex i L d h1 (by omega) hs (zxd hp (by omega)) hd _ (loop_stop hp)
theorem PA_of{T:List Tok}{e:Expr}(hk:¬e.kind=5)(h:∀i (d:Int),Seg T i (tE e)->stop 11 (kt (tk T (i+(tE e).length)))->d+(hE e:Nat)<=100->∃n,zFa T n d (P0s i)=some (e,P0s (i+(tE e).length))):PA T e:=by
 have hb:∀L,brP e L=false:=fun L=>by unfold brP;simp[hk]
 have hT:∀L l,brT e L l=l:=fun L l=>by unfold brT;rw[hb];rfl
 have hH:∀L l,brH e L l=l:=fun L l=>by unfold brH;rw[hb];rfl
 refine⟨?_,?_⟩
 ·intro i d;rw[hT,hH];exact h i d
 ·intro i L d h1 h2;rw[hT,hH];intro hs hp hd r hr;have hu:=h i d hs (zxd hp (by omega)) hd;obtain⟨k,rfl⟩:∃k:Nat,L=10-(k:Int):=⟨(10-L).toNat,by omega⟩
  have e1:(10-(k:Int))+1=11-(k:Int):=by omega
  rw[e1]at hp;exact expr_lift h2 (by rw[e1];exact expr_un hu k (by omega) hp) hr
theorem prim_of{T:List Tok}{i:Nat}{d:Int}{r:Expr×PS}{x:KT}(hd:d<=100)(hx:kt (tk T i)=x)(hn:∀j,j<9->x≠(2,zP ((j+20:Nat):Int)))(h:∃n,zV T n d (P0s i)=some r):∃n,zFa T n d (P0s i)=some r:=by
 obtain⟨n,h⟩:=h;refine⟨n+1,?_⟩;rw[zFa,deepF_no hd,unF_none hx hn];exact h
theorem kind_ne{k:Int}{s:List UInt8}(h:¬k=2):∀j,j<9->(k,s)≠(2,zP ((j+20:Nat):Int)):=fun j _ e=>h (congrArg Prod.fst e)
theorem al_all{T:List Tok}{d:Int}:∀(l:List Expr) (acc:List Expr) (i:Nat),l≠ []->(∀x∈l,PA T x)->(∀x∈l,d+(hE x:Nat)<=100)->(∀x∈l,∀L,1<=L->brP x 1=false)->Seg T i (zS (l.map tE))->kt (tk T (i+(zS (l.map tE)).length))=(2,[41])→
  ∃n,∀f:Bool,(f=true\/(kt (tk T (i-1))=(2,[44])/\1<=i))->zw T n d acc f (P0s (if f then i else i-1))=some (acc++l,P0s (i+(zS (l.map tE)).length))
 | [],_,_,h,_,_,_,_,_=>absurd rfl h
 | [x],acc,i,_,hA,hd,hb,hs,he=>by
  simp only[yz,yW,zS]at hs he ⊢;have hbx:=hb x (by simp) 1 (by omega);have eT:brT x 1 (tE x)=tE x:=by unfold brT;rw[hbx];rfl
  have eH:brH x 1 (hE x)=hE x:=by unfold brH;rw[hbx];rfl
  have h1:=(hA x (by simp)).all i 1 d (by omega) (by omega) (by rw[eT];exact hs) (by rw[eT,he];exact stop_end 1 (by simp)) (by rw[eH];exact hd x (by simp));rw[eT]at h1;obtain⟨n,h1⟩:=h1;refine⟨n+2,fun f hf=>?_⟩;have h2:zw T (n+1) d (acc++[x]) false (P0s (i+(tE x).length))=some (acc++[x],P0s (i+(tE x).length)):=by
   rw[zw,if_neg];rw[zOa he (by decide)];decide
  have ho:zf (P0s i)=false:=rfl;cases f with
  |true=>
   rw[if_pos rfl,zw,if_pos (by rfl)];simp only[↓reduceIte];rw[if_neg (by rw[ho];decide),zec h1 (by omega)];exact h2
  |false=>
   obtain⟨hc,hi⟩:=hf.resolve_left (by decide);have ei:adv (P0s (i-1))=P0s i:=by unfold adv P0s;simp only;congr 1;omega
   rw[if_neg (by decide),zw,if_pos (by rw[zAa hc];rfl)];simp only[↓reduceIte,yi];rw[ei,if_neg (by rw[ho];decide),zec h1 (by omega)];exact h2
 |x::y::l,acc,i,_,hA,hd,hb,hs,he=>by
  simp only[yz,zS]at hs he ⊢;rw[zta]at hs;obtain⟨hs1,hs2,hs3⟩:=hs;have hbx:=hb x (by simp) 1 (by omega);have eT:brT x 1 (tE x)=tE x:=by unfold brT;rw[hbx];rfl
  have eH:brH x 1 (hE x)=hE x:=by unfold brH;rw[hbx];rfl
  have h1:=(hA x (by simp)).all i 1 d (by omega) (by omega) (by rw[eT];exact hs1) (by rw[eT,hs2];exact stop_end 1 (by simp)) (by rw[eH];exact hd x (by simp));rw[eT]at h1;obtain⟨n,h1⟩:=h1;have el:i+(tE x++(2,[44])::zS (tE y::l.map tE)).length=i+(tE x).length+1+(zS ((y::l).map tE)).length:=by simp;omega
  rw[el]at he ⊢;obtain⟨m,ih⟩:=al_all (y::l) (acc++[x]) (i+(tE x).length+1) (by simp) (fun z hz=>hA z (by simp[hz])) (fun z hz=>hd z (by simp[hz])) (fun z hz=>hb z (by simp[hz])) (by simpa using hs3) he;have ih2:=ih false (.inr ⟨by simpa using hs2,by omega⟩);rw[if_neg (by decide),Nat.add_sub_cancel,ym]at ih2;refine⟨max n m+1,fun f hf=>?_⟩;have ho:zf (P0s i)=false:=rfl;cases f with
  |true=>
   rw[if_pos rfl,zw,if_pos (by rfl)];simp only[↓reduceIte];rw[if_neg (by rw[ho];decide),zec h1 (yS n m)];exact al_more ih2 (yL n m)
  |false=>
   obtain⟨hc,hi⟩:=hf.resolve_left (by decide);have ei:adv (P0s (i-1))=P0s i:=by unfold adv P0s;simp only;congr 1;omega
   rw[if_neg (by decide),zw,if_pos (by rw[zAa hc];rfl)];simp only[↓reduceIte,yi];rw[ei,if_neg (by rw[ho];decide),zec h1 (yS n m)];exact al_more ih2 (yL n m)
theorem maxL_le:∀(l:List Nat) (x:Nat),x∈l->x<=maxL l
 |y::l,x,h=>by
  rw[maxL];rcases yia.1 h with rfl|h
  ·omega
  ·have:=maxL_le l x h;omega
theorem RE.br1{e:Expr}(h:RE e):∀L,L<=1->brP e L=false:=by
 intro L hL;cases h with
 |two i hi x y hx hy=>
  have hall:∀i,i<19->1<=zI ((i+1:Nat):Int):=by decide
  have:=hall i hi;unfold brP;simp only[yKa,decide_eq_false_iff_not];right;omega
 |_=>unfold brP;simp
theorem fst_ne{a b:Int}{s t:List UInt8}(h:a≠b):(a,s)≠(b,t):=fun e=>h (congrArg Prod.fst e)
theorem br_hd{e:Expr}{L:Int}{l:List KT}(h:∃x r,l=x::r/\x≠(2,[41])):∃x r,brT e L l=x::r/\x≠(2,[41]):=by
 unfold brT;split
 ·exact⟨_,_,rfl,by decide⟩
 ·exact h
theorem app_hd{a b:List KT}(h:∃x r,a=x::r/\x≠(2,[41])):∃x r,a++b=x::r/\x≠(2,[41]):=by
 obtain⟨x,r,rfl,h⟩:=h;exact⟨x,r++b,rfl,h⟩
theorem tE_hd{e:Expr}(h:RE e):∃x r,tE e=x::r/\x≠(2,[41]):=by
 induction h with
 |num n h=>exact⟨_,_,rfl,fst_ne (by decide)⟩
 |truth n h=>rcases h with rfl|rfl<;>exact⟨_,_,rfl,by decide⟩
 |var s h=>exact⟨_,_,rfl,fst_ne (by decide)⟩
 |one i h x hx ih=>
  have hall:∀j,j<9->zP ((j+20:Nat):Int)≠ [41]:=by decide
  rw[tE_one];split
  ·exact⟨_,_,rfl,fun e=>hall i h (congrArg Prod.snd e)⟩
  ·exact⟨_,_,rfl,fun e=>hall i h (congrArg Prod.snd e)⟩
 |two i h x y hx hy ihx ihy=>
  rw[tE_two];exact app_hd (br_hd ihx)
 |index s h x hx ih=>exact⟨_,_,rfl,fst_ne (by decide)⟩
 |call s h l hl hx ih=>exact⟨_,_,rfl,fst_ne (by decide)⟩
 |read=>exact⟨_,_,rfl,by decide⟩
theorem commaT_hd:∀l:List Expr,(∀x∈l,RE x)->l≠ []->∃x r,zS (l.map tE)=x::r/\x≠(2,[41])
 | [],_,h=>absurd rfl h
 | [e],hR,_=>tE_hd (hR e (by simp))
 |e::y::l,hR,_=>app_hd (tE_hd (hR e (by simp)))
theorem args_all{T:List Tok}{d:Int}(l:List Expr)(i:Nat)(hR:∀x∈l,RE x)(hA:∀x∈l,PA T x)(hd:l≠ []->d+(maxL (l.map hE):Nat)<=100)(hs:Seg T i (zS (l.map tE)))(he:kt (tk T (i+(zS (l.map tE)).length))=(2,[41])):
  ∃n,zMb T n d (P0s i)=some (l,P0s (i+(zS (l.map tE)).length+1)):=by
 cases hl:l with
 |nil=>
  subst hl;simp only[yW,zS,yg,Nat.add_zero]at he ⊢;exact⟨1,by rw[zMb,if_pos (zAa he)];rfl⟩
 |cons y r=>
  rw[<-hl];have hne:l≠ []:=by rw[hl];simp
  obtain⟨n,h⟩:=al_all (T:=T) (d:=d) l [] i hne hA (fun x hx=>by
   have:=maxL_le (l.map hE) (hE x) (List.mem_map_of_mem hx);have:=hd hne;omega) (fun x hx L _=>(hR x hx).br1 1 (by omega)) hs he
  have h1:=h true (.inl rfl);rw[if_pos rfl,yp]at h1;refine⟨n+1,?_⟩;obtain⟨x,q,e1,e2⟩:=commaT_hd l hR hne;have hx:kt (tk T i)=x:=by rw[e1]at hs;exact hs.1
  rw[zMb,if_neg (by rw[zOa hx e2];decide),h1];simp only;rw[zT he]
theorem expr_dn{T:List Tok}{d:Int}{p:PS}{i:Nat}{e:Expr}{M:Int}(hM:M<=11)(h:∃n,zda T n M d p=some (e,P0s i)):∀(k:Nat),stop (M-(k:Int)) (kt (tk T i))->∃n,zda T n (M-(k:Int)) d p=some (e,P0s i)
 |0,_=>by
  have e1:M-((0:Nat):Int)=M:=by omega
  rw[e1];exact h
 |k+1,hs=>by
  have ih:=expr_dn hM h k (zxd hs (by omega));have e1:(M-((k+1:Nat):Int))+1=M-(k:Int):=by omega
  exact expr_lift (by omega) (by rw[e1];exact ih) (loop_stop hs)
theorem prim_name{T:List Tok}{n i:Nat}{d:Int}{s:List UInt8}(h:kt (tk T i)=(1,s)):zV T (n+1) d (P0s i)=
  (if isF T [40] (P0s (i+1))=true then(match zMb T n (d+1) (P0s (i+2))with
   |none=>none
   |some q=>some (⟨7,0,0,s,q.1⟩,q.2))
  else if isF T [91] (P0s (i+1))=true then(match zda T n 1 (d+1) (P0s (i+2))with
   |none=>none
   |some q=>some (⟨6,0,0,s,[q.1]⟩,zC T [93] q.2))
  else some (⟨3,0,0,s,[]⟩,P0s (i+1))):=by
 have hk:(tk T i).kind=1:=congrArg Prod.fst h;rw[zV,if_neg (by simp[zf]),if_neg (by rw[zqa h];simp),if_neg (by rw[zqa h];simp),if_neg (by rw[zqa h];simp),if_neg (by rw[zqa h];simp),if_neg (by rw[hk];decide),zuc h];rfl
theorem PA_two{T:List Tok}{i:Nat}(h:i<19){x y:Expr}(Ax:PA T x)(Ay:PA T y):PA T ⟨5,((i+1:Nat):Int),0,[],[x,y]⟩:=by
 have hlv:1<=zI ((i+1:Nat):Int)/\zI ((i+1:Nat):Int)<=10:=by
  have hall:∀j,j<19->1<=zI ((j+1:Nat):Int)/\zI ((j+1:Nat):Int)<=10:=by decide
  exact hall i h
 have hop:=fun p=>opF_here (T:=T) (i:=p) h
 have hso:=stop_op h;have hbr:∀L,brP ⟨5,((i+1:Nat):Int),0,[],[x,y]⟩ L=decide (zI ((i+1:Nat):Int)<L):=fun L=>by simp[brP]
 have eT:tE ⟨5,((i+1:Nat):Int),0,[],[x,y]⟩=brT x (zI ((i+1:Nat):Int)) (tE x)++(2,zP ((i+1:Nat):Int))::brT y (zI ((i+1:Nat):Int)+1) (tE y):=by
  rw[tE_two]
 have eH:hE ⟨5,((i+1:Nat):Int),0,[],[x,y]⟩=max (brH x (zI ((i+1:Nat):Int)) (hE x)) (brH y (zI ((i+1:Nat):Int)+1) (hE y)):=by
  rw[hE_two]
 have hne:¬((i+1:Nat):Int)=0:=by omega
 generalize zI ((i+1:Nat):Int)=l at*;generalize zP ((i+1:Nat):Int)=sg at*;generalize((i+1:Nat):Int)=o at*;have s1:∀p (d:Int),Seg T p (tE ⟨5,o,0,[],[x,y]⟩)->stop (l+1) (kt (tk T (p+(tE ⟨5,o,0,[],[x,y]⟩).length)))->d+(hE ⟨5,o,0,[],[x,y]⟩:Nat)<=100->∀r,(∃m,zB T m l d ⟨5,o,0,[],[x,y]⟩ (P0s (p+(tE ⟨5,o,0,[],[x,y]⟩).length))=some r)->∃n,zda T n l d (P0s p)=some r:=by
  intro p d hs hp hd r hr;rw[eT]at hs hp hr;rw[eH]at hd;rw[zta,Seg]at hs;obtain⟨hs1,hs2,hs3⟩:=hs;have el:p+(brT x l (tE x)++(2,sg)::brT y (l+1) (tE y)).length=p+(brT x l (tE x)).length+1+(brT y (l+1) (tE y)).length:=by simp;omega
  rw[el]at hp hr;refine Ax.ex p l d hlv.1 hlv.2 hs1 (by rw[hs2];exact hso) (by omega) r ?_;obtain⟨n,hy⟩:=Ay.all (p+(brT x l (tE x)).length+1) (l+1) d (by omega) (by omega) hs3 hp (by omega);obtain⟨m,hm⟩:=hr;refine⟨max n m+1,?_⟩;have ho:=hop _ hs2;rw[zB,ho,if_neg hne];have ea:adv (P0s (p+(brT x l (tE x)).length))=P0s (p+(brT x l (tE x)).length+1):=rfl;rw[ea,zec hy (yS n m)];exact loop_more hm (yL n m)
 have s2:∀p (L d:Int),L<l->Seg T p (tE ⟨5,o,0,[],[x,y]⟩)->stop (L+1) (kt (tk T (p+(tE ⟨5,o,0,[],[x,y]⟩).length)))->d+(hE ⟨5,o,0,[],[x,y]⟩:Nat)<=100->∃n,zda T n (L+1) d (P0s p)=some (⟨5,o,0,[],[x,y]⟩,P0s (p+(tE ⟨5,o,0,[],[x,y]⟩).length)):=by
  intro p L d hL hs hp hd;have h1:=s1 p d hs (zxd hp (by omega)) hd _ (loop_stop (zxd hp (by omega)));obtain⟨k,rfl⟩:∃k:Nat,L=l-(k:Int)-1:=⟨(l-L-1).toNat,by omega⟩
  have e1:l-(k:Int)-1+1=l-(k:Int):=by omega
  rw[e1]at hp ⊢;exact expr_dn (by omega) h1 k hp
 have s3:∀p (d:Int),Seg T p ((2,[40])::(tE ⟨5,o,0,[],[x,y]⟩++[(2,[41])]))->d+((hE ⟨5,o,0,[],[x,y]⟩+1:Nat):Int)<=100->∃n,zFa T n d (P0s p)=some (⟨5,o,0,[],[x,y]⟩,P0s (p+((2,([40]:List UInt8))::(tE ⟨5,o,0,[],[x,y]⟩++[((2:Int),([41]:List UInt8))])).length)):=by
  intro p d hs hd;rw[Seg,zta]at hs;obtain⟨hs1,hs2,hs3,_⟩:=hs;obtain⟨n,hn⟩:=s2 (p+1) 0 (d+1) (by omega) hs2 (by rw[hs3];exact stop_end _ (by simp)) (by omega);refine prim_of (by omega) hs1 (by decide) ⟨n+1,?_⟩;have ea:adv (P0s p)=P0s (p+1):=rfl;have e01:(0:Int)+1=1:=by decide
  rw[e01]at hn;rw[zV,if_neg (by simp[zf]),if_pos (zAa hs1),ea,hn];simp only;rw[zT hs3];congr 3;simp;omega
 have b11:brP ⟨5,o,0,[],[x,y]⟩ 11=true:=by rw[hbr];simp;omega
 refine⟨?_,?_⟩
 ·intro p d;unfold brT brH;rw[if_pos b11,if_pos b11];intro hs hp hd;exact s3 p d hs hd
 ·intro p L d h1 h2;by_cases hL:l<L
  ·have bL:brP ⟨5,o,0,[],[x,y]⟩ L=true:=by rw[hbr];simpa using hL
   unfold brT brH;rw[if_pos bL,if_pos bL];intro hs hp hd r hr;have hu:=s3 p d hs hd;obtain⟨k,rfl⟩:∃k:Nat,L=10-(k:Int):=⟨(10-L).toNat,by omega⟩
   have e1:(10-(k:Int))+1=11-(k:Int):=by omega
   rw[e1]at hp;exact expr_lift h2 (by rw[e1];exact expr_un hu k (by omega) hp) hr
  ·have bL:¬brP ⟨5,o,0,[],[x,y]⟩ L=true:=by rw[hbr];simpa using hL
   unfold brT brH;rw[if_neg bL,if_neg bL];intro hs hp hd r hr;by_cases he:L=l
   ·subst he;exact s1 p d hs hp hd r hr
   ·exact expr_lift h2 (s2 p L d (by omega) hs hp hd) hr
theorem PA_all{T:List Tok}{e:Expr}(h:RE e):PA T e:=by
 induction h with
 |num n h=>
  refine PA_of (by simp) (fun i d hs hp hd=>?_);have eT:tE ⟨1,0,(n:Int),[],[]⟩=[(0,zla n)]:=rfl;rw[eT]at hs ⊢;have h1:=hs.1;have hk:(tk T i).kind=0:=congrArg Prod.fst h1;have ht:(tk T i).text=zla n:=congrArg Prod.snd h1;refine prim_of (by omega) h1 (kind_ne (by decide)) ⟨1,?_⟩;rw[zV,if_neg (by simp[zf]),if_neg (by rw[zqa h1];simp),if_neg (by rw[zqa h1];simp),if_neg (by rw[zqa h1];simp),if_neg (by rw[zqa h1];simp),if_pos hk,ht,digits_val h];rfl
 |truth n h=>
  refine PA_of (by simp) (fun i d hs hp hd=>?_);rcases h with rfl|rfl
  ·have eT:tE ⟨2,0,0,[],[]⟩=[(2,[102,97,108,115,101])]:=rfl;rw[eT]at hs ⊢;have h1:=hs.1;refine prim_of (by omega) h1 (by decide) ⟨1,?_⟩;rw[zV,if_neg (by simp[zf]),if_neg (by rw[zqa h1];decide),if_neg (by rw[zqa h1];decide),if_pos (by rw[zqa h1];decide)];rfl
  ·have eT:tE ⟨2,0,1,[],[]⟩=[(2,[116,114,117,101])]:=rfl;rw[eT]at hs ⊢;have h1:=hs.1;refine prim_of (by omega) h1 (by decide) ⟨1,?_⟩;rw[zV,if_neg (by simp[zf]),if_neg (by rw[zqa h1];decide),if_pos (by rw[zqa h1];decide)];rfl
 |var s h=>
  refine PA_of (by simp) (fun i d hs hp hd=>?_);have eT:tE ⟨3,0,0,s,[]⟩=[(1,s)]:=rfl;rw[eT]at hs hp ⊢;have h1:=hs.1;refine prim_of (by omega) h1 (kind_ne (by decide)) ⟨1,?_⟩;have hp':stop 11 (kt (tk T (i+1))):=hp;rw[prim_name h1,if_neg (by rw[zOa rfl hp'.1];decide),if_neg (by rw[zOa rfl hp'.2.1];decide)];rfl
 |one j h x hx ih=>
  refine PA_of (by simp) (fun i d hs hp hd=>?_);by_cases hc:3<=j
  ·have eT:tE ⟨4,((j+20:Nat):Int),0,[],[x]⟩=(2,zP ((j+20:Nat):Int))::(2,[40])::(tE x++[(2,[41])]):=by
    rw[tE_one,if_pos (by omega)]
   have eH:hE ⟨4,((j+20:Nat):Int),0,[],[x]⟩=hE x+1:=by
    rw[hE_one,if_pos (by omega)]
   rw[eT]at hs ⊢;rw[eH]at hd;simp only[Seg]at hs;obtain⟨h1,h2,h3⟩:=hs;rw[zta]at h3;obtain⟨h3,h4,_⟩:=h3;have hb1:=hx.br1 1 (by omega);have bT:brT x 1 (tE x)=tE x:=by unfold brT;rw[hb1];rfl
   have bH:brH x 1 (hE x)=hE x:=by unfold brH;rw[hb1];rfl
   have hx1:=ih.all (i+1+1) 1 (d+1) (by omega) (by omega) (by rw[bT];exact h3) (by rw[bT,h4];exact stop_end 1 (by simp)) (by rw[bH];omega);rw[bT]at hx1;obtain⟨n,hx1⟩:=hx1;refine⟨n+1,?_⟩;rw[zFa,deepF_no (by omega),unF_here h h1];simp only;have ea:adv (P0s i)=P0s (i+1):=rfl;rw[if_pos hc,ea,zT h2,hx1];simp only;rw[zT h4];congr 3;simp;omega
  ·have eT:tE ⟨4,((j+20:Nat):Int),0,[],[x]⟩=(2,zP ((j+20:Nat):Int))::brT x 11 (tE x):=by
    rw[tE_one,if_neg (by omega)]
   have eH:hE ⟨4,((j+20:Nat):Int),0,[],[x]⟩=brH x 11 (hE x)+1:=by
    rw[hE_one,if_neg (by omega)]
   rw[eT]at hs hp ⊢;rw[eH]at hd;obtain⟨h1,h2⟩:=hs;have el:i+((2,zP ((j+20:Nat):Int))::brT x 11 (tE x)).length=i+1+(brT x 11 (tE x)).length:=by simp;omega
   rw[el]at hp ⊢;obtain⟨n,hx1⟩:=ih.un (i+1) (d+1) h2 hp (by omega);refine⟨n+1,?_⟩;rw[zFa,deepF_no (by omega),unF_here h h1];simp only;have ea:adv (P0s i)=P0s (i+1):=rfl;rw[if_neg hc,ea,hx1]
 |two i h x y hx hy ihx ihy=>exact PA_two h ihx ihy
 |index s h x hx ih=>
  refine PA_of (by simp) (fun i d hs hp hd=>?_);have eT:tE ⟨6,0,0,s,[x]⟩=(1,s)::(2,[91])::(tE x++[(2,[93])]):=rfl;have eH:hE ⟨6,0,0,s,[x]⟩=hE x+1:=rfl;rw[eT]at hs ⊢;rw[eH]at hd;simp only[Seg]at hs;obtain⟨h1,h2,h3⟩:=hs;rw[zta]at h3;obtain⟨h3,h4,_⟩:=h3;have hb1:=hx.br1 1 (by omega);have bT:brT x 1 (tE x)=tE x:=by unfold brT;rw[hb1];rfl
  have bH:brH x 1 (hE x)=hE x:=by unfold brH;rw[hb1];rfl
  have hx1:=ih.all (i+1+1) 1 (d+1) (by omega) (by omega) (by rw[bT];exact h3) (by rw[bT,h4];exact stop_end 1 (by simp)) (by rw[bH];omega);rw[bT]at hx1;obtain⟨n,hx1⟩:=hx1;refine prim_of (by omega) h1 (kind_ne (by decide)) ⟨n+1,?_⟩;rw[prim_name h1,if_neg (by rw[zOa h2 (by decide)];decide),if_pos (zAa h2),hx1];simp only;rw[zT h4];congr 3;simp;omega
 |call s h l hl hx ih=>
  refine PA_of (by simp) (fun i d hs hp hd=>?_);have eT:tE ⟨7,0,0,s,l⟩=(1,s)::(2,[40])::(zS (l.map tE)++[(2,[41])]):=by rw[<-tEs_eq];rfl
  have eH:=hE_call s l;rw[eT]at hs ⊢;rw[eH]at hd;simp only[Seg]at hs;obtain⟨h1,h2,h3⟩:=hs;rw[zta]at h3;obtain⟨h3,h4,_⟩:=h3;obtain⟨n,hn⟩:=args_all (d:=d+1) l (i+1+1) hx ih (fun hne=>by rw[if_neg hne]at hd;omega) h3 h4;refine prim_of (by split at hd<;>omega) h1 (kind_ne (by decide)) ⟨n+1,?_⟩;rw[prim_name h1,if_pos (zAa h2),hn];simp only;congr 3;simp;omega
 |read=>
  refine PA_of (by simp) (fun i d hs hp hd=>?_);have eT:tE ⟨8,0,0,[],[]⟩=[(2,[114,101,97,100]),(2,[40]),(2,[41])]:=rfl;rw[eT]at hs ⊢;simp only[Seg]at hs;obtain⟨h1,h2,h3,_⟩:=hs;refine prim_of (by omega) h1 (by decide) ⟨1,?_⟩;have ea:adv (P0s i)=P0s (i+1):=rfl;rw[zV,if_neg (by simp[zf]),if_neg (by rw[zqa h1];decide),if_neg (by rw[zqa h1];decide),if_neg (by rw[zqa h1];decide),if_pos (zAa h1),ea,zT h2,zT h3];rfl
theorem expr_all{T:List Tok}{e:Expr}(h:RE e)(i:Nat)(d:Int)(hs:Seg T i (tE e))(hp:stop 1 (kt (tk T (i+(tE e).length))))(hd:d+(hE e:Nat)<=100):∃n,zda T n 1 d (P0s i)=some (e,P0s (i+(tE e).length)):=by
 have hb1:=h.br1 1 (by omega);have bT:brT e 1 (tE e)=tE e:=by unfold brT;rw[hb1];rfl
 have bH:brH e 1 (hE e)=hE e:=by unfold brH;rw[hb1];rfl
 have:=(PA_all (T:=T) h).all i 1 d (by omega) (by omega) (by rw[bT];exact hs) (by rw[bT];exact hp) (by rw[bH];exact hd);rw[bT]at this;exact this
theorem stmt_more{T:List Tok}{n m:Nat}{d:Int}{p:PS}{r:Stmt×PS}(h:zgb T n d p=some r)(hm:n<=m):zgb T m d p=some r:=by
 obtain⟨v,q⟩:=r;exact(upS (up_self T) n).stmt m d p v q hm h
theorem zRc{T:List Tok}{n m:Nat}{d:Int}{l:List Stmt}{p:PS}{r:List Stmt×PS}(h:zW T n d l p=some r)(hm:n<=m):zW T m d l p=some r:=by
 obtain⟨v,q⟩:=r;exact(upS (up_self T) n).block m d l p v q hm h
theorem zGc{d:Int}(h:d<=100)(p:PS):deepS d p=p:=by unfold deepS;rw[if_neg (by omega)]
theorem typed_yes{T:List Tok}{i:Nat}{t:Int}(ht:t=1\/t=2)(h:kt (tk T i)=(2,typX t)):zx T (P0s i)=(t,P0s (i+1)):=by
 rcases ht with rfl|rfl
 ·have h':kt (tk T i)=(2,[105,110,116]):=h;unfold zx;rw[if_pos (zAa h')]
 ·have h':kt (tk T i)=(2,[98,111,111,108]):=h;unfold zx;rw[if_neg (by rw[zOa h' (by decide)];decide),zT h']
theorem expr_st{T:List Tok}{e:Expr}(h:RE e)(hd:hE e<=99)(i:Nat){b:List UInt8}(hb:b∈[[41],[93],[44],[59]])(hs:Seg T i (tE e))(hp:kt (tk T (i+(tE e).length))=(2,b)):∃n,zda T n 1 1 (P0s i)=some (e,P0s (i+(tE e).length)):=
 expr_all h i 1 hs (by rw[hp];exact stop_end 1 hb) (by omega)
theorem inside_st{T:List Tok}{e:Expr}(h:RE e)(hd:hE e<=99)(i:Nat)(h0:kt (tk T i)=(2,[40]))(hs:Seg T (i+1) (tE e))(hp:kt (tk T (i+1+(tE e).length))=(2,[41])):∃n,∀m,n<=m->zTa T m (P0s i)=some (e,P0s (i+1+(tE e).length+1)):=by
 obtain⟨n,hn⟩:=expr_st h hd (i+1) (by simp) hs hp;refine⟨n,fun m hm=>?_⟩;unfold zTa;rw[zT h0,zec hn hm];simp only;rw[zT hp]
theorem tS_hd{m:Nat}{s:Stmt}(h:RS m s):∃x r,tS s=x::r/\x≠(2,[125])/\x≠(2,[101,108,115,101]):=by
 cases h with
 |lets m t s x ht hs hx hd=>rcases ht with rfl|rfl<;>exact⟨_,_,rfl,by decide,by decide⟩
 |sets m s x hs hx hd=>exact⟨_,_,rfl,fst_ne (by decide),fst_ne (by decide)⟩
 |puts m s x y hs hx hd hy hd2=>exact⟨_,_,rfl,fst_ne (by decide),fst_ne (by decide)⟩
 |ifs m x th el hx hd h1 h2=>exact⟨_,_,rfl,by decide,by decide⟩
 |whiles m x th hx hd h1=>exact⟨_,_,rfl,by decide,by decide⟩
 |breaks m=>exact⟨_,_,rfl,by decide,by decide⟩
 |continues m=>exact⟨_,_,rfl,by decide,by decide⟩
 |returns m x hx hd=>exact⟨_,_,rfl,by decide,by decide⟩
 |prints m x hx hd=>exact⟨_,_,rfl,by decide,by decide⟩
 |does m s l hx hd=>exact⟨_,_,rfl,fst_ne (by decide),fst_ne (by decide)⟩
def SA(T:List Tok)(m:Nat)(s:Stmt):Prop:=∀i (d:Int),d+(m:Nat)<=101->Seg T i (tS s)->kt (tk T (i+(tS s).length))≠(2,[101,108,115,101])->∃n,zgb T n d (P0s i)=some (s,P0s (i+(tS s).length))
theorem zPd{T:List Tok}{m:Nat}:∀(l acc:List Stmt) (i:Nat) (d:Int),d+(m:Nat)<=101->(∀x∈l,RS m x)->(∀x∈l,SA T m x)->Seg T i (tSs l)->kt (tk T (i+(tSs l).length))=(2,[125])->∃n,zW T n d acc (P0s i)=some (acc++l,P0s (i+(tSs l).length+1))
 | [],acc,i,d,_,_,_,_,he=>by
  have he':kt (tk T i)=(2,[125]):=he;exact⟨1,by rw[zW,if_neg (by simp[zf]),if_pos (zAa he'),List.append_nil];rfl⟩
 |x::l,acc,i,d,hd,hR,hA,hs,he=>by
  rw[tSs]at hs he ⊢;rw[zta]at hs;obtain⟨hs1,hs2⟩:=hs;have el:i+(tS x++tSs l).length=i+(tS x).length+(tSs l).length:=by simp;omega
  rw[el]at he ⊢;obtain⟨y,q,e1,e2,_⟩:=tS_hd (hR x (by simp));have hy:kt (tk T i)=y:=by rw[e1]at hs1;exact hs1.1
  have hnx:kt (tk T (i+(tS x).length))≠(2,[101,108,115,101]):=by
   cases l with
   |nil=>
    have he':kt (tk T (i+(tS x).length))=(2,[125]):=he;rw[he'];decide
   |cons z l=>
    obtain⟨y',q',e1',_,e3'⟩:=tS_hd (hR z (by simp));rw[tSs,e1']at hs2;rw[hs2.1];exact e3'
  obtain⟨n,hn⟩:=hA x (by simp) i d hd hs1 hnx;obtain⟨k,hk⟩:=zPd l (acc++[x]) (i+(tS x).length) d hd (fun z hz=>hR z (by simp[hz])) (fun z hz=>hA z (by simp[hz])) hs2 he;refine⟨max n k+1,?_⟩;rw[zW,if_neg (by simp[zf]),if_neg (by rw[zOa hy e2];decide),stmt_more hn (yS n k)];simp only;rw[zRc hk (yL n k),ym];rfl
theorem stmt_name{T:List Tok}{n i:Nat}{d:Int}{s:List UInt8}(hd:d<=100)(h:kt (tk T i)=(1,s)):zgb T (n+1) d (P0s i)=(match zAb T n (P0s i)with
   |none=>none
   |some q=>some (q.1,zC T [59] q.2)):=by
 rw[zgb,zGc hd];have hn:∀w,isF T w (P0s i)=false:=fun w=>zOa h (fst_ne (by decide))
 simp only[hn];rfl
theorem stmt_all{T:List Tok}{m:Nat}{s:Stmt}(h:RS m s):SA T m s:=by
 induction h with
 |lets m t s x ht hs hx hd=>
  intro i d hdm hseg hne;have eT:tS ⟨1,t,s,[x],[],[]⟩=(2,typX t)::(1,s)::(2,[61])::(tE x++[(2,[59])]):=rfl;rw[eT]at hseg ⊢;simp only[Seg]at hseg;obtain⟨h1,h2,h3,h4⟩:=hseg;rw[zta]at h4;obtain⟨h4,h5,_⟩:=h4;obtain⟨n,hn⟩:=expr_st hx hd _ (by simp) h4 h5;refine⟨n+1,?_⟩;have hty:(isF T [105,110,116] (P0s i)||isF T [98,111,111,108] (P0s i))=true:=by
   rw[zqa h1,zqa h1];rcases ht with rfl|rfl<;>decide
  rw[zgb,zGc (by omega),if_pos hty,typed_yes ht h1];simp only;rw[zuc h2];simp only;rw[zT h3,hn];simp only;rw[zT h5];congr 3;simp;omega
 |sets m s x hs hx hd=>
  intro i d hdm hseg hne;have eT:tS ⟨2,0,s,[x],[],[]⟩=(1,s)::(2,[61])::(tE x++[(2,[59])]):=rfl;rw[eT]at hseg ⊢;simp only[Seg]at hseg;obtain⟨h2,h3,h4⟩:=hseg;rw[zta]at h4;obtain⟨h4,h5,_⟩:=h4;obtain⟨n,hn⟩:=expr_st hx hd _ (by simp) h4 h5;refine⟨n+1,?_⟩;rw[stmt_name (by omega) h2];unfold zAb;rw[zuc h2];simp only;rw[if_neg (by rw[zOa h3 (by decide)];decide),if_neg (by rw[zOa h3 (by decide)];decide),zT h3,hn];simp only;rw[zT h5];congr 3;simp;omega
 |puts m s x y hs hx hd hy hd2=>
  intro i d hdm hseg hne;have eT:tS ⟨3,0,s,[x,y],[],[]⟩=(1,s)::(2,[91])::(tE x++(2,[93])::(2,[61])::(tE y++[(2,[59])])):=rfl;rw[eT]at hseg ⊢;simp only[Seg]at hseg;obtain⟨h2,h3,h4⟩:=hseg;rw[zta]at h4;simp only[Seg]at h4;obtain⟨h4,h5,h6,h7⟩:=h4;rw[zta]at h7;obtain⟨h7,h8,_⟩:=h7;obtain⟨n,hn⟩:=expr_st hx hd _ (by simp) h4 h5;obtain⟨k,hk⟩:=expr_st hy hd2 _ (by simp) h7 h8;refine⟨max n k+1,?_⟩;rw[stmt_name (by omega) h2];unfold zAb;rw[zuc h2];simp only;have ea:adv (P0s (i+1))=P0s (i+1+1):=rfl;rw[if_neg (by rw[zOa h3 (by decide)];decide),if_pos (zAa h3),ea,zec hn (yS n k)];simp only;rw[zT h5,zT h6,zec hk (yL n k)];simp only;rw[zT h8];congr 3;simp;omega
 |ifs m x th el hx hd h1 h2 ih1 ih2=>
  intro i d hdm hseg hne;cases el with
  |nil=>
   have eT:tS ⟨4,0,[],[x],th,[]⟩=(2,[105,102])::(2,[40])::(tE x++(2,[41])::(2,[123])::(tSs th++[(2,[125])])):=rfl;rw[eT]at hseg hne ⊢;simp only[Seg]at hseg;obtain⟨g1,g2,g3⟩:=hseg;rw[zta]at g3;simp only[Seg]at g3;obtain⟨g3,g4,g5,g6⟩:=g3;rw[zta]at g6;obtain⟨g6,g7,_⟩:=g6;obtain⟨n,hn⟩:=inside_st hx hd (i+1) g2 g3 g4;obtain⟨k,hk⟩:=zPd th [] _ (d+1) (by omega) h1 ih1 g6 g7;refine⟨max n k+1,?_⟩;have hI:(isF T [105,110,116] (P0s i)||isF T [98,111,111,108] (P0s i))=false:=by rw[zqa g1,zqa g1];decide
   have ea:adv (P0s i)=P0s (i+1):=rfl;have el:i+((2,[105,102])::(2,[40])::(tE x++(2,[41])::(2,[123])::(tSs th++[((2:Int),([125]:List UInt8))]))).length=i+1+1+(tE x).length+1+1+(tSs th).length+1:=by simp;omega
   rw[el]at hne ⊢;rw[zgb,zGc (by omega),if_neg (by rw[hI];decide),if_pos (zAa g1),ea,hn _ (yS n k)];simp only;rw[zT g5,zRc hk (yL n k)];simp only;rw[if_neg (by rw[zOa rfl hne];decide)];rfl
  |cons z el=>
   have eT:tS ⟨4,0,[],[x],th,z::el⟩=(2,[105,102])::(2,[40])::(tE x++(2,[41])::(2,[123])::(tSs th++(2,[125])::(2,[101,108,115,101])::(2,[123])::(tSs (z::el)++[(2,[125])]))):=rfl;rw[eT]at hseg hne ⊢;generalize z::el=el at*;simp only[Seg]at hseg;obtain⟨g1,g2,g3⟩:=hseg;rw[zta]at g3;simp only[Seg]at g3;obtain⟨g3,g4,g5,g6⟩:=g3;rw[zta]at g6;simp only[Seg]at g6;obtain⟨g6,g7,g8,g9,g10⟩:=g6;rw[zta]at g10;obtain⟨g10,g11,_⟩:=g10;obtain⟨n,hn⟩:=inside_st hx hd (i+1) g2 g3 g4;obtain⟨k,hk⟩:=zPd th [] _ (d+1) (by omega) h1 ih1 g6 g7;obtain⟨j,hj⟩:=zPd el [] _ (d+1) (by omega) h2 ih2 g10 g11;refine⟨max n (max k j)+1,?_⟩;have hI:(isF T [105,110,116] (P0s i)||isF T [98,111,111,108] (P0s i))=false:=by rw[zqa g1,zqa g1];decide
   have ea:adv (P0s i)=P0s (i+1):=rfl;have ea2:adv (P0s (i+1+1+(tE x).length+1+1+(tSs th).length+1))=P0s (i+1+1+(tE x).length+1+1+(tSs th).length+1+1):=rfl;have m1:n<=max n (max k j):=by omega
   have m2:k<=max n (max k j):=by omega
   have m3:j<=max n (max k j):=by omega
   rw[zgb,zGc (by omega),if_neg (by rw[hI];decide),if_pos (zAa g1),ea,hn _ m1];simp only;rw[zT g5,zRc hk m2];simp only;rw[if_pos (zAa g8),ea2,zT g9,zRc hj m3];simp only;congr 3;simp;omega
 |whiles m x th hx hd h1 ih1=>
  intro i d hdm hseg hne;have eT:tS ⟨5,0,[],[x],th,[]⟩=(2,[119,104,105,108,101])::(2,[40])::(tE x++(2,[41])::(2,[123])::(tSs th++[(2,[125])])):=rfl;rw[eT]at hseg hne ⊢;simp only[Seg]at hseg;obtain⟨g1,g2,g3⟩:=hseg;rw[zta]at g3;simp only[Seg]at g3;obtain⟨g3,g4,g5,g6⟩:=g3;rw[zta]at g6;obtain⟨g6,g7,_⟩:=g6;obtain⟨n,hn⟩:=inside_st hx hd (i+1) g2 g3 g4;obtain⟨k,hk⟩:=zPd th [] _ (d+1) (by omega) h1 ih1 g6 g7;refine⟨max n k+1,?_⟩;have hI:(isF T [105,110,116] (P0s i)||isF T [98,111,111,108] (P0s i))=false:=by rw[zqa g1,zqa g1];decide
  have ea:adv (P0s i)=P0s (i+1):=rfl;rw[zgb,zGc (by omega),if_neg (by rw[hI];decide),if_neg (by rw[zOa g1 (by decide)];decide),if_pos (zAa g1),ea,hn _ (yS n k)];simp only;rw[zT g5,zRc hk (yL n k)];simp only;congr 3;simp;omega
 |breaks m=>
  intro i d hdm hseg hne;have eT:tS ⟨6,0,[],[],[],[]⟩=[(2,[98,114,101,97,107]),(2,[59])]:=rfl;rw[eT]at hseg ⊢;simp only[Seg]at hseg;obtain⟨g1,g2,_⟩:=hseg;refine⟨1,?_⟩;have hI:(isF T [105,110,116] (P0s i)||isF T [98,111,111,108] (P0s i))=false:=by rw[zqa g1,zqa g1];decide
  have ea:adv (P0s i)=P0s (i+1):=rfl;rw[zgb,zGc (by omega),if_neg (by rw[hI];decide),if_neg (by rw[zOa g1 (by decide)];decide),if_neg (by rw[zOa g1 (by decide)];decide),if_pos (zAa g1),ea,zT g2];rfl
 |continues m=>
  intro i d hdm hseg hne;have eT:tS ⟨7,0,[],[],[],[]⟩=[(2,[99,111,110,116,105,110,117,101]),(2,[59])]:=rfl;rw[eT]at hseg ⊢;simp only[Seg]at hseg;obtain⟨g1,g2,_⟩:=hseg;refine⟨1,?_⟩;have hI:(isF T [105,110,116] (P0s i)||isF T [98,111,111,108] (P0s i))=false:=by rw[zqa g1,zqa g1];decide
  have ea:adv (P0s i)=P0s (i+1):=rfl;rw[zgb,zGc (by omega),if_neg (by rw[hI];decide),if_neg (by rw[zOa g1 (by decide)];decide),if_neg (by rw[zOa g1 (by decide)];decide),if_neg (by rw[zOa g1 (by decide)];decide),if_pos (zAa g1),ea,zT g2];rfl
 |returns m x hx hd=>
  intro i d hdm hseg hne;have eT:tS ⟨8,0,[],[x],[],[]⟩=(2,[114,101,116,117,114,110])::(tE x++[(2,[59])]):=rfl;rw[eT]at hseg ⊢;simp only[Seg]at hseg;obtain⟨g1,g2⟩:=hseg;rw[zta]at g2;obtain⟨g2,g3,_⟩:=g2;obtain⟨n,hn⟩:=expr_st hx hd _ (by simp) g2 g3;refine⟨n+1,?_⟩;have hI:(isF T [105,110,116] (P0s i)||isF T [98,111,111,108] (P0s i))=false:=by rw[zqa g1,zqa g1];decide
  have ea:adv (P0s i)=P0s (i+1):=rfl;rw[zgb,zGc (by omega),if_neg (by rw[hI];decide),if_neg (by rw[zOa g1 (by decide)];decide),if_neg (by rw[zOa g1 (by decide)];decide),if_neg (by rw[zOa g1 (by decide)];decide),if_neg (by rw[zOa g1 (by decide)];decide),if_pos (zAa g1),ea,hn];simp only;rw[zT g3];congr 3;simp;omega
 |prints m x hx hd=>
  intro i d hdm hseg hne;have eT:tS ⟨9,0,[],[x],[],[]⟩=(2,[112,114,105,110,116])::(2,[40])::(tE x++[(2,[41]),(2,[59])]):=rfl;rw[eT]at hseg ⊢;simp only[Seg]at hseg;obtain⟨g1,g2,g3⟩:=hseg;rw[zta]at g3;obtain⟨g3,g4,g5,_⟩:=g3;obtain⟨n,hn⟩:=inside_st hx hd (i+1) g2 g3 g4;refine⟨n+1,?_⟩;have hI:(isF T [105,110,116] (P0s i)||isF T [98,111,111,108] (P0s i))=false:=by rw[zqa g1,zqa g1];decide
  have ea:adv (P0s i)=P0s (i+1):=rfl;rw[zgb,zGc (by omega),if_neg (by rw[hI];decide),if_neg (by rw[zOa g1 (by decide)];decide),if_neg (by rw[zOa g1 (by decide)];decide),if_neg (by rw[zOa g1 (by decide)];decide),if_neg (by rw[zOa g1 (by decide)];decide),if_neg (by rw[zOa g1 (by decide)];decide),if_pos (zAa g1),ea,hn _ (yh n)];simp only;rw[zT g5];congr 3;simp;omega
 |does m s l hx hd=>
  intro i d hdm hseg hne;have eT:tS ⟨10,0,[],[⟨7,0,0,s,l⟩],[],[]⟩=(1,s)::(2,[40])::(zS (l.map tE)++[(2,[41]),(2,[59])]):=by
   have:tS ⟨10,0,[],[⟨7,0,0,s,l⟩],[],[]⟩=((1,s)::(2,[40])::(zS (tEs l)++[(2,[41])]))++[(2,[59])]:=rfl;rw[this,tEs_eq];simp
  rw[eT]at hseg ⊢;simp only[Seg]at hseg;obtain⟨g1,g2,g3⟩:=hseg;rw[zta]at g3;obtain⟨g3,g4,g5,_⟩:=g3;have hR:∀x∈l,RE x:=by cases hx with|call s h l hl hx=>exact hx
  rw[hE_call]at hd;obtain⟨n,hn⟩:=args_all (d:=2) l (i+1+1) hR (fun x hx=>PA_all (hR x hx)) (fun hne=>by rw[if_neg hne]at hd;omega) g3 g4;refine⟨n+1,?_⟩;rw[stmt_name (by omega) g1];unfold zAb;rw[zuc g1];simp only;have ea:adv (P0s (i+1))=P0s (i+1+1):=rfl;rw[if_pos (zAa g2),ea,hn];simp only;rw[zT g5];congr 3;simp;omega
theorem stmts_all{T:List Tok}(l:List Stmt)(i:Nat)(h:∀x∈l,RS 100 x)(hs:Seg T i (tSs l))(he:kt (tk T (i+(tSs l).length))=(2,[125])):∃n,zW T n 1 [] (P0s i)=some (l,P0s (i+(tSs l).length+1)):=
 zPd (m:=100) l [] i 1 (by omega) h (fun x hx=>stmt_all (h x hx)) hs he
theorem zga{T:List Tok}{s:List UInt8}{p:PS}(h:zf (zC T s p)=false):zC T s p=adv p/\zf p=false:=by
 unfold zC at h ⊢;by_cases c:isF T s p=true
 ·rw[if_pos c]at h ⊢;exact⟨rfl,h⟩
 ·rw[if_neg c]at h ⊢;split at h
  ·rename_i hd;simp[zf,hd]at h
  ·simp[zf]at h
theorem zTb{T:List Tok}{k:Int}{p:PS}(h:zf (zy T k p).2=false):(zy T k p).2=adv p/\zf p=false:=by
 unfold zy at h ⊢;by_cases c:zf p=true
 ·rw[if_pos c]at h;exact absurd h (by rw[c];decide)
 ·rw[if_neg c]at h ⊢;by_cases hk:(tk T p.at').kind=k
  ·rw[if_pos hk];exact⟨rfl,by simpa using c⟩
  ·rw[if_neg hk]at h;simp[zf]at h
theorem typed_adv{T:List Tok}{p:PS}(h:zf (zx T p).2=false):(zx T p).2=adv p/\zf p=false:=by
 unfold zx at h ⊢;by_cases c:isF T [105,110,116] p=true
 ·rw[if_pos c]at h ⊢;exact⟨rfl,h⟩
 ·rw[if_neg c]at h ⊢;exact zga h
theorem deepF_ok{d:Int}{p:PS}(h:zf (deepF d p)=false):deepF d p=p/\d<=100:=by
 by_cases c:d<=100
 ·exact⟨deepF_no c p,c⟩
 ·exfalso;unfold deepF at h;rw[if_pos (by omega)]at h;split at h
  ·rename_i hb;simp[zf,hb]at h
  ·simp[zf]at h
theorem deepS_ok{d:Int}{p:PS}(h:zf (deepS d p)=false):deepS d p=p:=by
 unfold deepS at h ⊢;split
 ·rename_i c;rw[if_pos c]at h;simp[zf]at h
 ·rfl
theorem Fw.ok{p q:PS}(f:Fw p q)(h:zf q=false):zf p=false:=by
 cases hp:zf p with
 |false=>rfl
 |true=>rw[f.2 hp]at h;cases h
theorem valGo_le:∀(s:List UInt8) (n m:Int),n<=9223372036854775807->zAc n s=some m->m<=9223372036854775807
 | [],n,m,h,e=>by simp[zAc]at e;omega
 |b::r,n,m,h,e=>by
  simp only[zAc]at e;split at e
  ·cases e
  ·exact valGo_le r _ m (by omega) e
theorem valueM_le(s:List UInt8):zwc s<=9223372036854775807:=by
 unfold zwc;split
 ·decide
 ·rename_i n h;split
  ·decide
  ·exact valGo_le s 0 n (by decide) h
theorem brH_mono{e:Expr}{L M:Int}(h:L<=M)(n:Nat):brH e L n<=brH e M n:=by
 unfold brH;by_cases c:brP e L=true
 ·have:brP e M=true:=by
   unfold brP at c ⊢;simp only[ya,decide_eq_true_eq]at c ⊢;exact⟨c.1,by omega⟩
  rw[if_pos c,if_pos this];exact yh _
 ·rw[if_neg c];split<;>omega
theorem brT_mono{e:Expr}{L M:Int}(h:L<=M)(l:List KT):(brT e L l).length<=(brT e M l).length:=by
 unfold brT;by_cases c:brP e L=true
 ·have:brP e M=true:=by
   unfold brP at c ⊢;simp only[ya,decide_eq_true_eq]at c ⊢;exact⟨c.1,by omega⟩
  rw[if_pos c,if_pos this];exact yh _
 ·rw[if_neg c];split<;>simp<;>omega
theorem brH_le(e:Expr)(L:Int)(n:Nat):n<=brH e L n/\brH e L n<=n+1:=by unfold brH;split<;>omega
theorem brT_le(e:Expr)(L:Int)(l:List KT):l.length<=(brT e L l).length/\(brT e L l).length<=l.length+2:=by unfold brT;split<;>simp<;>omega
def GE(d L:Int)(k:Nat)(v:Expr)(p':PS):Prop:=d+(brH v L (hE v):Nat)<=100/\nbE v=true/\k+(brT v L (tE v)).length<=p'.at'
def GLs(d:Int)(k:Nat)(v:List Expr)(p':PS):Prop:=(∀x∈v,d+(hE x:Nat)<=100)/\nbEs v=true/\k+(zS (v.map tE)).length<=p'.at'
structure FitE(T:List Tok)(n:Nat):Prop where
 primary:∀d p v p',zV T n d p=some (v,p')->Fw p p'/\(zf p'=false->d<=100->GE d 11 p.at' v p')
 unary:∀d p v p',zFa T n d p=some (v,p')->Fw p p'/\(zf p'=false->GE d 11 p.at' v p')
 expr:∀L d p v p',zda T n L d p=some (v,p')->L<=11->Fw p p'/\(zf p'=false->GE d L p.at' v p')
 loop:∀L d a p v p',zB T n L d a p=some (v,p')->L<=10->Fw p p'/\(zf p'=false->∀k,GE d L k a p->GE d L k v p')
 args:∀d p v p',zMb T n d p=some (v,p')->Fw p p'/\(zf p'=false->GLs d (p.at'+1) v p')
 al:∀d l (f:Bool) p v p',zw T n d l f p=some (v,p')->(f=true->l=[])->Fw p p'/\(zf p'=false->∀k,GLs d k l p->GLs d k v p')
theorem GE.plain{d L:Int}{k:Nat}{v:Expr}{p':PS}(h:GE d L k v p'):d+(hE v:Nat)<=100/\nbE v=true/\k+(tE v).length<=p'.at':=by
 obtain⟨h1,h2,h3⟩:=h;have:=brH_le v L (hE v);have:=brT_le v L (tE v);exact⟨by omega,h2,by omega⟩
theorem GE.of{d L:Int}{k:Nat}{v:Expr}{p':PS}(hk:¬v.kind=5)(h1:d+(hE v:Nat)<=100)(h2:nbE v=true)(h3:k+(tE v).length<=p'.at'):GE d L k v p':=by
 have hb:brP v L=false:=by unfold brP;simp[hk]
 unfold GE brH brT;rw[if_neg (by rw[hb];decide),if_neg (by rw[hb];decide)];exact⟨h1,h2,h3⟩
theorem maxL_bound{l:List Nat}{m:Nat}(h:∀x∈l,x<=m):maxL l<=m:=by
 induction l with
 |nil=>exact Nat.zero_le _
 |cons x r ih=>
  rw[maxL];have:=h x (by simp);have:=ih (fun y hy=>h y (by simp[hy]));omega
theorem commaT_snoc:∀(l:List (List KT)) (x:List KT),(zS (l++[x])).length<=(zS l).length+1+x.length
 | [],x=>by simp[zS]
 | [y],x=>by simp[zS];omega
 |y::z::l,x=>by
  have ih:=commaT_snoc (z::l) x;simp only[yk,zS,ye,yd]at ih ⊢;omega
theorem nbEs_app(a b:List Expr):nbEs (a++b)=(nbEs a&&nbEs b):=by rw[nbEs_eq,nbEs_eq,nbEs_eq,yla]
theorem fit_of{T:List Tok}{n:Nat}(E:FitE T n):FitE T (n+1):=by
 refine⟨?_,?_,?_,?_,?_,?_⟩
 ·intro d p v p' h;simp only[zV]at h;split at h
  ·rename_i ho;cases h;exact⟨Fw.refl _,fun h=>by rw[ho]at h;cases h⟩
  split at h
  ·split at h
   ·cases h
   ·rename_i q hq;cases h;obtain⟨F,W⟩:=E.expr _ _ _ _ _ hq (by decide);refine⟨((zu p).trans F).trans (zm _ _ _),fun ho hd=>?_⟩;obtain⟨m1,m2⟩:=zga ho;obtain⟨g1,g2,g3⟩:=(W m2).plain;have b1:=brH_le q.1 11 (hE q.1);have b2:=brT_le q.1 11 (tE q.1);rw[m1];have e1:(adv q.2).at'=q.2.at'+1:=rfl;have e2:(adv p).at'=p.at'+1:=rfl;exact⟨by omega,g2,by omega⟩
  split at h
  ·cases h;exact⟨zu p,fun _ hd=>GE.of (by simp) (by show d+((0:Nat):Int)<=100;omega) (by decide) (yh _)⟩
  split at h
  ·cases h;exact⟨zu p,fun _ hd=>GE.of (by simp) (by show d+((0:Nat):Int)<=100;omega) (by decide) (yh _)⟩
  split at h
  ·cases h;refine⟨((zu p).trans (zm T [40] _)).trans (zm T [41] _),fun ho hd=>?_⟩;obtain⟨m1,m2⟩:=zga ho;obtain⟨m3,m4⟩:=zga m2;rw[m1,m3];exact GE.of (by simp) (by show d+((0:Nat):Int)<=100;omega) (by decide) (yh _)
  split at h
  ·cases h;refine⟨zu p,fun _ hd=>GE.of (by simp) (by show d+((0:Nat):Int)<=100;omega) ?_ (yh _)⟩;have:=valueM_le (tk T p.at').text;simp[nbE,nbEs,this]
  have F1:=zfb T 1 p;split at h
  ·split at h
   ·cases h
   ·rename_i q hq;cases h;obtain⟨F,W⟩:=E.args _ _ _ _ hq;refine⟨(F1.trans (zu _)).trans F,fun ho hd=>?_⟩;obtain⟨g1,g2,g3⟩:=W ho;obtain⟨t1,t2⟩:=zTb (((zu _).trans F).ok ho);rw[t1]at g3;have e1:(adv (adv p)).at'=p.at'+2:=rfl;refine GE.of (by simp) ?_ ?_ ?_
    ·rw[hE_call];split
     ·omega
     ·rename_i hne;have:=maxL_bound (l:=q.1.map hE) (m:=(99-d).toNat) (fun x hx=>by
       obtain⟨y,hy,rfl⟩:=List.mem_map.1 hx;have:=g1 y hy;omega)
      obtain⟨y,hy⟩:=List.exists_mem_of_ne_nil _ hne;have:=g1 y hy;omega
    ·rw[nbE,g2];decide
    ·rw[tE_call];simp only[yd,ye,yg];rw[e1]at g3;omega
  split at h
  ·split at h
   ·cases h
   ·rename_i q hq;cases h;obtain⟨F,W⟩:=E.expr _ _ _ _ _ hq (by decide);refine⟨((F1.trans (zu _)).trans F).trans (zm _ _ _),fun ho hd=>?_⟩;obtain⟨m1,m2⟩:=zga ho;obtain⟨g1,g2,g3⟩:=(W m2).plain;obtain⟨t1,t2⟩:=zTb (((zu _).trans F).ok m2);rw[t1]at g3;have e1:(adv (adv p)).at'=p.at'+2:=rfl;rw[m1];have e3:(adv q.2).at'=q.2.at'+1:=rfl;refine GE.of (by simp) ?_ ?_ ?_
    ·have:hE ⟨6,0,0,(zy T 1 p).1,[q.1]⟩=hE q.1+1:=rfl;rw[this];omega
    ·simp[nbE,nbEs,g2]
    ·have:tE ⟨6,0,0,(zy T 1 p).1,[q.1]⟩=(1,(zy T 1 p).1)::(2,[91])::(tE q.1++[(2,[93])]):=rfl;rw[this];simp only[yd,ye,yg];omega
  ·cases h;refine⟨F1,fun ho hd=>?_⟩;obtain⟨t1,t2⟩:=zTb ho;rw[t1];exact GE.of (by simp) (by show d+((0:Nat):Int)<=100;omega) (by simp[nbE,nbEs]) (yh _)
 ·intro d p v p' h;simp only[zFa]at h;have F1:=fw_deepF d p;cases hu:unF T (deepF d p)with
  |none=>
   rw[hu]at h;obtain⟨F,W⟩:=E.primary _ _ _ _ h;refine⟨F1.trans F,fun ho=>?_⟩;obtain⟨d1,d2⟩:=deepF_ok (F.ok ho);have:=W ho d2;rw[d1]at this;exact this
  |some i=>
   rw[hu]at h;simp only at h;have hi9:i<9:=(unF_get hu).1;split at h
   ·rename_i hc;split at h
    ·cases h
    ·rename_i q hq;cases h;have F2:=zm T [40] (adv (deepF d p));obtain⟨F,W⟩:=E.expr _ _ _ _ _ hq (by decide);refine⟨(((F1.trans (zu _)).trans F2).trans F).trans (zm _ _ _),fun ho=>?_⟩;obtain⟨m1,m2⟩:=zga ho;obtain⟨g1,g2,g3⟩:=(W m2).plain;obtain⟨m3,m4⟩:=zga (F.ok m2);obtain⟨d1,d2⟩:=deepF_ok ((zu _).ok m4);rw[m3,d1]at g3;have e1:(adv (adv p)).at'=p.at'+2:=rfl;have e3:(adv q.2).at'=q.2.at'+1:=rfl;rw[m1];refine GE.of (by simp) ?_ ?_ ?_
     ·have:hE ⟨4,((i+20:Nat):Int),0,[],[q.1]⟩=hE q.1+1:=by
       rw[hE_one,if_pos (by omega)]
      rw[this];omega
     ·simp[nbE,nbEs,g2]
     ·have:tE ⟨4,((i+20:Nat):Int),0,[],[q.1]⟩=(2,zP ((i+20:Nat):Int))::(2,[40])::(tE q.1++[(2,[41])]):=by
       rw[tE_one,if_pos (by omega)]
      rw[this];simp only[yd,ye,yg];omega
   ·rename_i hc;split at h
    ·cases h
    ·rename_i q hq;cases h;obtain⟨F,W⟩:=E.unary _ _ _ _ hq;refine⟨(F1.trans (zu _)).trans F,fun ho=>?_⟩;obtain⟨g1,g2,g3⟩:=W ho;obtain⟨d1,d2⟩:=deepF_ok (((zu _).trans F).ok ho);rw[d1]at g3;have e1:(adv p).at'=p.at'+1:=rfl;refine GE.of (by simp) ?_ ?_ ?_
     ·have:hE ⟨4,((i+20:Nat):Int),0,[],[q.1]⟩=brH q.1 11 (hE q.1)+1:=by
       rw[hE_one,if_neg (by omega)]
      rw[this];omega
     ·simp[nbE,nbEs,g2]
     ·have:tE ⟨4,((i+20:Nat):Int),0,[],[q.1]⟩=(2,zP ((i+20:Nat):Int))::brT q.1 11 (tE q.1):=by
       rw[tE_one,if_neg (by omega)]
      rw[this];simp only[yd];omega
 ·intro L d p v p' h hL;simp only[zda]at h;split at h
  ·rename_i c;obtain rfl:L=11:=by omega
   exact E.unary _ _ _ _ h
  ·split at h
   ·cases h
   ·rename_i q hq;obtain⟨F,W⟩:=E.expr _ _ _ _ _ hq (by omega);obtain⟨F2,W2⟩:=E.loop _ _ _ _ _ _ h (by omega);refine⟨F.trans F2,fun ho=>?_⟩;obtain⟨g1,g2,g3⟩:=W (F2.ok ho);have:=brH_mono (e:=q.1) (L:=L) (M:=L+1) (by omega) (hE q.1);have:=brT_mono (e:=q.1) (L:=L) (M:=L+1) (by omega) (tE q.1);exact W2 ho _ ⟨by omega,g2,by omega⟩
 ·intro L d a p v p' h hL;simp only[zB]at h;split at h
  ·cases h;exact⟨Fw.refl _,fun _ k hk=>hk⟩
  ·rename_i hne;split at h
   ·cases h
   ·rename_i q hq;obtain⟨F,W⟩:=E.expr _ _ _ _ _ hq (by omega);obtain⟨F2,W2⟩:=E.loop _ _ _ _ _ _ h hL;refine⟨((zu p).trans F).trans F2,fun ho k hk=>?_⟩;refine W2 ho k ?_;obtain⟨g1,g2,g3⟩:=W (F2.ok ho);obtain⟨k1,k2,k3⟩:=hk;have hlev:zI (opF T L p)=L:=by
     unfold opF at hne ⊢;cases hf:(yQ 19).find? (zNa T L p)with
     |none=>rw[hf]at hne;exact absurd rfl hne
     |some i=>
      have h1:=List.find?_some hf;unfold zNa at h1;simp only[ya,decide_eq_true_eq]at h1;exact h1.1
    have e1:(adv p).at'=p.at'+1:=rfl;have hb:brP ⟨5,opF T L p,0,[],[a,q.1]⟩ L=false:=by unfold brP;simp[hlev]
    have eT:tE ⟨5,opF T L p,0,[],[a,q.1]⟩=brT a L (tE a)++(2,zP (opF T L p))::brT q.1 (L+1) (tE q.1):=by
     rw[tE_two,hlev]
    have eH:hE ⟨5,opF T L p,0,[],[a,q.1]⟩=max (brH a L (hE a)) (brH q.1 (L+1) (hE q.1)):=by
     rw[hE_two,hlev]
    refine⟨?_,by simp[nbE,nbEs,g2,k2],?_⟩
    ·unfold brH;rw[if_neg (by rw[hb];decide),eH];omega
    ·unfold brT;rw[if_neg (by rw[hb];decide),eT];simp only[ye,yd];omega
 ·intro d p v p' h;simp only[zMb]at h;split at h
  ·cases h;exact⟨zu p,fun _=>⟨by simp,rfl,yh _⟩⟩
  ·split at h
   ·cases h
   ·rename_i q hq;cases h;obtain⟨F,W⟩:=E.al _ _ _ _ _ _ hq (fun _=>rfl);refine⟨F.trans (zm _ _ _),fun ho=>?_⟩;obtain⟨m1,m2⟩:=zga ho;obtain⟨g1,g2,g3⟩:=W m2 p.at' ⟨by simp,rfl,yh _⟩;rw[m1];have e3:(adv q.2).at'=q.2.at'+1:=rfl;exact⟨g1,g2,by omega⟩
 ·intro d l f p v p' h hf;simp only[zw]at h;have fin:∀q:PS,Fw p q->(∀k,GLs d k l p->k+(zS (l.map tE)).length+(if l=[]then 0 else 1)<=q.at')->(if zf q then some (l,q)else match zda T n 1 d q with|none=>none|some x=>zw T n d (l++[x.1]) false x.2)=some (v,p')->Fw p p'/\(zf p'=false->∀k,GLs d k l p->GLs d k v p'):=by
   intro q Fq hq h;split at h
   ·rename_i ho;cases h;exact⟨Fq,fun h=>by rw[ho]at h;cases h⟩
   ·split at h
    ·cases h
    ·rename_i x hx;obtain⟨F,W⟩:=E.expr _ _ _ _ _ hx (by decide);obtain⟨F2,W2⟩:=E.al _ _ _ _ _ _ h (fun h=>by cases h);refine⟨(Fq.trans F).trans F2,fun ho k hk=>?_⟩;refine W2 ho k ?_;obtain⟨g1,g2,g3⟩:=(W (F2.ok ho)).plain;obtain⟨k1,k2,k3⟩:=hk;have hk':=hq k ⟨k1,k2,k3⟩;refine⟨fun y hy=>?_,?_,?_⟩
     ·rcases yw.1 hy with hy|hy
      ·exact k1 y hy
      ·have:y=x.1:=by simpa using hy
       rw[this];exact g1
     ·rw[nbEs_app,k2];simp[nbEs,g2]
     ·rw[yMa];by_cases hl:l=[]
      ·subst hl;simp only[yW,yp,yz,zS]at hk' ⊢;simp at hk';omega
      ·have:=commaT_snoc (l.map tE) (tE x.1);rw[if_neg hl]at hk';simp only[yz,yW];omega
  cases f
  ·cases c2:isF T [44] p
   ·rw[c2]at h;simp at h;obtain⟨rfl,rfl⟩:=h;exact⟨Fw.refl _,fun _ k hk=>hk⟩
   ·rw[c2]at h;refine fin (adv p) (zu p) (fun k hk=>?_) h;have e1:(adv p).at'=p.at'+1:=rfl;have:=hk.2.2;split<;>omega
  ·have hl:=hf rfl;refine fin p (Fw.refl _) (fun k hk=>?_) h;have:=hk.2.2;rw[if_pos hl];omega
theorem fit{T:List Tok}:∀n,FitE T n
 |0=>⟨fun _ _ _ _ h=>by simp[zV]at h,fun _ _ _ _ h=>by simp[zFa]at h,fun _ _ _ _ _ h=>by simp[zda]at h,fun _ _ _ _ _ _ h=>by simp[zB]at h,fun _ _ _ _ h=>by simp[zMb]at h,fun _ _ _ _ _ _ h=>by simp[zw]at h⟩
 |n+1=>fit_of (fit n)
theorem expr_fit{T:List Tok}{n:Nat}{p p':PS}{v:Expr}(h:zda T n 1 1 p=some (v,p')):Fw p p'/\(zf p'=false->(decide (hE v<=99)&&nbE v)=true/\p.at'+(tE v).length<=p'.at'):=by
 obtain⟨F,W⟩:=(fit n).expr _ _ _ _ _ h (by decide);refine⟨F,fun ho=>?_⟩;obtain⟨g1,g2,g3⟩:=(W ho).plain;refine⟨?_,g3⟩;rw[g2,Bool.and_true,decide_eq_true_eq];omega
theorem inside_fit{T:List Tok}{n:Nat}{p p':PS}{v:Expr}(h:zTa T n p=some (v,p')):Fw p p'/\(zf p'=false->(decide (hE v<=99)&&nbE v)=true/\p.at'+(tE v).length+2<=p'.at'):=by
 unfold zTa at h;split at h
 ·cases h
 ·rename_i q hq;cases h;obtain⟨F,W⟩:=expr_fit hq;refine⟨((zm _ _ _).trans F).trans (zm _ _ _),fun ho=>?_⟩;obtain⟨m1,m2⟩:=zga ho;obtain⟨g1,g2⟩:=W m2;obtain⟨m3,m4⟩:=zga (F.ok m2);rw[m3]at g2;rw[m1];have e1:(adv p).at'=p.at'+1:=rfl;have e2:(adv q.2).at'=q.2.at'+1:=rfl;exact⟨g1,by omega⟩
theorem dpA_one{x:Expr}(h:(decide (hE x<=99)&&nbE x)=true):dpA [x]=true:=by unfold dpA;rw[List.all_cons,h];rfl
theorem dpA_two{x y:Expr}(h:(decide (hE x<=99)&&nbE x)=true)(h2:(decide (hE y<=99)&&nbE y)=true):dpA [x,y]=true:=by unfold dpA;rw[List.all_cons,List.all_cons,h,h2];rfl
theorem dpS_args{k t:Int}{s:List UInt8}{a:List Expr}(h:dpA a=true):dpS ⟨k,t,s,a,[],[]⟩=true:=by rw[dpS,h];rfl
theorem named_fit{T:List Tok}{n:Nat}{p p':PS}{v:Stmt}(h:zAb T n p=some (v,p')):Fw p p'/\(zf p'=false->dpS v=true/\p.at'+(tS v).length<=p'.at'+1):=by
 unfold zAb at h;have F1:=zfb T 1 p;split at h
 ·split at h
  ·cases h
  ·rename_i q hq;cases h;obtain⟨F,W⟩:=(fit n).args _ _ _ _ hq;refine⟨(F1.trans (zu _)).trans F,fun ho=>?_⟩;obtain⟨g1,g2,g3⟩:=W ho;obtain⟨t1,t2⟩:=zTb (((zu _).trans F).ok ho);rw[t1]at g3;have e1:(adv (adv p)).at'=p.at'+2:=rfl;constructor
   ·apply dpS_args;apply dpA_one;rw[ya,decide_eq_true_eq,hE_call];refine⟨?_,by simp[nbE,g2]⟩;split
    ·omega
    ·have:=maxL_bound (l:=q.1.map hE) (m:=98) (fun x hx=>by
      obtain⟨y,hy,rfl⟩:=List.mem_map.1 hx;have:=g1 y hy;omega)
     omega
   ·have:tS ⟨10,0,[],[⟨7,0,0,(zy T 1 p).1,q.1⟩],[],[]⟩=tE ⟨7,0,0,(zy T 1 p).1,q.1⟩++[(2,[59])]:=rfl;rw[this,tE_call];simp only[yd,ye,yg];omega
 ·split at h
  ·split at h
   ·cases h
   ·rename_i q hq;split at h
    ·cases h
    ·rename_i r hr;cases h;obtain⟨F,W⟩:=expr_fit hq;obtain⟨F2,W2⟩:=expr_fit hr;refine⟨(((F1.trans (zu _)).trans F).trans ((zm T [93] q.2).trans (zm T [61] _))).trans F2,fun ho=>?_⟩;obtain⟨g1,g2⟩:=W2 ho;obtain⟨m1,m2⟩:=zga (F2.ok ho);obtain⟨m3,m4⟩:=zga m2;obtain⟨g3,g4⟩:=W m4;obtain⟨t1,t2⟩:=zTb (((zu _).trans F).ok m4);rw[t1]at g4;rw[m1,m3]at g2;have e1:(adv (adv p)).at'=p.at'+2:=rfl;have e2:(adv (adv q.2)).at'=q.2.at'+2:=rfl;refine⟨dpS_args (dpA_two g3 g1),?_⟩;have:tS ⟨3,0,(zy T 1 p).1,[q.1,r.1],[],[]⟩=(1,(zy T 1 p).1)::(2,[91])::(tE q.1++(2,[93])::(2,[61])::(tE r.1++[(2,[59])])):=rfl;rw[this];simp only[yd,ye,yg];omega
  ·split at h
   ·cases h
   ·rename_i q hq;cases h;obtain⟨F,W⟩:=expr_fit hq;refine⟨(F1.trans (zm T [61] _)).trans F,fun ho=>?_⟩;obtain⟨g1,g2⟩:=W ho;obtain⟨m1,m2⟩:=zga (F.ok ho);obtain⟨t1,t2⟩:=zTb m2;rw[m1,t1]at g2;have e1:(adv (adv p)).at'=p.at'+2:=rfl;refine⟨dpS_args (dpA_one g1),?_⟩;have:tS ⟨2,0,(zy T 1 p).1,[q.1],[],[]⟩=(1,(zy T 1 p).1)::(2,[61])::(tE q.1++[(2,[59])]):=rfl;rw[this];simp only[yd,ye,yg];omega
structure FitS(T:List Tok)(n:Nat):Prop where
 stmt:∀d p v p',zgb T n d p=some (v,p')->Fw p p'/\(zf p'=false->dpS v=true/\p.at'+(tS v).length<=p'.at')
 block:∀d l p v p',zW T n d l p=some (v,p')->Fw p p'/\(zf p'=false->dpSs l=true->dpSs v=true/\∀k,k+(tSs l).length<=p.at'->k+(tSs v).length+1<=p'.at')
theorem zQd{T:List Tok}{n:Nat}(E:FitS T n){d:Int}{p:PS}{r:List Stmt×PS}(h:zW T n d [] (zC T [123] p)=some r):Fw p r.2/\(zf r.2=false->dpSs r.1=true/\p.at'+(tSs r.1).length+2<=r.2.at'):=by
 obtain⟨v,p'⟩:=r;obtain⟨F,W⟩:=E.block _ _ _ _ _ h;refine⟨(zm _ _ _).trans F,fun ho=>?_⟩;obtain⟨m1,m2⟩:=zga (F.ok ho);obtain⟨g1,g2⟩:=W ho rfl;have:=g2 (p.at'+1) (by rw[m1];exact yh _);exact⟨g1,by simp only at this ⊢;omega⟩
theorem fitS_of{T:List Tok}{n:Nat}(E:FitS T n):FitS T (n+1):=by
 refine⟨?_,?_⟩
 ·intro d p v p' h;simp only[zgb]at h;have F0:=fw_deepS d p;have base:∀P:PS->Prop,(zf (deepS d p)=false->P p)->(zf (deepS d p)=false->P (deepS d p)):=fun P hP ho=>by rw[deepS_ok ho];exact hP ho
  have back:zf (deepS d p)=false->(deepS d p).at'=p.at':=fun ho=>by rw[deepS_ok ho]
  generalize deepS d p=z at*;clear base;split at h
  ·split at h
   ·cases h
   ·rename_i q hq;cases h;obtain⟨F,W⟩:=expr_fit hq;have F1:=zbe T z;have F2:=zfb T 1 (zx T z).2;refine⟨(F0.trans (((F1.trans F2).trans (zm T [61] _)).trans F)).trans (zm _ _ _),fun ho=>?_⟩;obtain⟨m1,m2⟩:=zga ho;obtain⟨g1,g2⟩:=W m2;obtain⟨m3,m4⟩:=zga (F.ok m2);obtain⟨m5,m6⟩:=zTb m4;obtain⟨m7,m8⟩:=typed_adv m6;rw[m3,m5,m7]at g2;rw[m1];have e0:=back m8;have e1:(adv (adv (adv z))).at'=z.at'+3:=rfl;have e2:(adv q.2).at'=q.2.at'+1:=rfl;refine⟨dpS_args (dpA_one g1),?_⟩;have:tS ⟨1,(zx T z).1,(zy T 1 (zx T z).2).1,[q.1],[],[]⟩=(2,typX (zx T z).1)::(1,(zy T 1 (zx T z).2).1)::(2,[61])::(tE q.1++[(2,[59])]):=rfl;rw[this];simp only[yd,ye,yg];omega
  split at h
  ·split at h
   ·cases h
   ·rename_i q hq;obtain⟨F,W⟩:=inside_fit hq;split at h
    ·cases h
    ·rename_i r hr;obtain⟨F2,W2⟩:=zQd E hr;split at h
     ·split at h
      ·cases h
      ·rename_i t ht;cases h;obtain⟨F3,W3⟩:=zQd E ht;have F4:=(zu r.2).trans F3;refine⟨((F0.trans ((zu z).trans F)).trans F2).trans F4,fun ho=>?_⟩;obtain⟨g1,g2⟩:=W3 ho;have o2:=F4.ok ho;obtain⟨g3,g4⟩:=W2 o2;have o3:=F2.ok o2;obtain⟨g5,g6⟩:=W o3;have e0:=back (((zu z).trans F).ok o3);have e1:(adv z).at'=z.at'+1:=rfl;have e2:(adv r.2).at'=r.2.at'+1:=rfl;refine⟨by rw[dpS,dpA_one g5,g3,g1];rfl,?_⟩;have:(tS ⟨4,0,[],[q.1],r.1,t.1⟩).length<=2+(tE q.1).length+2+(tSs r.1).length+1+2+(tSs t.1).length+1:=by
        rw[tS_if];split<;>simp only[yd,ye,yg]<;>omega
       omega
     ·cases h;refine⟨(F0.trans ((zu z).trans F)).trans F2,fun o2=>?_⟩;obtain⟨g3,g4⟩:=W2 o2;have o3:=F2.ok o2;obtain⟨g5,g6⟩:=W o3;have e0:=back (((zu z).trans F).ok o3);have e1:(adv z).at'=z.at'+1:=rfl;refine⟨by rw[dpS,dpA_one g5,g3];rfl,?_⟩;have:tS ⟨4,0,[],[q.1],r.1,[]⟩=(2,[105,102])::(2,[40])::(tE q.1++(2,[41])::(2,[123])::(tSs r.1++[(2,[125])])):=rfl;rw[this];simp only[yd,ye,yg];omega
  split at h
  ·split at h
   ·cases h
   ·rename_i q hq;obtain⟨F,W⟩:=inside_fit hq;split at h
    ·cases h
    ·rename_i r hr;cases h;obtain⟨F2,W2⟩:=zQd E hr;refine⟨(F0.trans ((zu z).trans F)).trans F2,fun o2=>?_⟩;obtain⟨g3,g4⟩:=W2 o2;have o3:=F2.ok o2;obtain⟨g5,g6⟩:=W o3;have e0:=back (((zu z).trans F).ok o3);have e1:(adv z).at'=z.at'+1:=rfl;refine⟨by rw[dpS,dpA_one g5,g3];rfl,?_⟩;have:tS ⟨5,0,[],[q.1],r.1,[]⟩=(2,[119,104,105,108,101])::(2,[40])::(tE q.1++(2,[41])::(2,[123])::(tSs r.1++[(2,[125])])):=rfl;rw[this];simp only[yd,ye,yg];omega
  split at h
  ·cases h;refine⟨(F0.trans (zu z)).trans (zm _ _ _),fun ho=>?_⟩;obtain⟨m1,m2⟩:=zga ho;have e0:=back m2;rw[m1];have e1:(adv (adv z)).at'=z.at'+2:=rfl;refine⟨by decide,?_⟩;have:(tS ⟨6,0,[],[],[],[]⟩).length=2:=rfl;omega
  split at h
  ·cases h;refine⟨(F0.trans (zu z)).trans (zm _ _ _),fun ho=>?_⟩;obtain⟨m1,m2⟩:=zga ho;have e0:=back m2;rw[m1];have e1:(adv (adv z)).at'=z.at'+2:=rfl;refine⟨by decide,?_⟩;have:(tS ⟨7,0,[],[],[],[]⟩).length=2:=rfl;omega
  split at h
  ·split at h
   ·cases h
   ·rename_i q hq;cases h;obtain⟨F,W⟩:=expr_fit hq;refine⟨(F0.trans ((zu z).trans F)).trans (zm _ _ _),fun ho=>?_⟩;obtain⟨m1,m2⟩:=zga ho;obtain⟨g1,g2⟩:=W m2;have e0:=back (((zu z).trans F).ok m2);rw[m1];have e1:(adv z).at'=z.at'+1:=rfl;have e2:(adv q.2).at'=q.2.at'+1:=rfl;refine⟨dpS_args (dpA_one g1),?_⟩;have:tS ⟨8,0,[],[q.1],[],[]⟩=(2,[114,101,116,117,114,110])::(tE q.1++[(2,[59])]):=rfl;rw[this];simp only[yd,ye,yg];omega
  split at h
  ·split at h
   ·cases h
   ·rename_i q hq;cases h;obtain⟨F,W⟩:=inside_fit hq;refine⟨(F0.trans ((zu z).trans F)).trans (zm _ _ _),fun ho=>?_⟩;obtain⟨m1,m2⟩:=zga ho;obtain⟨g1,g2⟩:=W m2;have e0:=back (((zu z).trans F).ok m2);rw[m1];have e1:(adv z).at'=z.at'+1:=rfl;have e2:(adv q.2).at'=q.2.at'+1:=rfl;refine⟨dpS_args (dpA_one g1),?_⟩;have:tS ⟨9,0,[],[q.1],[],[]⟩=(2,[112,114,105,110,116])::(2,[40])::(tE q.1++[(2,[41]),(2,[59])]):=rfl;rw[this];simp only[yd,ye,yg];omega
  split at h
  ·cases h
  ·rename_i q hq;cases h;obtain⟨F,W⟩:=named_fit hq;refine⟨(F0.trans F).trans (zm _ _ _),fun ho=>?_⟩;obtain⟨m1,m2⟩:=zga ho;obtain⟨g1,g2⟩:=W m2;have e0:=back (F.ok m2);rw[m1];have e2:(adv q.2).at'=q.2.at'+1:=rfl;exact⟨g1,by omega⟩
 ·intro d l p v p' h;simp only[zW]at h;split at h
  ·rename_i ho;cases h;exact⟨Fw.refl _,fun h=>by rw[ho]at h;cases h⟩
  split at h
  ·cases h;refine⟨zu p,fun _ hl=>⟨hl,fun k hk=>?_⟩⟩;have e1:(adv p).at'=p.at'+1:=rfl;omega
  ·split at h
   ·cases h
   ·rename_i q hq;obtain⟨F,W⟩:=E.stmt _ _ _ _ hq;obtain⟨F2,W2⟩:=E.block _ _ _ _ _ h;refine⟨F.trans F2,fun ho hl=>?_⟩;obtain⟨g1,g2⟩:=W (F2.ok ho);obtain⟨g3,g4⟩:=W2 ho (by rw[dpSs_app,hl,dpSs,g1];rfl);refine⟨g3,fun k hk=>g4 k ?_⟩;rw[tSs_app,ye,tSs,tSs,List.append_nil];omega
theorem fitS{T:List Tok}:∀n,FitS T n
 |0=>⟨fun _ _ _ _ h=>by simp[zgb]at h,fun _ _ _ _ _ h=>by simp[zW]at h⟩
 |n+1=>fitS_of (fitS n)
theorem params_fit{T:List Tok}:∀n (l:List Par) (f:Bool) (p:PS) (v:List Par) (p':PS),zN T n l f p=some (v,p')->(f=true->l=[])->Fw p p'/\(zf p'=false->∀k,k+(zS (l.map parT)).length<=p.at'->k+(zS (v.map parT)).length<=p'.at'):=by
 intro n
 induction n with
 |zero=>intro l f p v p' h;simp[zN]at h
 |succ n ih=>
  intro l f p v p' h hf;simp only[zN]at h;have fin:∀q:PS,Fw p q->(∀k,k+(zS (l.map parT)).length<=p.at'->k+(zS (l.map parT)).length+(if l=[]then 0 else 1)<=q.at')->(if zf q then some (l,q)else zN T n (l++[⟨(zy T 1 (zx T q).2).1,(zx T q).1⟩]) false (zy T 1 (zx T q).2).2)=some (v,p')->Fw p p'/\(zf p'=false->∀k,k+(zS (l.map parT)).length<=p.at'->k+(zS (v.map parT)).length<=p'.at'):=by
   intro q Fq hq h;split at h
   ·rename_i ho;cases h;exact⟨Fq,fun h=>by rw[ho]at h;cases h⟩
   ·obtain⟨F,W⟩:=ih _ _ _ _ _ h (fun h=>by cases h);have F1:=zbe T q;have F2:=zfb T 1 (zx T q).2;refine⟨(Fq.trans (F1.trans F2)).trans F,fun ho k hk=>W ho k ?_⟩;obtain⟨m1,m2⟩:=zTb (F.ok ho);obtain⟨m3,m4⟩:=typed_adv m2;rw[m1,m3];have e1:(adv (adv q)).at'=q.at'+2:=rfl;have hk':=hq k hk;rw[yMa];by_cases hl:l=[]
    ·subst hl;simp only[yW,yp,yz,zS]at hk' ⊢;simp[parT]at hk' ⊢;omega
    ·have:=commaT_snoc (l.map parT) (parT ⟨(zy T 1 (zx T q).2).1,(zx T q).1⟩);have e2:(parT ⟨(zy T 1 (zx T q).2).1,(zx T q).1⟩).length=2:=rfl;rw[if_neg hl]at hk';simp only[yz,yW];rw[m3]at this e2;omega
  cases f
  ·cases c2:isF T [44] p
   ·rw[c2]at h;simp at h;obtain⟨rfl,rfl⟩:=h;exact⟨Fw.refl _,fun _ k hk=>hk⟩
   ·rw[c2]at h;refine fin (adv p) (zu p) (fun k hk=>?_) h;have e1:(adv p).at'=p.at'+1:=rfl;split<;>omega
  ·have hl:=hf rfl;refine fin p (Fw.refl _) (fun k hk=>?_) h;rw[if_pos hl];omega
theorem function_fit{T:List Tok}{n:Nat}{t:Int}{s:List UInt8}{p:PS}{r:Func×PS}(h:zka T n t s p=some r):Fw p r.2/\(zf r.2=false->dpSs r.1.body=true/\p.at'+(funT r.1).length<=r.2.at'+2):=by
 unfold zka at h;split at h
 ·split at h
  ·cases h
  ·rename_i q hq;cases h;obtain⟨F,W⟩:=zQd (fitS n) hq;refine⟨((zm _ _ _).trans (zu _)).trans F,fun ho=>?_⟩;obtain⟨g1,g2⟩:=W ho;obtain⟨m1,m2⟩:=zga (((zu _).trans F).ok ho);rw[m1]at g2;have e1:(adv (adv p)).at'=p.at'+2:=rfl;refine⟨g1,?_⟩;simp only[funT,yW,zS,yd,ye,yg];omega
 ·split at h
  ·cases h
  ·rename_i r hr;split at h
   ·cases h
   ·rename_i q hq;cases h;obtain⟨v,p2⟩:=r;obtain⟨F1,W1⟩:=params_fit n _ _ _ _ _ hr (fun _=>rfl);obtain⟨F,W⟩:=zQd (fitS n) hq;refine⟨(((zm _ _ _).trans F1).trans (zm _ _ _)).trans F,fun ho=>?_⟩;obtain⟨g1,g2⟩:=W ho;obtain⟨m1,m2⟩:=zga (F.ok ho);simp only at m1 m2 g2;have g3:=W1 m2;obtain⟨m3,m4⟩:=zga (F1.ok m2);have g4:=g3 (p.at'+1) (by rw[m3];exact yh _);rw[m1]at g2;have e1:(adv p2).at'=p2.at'+1:=rfl;refine⟨g1,?_⟩;simp only[funT,yd,ye,yg];omega
theorem printT_arr(a:List PArr)(x:PArr)(fs:List Func):(zkc ⟨a++[x],fs⟩).length=(zkc ⟨a,fs⟩).length+6:=by
 simp[zkc,arrT];omega
theorem printT_fun(a:List PArr)(fs:List Func)(f:Func):(zkc ⟨a,fs++[f]⟩).length=(zkc ⟨a,fs⟩).length+(funT f).length:=by
 simp[zkc];omega
theorem prog_fit{T:List Tok}:∀n (ars:List PArr) (fs:List Func) (p:PS) (v:Prog) (p':PS),zCb T n ars fs p=some (v,p')->Fw p p'/\(zf p'=false->dpP ⟨ars,fs⟩=true->(zkc ⟨ars,fs⟩).length<=p.at'->dpP v=true/\(zkc v).length<=p'.at'):=by
 intro n
 induction n with
 |zero=>intro ars fs p v p' h;simp[zCb]at h
 |succ n ih=>
  intro ars fs p v p' h;simp only[zCb]at h;split at h
  ·rename_i ho;cases h;exact⟨Fw.refl _,fun h=>by rw[ho]at h;cases h⟩
  split at h
  ·cases h;exact⟨Fw.refl _,fun _ h1 h2=>⟨h1,h2⟩⟩
  have F1:=zbe T p;have F2:=zfb T 1 (zx T p).2;split at h
  ·obtain⟨F,W⟩:=ih _ _ _ _ _ h;have F3:=zfb T 0 (adv (zy T 1 (zx T p).2).2);refine⟨(((((F1.trans F2).trans (zu _)).trans F3).trans (zm T [93] _)).trans (zm T [59] _)).trans F,fun ho h1 h2=>?_⟩;refine W ho h1 ?_;obtain⟨m1,m2⟩:=zga (F.ok ho);obtain⟨m3,m4⟩:=zga m2;obtain⟨m5,m6⟩:=zTb m4;have m6':zf (zy T 1 (zx T p).2).2=false:=m6;obtain⟨m7,m8⟩:=zTb m6';obtain⟨m9,m10⟩:=typed_adv m8;rw[printT_arr,m1,m3,m5,m7,m9];have e1:(adv (adv (adv (adv (adv (adv p)))))).at'=p.at'+6:=rfl;omega
  ·split at h
   ·cases h
   ·rename_i q hq;obtain⟨F3,W3⟩:=function_fit hq;obtain⟨F,W⟩:=ih _ _ _ _ _ h;refine⟨((F1.trans F2).trans F3).trans F,fun ho h1 h2=>?_⟩;obtain⟨g1,g2⟩:=W3 (F.ok ho);obtain⟨m7,m8⟩:=zTb (F3.ok (F.ok ho));obtain⟨m9,m10⟩:=typed_adv m8;rw[m7,m9]at g2;have e1:(adv (adv p)).at'=p.at'+2:=rfl;refine W ho ?_ ?_
    ·unfold dpP at h1 ⊢;simp only at h1 ⊢;rw[yla,h1];simp[g1]
    ·rw[printT_fun];omega
theorem prog_up{T T':List Tok}{δ:Nat}(U:Up T T' δ):∀n m ars fs p v p',n<=m->zCb T' n ars fs p=some (v,p')->zCb T m ars fs (up δ p)=some (v,up δ p'):=by
 intro n
 induction n with
 |zero=>intro m ars fs p v p' _ h;simp[zCb]at h
 |succ n ih=>
  intro m ars fs p v p' hm h;obtain⟨m,rfl⟩:∃k,m=k+1:=⟨m-1,by omega⟩
  have hm:n<=m:=by omega
  simp only[zCb]at h ⊢;simp only[zWd,at_up,U.kind,typedF_up U,textF_up U,zqd U,zgd,zva U];split at h
  ·rename_i c;rw[if_pos c];cases h;rfl
  rename_i c;rw[if_neg c];split at h
  ·rename_i c;rw[if_pos c];cases h;rfl
  rename_i c;rw[if_neg c];split at h
  ·rename_i c;rw[if_pos c];exact ih m _ _ _ _ _ hm h
  ·rename_i c;rw[if_neg c];split at h
   ·cases h
   ·rename_i q hq;rw[function_up U hm hq];exact ih m _ _ _ _ _ hm h
theorem prog_more{T:List Tok}{n m:Nat}{ars:List PArr}{fs:List Func}{p:PS}{r:Prog×PS}(h:zCb T n ars fs p=some r)(hm:n<=m):zCb T m ars fs p=some r:=by
 obtain⟨v,q⟩:=r;exact prog_up (up_self T) n m ars fs p v q hm h
theorem params_more{T:List Tok}{n m:Nat}{l:List Par}{f:Bool}{p:PS}{r:List Par×PS}(h:zN T n l f p=some r)(hm:n<=m):zN T m l f p=some r:=by
 obtain⟨v,q⟩:=r;exact params_up (up_self T) n m l f p v q hm h
theorem params_all{T:List Tok}:∀(l acc:List Par) (i:Nat),l≠ []->(∀x∈l,RPar x)->Seg T i (zS (l.map parT))->kt (tk T (i+(zS (l.map parT)).length))=(2,[41])→
  ∃n,∀f:Bool,(f=true\/(kt (tk T (i-1))=(2,[44])/\1<=i))->zN T n acc f (P0s (if f then i else i-1))=some (acc++l,P0s (i+(zS (l.map parT)).length))
 | [],_,_,h,_,_,_=>absurd rfl h
 | [x],acc,i,_,hR,hs,he=>by
  obtain⟨r1,r2⟩:=hR x (by simp);simp only[yz,yW,zS,parT,Seg]at hs he ⊢;obtain⟨h1,h2,_⟩:=hs;have he':kt (tk T (i+1+1))=(2,[41]):=he;refine⟨2,fun f hf=>?_⟩;have hx:(⟨x.name,x.type⟩:Par)=x:=rfl;have ho:zf (P0s i)=false:=rfl;have step:zN T 1 (acc++[⟨(zy T 1 (zx T (P0s i)).2).1,(zx T (P0s i)).1⟩]) false (zy T 1 (zx T (P0s i)).2).2=some (acc++[x],P0s (i+1+1)):=by
   rw[typed_yes r2 h1];simp only;rw[zuc h2];simp only;rw[zN,if_neg];rw[zOa he' (by decide)];decide
  cases f with
  |true=>
   rw[if_pos rfl,zN,if_pos (by rfl)];simp only[↓reduceIte];rw[if_neg (by rw[ho];decide)];exact step
  |false=>
   obtain⟨hc,hi⟩:=hf.resolve_left (by decide);have ei:adv (P0s (i-1))=P0s i:=by unfold adv P0s;simp only;congr 1;omega
   rw[if_neg (by decide),zN,if_pos (by rw[zAa hc];rfl)];simp only[↓reduceIte,yi];rw[ei,if_neg (by rw[ho];decide)];exact step
 |x::y::l,acc,i,_,hR,hs,he=>by
  obtain⟨r1,r2⟩:=hR x (by simp);have el:i+(zS ((x::y::l).map parT)).length=i+1+1+1+(zS ((y::l).map parT)).length:=by simp[zS,parT];omega
  rw[el]at he ⊢;simp only[yz,zS,parT,Seg,yk,yp]at hs;obtain⟨h1,h2,h3,h4⟩:=hs;obtain⟨m,ih⟩:=params_all (y::l) (acc++[x]) (i+1+1+1) (by simp) (fun z hz=>hR z (by simp[hz])) (by simpa[parT]using h4) he;have ih2:=ih false (.inr ⟨by simpa using h3,by omega⟩);rw[if_neg (by decide),Nat.add_sub_cancel,ym]at ih2;refine⟨m+1,fun f hf=>?_⟩;have ho:zf (P0s i)=false:=rfl;have step:zN T m (acc++[⟨(zy T 1 (zx T (P0s i)).2).1,(zx T (P0s i)).1⟩]) false (zy T 1 (zx T (P0s i)).2).2=some (acc++x::y::l,P0s (i+1+1+1+(zS ((y::l).map parT)).length)):=by
   rw[typed_yes r2 h1];simp only;rw[zuc h2];exact ih2
  cases f with
  |true=>
   rw[if_pos rfl,zN,if_pos (by rfl)];simp only[↓reduceIte];rw[if_neg (by rw[ho];decide)];exact step
  |false=>
   obtain⟨hc,hi⟩:=hf.resolve_left (by decide);have ei:adv (P0s (i-1))=P0s i:=by unfold adv P0s;simp only;congr 1;omega
   rw[if_neg (by decide),zN,if_pos (by rw[zAa hc];rfl)];simp only[↓reduceIte,yi];rw[ei,if_neg (by rw[ho];decide)];exact step
theorem params_hd:∀l:List Par,(∀x∈l,RPar x)->l≠ []->∃x r,zS (l.map parT)=x::r/\x≠(2,[41])
 | [],_,h=>absurd rfl h
 | [e],hR,_=>by
  rcases(hR e (by simp)).2 with h|h<;>exact⟨_,_,rfl,by rw[h];decide⟩
 |e::y::l,hR,_=>by
  rcases(hR e (by simp)).2 with h|h<;>exact⟨_,_,rfl,by rw[h];decide⟩
theorem function_all{T:List Tok}{f:Func}(h:RF f)(i:Nat)(hs:Seg T i (funT f)):∃n,zka T n f.type f.name (P0s (i+2))=some (f,P0s (i+(funT f).length)):=by
 obtain⟨h1,h2,h3,h4,h5⟩:=h;obtain⟨nm,ty,ps,body⟩:=f;simp only at h1 h2 h3 h4 h5 ⊢;have el:i+(funT ⟨nm,ty,ps,body⟩).length=i+2+1+(zS (ps.map parT)).length+1+1+(tSs body).length+1:=by simp[funT];omega
 rw[el];simp only[funT,Seg]at hs;obtain⟨g1,g2,g3,g4⟩:=hs;rw[zta]at g4;simp only[Seg]at g4;obtain⟨g4,g5,g6,g7⟩:=g4;rw[zta]at g7;obtain⟨g7,g8,_⟩:=g7;have g3':kt (tk T (i+2))=(2,[40]):=g3;obtain⟨k,hk⟩:=stmts_all body _ h5 g7 g8;cases hp:ps with
 |nil=>
  subst hp;simp only[yW,zS,yg,Nat.add_zero]at g5 g6 hk ⊢;refine⟨k,?_⟩;unfold zka;have g5':kt (tk T (i+2+1))=(2,[41]):=g5;have g6':kt (tk T (i+2+1+1))=(2,[123]):=g6;have ea:adv (P0s (i+2+1))=P0s (i+2+1+1):=rfl;rw[zT g3',if_pos (zAa g5'),ea,zT g6'];have hk':zW T k 1 [] (P0s (i+2+1+1+1))=some (body,P0s (i+2+1+1+1+(tSs body).length+1)):=hk;rw[hk']
 |cons y r=>
  rw[<-hp];have hne:ps≠ []:=by rw[hp];simp
  obtain⟨n,hn⟩:=params_all ps [] (i+2+1) hne h4 g4 g5;have hn1:=hn true (.inl rfl);rw[if_pos rfl,yp]at hn1;obtain⟨x,q,e1,e2⟩:=params_hd ps h4 hne;have hx:kt (tk T (i+2+1))=x:=by rw[e1]at g4;exact g4.1
  refine⟨max n k,?_⟩;unfold zka;rw[zT g3',if_neg (by rw[zOa hx e2];decide),params_more hn1 (yS n k)];simp only;have g5':kt (tk T (i+2+1+(zS (ps.map parT)).length))=(2,[41]):=g5;have g6':kt (tk T (i+2+1+(zS (ps.map parT)).length+1))=(2,[123]):=g6;rw[zT g5',zT g6'];have hk':zW T k 1 [] (P0s (i+2+1+(zS (ps.map parT)).length+1+1))=some (body,P0s (i+2+1+(zS (ps.map parT)).length+1+1+(tSs body).length+1)):=hk;rw[zRc hk' (yL n k)]
theorem funs_all{T:List Tok}{ars:List PArr}:∀(l acc:List Func) (i:Nat),(∀f∈l,RF f)->Seg T i (l.map funT).flatten->(tk T (i+(l.map funT).flatten.length)).kind=3->∃n,zCb T n ars acc (P0s i)=some (⟨ars,acc++l⟩,P0s (i+(l.map funT).flatten.length))
 | [],acc,i,_,_,he=>by
  have he':(tk T (P0s i).at').kind=3:=he;exact⟨1,by rw[zCb,if_neg (by simp[zf]),if_pos he',List.append_nil];rfl⟩
 |f::l,acc,i,hR,hs,he=>by
  have hf:=hR f (by simp);have el:i+((f::l).map funT).flatten.length=i+(funT f).length+(l.map funT).flatten.length:=by simp;omega
  rw[el]at he ⊢;simp only[yz,yTa]at hs;rw[zta]at hs;obtain⟨hs1,hs2⟩:=hs;obtain⟨n,hn⟩:=function_all hf i hs1;obtain⟨k,hk⟩:=funs_all l (acc++[f]) _ (fun g hg=>hR g (by simp[hg])) hs2 he;obtain⟨g1,g2,g3,_⟩:=hs1;refine⟨max n k+1,?_⟩;have hk3:¬(tk T (P0s i).at').kind=3:=by
   have:(tk T i).kind=2:=congrArg Prod.fst g1;show¬(tk T i).kind=3
   rw[this];decide
  have g3':kt (tk T (i+1+1))=(2,[40]):=g3;rw[zCb,if_neg (by simp[zf]),if_neg hk3,typed_yes hf.2.1 g1];simp only;rw[zuc g2];simp only;rw[if_neg (fun c=>by rw[zOa g3' (by decide)]at c;exact absurd c.2.2 (by decide))];obtain⟨v,q⟩:∃v q,zka T n f.type f.name (P0s (i+2))=some (v,q):=⟨_,_,hn⟩
  have hn':zka T (max n k) f.type f.name (P0s (i+1+1))=some (f,P0s (i+(funT f).length)):=function_up (up_self T) (yS n k) hn;rw[hn'];simp only;rw[prog_more hk (yL n k),ym];rfl
theorem arrs_all{T:List Tok}{r:Prog×PS}:∀(l acc:List PArr) (i:Nat),(∀a∈l,RA a)->Seg T i (l.map arrT).flatten->(∃m,zCb T m (acc++l) [] (P0s (i+(l.map arrT).flatten.length))=some r)->∃n,zCb T n acc [] (P0s i)=some r
 | [],acc,i,_,_,h=>by simpa using h
 |a::l,acc,i,hR,hs,h=>by
  obtain⟨r1,r2,r3⟩:=hR a (by simp);have el:i+((a::l).map arrT).flatten.length=i+6+(l.map arrT).flatten.length:=by simp[arrT];omega
  rw[el]at h;simp only[yz,yTa]at hs;rw[zta]at hs;obtain⟨hs1,hs2⟩:=hs;have hs2':Seg T (i+6) (l.map arrT).flatten:=hs2;obtain⟨k,hk⟩:=arrs_all l (acc++[a]) (i+6) (fun g hg=>hR g (by simp[hg])) hs2' (by rw[ym];exact h);simp only[arrT,Seg]at hs1;obtain⟨g1,g2,g3,g4,g5,g6,_⟩:=hs1;refine⟨k+1,?_⟩;have hk3:¬(tk T (P0s i).at').kind=3:=by
   have:(tk T i).kind=2:=congrArg Prod.fst g1;show¬(tk T i).kind=3
   rw[this];decide
  have g1':kt (tk T i)=(2,typX 1):=g1;rw[zCb,if_neg (by simp[zf]),if_neg hk3,typed_yes (.inl rfl) g1'];simp only;rw[zuc g2];simp only;have ea:adv (P0s (i+1+1))=P0s (i+1+1+1):=rfl;rw[if_pos ⟨by simp,by simp,zAa g3⟩,ea,zuc g4];simp only;rw[zT g5,zT g6,digits_val (by omega)];have ha:(⟨a.name,((a.size.toNat:Nat):Int)⟩:PArr)=a:=by
   obtain⟨nm,sz⟩:=a;simp only at r2 ⊢;congr 1;omega
  rw[ha];exact hk
theorem prog_all{T:List Tok}{p:Prog}(h:RP p)(hs:Seg T 0 (zkc p))(he:(tk T (zkc p).length).kind=3):∃n,zCb T n [] [] (P0s 0)=some (p,P0s (zkc p).length):=by
 unfold zkc at hs he ⊢;rw[zta,yV]at hs;obtain⟨hs1,hs2⟩:=hs;rw[ye]at he ⊢;refine arrs_all p.arrays [] 0 h.1 hs1 ?_;rw[yV,yp];exact funs_all (ars:=p.arrays) p.funcs [] _ h.2 hs2 he
theorem tokens_kt(s:List UInt8)(h:s.length<=100000){L:List KT}(hL:tokS s=some L):(zr s).2=(0,0)/\(zr s).1.map kt=L++[(3,[])]:=by
 unfold zr;rw[if_neg (by omega)];obtain⟨h1,h2⟩:=(tokGo_K (s.length+1) s 1 [] (by omega)).2 L hL;exact⟨h1,by rw[h2];simp⟩
theorem seg_of{T:List Tok}:∀(l:List KT) (pre:List KT),T.map kt=pre++l->Seg T pre.length l
 | [],_,_=>trivial
 |x::l,pre,h=>by
  refine⟨?_,?_⟩
  ·have:(T.map kt)[pre.length]? =some x:=by rw[h];simp
   rw[yn]at this;unfold tk;cases hT:T[pre.length]? with
   |none=>rw[hT]at this;cases this
   |some t=>rw[hT]at this;simpa using this
  ·have:=seg_of l (pre++[x]) (by rw[h];simp);simpa using this
theorem parse_print{p:Prog}(h:RP p)(hr:zjc p=true)(hl:(zXb p).length<=100000):zea (zXb p)=(p,0,0):=by
 obtain⟨h1,h2⟩:=tokens_kt (zXb p) hl (lexProg h);have h0:(zr (zXb p)).2.1=0:=by rw[h1]
 have hs:=seg_of (T:=(zr (zXb p)).1) (zkc p++[(3,[])]) [] (by rw[h2];rfl);rw[zta]at hs;obtain⟨hs1,hs2,_⟩:=hs;have hs2':kt (tk (zr (zXb p)).1 (zkc p).length)=(3,[]):=by simpa using hs2
 obtain⟨n,hn⟩:=prog_all h hs1 (congrArg Prod.fst hs2');obtain⟨v,p',e,_,_⟩:=parse_run (zXb p) h0;have e1:=prog_more e (yS (fuel (zr (zXb p)).1) n);have e2:=prog_more hn (yL (fuel (zr (zXb p)).1) n);have e3:(⟨0,false,false⟩:PS)=P0s 0:=rfl;rw[e3,e2]at e1;cases e1;unfold zea;rw[if_pos h0,e];simp only;rw[if_neg (by decide),if_neg (by decide),if_pos hr]
theorem parse_same{s t:List UInt8}(hs:(zea s).2.1=0)(ht:t.length<=100000)(he:tokS t=tokS s):zea t=zea s:=by
 unfold zea at hs;split at hs
 ·rename_i h0;have hl:s.length<=100000:=by
   unfold zr at h0;split at h0
   ·simp at h0
   ·omega
  obtain⟨L,hL,hk⟩:=tokens_K s hl h0;obtain⟨h1,h2⟩:=tokens_kt t ht (he.trans hL);have h0':(zr t).2.1=0:=by rw[h1]
  have hm:(zr t).1.map kt=(zr s).1.map kt:=by rw[h2,hk]
  have U:Up (zr t).1 (zr s).1 0:=fun i=>by
   have e:((zr t).1.map kt)[i]? =((zr s).1.map kt)[i]? :=by rw[hm]
   rw[yn,yn]at e;unfold tk;rw[Nat.add_zero];cases h3:(zr t).1[i]? <;>cases h4:(zr s).1[i]? <;>rw[h3,h4]at e<;>simp at e ⊢
   exact e
  have hlen:(zr t).1.length=(zr s).1.length:=by
   have:=congrArg List.length hm;simpa using this
  obtain⟨v,p',e,_,_⟩:=parse_run s h0;have e2:=prog_up U _ (fuel (zr t).1) _ _ _ _ _ (by unfold fuel;rw[hlen];exact yh _) e;have e3:up 0 (⟨0,false,false⟩:PS)=⟨0,false,false⟩:=rfl;have e4:up 0 p'=p':=rfl;rw[e3,e4]at e2;rw[e]at hs;simp only at hs;split at hs
  ·simp at hs
  ·rename_i c1;split at hs
   ·simp at hs
   ·rename_i c2;unfold zea;rw[if_pos h0',if_pos h0,e2,e];simp only;rw[if_neg c1,if_neg c1,if_neg c2,if_neg c2]
 ·rename_i h0;exact absurd hs h0
theorem zDc{s:List UInt8}(h:zXa s=true):s.length<=20:=by
 unfold zXa at h;simp only[ya,decide_eq_true_eq]at h;exact h.2.2.2.1
theorem brX_len{e:Expr}{L:Int}{x:List UInt8}{l:List KT}(h:x.length<=24*l.length):(brX e L x).length<=24*(brT e L l).length:=by
 unfold brX brT;split
 ·simp;omega
 ·exact h
theorem comma_len{α:Type}(f:α->List UInt8)(g:α->List KT):∀l:List α,(∀x∈l,(f x).length<=24*(g x).length)->(zfa (l.map f)).length<=24*(zS (l.map g)).length
 | [],_=>by simp[zfa]
 | [x],h=>by simpa[zfa,zS]using h x (by simp)
 |x::y::l,h=>by
  have ih:=comma_len f g (y::l) (fun z hz=>h z (by simp[hz]));have:=h x (by simp);simp only[yz,zfa,zS,ye,yd]at ih ⊢;omega
theorem xE_len{e:Expr}(h:RE e):(xE e).length<=24*(tE e).length:=by
 induction h with
 |num n h=>
  have:=digF_len 20 n;have e1:xE ⟨1,0,(n:Int),[],[]⟩=digF 20 n:=rfl;have e2:(tE ⟨1,0,(n:Int),[],[]⟩).length=1:=rfl;rw[e1,e2];omega
 |truth n h=>rcases h with rfl|rfl<;>decide
 |var s h=>
  have:=zDc h;have e1:xE ⟨3,0,0,s,[]⟩=s:=rfl;have e2:(tE ⟨3,0,0,s,[]⟩).length=1:=rfl;rw[e1,e2];omega
 |one i h x hx ih=>
  have hall:∀j,j<9->(zP ((j+20:Nat):Int)).length<=3:=by decide
  have:=hall i h;have hb:=brX_len (e:=x) (L:=11) ih;rw[xE_one,tE_one];split
  ·simp only[ye,yd,yg];omega
  ·simp only[ye,yd];omega
 |two i h x y hx hy ihx ihy=>
  have hall:∀j,j<19->(zP ((j+1:Nat):Int)).length<=3:=by decide
  have:=hall i h;have hb:=brX_len (e:=x) (L:=zI ((i+1:Nat):Int)) ihx;have hc:=brX_len (e:=y) (L:=zI ((i+1:Nat):Int)+1) ihy;rw[xE_two,tE_two];simp only[ye,yd];omega
 |index s h x hx ih=>
  have:=zDc h;have e1:xE ⟨6,0,0,s,[x]⟩=s++91::(xE x++[93]):=rfl;have e2:tE ⟨6,0,0,s,[x]⟩=(1,s)::(2,[91])::(tE x++[(2,[93])]):=rfl;rw[e1,e2];simp only[ye,yd,yg];omega
 |call s h l hl hx ih=>
  have:=zDc h;have hc:=comma_len xE tE l ih;have e1:xE ⟨7,0,0,s,l⟩=s++40::(zfa (l.map xE)++[41]):=by rw[<-xEs_eq];rfl
  rw[e1,tE_call];simp only[ye,yd,yg];omega
 |read=>decide
theorem typX_len(t:Int):(typX t).length<=4:=by unfold typX;split<;>decide
theorem xSs_len{m:Nat}{tabs:List UInt8}:∀l:List Stmt,(∀s∈l,(xS s tabs).length<=140*(tS s).length)->(xSs l tabs).length<=140*(tSs l).length
 | [],_=>by simp[xSs]
 |x::l,h=>by
  have:=h x (by simp);have:=xSs_len (m:=m) l (fun y hy=>h y (by simp[hy]));rw[xSs,tSs,ye,ye];omega
theorem xS_len{m:Nat}{s:Stmt}(h:RS m s):∀tabs:List UInt8,tabs.length+m<=101->(xS s tabs).length<=140*(tS s).length:=by
 induction h with
 |lets m t s x ht hs hx hd=>
  intro tabs hl;have h1:=typX_len t;have h2:=zDc hs;have h3:=xE_len hx;have e1:xS ⟨1,t,s,[x],[],[]⟩ tabs=tabs++(typX t++32::(s++32::61::32::(xE x++[59,10]))):=rfl;have e2:tS ⟨1,t,s,[x],[],[]⟩=(2,typX t)::(1,s)::(2,[61])::(tE x++[(2,[59])]):=rfl;rw[e1,e2];simp only[ye,yd,yg];omega
 |sets m s x hs hx hd=>
  intro tabs hl;have h2:=zDc hs;have h3:=xE_len hx;have e1:xS ⟨2,0,s,[x],[],[]⟩ tabs=tabs++(s++32::61::32::(xE x++[59,10])):=rfl;have e2:tS ⟨2,0,s,[x],[],[]⟩=(1,s)::(2,[61])::(tE x++[(2,[59])]):=rfl;rw[e1,e2];simp only[ye,yd,yg];omega
 |puts m s x y hs hx hd hy hd2=>
  intro tabs hl;have h2:=zDc hs;have h3:=xE_len hx;have h4:=xE_len hy;have e1:xS ⟨3,0,s,[x,y],[],[]⟩ tabs=tabs++(s++91::(xE x++93::32::61::32::(xE y++[59,10]))):=rfl;have e2:tS ⟨3,0,s,[x,y],[],[]⟩=(1,s)::(2,[91])::(tE x++(2,[93])::(2,[61])::(tE y++[(2,[59])])):=rfl;rw[e1,e2];simp only[ye,yd,yg];omega
 |ifs m x th el hx hd h1 h2 ih1 ih2=>
  intro tabs hl;have h3:=xE_len hx;have g1:=xSs_len (m:=m) th (fun y hy=>ih1 y hy (tabs++[9]) (by simp;omega));have g2:=xSs_len (m:=m) el (fun y hy=>ih2 y hy (tabs++[9]) (by simp;omega));rw[xS_if,tS_if];split
  ·simp only[ye,yd,yg];omega
  ·simp only[ye,yd,yg];omega
 |whiles m x th hx hd h1 ih1=>
  intro tabs hl;have h3:=xE_len hx;have g1:=xSs_len (m:=m) th (fun y hy=>ih1 y hy (tabs++[9]) (by simp;omega));have e1:xS ⟨5,0,[],[x],th,[]⟩ tabs=tabs++(119::104::105::108::101::32::40::(xE x++41::32::123::10::(xSs th (tabs++[9])++(tabs++[125,10])))):=rfl;have e2:tS ⟨5,0,[],[x],th,[]⟩=(2,[119,104,105,108,101])::(2,[40])::(tE x++(2,[41])::(2,[123])::(tSs th++[(2,[125])])):=rfl;rw[e1,e2];simp only[ye,yd,yg];omega
 |breaks m=>
  intro tabs hl;have e1:xS ⟨6,0,[],[],[],[]⟩ tabs=tabs++[98,114,101,97,107,59,10]:=rfl;have e2:(tS ⟨6,0,[],[],[],[]⟩).length=2:=rfl;rw[e1,e2];simp only[ye,yd,yg];omega
 |continues m=>
  intro tabs hl;have e1:xS ⟨7,0,[],[],[],[]⟩ tabs=tabs++[99,111,110,116,105,110,117,101,59,10]:=rfl;have e2:(tS ⟨7,0,[],[],[],[]⟩).length=2:=rfl;rw[e1,e2];simp only[ye,yd,yg];omega
 |returns m x hx hd=>
  intro tabs hl;have h3:=xE_len hx;have e1:xS ⟨8,0,[],[x],[],[]⟩ tabs=tabs++(114::101::116::117::114::110::32::(xE x++[59,10])):=rfl;have e2:tS ⟨8,0,[],[x],[],[]⟩=(2,[114,101,116,117,114,110])::(tE x++[(2,[59])]):=rfl;rw[e1,e2];simp only[ye,yd,yg];omega
 |prints m x hx hd=>
  intro tabs hl;have h3:=xE_len hx;have e1:xS ⟨9,0,[],[x],[],[]⟩ tabs=tabs++(112::114::105::110::116::40::(xE x++[41,59,10])):=rfl;have e2:tS ⟨9,0,[],[x],[],[]⟩=(2,[112,114,105,110,116])::(2,[40])::(tE x++[(2,[41]),(2,[59])]):=rfl;rw[e1,e2];simp only[ye,yd,yg];omega
 |does m s l hx hd=>
  intro tabs hl;have h3:=xE_len hx;have e1:xS ⟨10,0,[],[⟨7,0,0,s,l⟩],[],[]⟩ tabs=tabs++(xE ⟨7,0,0,s,l⟩++[59,10]):=rfl;have e2:tS ⟨10,0,[],[⟨7,0,0,s,l⟩],[],[]⟩=tE ⟨7,0,0,s,l⟩++[(2,[59])]:=rfl;have h4:2<=(tE ⟨7,0,0,s,l⟩).length:=by rw[tE_call];simp
  rw[e1,e2];simp only[ye,yd,yg];omega
theorem flat_len{α:Type}(f:α->List UInt8)(g:α->List KT):∀l:List α,(∀x∈l,(f x).length<=140*(g x).length)->(l.map f).flatten.length<=140*(l.map g).flatten.length
 | [],_=>by simp
 |x::l,h=>by
  have:=h x (by simp);have:=flat_len f g l (fun y hy=>h y (by simp[hy]));simp only[yz,yTa,ye];omega
theorem funX_len{f:Func}(h:RF f):(funX f).length<=140*(funT f).length:=by
 obtain⟨h1,h2,h3,h4,h5⟩:=h;have a1:=typX_len f.type;have a2:=zDc h1;have a3:=comma_len parX parT f.params (fun p hp=>by
  have b1:=typX_len p.type;have b2:=zDc (h4 p hp).1;simp[parX,parT];omega)
 have a4:=xSs_len (m:=100) (tabs:=[9]) f.body (fun s hs=>xS_len (h5 s hs) [9] (by simp));simp only[funX,funT,ye,yd,yg];omega
theorem printM_len{p:Prog}(h:RP p):(zXb p).length<=140*(zkc p).length:=by
 have a1:=flat_len arrX arrT p.arrays (fun a ha=>by
  obtain⟨b1,b2,b3⟩:=h.1 a ha;have b1:=zDc b1;have b4:=digF_len 20 a.size.toNat;have e:(arrT a).length=6:=rfl;rw[e];simp[arrX,zla];omega)
 have a2:=flat_len funX funT p.funcs (fun f hf=>funX_len (h.2 f hf));simp only[zXb,zkc,ye];omega
theorem zKc:∀n (s:List UInt8) (L:List KT),tokK n s=some L->L.length<=s.length
 |0,s,L,h=>by simp[tokK]at h
 |n+1,[],L,h=>by
  simp only[tokK,Option.some.injEq]at h;subst h;simp
 |n+1,b::r,L,h=>by
  simp only[tokK]at h;split at h
  ·have:=zKc n _ _ h;simp;omega
  split at h
  ·have:=zKc n _ _ h;simp;omega
  split at h
  ·rename_i hc;have:=drop_com (r:=r) hc.1;have:=zKc n _ _ h;simp only[yd];omega
  split at h
  ·rename_i hc;have hd:=zMd (r:=r) hc;split at h
   ·cases h
   ·rw[yb]at h;obtain⟨L',h1,rfl⟩:=h;have:=zKc n _ _ h1;simp only[yd];omega
  split at h
  ·cases h
  ·rename_i hc;have hd:=zLd hc;rw[yb]at h;obtain⟨L',h1,rfl⟩:=h;have:=zKc n _ _ h1;simp only[yd];omega
theorem tokS_count(s:List UInt8)(L:List KT)(h:tokS s=some L):L.length<=s.length:=zKc _ _ _ h
theorem parse_fits{s:List UInt8}(h:(zea s).2.1=0)(hl:s.length<=500):RP (zea s).1/\zjc (zea s).1=true/\(zXb (zea s).1).length<=100000:=by
 have h':=h;unfold zea at h;split at h
 ·rename_i h0;obtain⟨v,p',e,I,_⟩:=parse_run s h0;rw[e]at h;simp only at h;split at h
  ·simp at h
  ·rename_i c1;split at h
   ·simp at h
   ·rename_i c2;split at h
    ·rename_i c3;have ep:(zea s).1=v:=by
      unfold zea;rw[if_pos h0,e];simp only;rw[if_neg c1,if_neg c2,if_pos c3]
     obtain⟨F,W⟩:=prog_fit _ _ _ _ _ _ e;have ho:zf p'=false:=by simp[zf,c1,c2]
     obtain⟨g1,g2⟩:=W ho rfl (Nat.zero_le _);have hR:=RP_of c3 g1;rw[ep];refine⟨hR,c3,?_⟩;have hp:=printM_len hR;have ht:(zr s).1.length<=s.length+1:=by
      obtain⟨L,hL,hk⟩:=tokens_K s (by omega) h0;have e1:=congrArg List.length hk;simp only[yea,ye,yd,yg]at e1;have:=tokS_count s L hL;omega
     have hlt:=I.lt;omega
    ·simp at h
 ·rename_i h0;exact absurd h h0
def signList:List (List UInt8):=[[],[43],[45],[42],[47],[37],[38],[124],[94],[60,60],[62,62],[62,62,62],[60],[60,61],[62],[62,61],[61,61],[33,61],[38,38],[124,124],[45],[126],[33],[105,56],[105,49,54],[105,51,50],[117,56],[117,49,54],[117,51,50]]
def zad:List Int:=[0,9,9,10,10,10,5,3,4,8,8,8,7,7,7,7,6,6,2,1,0,0,0,0,0,0,0,0,0]
def sgn(op:Int):List UInt8:=if op<0 then[]else(signList[op.toNat]?).getD []
def lvl(op:Int):Int:=if op<0 then 0 else(zad[op.toNat]?).getD 0
theorem rowCells:∀n:Nat,n<29->List.take 2 (List.drop (n*2) [.str [],.int .i64 0,.str [43],.int .i64 9,.str [45],.int .i64 9,.str [42],.int .i64 10,.str [47],.int .i64 10,.str [37],.int .i64 10,.str [38],.int .i64 5,.str [124],.int .i64 3,.str [94],.int .i64 4,.str [60,60],.int .i64 8,.str [62,62],.int .i64 8,.str [62,62,62],.int .i64 8,.str [60],.int .i64 7,.str [60,61],.int .i64 7,.str [62],.int .i64 7,.str [62,61],.int .i64 7,.str [61,61],.int .i64 6,.str [33,61],.int .i64 6,.str [38,38],.int .i64 2,.str [124,124],.int .i64 1,.str [45],.int .i64 0,.str [126],.int .i64 0,.str [33],.int .i64 0,.str [105,56],.int .i64 0,.str [105,49,54],.int .i64 0,.str [105,51,50],.int .i64 0,.str [117,56],.int .i64 0,.str [117,49,54],.int .i64 0,.str [117,51,50],.int .i64 0])=[PV.str ((signList[n]?).getD []),PV.int .i64 ((zad[n]?).getD 0)]
 |0,_=>rfl
 |1,_=>rfl
 |2,_=>rfl
 |3,_=>rfl
 |4,_=>rfl
 |5,_=>rfl
 |6,_=>rfl
 |7,_=>rfl
 |8,_=>rfl
 |9,_=>rfl
 |10,_=>rfl
 |11,_=>rfl
 |12,_=>rfl
 |13,_=>rfl
 |14,_=>rfl
 |15,_=>rfl
 |16,_=>rfl
 |17,_=>rfl
 |18,_=>rfl
 |19,_=>rfl
 |20,_=>rfl
 |21,_=>rfl
 |22,_=>rfl
 |23,_=>rfl
 |24,_=>rfl
 |25,_=>rfl
 |26,_=>rfl
 |27,_=>rfl
 |28,_=>rfl
 |n+29,h=>by omega
set_option maxHeartbeats 4000000 in
theorem rowOf_spec(op:Int)(σ:ze):zk E 159 [.int .i64 op] σ=some (.ret (.agg [.str (sgn op),.int .i64 (lvl op)]),σ):=by
 refine zc rfl rfl rfl (by simp) ?_;by_cases h0:op<0
 ·simp[F159,h0,sgn,lvl]
 by_cases h1:29<=op
 ·have:29<=op.toNat:=by omega
  simp[F159,h0,h1,sgn,lvl,signList,zad,yfa,this]
 have h2:op.toNat<29:=by omega
 have h3:0<=op:=by omega
 have h4:op.toNat*2<=56:=by omega
 have e1:sgn op=((signList[op.toNat]?).getD []):=by simp[sgn,h0]
 have e2:lvl op=((zad[op.toNat]?).getD 0):=by simp[lvl,h0]
 rw[e1,e2];have e3:=rowCells op.toNat h2;generalize((signList[op.toNat]?).getD [])=s at*;generalize((zad[op.toNat]?).getD 0)=l at*;simp[F159,h0,h1,h2,h3,h4,e3]
theorem level_spec(op:Int)(σ:ze):zk E 148 [.int .i64 op] σ=some (.ret (.int .i64 (lvl op)),σ):=by
 refine zc rfl rfl rfl (by simp) ?_
 (simp[*,F148,rowOf_spec])<;>(repeat' ((first|refine sP _ ?_ ?_|refine gP _ ?_ ?_|refine sN _ ?_ ?_|refine gN _ ?_ ?_|refine sM _ ?_ ?_|refine gM _ ?_ ?_|refine sB _ ?_ ?_|refine gB _ ?_ ?_)<;>intro hc<;>simp[*,F148,rowOf_spec]))
theorem lvl_eq(op:Int):lvl op=zI op:=by
 unfold lvl zI;by_cases h0:op<0
 ·rw[if_pos h0]
  repeat(rw[if_neg (by omega)])
 ·rw[if_neg h0];by_cases h1:29<=op
  ·have:29<=op.toNat:=by omega
   rw[yfa (by simpa[zad]using this)]
   repeat(rw[if_neg (by omega)])
   rfl
  ·obtain⟨n,rfl⟩:∃n:Nat,op=n:=⟨op.toNat,by omega⟩
   have hn:n<29:=by omega
   have key:∀n:Nat,n<29->(zad[((n:Int)).toNat]?).getD 0=zI (n:Int):=by decide
   have:=key n hn;unfold zI at this;exact this
theorem lead_ne:∀(k m:Nat),0<m->m<10^(k+1)->(digF (k+1) m).head? ≠some 48:=by
  intro k
  induction k with
  |zero=>
   intro m hm hm2;unfold digF;rw[if_pos (by simpa using hm2)];intro e;have:=congrArg UInt8.toNat (Option.some.inj e);rw[UInt8.toNat_ofNat']at this;simp at hm2 this;omega
  |succ k ih=>
   intro m hm hm2;unfold digF;split
   ·rename_i hm10;intro e;have:=congrArg UInt8.toNat (Option.some.inj e);rw[UInt8.toNat_ofNat']at this;simp at this;omega
   ·rename_i hm10;have h1:=ih (m/10) (by omega) (by rw[yLa]at hm2;omega);have h2:=digF_ne k (m/10);cases hq:digF (k+1) (m/10)with
    |nil=>exact absurd hq h2
    |cons b r=>rw[hq]at h1;simpa using h1
theorem dec_dig:∀(k n:Nat),n<10^(k+1)->Lib.decDigits n=digF (k+1) n
 |0,n,h=>by rw[Lib.decDigits,digF];simp at h;simp[h]
 |k+1,n,h=>by
  rw[Lib.decDigits,digF];split
  ·rfl
  ·rw[dec_dig k (n/10) (by rw[yLa]at h;omega)]
theorem itoa_dec(c:Nat)(h:c<10^20):Lib.itoa c=zla c:=by
 have h0:¬((c:Int)<0):=by omega
 unfold Lib.itoa zla;rw[if_neg h0,Int.toNat_natCast,dec_dig 19 c h]
theorem tokGo_fuel:∀n m (s:List UInt8) line acc,s.length<n->s.length<m->zZa n s line acc=zZa m s line acc:=by
 intro n
 induction n with
 |zero=>intro m s line acc h;omega
 |succ n ih=>
  intro m s line acc hn hm;obtain⟨m,rfl⟩:∃k,m=k+1:=⟨m-1,by omega⟩
  cases s with
  |nil=>rfl
  |cons b r=>
   simp only[yd]at hn hm;simp only[zZa];split
   ·exact ih m r _ _ (by omega) (by omega)
   split
   ·exact ih m r _ _ (by omega) (by omega)
   split
   ·rename_i h;have:=drop_com (r:=r) h.1;exact ih m _ _ _ (by omega) (by omega)
   split
   ·rename_i h;have:=zMd (r:=r) h;split
    ·rfl
    ·exact ih m _ _ _ (by omega) (by omega)
   split
   ·rfl
   ·rename_i h;have:=zLd h;exact ih m _ _ _ (by omega) (by omega)
def tokL(s:List UInt8)(line:Int)(acc:List Tok):List Tok×Int×Int:=zZa (s.length+1) s line acc
def zYd(s:List UInt8)(line:Int):Tok×Bool:=
 if s=[]then(⟨3,[],line⟩,true)
 else if runM s=[]then(⟨2,zsb s,line⟩,decide (zsb s≠ []))
 else(⟨zBb (runM s) (s.head?.getD 0),runM s,line⟩, !tokBad (runM s) (s.head?.getD 0))
def skips:List UInt8->Bool
 | []=>false
 |b::r=>decide (b=10)||(blank b||(decide (b=47)&&decide (r.head? =some 47)))
def skip1:List UInt8->Int->List UInt8×Int
 | [],line=>([],line)
 |b::r,line=>if b=10 then(r,line+1)else if blank b then(r,line)else((b::r).dropWhile (· !=10),line)
theorem skip1_cons(b:UInt8)(r:List UInt8)(line:Int):skip1 (b::r) line=if b=10 then(r,line+1)else if blank b then(r,line)else((b::r).dropWhile (· !=10),line):=rfl
theorem zyd(b:UInt8)(r:List UInt8):skips (b::r)=true<->b=10\/blank b=true\/(b=47/\r.head? =some 47):=by
 unfold skips;simp only[yF,decide_eq_true_eq,ya]
theorem skip1_len{s:List UInt8}(h:skips s=true)(line:Int):(skip1 s line).1.length<s.length:=by
 cases s with
 |nil=>cases h
 |cons b r=>
  rw[skip1_cons];rw[zyd]at h;by_cases h1:b=10
  ·rw[if_pos h1];simp
  rw[if_neg h1];by_cases h2:blank b=true
  ·rw[if_pos h2];simp
  rw[if_neg h2];rcases h with h|h|h
  ·exact absurd h h1
  ·exact absurd h h2
  ·have:=drop_com (r:=r) h.1;simp only[yd];omega
theorem skip1_tok{s:List UInt8}(h:skips s=true)(line:Int)(acc:List Tok):tokL s line acc=tokL (skip1 s line).1 (skip1 s line).2 acc:=by
 cases s with
 |nil=>cases h
 |cons b r=>
  have hl:=skip1_len h line;unfold tokL;rw[yd,zZa];rw[skip1_cons]at hl ⊢;rw[zyd]at h;by_cases h1:b=10
  ·rw[if_pos h1,if_pos h1]
  rw[if_neg h1]at hl;rw[if_neg h1,if_neg h1];by_cases h2:blank b=true
  ·rw[if_pos h2,if_pos h2]
  rw[if_neg h2]at hl;rw[if_neg h2,if_neg h2];have h3:b=47/\r.head? =some 47:=by
   rcases h with h|h|h
   ·exact absurd h h1
   ·exact absurd h h2
   ·exact h
  rw[if_pos h3];exact tokGo_fuel _ _ _ _ _ (by rw[yd]at hl;exact hl) (yK _)
theorem nextM_cons(b:UInt8)(r:List UInt8)(line:Int):zYd (b::r) line=if runM (b::r)=[]then(⟨2,zsb (b::r),line⟩,decide (zsb (b::r)≠ []))else(⟨zBb (runM (b::r)) b,runM (b::r),line⟩, !tokBad (runM (b::r)) b):=by
 unfold zYd;rw[if_neg (List.cons_ne_nil b r)];rfl
theorem tokKind_ne(w:List UInt8)(b:UInt8):¬zBb w b=3:=by
 unfold zBb;split
 ·decide
 ·split<;>decide
theorem next_tok{s:List UInt8}(h:skips s=false)(line:Int)(acc:List Tok):
  tokL s line acc=(if(zYd s line).2=false then([],20,line)else if(zYd s line).1.kind=3 then(acc++[(zYd s line).1],0,0)else tokL (s.drop (zYd s line).1.text.length) line (acc++[(zYd s line).1])):=by
 cases s with
 |nil=>simp[tokL,zZa,zYd]
 |cons b r=>
  have hn:¬(b=10\/blank b=true\/(b=47/\r.head? =some 47)):=by rw[<-zyd,h];simp
  simp only[not_or]at hn;obtain⟨h1,h2,h3⟩:=hn;have e1:tokL (b::r) line acc=zZa (r.length+1+1) (b::r) line acc:=rfl;rw[e1,zZa,if_neg h1,if_neg h2,if_neg h3,nextM_cons];have hrun:runM (b::r)=(b::r).takeWhile zq:=rfl;rw[hrun];by_cases hb:zq b=true
  ·have hne:¬(b::r).takeWhile zq=[]:=by rw[yT,if_pos hb];simp
   have hlen:=zMd (r:=r) hb;rw[if_pos hb,if_neg hne];cases hbad:tokBad ((b::r).takeWhile zq) b
   ·rw[if_neg (by simp),if_neg (by simp),if_neg (tokKind_ne _ _)];exact tokGo_fuel _ _ _ _ _ (Nat.lt_succ_of_le hlen) (yK _)
   ·simp
  ·have he:(b::r).takeWhile zq=[]:=by rw[yT,if_neg hb]
   rw[if_neg hb,if_pos he];by_cases hs:zsb (b::r)=[]
   ·rw[if_pos hs,if_pos (by simp[hs])]
   ·have hlen:=zLd hs;rw[if_neg hs,if_neg (by simp[hs]),if_neg (by show¬(2:Int)=3;decide)];exact tokGo_fuel _ _ _ _ _ (Nat.lt_succ_of_le hlen) (yK _)
end PE.U
