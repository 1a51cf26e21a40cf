/-
  Texts joined by program: AYA8, PfHand, AYA9, AYC1, AYC2, AYC3, PfEnd, PfRead.
-/
import Derived.Test.YtianoihfjikdgaaB03
import Derived.WalkKit
import Derived.ProofKit
import Derived.OpenShut
import Derived.ShutString
import Derived.ChangeOld
import Derived.Below
set_option linter.unusedVariables false
set_option linter.unusedSectionVars false
set_option linter.unusedSimpArgs false
open Bool renaming and_eq_true→ya
open Eq renaming trans→yd
open Function renaming comp_def→yx
open Go.IntKind renaming wrap→yB
open List renaming all_eq_true→yn,getElem?_append_left→yj,getElem?_append_right→yo,getElem?_eq_getElem→ye,getElem?_eq_some_iff→yb,getElem?_map→yk,getElem?_set_self→yh,getElem?_take→yw,length_cons→yaa,length_map→yY,map_cons→yba,mem_cons→yV,mem_map→yua,mem_range→yka,range→yS,replicate→yg
open Nat renaming le_refl→yl
open Option renaming bind_eq_some_iff→yG,getD_some→yU,map_eq_some_iff→yc
open UInt8 renaming ofNat→yta
namespace PE.U
open Go PE
set_option maxHeartbeats 4000000 in
theorem choice_of{u:Unt}(hU:OkU u){w:Nat}(hL:SpecL u w){m:Nat}{p:Pl}{x:Node}(ho:okN u m p x)(hk:x.kind=10){v:List Int}{S:RS}{T:List (List Int)}{j:Nat}(hS:FitS u S)(hwt:wtN x<capE)
  (hj:T[j]? =some v) (hv:v.length=m) (hw:S.fuel<=w) (c:Int):
  zh E 107 [frV u j m,zP x,.int .i64 c] (sto u S T)=some (outX (zZb (evN u w) x c v S).1,sto u (zZb (evN u w) x c v S).2.2 (T.set j (zZb (evN u w) x c v S).2.1)):=by
 have hws:=zKb x;have hjl:=(yb.1 hj).1;rw[okN_eq]at ho;obtain⟨o1,o2⟩:=ho;have hkid:=kids_two (o1.k10 hk).2;have hp:plIn p x.kind x.outs x.params={p with y:=some x.outs.length}:=by rw[hk];rfl
 rw[hp]at o2;have hmem:(if c=0 then kid1 x else kid0 x)∈x.kids:=by rw[hkid];split<;>simp
 obtain⟨h1,h2⟩:=okK_mem o2 _ hmem;have hwk:=wt_kid hmem;unfold capE at hwt;have hc:=hL m _ _ v S T j hS hw h2 (by unfold capE;omega) hj hv;have hr:=zvc (evN_ok hU w) _ v S h1 h2 hv;unfold zZb;refine ze rfl rfl rfl (by simp[frV,za]) ?_;have hcc:(c=0)=True\/(c=0)=False:=by by_cases h:c=0<;>simp[h]
 have hif:∀(a b:List Node),(c=0)=True/\(if c=0 then a else b)=a\/(c=0)=False/\(if c=0 then a else b)=b:=by
  intro a b;rcases hcc with h|h<;>simp[h]
 have hif:=hif (kid1 x) (kid0 x);generalize(if c=0 then kid1 x else kid0 x)=l at*;generalize zkb (evN u w) l v S=q at*;obtain⟨y,v1,S1⟩:=q;obtain⟨r1,r2,r3⟩:=hr;simp only at r1 r2 r3 hc ⊢;have hS1:=hS.mono r1;have ou:=o1.outs;have hol:x.outs.length<1099511627776:=by omega
 clear hcc hmem h1 h2 hws hwk hL hU o1 o2 hp;cases y with
 |stop k=>
  simp[frV,zy]at hc;rcases hif with⟨hc0,hl⟩|⟨hc0,hl⟩<;>subst hl<;>clear r3<;>simp[*,F107,frV,za,kids,zy]
 |ok y=>
  simp[frV,zy]at hc;simp only;by_cases hy:y.kind=12
  ·rw[if_pos hy];obtain⟨_,r4,_⟩:=r3 y rfl;have hyl:x.outs.length=y.l.length:=by
    rcases r4 with r4|r4|r4|r4
    ·have:=r4.2;simp at this;exact this
    ·omega
    ·omega
    ·omega
   have hset:=set_spec1 (j:=j) (T:=T.set j v1) hS1 (yh hjl) r2 ou hyl hol;rw[List.set_set]at hset;simp[frV,ints]at hset;replace hy:=eqp hy;clear r3 r4 hyl hwt;rcases hif with⟨hc0,hl⟩|⟨hc0,hl⟩<;>subst hl<;>simp[*,F107,frV,za,kids,zy,ints]
  ·rw[if_neg hy];replace hy:=eqn hy;clear r3 hwt;rcases hif with⟨hc0,hl⟩|⟨hc0,hl⟩<;>subst hl<;>simp[*,F107,frV,za,kids,zy,ints]
structure RSt where
 k:Nat
 l:List Int
 v:List Int
 S:RS
set_option maxHeartbeats 4000000 in
theorem loop_of{u:Unt}(hU:OkU u){w:Nat}(hL:SpecL u w){m:Nat}{p:Pl}{x:Node}(ho:okN u m p x)(hk:x.kind=11){v:List Int}{S:RS}{T:List (List Int)}{j:Nat}(hS:FitS u S)(hwt:wtN x<capE)
  (hj:T[j]? =some v) (hv:v.length=m) (hw:S.fuel<=w) {l:List Int} (hl:l.length=x.params.length):
  zh E 108 [frV u j m,zP x,ints l] (sto u S T)=some (outX (loopW (evN u w) x (w+1) l v S).1,sto u (loopW (evN u w) x (w+1) l v S).2.2 (T.set j (loopW (evN u w) x (w+1) l v S).2.1)):=by
 have hws:=zKb x;have hjl:=(yb.1 hj).1;rw[okN_eq]at ho;obtain⟨o1,o2⟩:=ho;have hkid:=kids_one (o1.k11 hk).2;have hp:plIn p x.kind x.outs x.params=⟨none,some x.params.length,some x.outs.length⟩:=by rw[hk];rfl
 rw[hp]at o2;have hmem:kid0 x∈x.kids:=by rw[hkid];simp
 obtain⟨h1,h2⟩:=okK_mem o2 _ hmem;have hwk:=wt_kid hmem;unfold capE at hwt;have ou:=o1.outs;have op:=o1.prs;have hset1:∀l1 v1 S1,FitS u S1->v1.length=m->l1.length=x.params.length->zh E 106 [frV u j m,ints x.params,ints l1] (sto u S1 (T.set j v1))=some (.ret (.tup []),sto u S1 (T.set j (setW v1 x.params l1))):=by
  intro l1 v1 S1 q1 q2 q3;have:=set_spec1 (j:=j) (T:=T.set j v1) q1 (yh hjl) q2 op q3.symm (by omega);rwa[List.set_set]at this
 have hset2:∀l1 v1 S1,FitS u S1->v1.length=m->l1.length=x.outs.length->zh E 106 [frV u j m,ints x.outs,ints l1] (sto u S1 (T.set j v1))=some (.ret (.tup []),sto u S1 (T.set j (setW v1 x.outs l1))):=by
  intro l1 v1 S1 q1 q2 q3;have:=set_spec1 (j:=j) (T:=T.set j v1) q1 (yh hjl) q2 ou q3.symm (by omega);rwa[List.set_set]at this
 have hlist:∀v1 S1,FitS u S1->S1.fuel<=w->v1.length=m->zh E 75 [frV u j m,zy (kid0 x)] (sto u S1 (T.set j v1))=some (outX (zkb (evN u w) (kid0 x) v1 S1).1,sto u (zkb (evN u w) (kid0 x) v1 S1).2.2 (T.set j (zkb (evN u w) (kid0 x) v1 S1).2.1)):=by
  intro v1 S1 q1 q2 q3;have:=hL m _ _ v1 S1 (T.set j v1) j q1 q2 h2 (by unfold capE;omega) (yh hjl) q3;rwa[List.set_set]at this
 have hrun:∀v1 S1,v1.length=m->ListRun m ⟨none,some x.params.length,some x.outs.length⟩ (kid0 x) S1 (zkb (evN u w) (kid0 x) v1 S1):=fun v1 S1 q=>zvc (evN_ok hU w) _ v1 S1 h1 h2 q
 have hself:=set_self hj;refine ze rfl rfl rfl (by simp[frV,za,ints]) ?_;clear hL hU o1 o2 hp hmem h1 h2 hwk hws ou op hj;simp[F108,frV,za,ints];refine wp_while K108_0 B108_0 (fun c:RSt=>c.S.fuel) (fun c=>[(2,ints c.l)]) (fun c=>[(6,.cells [.int .i64 0,.slice .fit 1 []])]) (fun c=>sto u c.S (T.set j c.v))
  (fun c=>loopW (evN u w) x (w+1) l v S=loopW (evN u w) x c.k c.l c.v c.S/\FitS u c.S/\c.S.fuel<=w/\c.S.fuel<c.k/\c.v.length=m/\c.l.length=x.params.length) ⟨w+1,l,v,S⟩ ?_ ?_
 ·simp[*,ints];omega
 ·rintro⟨k,l1,v1,S1⟩ s1 ⟨d2,d3,d4,d5,d6,d7⟩ g1 g2 g3 g4 g5
  simp at d2 d3 d4 d5 d6 d7 g1 g2 g3 g4 g5;rw[d2];cases k with
  |zero=>omega
  |succ k=>
   have hs1:=hset1 l1 v1 S1 d3 d6 d7;have hvl:(setW v1 x.params l1).length=m:=by rw[zMb];exact d6
   have hc:=hlist (setW v1 x.params l1) S1 d3 d4 hvl;obtain⟨r1,r2,r3⟩:=hrun (setW v1 x.params l1) S1 hvl;simp only[loopW];simp only[loopW]at d2;generalize zkb (evN u w) (kid0 x) (setW v1 x.params l1) S1=q at*;obtain⟨y,v2,S2⟩:=q;simp only at r1 r2 r3 hc d2;have hS2:=d3.mono r1;have hset2:=fun z hz=>hset2 z v2 S2 hS2 r2 hz
   clear hlist hrun hset1;simp[frV,ints]at hs1;cases y with
   |stop q=>
    simp[frV,zy]at hc;clear d2 hset2 r3 d7;simp[*,za,kids,zy,ints]
   |ok y=>
    obtain⟨r4,r5,_⟩:=r3 y rfl;clear r3;simp[frV,zy]at hc;simp only at d2 ⊢;by_cases h15:y.kind=15
    ·rw[if_pos h15];rw[h15]at hc;clear d2 hset2 d7 r5;simp[*,za,kids,zy,ints]
    ·by_cases h14:y.kind=14
     ·rw[if_neg h15,if_pos h14];have hyl:y.l.length=x.outs.length:=by
       rcases r5 with r5|r5|r5|r5
       ·omega
       ·omega
       ·have:=r5.2;simp at this;exact this.symm
       ·omega
      have hs2:=hset2 y.l hyl;simp[frV,ints]at hs2;rw[h14]at hc;clear d2 hset2 r5 d7 hyl;simp[*,za,kids,zy,ints]
     ·rw[if_neg h15,if_neg h14];rw[if_neg h15,if_neg h14]at d2;have hyl:y.l.length=x.params.length:=by
       rcases r5 with r5|r5|r5|r5
       ·cases r5.2
       ·have:=r5.2;simp at this;exact this.symm
       ·omega
       ·omega
      have h13:y.kind=13:=by
       rcases r5 with r5|r5|r5|r5
       ·cases r5.2
       ·exact r5.1
       ·omega
       ·omega
      rw[h13]at hc;have hfu:S2.fuel<S1.fuel:=r4;have hm:FitS u S2/\S2.fuel<=w/\S2.fuel<k:=⟨hS2,by omega,by omega⟩
      clear hset2 r5 d7 h15 h14 h13;simp[*,za,kids,zy,ints];refine⟨⟨k,y.l,v2,S2⟩,?_⟩;simp[*,ints]
set_option maxHeartbeats 4000000 in
theorem node_of{u:Unt}(hU:OkU u){w:Nat}(hL:SpecL u w):SpecN u (w+1):=by
 intro m p x v S T j hS hf ho hwt hj hv;have ho':=ho;rw[okN_eq]at ho';obtain⟨o1,o2⟩:=ho';have hjl:=(yb.1 hj).1;have hself:=set_self hj;have hws:=zKb x;have hwt':=hwt;unfold capE at hwt;refine ze rfl rfl rfl (by simp[frV,za]) ?_;simp only[evN];have hst:=stop_spec 0 (sto u S T);cases hfu:S.fuel with
 |zero=>
  have hz:((0:Nat):Int)=0:=rfl;clear o1 o2 ho hws;simp[*,F93,frV,za]
 |succ k=>
  dsimp only;have hS0:FitS u {S with fuel:=k}:=⟨hS.1,by have:=hS.2;simp only;omega⟩
  have hf0:({S with fuel:=k}:RS).fuel<=w:=by simp only;omega
  have hlt0:({S with fuel:=k}:RS).out.length+({S with fuel:=k}:RS).fuel<1000000000000:=by have:=hS.2;simp only;omega
  have hsf:(sto u S T).set 1 (.arr 9 [.agg [arrs u.arrays,flows u.flows,ints S.inp,.mp 0,.int .i64 0,.int .i64 0,acc 1 (S.out.map (PV.int .i64)),.int .i64 S.cost,.int .i64 k]])=sto u {S with fuel:=k} T:=rfl;have hnum:=numbers_spec (u:=u) hS0 hj hv o1.args (by omega);have hol:=zuc v x.args;have hws':zW .i64 (((k+1:Nat):Int)-1)=(k:Int):=by rw[zna]<;>(have:=hS.2;omega)
  have hne:(((k+1:Nat):Int)=0)=False:=eqn (by omega);have hpl:=fun(h:3<=x.kind/\x.kind<=9)=>plain_of hU hL o1 h hS0 hwt' hj hv hf0 hlt0 hol
  have hch:=fun(h:x.kind=10)=>choice_of hU hL ho h hS0 hwt' hj hv hf0 (atA (ofW v x.args) 0)
  have hlo:=fun(h:x.kind=11)=>loop_of hU hL ho h hS0 hwt' hj hv hf0 (l:=ofW v x.args) (by rw[hol];exact(o1.k11 h).1)
  have hs1:∀z,(x.kind=1\/x.kind=2)->zh E 106 [frV u j m,ints x.outs,ints [z]] (sto u {S with fuel:=k} T)=some (.ret (.tup []),sto u {S with fuel:=k} (T.set j (setW v x.outs [z]))):=
   fun z h=>set_spec1 hS0 hj hv o1.outs (by rw[o1.k12 h];rfl) (by omega)
  have hk10:x.kind=10->∃a,ofW v x.args=[a]:=fun h=>len1 (by rw[hol];exact(o1.k10 h).1)
  have hkk:=o1.k;simp[frV,ints]at hnum;generalize hSS:({S with fuel:=k}:RS)=S0 at*;generalize hoo:ofW v x.args=l at*;generalize hc:((k+1:Nat):Int)=c at*;clear hf hS o2 o1 ho hst hsf;unfold nodeW;rw[hoo];by_cases k1:x.kind=1
  ·rw[if_pos (.inl k1)];have hs1:=hs1 x.n (.inl k1);replace k1:=eqp k1;simp[frV,ints]at hs1;clear hpl hch hlo hk10 hkk;simp[*,F93,frV,za,ints]
  by_cases k2:x.kind=2
  ·rw[if_pos (.inr k2)];have hs1:=hs1 x.n (.inr k2);replace k1:=eqn k1;replace k2:=eqp k2;simp[frV,ints]at hs1;clear hpl hch hlo hk10 hkk;simp[*,F93,frV,za,ints]
  rw[if_neg (by omega)];clear hs1;by_cases kE:12<=x.kind/\x.kind<=15
  ·rw[if_pos kE];replace k1:=eqn k1;replace k2:=eqn k2;have h4:x.kind=12\/x.kind=13\/x.kind=14\/x.kind=15:=by omega
   clear hpl hch hlo hk10 hkk kE;rcases h4 with h4|h4|h4|h4<;>simp[*,F93,frV,za,ints]
  rw[if_neg kE];have e12:(x.kind=12)=False:=eqn (by omega);have e13:(x.kind=13)=False:=eqn (by omega);have e14:(x.kind=14)=False:=eqn (by omega);have e15:(x.kind=15)=False:=eqn (by omega);by_cases k10:x.kind=10
  ·rw[if_pos k10];have hch:=hch k10;obtain⟨a,ha⟩:=hk10 k10;subst ha;have e0:atA [a] 0=a:=rfl;rw[e0]at hch ⊢;generalize zZb (evN u w) x a v S0=q at*;obtain⟨y,v1,S1⟩:=q;simp[frV,za,ints]at hch;replace k1:=eqn k1;replace k2:=eqn k2;replace k10:=eqp k10;clear hpl hlo hk10 hkk kE;cases y<;>simp[ints]at hch<;>simp[*,F93,frV,za,ints]
  rw[if_neg k10];by_cases k11:x.kind=11
  ·rw[if_pos k11];have hlo:=hlo k11;generalize loopW (evN u w) x (w+1) l v S0=q at*;obtain⟨y,v1,S1⟩:=q;simp[frV,za,ints]at hlo;replace k1:=eqn k1;replace k2:=eqn k2;replace k10:=eqn k10;replace k11:=eqp k11;clear hpl hch hk10 hkk kE;cases y<;>simp[ints]at hlo<;>simp[*,F93,frV,za,ints]
  rw[if_neg k11];have hpl:=hpl (by omega);generalize plainW u (evN u w) x l (zV S0)=q at*;obtain⟨y,S1⟩:=q;replace k1:=eqn k1;replace k2:=eqn k2;replace k10:=eqn k10;replace k11:=eqn k11;clear hch hlo hk10 hkk kE;cases y<;>simp[frV,za,outP,ints]at hpl<;>simp[*,F93,frV,za,ints]
theorem node0(u:Unt):SpecN u 0:=by
 intro m p x v S T j hS hf ho hwt hj hv;have hself:=set_self hj;have h0:S.fuel=0:=by omega
 have hst:=stop_spec 0 (sto u S T);refine ze rfl rfl rfl (by simp[frV,za]) ?_;simp only[evN];clear ho;simp[*,F93,frV,za]
theorem specs{u:Unt}(hU:OkU u):∀w,SpecN u w
 |0=>node0 u
 |w+1=>node_of hU (list_of hU (specs hU w))
end PE.U

namespace PE
open Go
def hendQ(H:HFn)(n:Nat)(fr:Fr)(R:CRes->zb->Prop):Ex->St->Prop
 | .normal,s=>PC (zdb H n fr s.st) R
 | .ret,s=>PC (zdb H n fr s.st) R
 |_,_=>False
def hrestQ(K:PV×zb->Prop):Ex->St->Prop
 | .normal,s=>K (.nilif,s.st)
 | .ret,s=>K (.nilif,s.st)
 | .pan (.iface t v),s=>K (.iface t v,s.st)
 |_,_=>False
noncomputable def hpreQ(E:Env)(H:HFn)(n:Nat)(R:CRes->zb->Prop):Ex->St->Prop
 | .normal,s1=>(zf s1.fr H.caps).all zp=true/\zH (exec (zh E) H.rest {s1 with fr:=upd s1.fr H.d (.fn H.k [] (zf s1.fr H.caps))}) (hrestQ fun q=>zH (exec (zh E) H.code (handSt H (zf s1.fr H.caps) q)) (hendQ H n s1.fr R))
 | .ret,s1=>PC (zdb H n s1.fr s1.st) R
 |_,_=>False
section
variable (n:Nat) (R:CRes->zb->Prop) (s:St) (K:PV×zb->Prop) (E:Env) (H:HFn) (fr:Fr)
@[simp] theorem hendQ_normal:hendQ H n fr R .normal s=PC (zdb H n fr s.st) R:=yd rfl rfl
@[simp] theorem hrestQ_normal:hrestQ K .normal s=K (.nilif,s.st):=yd rfl rfl
@[simp] theorem hrestQ_pan(t:Nat)(v:PV):hrestQ K (.pan (.iface t v)) s=K (.iface t v,s.st):=yd rfl rfl
@[simp] theorem hpreQ_normal:hpreQ E H n R .normal s=((zf s.fr H.caps).all zp=true/\zH (exec (zh E) H.rest {s with fr:=upd s.fr H.d (.fn H.k [] (zf s.fr H.caps))}) (hrestQ fun q=>zH (exec (zh E) H.code (handSt H (zf s.fr H.caps) q)) (hendQ H n s.fr R))):=yd rfl rfl
@[simp] theorem hpreQ_ret:hpreQ E H n R .ret s=PC (zdb H n s.fr s.st) R:=yd rfl rfl
@[simp] theorem handSt_eq(cv:List PV)(q:PV×zb):handSt H cv q={fr:=upd (upd (frOf cv 0) H.r1 q.1) H.r2 q.1,bx:=fun _=> .no,st:=q.2}:=yd rfl rfl
end
theorem hand_wp{E:Env}{f:Nat}{H:HFn}{args:List PV}{st:zb}{R:CRes->zb->Prop}(hx:E.ext f=none)(hh:E.hand f=some H)(hl:args.length=H.nargs)(hv:args.all zp=true)
  (h:zH (exec (zh E) H.pre {fr:=frOf args 0,bx:=fun _=> .no,st:=st}) (hpreQ E H st.length R)):PC (zh E f args st) R:=by
 rw[holds_iff]at h;obtain⟨e1,s1,h1,h2⟩:=h;cases e1<;>try exact h2.elim
 case ret=>
  rw[hpreQ_ret,PC_iff]at h2;obtain⟨r,st',q1,q2⟩:=h2;have:zh E f args st=some (r,st'):=by
   refine pcall_hand hx hh ?_;unfold handF;rw[if_pos ⟨hl,hv⟩,h1];exact q1
  rw[this];exact q2
 rw[hpreQ_normal]at h2;obtain⟨h3,h4⟩:=h2;rw[holds_iff]at h4;obtain⟨e2,s2,h5,h6⟩:=h4;have hq:∃q,thrown (some (e2,s2))=some q/\zH (exec (zh E) H.code (handSt H (zf s1.fr H.caps) q)) (hendQ H st.length s1.fr R):=by
  cases e2 with
  |normal=>exact⟨_,rfl,h6⟩
  |ret=>exact⟨_,rfl,h6⟩
  |exit i=>exact h6.elim
  |pan v=>cases v<;>first|exact⟨_,rfl,h6⟩|exact h6.elim
 obtain⟨q,hq1,hq2⟩:=hq;rw[holds_iff]at hq2;obtain⟨e3,s3,h7,h8⟩:=hq2;have hr:PC (handEnd H st.length s1.fr (some (e3,s3))) R:=by
  cases e3 with
  |normal=>exact h8
  |ret=>exact h8
  |exit i=>exact h8.elim
  |pan v=>exact h8.elim
 rw[PC_iff]at hr;obtain⟨r,st',hr1,hr2⟩:=hr;have:zh E f args st=some (r,st'):=by
  refine pcall_hand hx hh ?_;unfold handF;rw[if_pos ⟨hl,hv⟩,h1];simp only;rw[if_pos h3,h5,hq1];simp only;rw[h7,hr1]
 rw[this];exact hr2
end PE

namespace PE.U
open Go PE
def encRn(r:Rn):PV:= .agg [.int .i64 r.status,.int .i64 r.code,ints r.out,.int .i64 r.cost,.int .i64 r.fuel]
def endO(u:Unt)(q:Rt Int×RS):Obj:= .arr 9 [.agg [arrs u.arrays,flows u.flows,ints q.2.inp,.mp 0,.int .i64 (runEnd q).status,.int .i64 (runEnd q).code,acc 1 (q.2.out.map (PV.int .i64)),.int .i64 q.2.cost,.int .i64 q.2.fuel]]
theorem wf_set{n j:Nat}{T:zb}{o:Obj}(hT:zb.wf n T=true)(ho:o.below n=true):zb.wf n (T.set j o)=true:=by
 unfold zb.wf at hT ⊢;rw[yn]at hT ⊢;intro x hx;rcases List.mem_or_eq_of_mem_set hx with h|rfl
 ·exact hT x h
 ·exact ho
theorem isR_get{x:Option (CRes×zb)}{r:CRes×zb}(h:PC x (isR r)):x=some r:=by
 obtain⟨a,b,e,h1,h2⟩:=PC_iff.1 h;rw[e,h1,h2]
theorem main_spec{u:Unt}(hU:OkU u)(S:RS)(hS:FitS u S):zh E 31 [.ptr 1 0 0] (sto u S [])=some (.ret (.tup []),(sto u (mainW u S).2 []).set 1 (endO u (mainW u S))):=by
 obtain⟨f,hf,hfm,hp,hfp⟩:=hU.main;have hc:=call_of hU (list_of hU (specs hU S.fuel)) hf hp (l:=[]) (T:=[]) hS (yl _) (by simp);have hm:=(callW_ok (evN_ok hU S.fuel) (hU.body f hfm) (l:=[]) (by simp) S).1;have hmw:mainW u S=callW (evN u S.fuel) f [] S:=by unfold mainW;rw[hf]
 rw[hmw];generalize callW (evN u S.fuel) f [] S=q at*;obtain⟨a,S1⟩:=q;simp only at hc hm;have hS1:=hS.mono hm;have hlen0:=sto_len (T:=[]) hS;have hlen1:=sto_len (T:=[]) hS1;have htake:∀X,((sto u S1 []).set 1 X).take (nb u)=(sto u S1 []).set 1 X:=by
  intro X;rw[List.take_of_length_le];rw[List.length_set,hlen1];simp
 have hwf0:zb.wf (nb u) (sto u S1 [])=true:=sto_wf (yl _);have hwf:∀c d,zb.wf (nb u) ((sto u S1 []).set 1 (.arr 9 [.agg [arrs u.arrays,flows u.flows,ints S1.inp,.mp 0,.int .i64 c,.int .i64 d,acc 1 (S1.out.map (PV.int .i64)),.int .i64 S1.cost,.int .i64 S1.fuel]]))=true:=by
  intro c d;refine wf_set hwf0 ?_;have h0:0<nb u:=by unfold nb;omega
  simp[Obj.below,belowL_acc,h0]
 have hr4:∀X,((sto u S1 []).set 1 X)[1]? =some X:=by
  intro X;rw[yh (by rw[hlen1];unfold nb;omega)]
 simp[ints,zG]at hc hlen0 hlen1;simp[ints]at hwf;refine isR_get (hand_wp rfl rfl rfl rfl ?_);clear hU hm hmw hS hwf0 hfp hf hfm hp;cases a with
 |stop j=>
  simp at hc;simp[*,H31,endV,endO,runEnd,ints,zdb,pinFr]
 |ok n=>
  simp at hc;simp[*,H31,endV,endO,runEnd,ints,zdb,pinFr]
theorem mapSet_arr(nm:List UInt8)(v:PV):∀(d:List Arr) (b:Nat),nm ∉ d.map (·.name)->zib true (.str nm) v (zta b d)=some (zta b d++[(.str nm,v)])
 | [],b,_=>rfl
 |y::d,b,h=>by
  simp only[yba,yV,not_or]at h;have ih:=mapSet_arr nm v d (b+1) h.2;simp only[zta,zib,keyEq,if_true,h.1,decide_false];rw[ih];rfl
theorem arrFrom_snoc(x:Arr):∀(d:List Arr) (b:Nat),zta b (d++[x])=zta b d++[(.str x.name,.mslice (b+d.length) 0 x.size.toNat 1)]
 | [],b=>by simp[zta]
 |y::d,b=>by
  simp only[List.cons_append,zta,arrFrom_snoc x d,yaa];rw[show b+1+d.length=b+(d.length+1)from by omega]
set_option maxHeartbeats 4000000 in
theorem playrun_spec(u:Unt)(hz:USz u)(inp:List Int)(fu:Int)(hf:fu<=100000000000):zh E 16 [zC u,ints inp,.int .i64 fu] []=some (.ret (encRn (playM u inp fu)),[]):=by
 have hck:=check_spec u hz;refine ze rfl rfl rfl (by simp[zC,ints]) ?_;unfold playM;by_cases h0:(zsb u).1=0
 ·rw[if_pos h0];have hU:=checkM_ok hz h0;have hS0:FitS u (run0 u inp fu):=by
   refine⟨?_,?_⟩
   ·simp[run0,List.map_map,yx]
   ·simp[run0];omega
  have hm:=main_spec hU (run0 u inp fu) hS0;obtain⟨f,hf',hfm,hp',hfp⟩:=hU.main;have hmn:=(callW_ok (evN_ok hU (run0 u inp fu).fuel) (hU.body f hfm) (l:=[]) (by simp) (run0 u inp fu)).1;have hmw:mainW u (run0 u inp fu)=callW (evN u (run0 u inp fu).fuel) f [] (run0 u inp fu):=by unfold mainW;rw[hf']
  rw[<-hmw]at hmn;clear hmw;generalize mainW u (run0 u inp fu)=q at*;obtain⟨a,S1⟩:=q;have hS1:=hS0.mono hmn;have hr4:∀X,((sto u S1 []).set 1 X)[1]? =some X:=by
   intro X;rw[yh (by rw[sto_len hS1];unfold nb;omega)]
  have hmx:(if fu<0 then 0 else fu)=max fu 0:=by split<;>omega
  generalize zsb u=ck at*;obtain⟨c0,c1⟩:=ck;simp only at h0;subst h0;simp[zC,arrs]at hck;simp only[sto]at hm;simp[runO,runCells,run0,zsc,arrs,ints,endO]at hm;simp[*,F16,zC,arrs,ints];refine zwa u.arrays K16_0 B16_0 (fun d=>[(31,.int .i64 d.length)]) (fun d=> .mp (zta 2 d):: .arr 9 [.agg [.slice .plain 2 (u.arrays.map zQ),flows u.flows,.slice .plain 1 (inp.map (PV.int .i64)),.mp 0,.int .i64 0,.int .i64 0,.slice .fit 1 [],.int .i64 0,.int .i64 (max fu 0)]]::d.map (fun x=>intO (yg x.size.toNat 0))) (fun d=>(d.map (·.name)).Nodup) (by have:=hz.arrs;omega) (by simp[zta]) ?_ ?_
  ·intros d x r s1 hl' hlt hget hget' hwr hp g1 g2 g3 g4;simp at g1 g3;have hx:x.name ∉ d.map (·.name)/\((d++[x]).map (·.name)).Nodup:=by
    have h:=hU.names;rw[hl'.eq]at h;simp only[List.map_append,yba]at h ⊢;rw[List.nodup_append]at h;obtain⟨h1,h2,h3⟩:=h;have hx:x.name ∉ d.map (·.name):=fun hm=>h3 _ hm _ (by simp) rfl
    refine⟨hx,?_⟩;rw[List.nodup_append];exact⟨h1,by simp,fun a ha b hb=>by simp at hb;rintro rfl;exact hx (hb ▸ ha)⟩
   have hsz:=hU.arrs x hl'.mem;have hms2:=mapSet_arr x.name (.mslice (2+d.length) 0 x.size.toNat 1) d 2 hx.1;rw[<-arrFrom_snoc]at hms2;rw[show 2+d.length=d.length+1+1 from by omega]at hms2;have hx2:=hx.2;simp only[List.map_append,yba,List.map_nil]at hx2;have hdec:decide (d.length<u.arrays.length)=true:=decide_eq_true hlt;have hs1:(x.size<0)=False:=eqn (by omega);have hs2:(0<=x.size)=True:=eqp (by omega);have hs3:(x.size<=9223372036854775807)=True:=eqp (by omega);have hs4:(8*x.size<=281474976710656)=True:=eqp (by omega);have hrow:Obj.arr 1 (yg x.size.toNat (PV.int .i64 0))=intO (yg x.size.toNat 0):=by simp[intO]
   clear hx hl' hget' hlt hp hsz hU hS0 hm hmn hr4 hck hS1 hf' hfm hp' hfp;simp[*,zQ]
  ·intros s1 hp g1 g2 g3 g4;simp at g1 g3;have hdec:(u.arrays.map (fun x=>intO (yg x.size.toNat 0)))=List.map (intO ∘ fun a=>yg a.size.toNat 0) u.arrays:=rfl;rw[hdec]at g4;clear hdec hU hS0 hp hck hmn hf' hfm hp' hfp;have hre:(runEnd (a,S1)).out=S1.out/\(runEnd (a,S1)).cost=S1.cost/\(runEnd (a,S1)).fuel=S1.fuel:=by cases a<;>exact⟨rfl,rfl,rfl⟩
   simp[*,encRn,ints]
 ·rw[if_neg h0];generalize zsb u=ck at*;obtain⟨c0,c1⟩:=ck;simp only at h0;simp[zC]at hck;replace h0:=eqn h0;simp[*,F16,zC,encRn,ints]
def awL:Node:=⟨11,0,0,[],[0,1],[4],[2,3],[[⟨4,14,0,[],[2,3],[5],[],[]⟩,⟨10,0,0,[],[5],[],[],[[⟨14,0,0,[],[2],[],[],[]⟩],[⟨4,1,0,[],[2,3],[6],[],[]⟩,⟨13,0,0,[],[3,6],[],[],[]⟩]]⟩]]⟩
def awU:Unt:=⟨[],[⟨zG,1,0,[1,1,1,1,1,2,1],[⟨1,0,8,[],[],[0],[],[]⟩,⟨1,0,7,[],[],[1],[],[]⟩,awL,⟨9,0,0,[],[4],[],[],[]⟩,⟨15,0,0,[],[4],[],[],[]⟩]⟩]⟩
theorem awU_1:(playM awU [] 100).status=1/\(playM awU [] 100).code=8/\(playM awU [] 100).out=[8]/\(playM awU [] 100).cost=2:=by decide+kernel
theorem awU_2:(playM awU [] 3).status=0/\(playM awU [] 3).fuel=0:=by decide+kernel
theorem awU_sz:USz awU:=⟨by decide,by decide,by decide+kernel,by decide+kernel⟩
theorem mainU_spec(types:List Int)(k n:Nat)(σ:zb):zh E 15 [ints types,.mslice k 0 n 8] σ=some (.ret (.agg [.slice .plain 2 [],.mslice σ.length 0 1 5]),σ++[.arr 5 [.agg [.str zG,.int .i64 1,.int .i64 0,ints types,.mslice k 0 n 8]]]):=by
 refine ze rfl rfl rfl (by simp[ints]) ?_;simp[F15,ints,zG]
set_option maxHeartbeats 4000000 in
theorem awake10_spec:zh E 18 [] []=some (.ret (.bool true),[]):=by
 refine ze rfl rfl rfl (by simp) ?_;have r1:=playrun_spec awU awU_sz [] 100 (by omega);have r2:=playrun_spec awU awU_sz [] 3 (by omega);obtain⟨a1,a2,a3,a4⟩:=awU_1;obtain⟨b1,b2⟩:=awU_2;generalize playM awU [] 100=m1 at*;generalize playM awU [] 3=m2 at*;obtain⟨s1,c1,o1,k1,f1⟩:=m1;obtain⟨s2,c2,o2,k2,f2⟩:=m2;simp only at a1 a2 a3 a4 b1 b2;subst a1 a2 a3 a4 b1 b2;simp[encRn,ints,zC,awU,awL,arrs,flows,zj,zy,za,kids,zG]at r1 r2;have hm:=mainU_spec [1,1,1,1,1,2,1] 0 5;simp[ints,zG]at hm;simp[*,F18,ints,sealSt,sealBx,zS,killAll]
def twoU(k:Int):Unt:=⟨[],[⟨zG,1,0,[1,1,1],[⟨8,0,0,[],[],[0],[],[]⟩,⟨8,0,0,[],[],[1],[],[]⟩,⟨4,k,0,[],[0,1],[2],[],[]⟩,⟨15,0,0,[],[2],[],[],[]⟩]⟩]⟩
theorem twoU_sz(k:Int):USz (twoU k):=by
 refine⟨?_,?_,?_,?_⟩
 ·simp[twoU]
 ·simp[twoU]
 ·intro f hf;simp[twoU]at hf;subst hf;simp
 ·intro f hf;simp[twoU]at hf;subst hf;simp[wtL,wtN,wtK]
theorem twoU_ok(k:Int)(h:1<=k/\k<=11):(zsb (twoU k)).1=0:=by
 have:k=1\/k=2\/k=3\/k=4\/k=5\/k=6\/k=7\/k=8\/k=9\/k=10\/k=11:=by omega
 rcases this with rfl|rfl|rfl|rfl|rfl|rfl|rfl|rfl|rfl|rfl|rfl<;>decide+kernel
theorem evN_s(u:Unt)(w k:Nat)(n:Node)(v:List Int)(S:RS)(h:S.fuel=k+1):evN u (w+1) n v S=nodeW u (evN u w) w n v {S with fuel:=k}:=by simp[evN,h]
theorem twoU_at(k:Int):flowAt (twoU k) zG=some ⟨zG,1,0,[1,1,1],[⟨8,0,0,[],[],[0],[],[]⟩,⟨8,0,0,[],[],[1],[],[]⟩,⟨4,k,0,[],[0,1],[2],[],[]⟩,⟨15,0,0,[],[2],[],[],[]⟩]⟩:=by simp[flowAt,twoU,zaa,idx]
theorem twoU_walk(u:Unt)(w:Nat)(k a b:Int):zkb (evN u (w+1)) [⟨8,0,0,[],[],[0],[],[]⟩,⟨8,0,0,[],[],[1],[],[]⟩,⟨4,k,0,[],[0,1],[2],[],[]⟩,⟨15,0,0,[],[2],[],[],[]⟩] [0,0,0] ⟨[a,b],[],[],0,10⟩
  =if(twoC k a b).2=true then(.ok ⟨15,[(twoC k a b).1]⟩,[a,b,(twoC k a b).1],⟨[],[],[],3,6⟩)else(.stop 2,[a,b,0],⟨[],[],[],3,7⟩):=by
 have h0:yB .i64 1=1/\yB .i64 2=2/\yB .i64 3=3:=by decide+kernel
 have h1:yB .i64 (0+1)=1:=by decide+kernel
 have h2:yB .i64 (1+1)=2:=by decide+kernel
 have h3:yB .i64 (2+1)=3:=by decide+kernel
 have e1:=fun n v S h=>evN_s u w 9 n v S h
 have e2:=fun n v S h=>evN_s u w 8 n v S h
 have e3:=fun n v S h=>evN_s u w 7 n v S h
 have e4:=fun n v S h=>evN_s u w 6 n v S h
 cases hz:(twoC k a b).2<;>simp[zkb,e1,e2,e3,e4,nodeW,plainW,zV,setW,ofW,at0,atA,h0,h1,h2,h3,hz]
theorem twoU_run(k a b:Int)(h:1<=k/\k<=11):playM (twoU k) [a,b] 10=if(twoC k a b).2=true then⟨1,(twoC k a b).1,[],3,6⟩else⟨2,0,[],3,7⟩:=by
 unfold playM;rw[if_pos (twoU_ok k h)];have hw:=twoU_walk (twoU k) 9 k a b;have hr:run0 (twoU k) [a,b] 10=⟨[a,b],[],[],0,10⟩:=by simp[run0,twoU]
 rw[hr,mainW,twoU_at];simp only[callW,List.length_nil,yaa,List.nil_append,Nat.reduceAdd,Nat.reduceSub,yg];rw[hw];cases hz:(twoC k a b).2<;>simp[runEnd,atA]
theorem mainU_spec'(types:List Int)(l:List PV)(σ:zb):zh E 15 [ints types,.slice .plain 8 l] σ=some (.ret (.agg [.slice .plain 2 [],.mslice σ.length 0 1 5]),σ++[.arr 5 [.agg [.str zG,.int .i64 1,.int .i64 0,ints types,.slice .plain 8 l]]]):=by
 refine ze rfl rfl rfl (by simp[ints]) ?_;simp[F15,ints,zG]
theorem rtwo_specC(op a b:Int)(σ:zb):zh E 17 [.int .i64 op,.int .i64 a,.int .i64 b] σ=some (.ret (.tup [.int .i64 (twoC op a b).1,.bool (twoC op a b).2]),σ):=by
 rw[<-two_eqC];exact rtwo_spec op a b σ
set_option maxHeartbeats 4000000 in
theorem playTwo_spec(a b op:Int)(hop:0<=op/\op<=255):zh E 5 [.int .i64 a,.int .i64 b,.int .u8 op] []=some (.ret (.bool true),[]):=by
 have ha:=awake10_spec;have hw:zW .i64 op=op:=zna (by omega) (by omega);have hr:remK op 11=op%11:=by rw[remK_eq,Int.tmod_eq_emod_of_nonneg hop.1]
 have hr2:zW .i64 (1+op%11)=1+op%11:=zna (by omega) (by omega);have hk:1<=1+op%11/\1+op%11<=11:=by omega
 have htw:=rtwo_specC (1+op%11) a b [];have hrun:=playrun_spec (twoU (1+op%11)) (twoU_sz _) [a,b] 10 (by omega);rw[twoU_run _ a b hk]at hrun;refine ze rfl rfl rfl (by simp) ?_;have hm:=mainU_spec' [1,1,1];generalize twoC (1+op%11) a b=q at*;obtain⟨n,ok⟩:=q;clear hk hop;cases ok<;>simp[encRn,ints,zC,twoU,arrs,flows,zj,zy,za,kids,zG]at hrun htw hm<;>simp[*,F5,ints,sealSt,sealBx,zS,killAll]
end PE.U

namespace PE
open Go Go.RowKit
def Kept(w w':World):Prop:=w.keptBut w' (fun _=>False)/\∀k,k<w.heap.size->w'.heap[k]? =w.heap[k]?
theorem Kept.frame{w w':World}(h:Kept w w')(X:MemPlace->Prop):w.keptBut w' X:=World.keptBut_mono (fun p hp=>hp.elim) h.1
theorem kept_of_ext{w w':World}{G':Gh}{st':zb}(h:Ext (gh0 w) [] w G' st' w'):Kept w w':=
 ⟨by
  refine⟨h.os,h.output,fun i hi=>?_⟩;have hb:=(h.prot i (by simp[gh0,hi])).2.2;rw[hb];cases w.heap[i]? with
  |none=>rfl
  |some o=>cases o<;>first|exact⟨rfl,rfl,rfl,fun _ _=>rfl⟩|exact .inr ⟨rfl,rfl⟩|rfl,fun k hk=>(h.prot k (by simp[gh0,hk])).2.2⟩
theorem Kept.same{W w':World}(h:Kept W w'){p:MemPlace}(hp:p.block<W.heap.size):W.sameAt w' p:=by
 cases p with
 |cell b o=>exact World.cell?_of_block (w:=W) (h.2 b hp)
 |map b=>exact h.2 b hp
theorem Kept.trod{H:Type}{enc:TypeId×Value->H}{P:Program}{t:TypeId}(hl:laidOutB P=true)(hr:P.readableRec t=true)(hrow:t<P.types.size){W W':World}{v:Value}{d:DataW H}{ps:List MemPlace}
  (h:DataW.Trod enc P W 0 (fun _=>true) true t v d ps) (hb:Kept W W') (hlt:∀x∈ps,x.block<W.heap.size):
  DataW.Trod enc P W' 0 (fun b=>decide (b<W.heap.size)) true t v d ps:=
 WideElems.Trod_stays hl hr hrow h (fun x hx=>hb.same (hlt x hx)) (fun x hx=>by simpa using hlt x hx)
theorem walk_kept{P:Program}{T:Tabs}{E:Env}(hE:EnvOk P T E){f:Nat}{args:List PV}{margs:Array Value}{w:World}{st':zb}(hT:T.In (gh0 w) w)
  (h:zh E f args []=some (.ret (.bool true),st')) (hsz:margs.size=args.length)
  (hv:∀(j:Nat) c x,args[j]? =some c->margs[j]? =some x->VR ((gh0 w).im w) (fun _=>none) c x):
  Calls P f margs w fun e w'=>e= .returned (.bool true)/\Kept w w':=by
 obtain⟨n,hn⟩:=zCb.1 h;have hloc:zc (gh0 w).lc []=fun _=>none:=by funext l;simp[zc]
 refine((callF_good hE n _ _ _ _ _ hn (gh0 w) w margs rfl hT (gh0_sim w) hsz (by rw[hloc];exact hv)).2).mono ?_;intro e w' he;cases e with
 |returned mv=>
  obtain⟨G',q1,q2,q3⟩:=he;exact⟨by rw[VR.bool_inv q3],kept_of_ext q2⟩
 |panicked ch=>exact he.elim
 |outgrown=>exact he.elim
def IsRow(k:IntKind)(w:World)(a:Option Addr)(len cap:Nat)(zs:List Int):Prop:=
 (a=none/\len=0/\cap=0/\zs=[])∨
 ∃x,a=some x/\len<=cap/\cap<=maxLen/\zs.length=cap/\(∀i,i<zs.length->w.cell? (x.add i)=some (.int k (zs.getD i 0)))/\∀n∈zs,(Lit.int k n).wf=true
theorem row_vr{k:IntKind}{w:World}{a:Option Addr}{len cap:Nat}{zs:List Int}(h:IsRow k w a len cap zs):VR ((gh0 w).im w) (fun _=>none) (.slice .plain 1 ((zs.take len).map (PV.int k))) (.slice a len cap):=by
 rcases h with⟨rfl,rfl,rfl,rfl⟩|⟨x,rfl,hl,hm,hz,hcell,hwz⟩
 ·exact .slice0 _ _ _ _ (by simp) (by simp)
 ·by_cases h0:len=0
  ·subst h0;exact .slice0 _ _ _ _ (by simp) (by simp)
  ·obtain⟨b,off,spot⟩:=x;have hc:=hcell 0 (by omega);have hspot:spot=none:=by simpa[Addr.add]using World.cell?_spot hc
   subst hspot;have hlen:((zs.take len).map (PV.int k)).length=len:=by simp;omega
   have hget:∀(i:Nat) e,((zs.take len).map (PV.int k))[i]? =some e->i<len/\e= .int k (zs.getD i 0):=by
    intro i e he;rw[yk,yc]at he;obtain⟨n,hn,rfl⟩:=he;rw[yw]at hn;split at hn
    ·rename_i hi;refine⟨hi,?_⟩;rw[List.getD_eq_getElem?_getD,hn];rfl
    ·cases hn
   have:=VR.slice (I:=(gh0 w).im w) (L:=fun _=>none) (k:= .plain) (sz:=1) (l:=(zs.take len).map (PV.int k)) (b:=b) (o:=off) (cap:=cap)
    (by simp) (by simp) (by rw[hlen];exact hl) (fun i _=> .int k (zs.getD i 0)) ?_ ?_ ?_
   ·rw[hlen]at this;exact this
   ·intro i e he;obtain⟨_,rfl⟩:=hget i e he;exact⟨rfl,rfl⟩
   ·intro i e j c he hc;obtain⟨hi,rfl⟩:=hget i e he;cases j with
    |zero=>
     refine⟨gh0_im ?_,rfl⟩;have:=hcell i (by omega);have e:(⟨b,off,none⟩:Addr).add i=⟨b,off+i*1+0,none⟩:=by
      unfold Addr.add;by_cases hi0:i=0<;>simp[hi0]
     rw[<-e];exact this
    |succ j=>simp[cellsOf]at hc
   ·intro i e j c he hc;obtain⟨hi,rfl⟩:=hget i e he;cases j with
    |zero=>simp[cellsOf]at hc;subst hc;exact .int _ _
    |succ j=>simp[cellsOf]at hc
theorem row_len{k:IntKind}{w:World}{a:Option Addr}{len cap:Nat}{zs:List Int}(h:IsRow k w a len cap zs):(zs.take len).length<=maxLen:=by
 rcases h with⟨rfl,rfl,rfl,rfl⟩|⟨x,rfl,hl,hm,hz,hcell,hwz⟩
 ·simp
 ·rw[List.length_take];omega
def bytesOf(zs:List Int):List UInt8:=zs.map fun n=>yta n.toNat
theorem row_u8{w:World}{a:Option Addr}{len cap:Nat}{zs:List Int}(h:IsRow .u8 w a len cap zs):VR ((gh0 w).im w) (fun _=>none) (.slice .plain 1 ((bytesOf (zs.take len)).map fun b=> .int .u8 b.toNat)) (.slice a len cap):=by
 have hv:=row_vr h;have:(bytesOf (zs.take len)).map (fun b=>PV.int .u8 b.toNat)=(zs.take len).map (PV.int .u8):=by
  unfold bytesOf;rw[List.map_map];apply List.map_congr_left;intro n hn;have hwf:(Lit.int .u8 n).wf=true:=by
   rcases h with⟨rfl,rfl,rfl,rfl⟩|⟨x,rfl,hl,hm,hz,hcell,hwz⟩
   ·simp at hn
   ·exact hwz n (List.mem_of_mem_take hn)
  have hb:0<=n/\n<=255:=by
   simp only[Lit.wf,ya,decide_eq_true_eq]at hwf;exact hwf
  simp only[Function.comp_apply,PV.int.injEq,true_and];have:(yta n.toNat).toNat=n.toNat:=by
   rw[UInt8.toNat_ofNat'];omega
  omega
 rw[this];exact hv
theorem bytes_len{w:World}{a:Option Addr}{len cap:Nat}{zs:List Int}(h:IsRow .u8 w a len cap zs):(bytesOf (zs.take len)).length<=maxLen:=by
 unfold bytesOf;rw[yY];exact row_len h
theorem str_vr(I:Im)(L:Loc){b:ByteArray}:VR I L (.str b.data.toList) (.string b):=VR.str b.data.toList
theorem str_len{b:ByteArray}(h:b.size<=maxLen):b.data.toList.length<=maxLen:=by
 rw[Array.length_toList];exact h
theorem maxLen_eq:maxLen=9223372036854775807:=by decide
def packT(P:Program)(e:TypeId)(l:List PV):PV:=match P.underlying e with
 |some (.struct _)=> .agg l
 |_=>l.headD .undef
def CellsT(P:Program):Nat->TypeId->List PV->Prop
 |0,_,_=>False
 |n+1,t,l=>match P.underlying t with
  |some (.int k)=>∃z,l=[.int k z]/\(Lit.int k z).wf=true
  |some .bool=>∃b,l=[.bool b]
  |some .string=>∃s:List UInt8,l=[.str s]/\s.length<=maxLen
  |some (.struct fs)=>l.length=P.cellsOf t/\∀f∈fs.toList,CellsT P n f.type ((l.drop f.offset).take (P.cellsOf f.type))
  |some (.slice e)=>∃es:List (List PV),l=[.slice .plain (P.cellsOf e) (es.map (packT P e))]/\es.length<=maxLen/\∀c∈es,CellsT P n e c
  |_=>False
def layB(P:Program):List Field->Nat->Nat->Bool
 | [],o,total=>o==total
 |f::r,o,total=>f.offset==o&&layB P r (o+P.cellsOf f.type) total
def plainB(P:Program)(S:List TypeId):Bool:=S.all fun t=>match P.underlying t with
 |some (.int _)=>P.cellsOf t==1
 |some .bool=>P.cellsOf t==1
 |some .string=>P.cellsOf t==1
 |some (.struct fs)=>fs.toList.all (fun f=>S.contains f.type)&&layB P fs.toList 0 (P.cellsOf t)
 |some (.slice e)=>S.contains e&&decide (0<P.cellsOf e)&&(P.cellsOf t==1)
 |_=>false
def R1(w:World)(c:PV)(v:Value):Prop:=VR ((gh0 w).im w) (fun _=>none) c v/\zhc c=true/\v.oneCell'=true
def Rs(w:World)(l:List PV)(cs:List Value):Prop:=l.length=cs.length/\∀(j:Nat) c v,l[j]? =some c->cs[j]? =some v->R1 w c v
theorem Rs.one{w:World}{c:PV}{v:Value}(h:R1 w c v):Rs w [c] [v]:=by
 refine⟨rfl,fun j c' v' hc hv=>?_⟩;cases j with
 |zero=>cases hc;cases hv;exact h
 |succ j=>simp at hc
theorem Rs.append{w:World}{l l':List PV}{cs cs':List Value}(h:Rs w l cs)(h':Rs w l' cs'):Rs w (l++l') (cs++cs'):=by
 refine⟨by simp[h.1,h'.1],fun j c v hc hv=>?_⟩;by_cases hj:j<l.length
 ·rw[yj hj]at hc;rw[yj (by rw[<-h.1];exact hj)]at hv;exact h.2 j c v hc hv
 ·rw[yo (by omega)]at hc;rw[yo (by rw[<-h.1];omega)]at hv;rw[<-h.1]at hv;exact h'.2 _ c v hc hv
theorem lay_join{P:Program}{w:World}{n:Nat}{cs:List Value}:∀(fs:List Field) (o total:Nat),layB P fs o total=true->total=cs.length→
  (∀f∈fs,∃l,Rs w l ((cs.drop f.offset).take (P.cellsOf f.type))/\CellsT P n f.type l)→
  ∃l,Rs w l (cs.drop o)/\∀f∈fs,o<=f.offset/\CellsT P n f.type ((l.drop (f.offset-o)).take (P.cellsOf f.type)):=by
 intro fs
 induction fs with
 |nil=>
  intro o total hl ht _;simp only[layB,beq_iff_eq]at hl;refine⟨[],⟨?_,fun j c v hc=>by simp at hc⟩,fun f hf=>by simp at hf⟩;simp;omega
 |cons f r ih=>
  intro o total hl ht hf;simp only[layB,ya,beq_iff_eq]at hl;obtain⟨ho,hl⟩:=hl;obtain⟨l1,h1,c1⟩:=hf f (by simp);obtain⟨l2,h2,c2⟩:=ih _ _ hl ht (fun g hg=>hf g (by simp[hg]));have hle:∀(fs:List Field) (o total:Nat),layB P fs o total=true->o<=total:=by
   intro fs
   induction fs with
   |nil=>intro o total h;simp only[layB,beq_iff_eq]at h;omega
   |cons g s ihs=>
    intro o total h;simp only[layB,ya,beq_iff_eq]at h;have:=ihs _ _ h.2;omega
  have hn:=hle _ _ _ hl;have hlen1:l1.length=P.cellsOf f.type:=by
   rw[h1.1,List.length_take,List.length_drop,ho];omega
  refine⟨l1++l2,?_,?_⟩
  ·have:cs.drop o=(cs.drop f.offset).take (P.cellsOf f.type)++cs.drop (o+P.cellsOf f.type):=by
    rw[ho,<-List.drop_drop,List.take_append_drop]
   rw[this];exact h1.append h2
  ·intro g hg;rcases yV.1 hg with rfl|hg
   ·refine⟨by omega,?_⟩;rw[ho,Nat.sub_self,List.drop_zero,List.take_append_of_le_length (by omega),<-hlen1,List.take_length];exact c1
   ·obtain⟨h3,h4⟩:=c2 g hg;refine⟨by omega,?_⟩;have:(l1++l2).drop (g.offset-o)=l2.drop (g.offset-(o+P.cellsOf f.type)):=by
     rw[List.drop_append,List.drop_of_length_le (by omega),List.nil_append];congr 1;omega
    rw[this];exact h4
theorem cells_packed{P:Program}{n:Nat}{e:TypeId}{l:List PV}{w:World}{cs:List Value}(hr:Rs w l cs)(h:CellsT P n e l)(hsz:cs.length=P.cellsOf e):cellsOf (packT P e l)=l/\zp (packT P e l)=true:=by
 cases n with
 |zero=>exact h.elim
 |succ n=>
  unfold CellsT at h;unfold packT;split at h
  ·rename_i hu;rw[hu];obtain⟨z,rfl,_⟩:=h;exact⟨rfl,rfl⟩
  ·rename_i hu;rw[hu];obtain⟨z,rfl⟩:=h;exact⟨rfl,rfl⟩
  ·rename_i hu;rw[hu];obtain⟨z,rfl,_⟩:=h;exact⟨rfl,rfl⟩
  ·rename_i hu;rw[hu];exact⟨rfl,rfl⟩
  ·rename_i hu;rw[hu];obtain⟨z,rfl,_⟩:=h;exact⟨rfl,rfl⟩
  ·exact h.elim
theorem cells?_get{w:World}{a:Addr}{n:Nat}{cs:List Value}(h:w.cells? 0 a n=some cs):cs.length=n/\∀(j:Nat) v,cs[j]? =some v->w.cell? (a.add j)=some v:=by
 unfold World.cells? at h;rw[if_pos (Nat.zero_le _)]at h;have hl:=mapM_some_length h;rw[List.length_range]at hl;refine⟨hl,fun j v hv=>?_⟩;have hj:j<n:=by rw[<-hl];exact(yb.1 hv).1
 have:=mapM_some_get h j j (by rw[List.getElem?_range hj]);rw[this,hv]
theorem add_add(a:Addr)(ha:a.spot=none)(x:Nat):a.add x=⟨a.block,a.off+x,none⟩:=by
 obtain⟨b,o,s⟩:=a;simp only at ha;subst ha;unfold Addr.add;by_cases h:x=0<;>simp[h]
theorem read_cells{P:Program}{S:List TypeId}(hp:plainB P S=true){H:Type}{enc:TypeId×Value->H}{w:World}{sp:Nat->Bool}:∀(n:Nat) (t:TypeId) (cs:List Value) (x:DataW H×List MemPlace),t∈S→
  DataW.trod enc P w 0 sp true n t cs=some x->∃l,Rs w l cs/\CellsT P n t l/\cs.length=P.cellsOf t:=by
 intro n
 induction n with
 |zero=>intro t cs x _ h;simp[DataW.trod]at h
 |succ n ih=>
  intro t cs x ht h;have hp':=yn.1 hp t ht;split at hp'
  ·rename_i k hu;obtain⟨z,rfl,_,hw⟩:=DataW.trod_int hu h;simp only[beq_iff_eq]at hp';exact⟨[.int k z],Rs.one ⟨.int _ _,rfl,rfl⟩,by unfold CellsT;rw[hu];exact⟨z,rfl,hw⟩,by simp[hp']⟩
  ·rename_i hu;obtain⟨z,rfl,_⟩:=DataW.trod_bool hu h;simp only[beq_iff_eq]at hp';exact⟨[.bool z],Rs.one ⟨.bool _,rfl,rfl⟩,by unfold CellsT;rw[hu];exact⟨z,rfl⟩,by simp[hp']⟩
  ·rename_i hu;obtain⟨s,rfl,_,hm⟩:=DataW.trod_string hu h;simp only[beq_iff_eq]at hp';exact⟨[.str s.data.toList],Rs.one ⟨str_vr _ _,rfl,rfl⟩,by unfold CellsT;rw[hu];exact⟨_,rfl,str_len hm⟩,by simp[hp']⟩
  ·rename_i fs hu;simp only[ya,yn,List.contains_iff_mem]at hp';obtain⟨hS,hlay⟩:=hp';obtain⟨xs,m,hm,_,hlen,hxs,hget⟩:=DataW.trod_struct hu h;cases hm;obtain⟨l,hl,hc⟩:=lay_join (w:=w) (n:=n) (cs:=cs) fs.toList 0 _ hlay hlen.symm (by
    intro f hf;obtain⟨i,hi⟩:=List.getElem?_of_mem hf;have hi':fs[i]? =some f:=by simpa using hi
    have hg:=hget i f hi';have hlt:i<xs.length:=by rw[hxs];simpa using(yb.1 hi).1
    rw[ye hlt]at hg;obtain⟨l,h1,h2,_⟩:=ih _ _ _ (hS f hf) hg;exact⟨l,h1,h2⟩)
   rw[List.drop_zero]at hl;refine⟨l,hl,?_,hlen⟩;unfold CellsT;rw[hu];exact⟨by rw[hl.1,hlen],fun f hf=>by have:=(hc f hf).2;rwa[Nat.sub_zero]at this⟩
  ·rename_i e hu;simp only[ya,List.contains_iff_mem,decide_eq_true_eq,beq_iff_eq]at hp';obtain⟨⟨hS,hpos⟩,h1⟩:=hp';rcases DataW.trod_slice hu h with⟨rfl,_⟩|⟨a,len,cap,elems,rest,m,hm,rfl,_,_,hle,hcap,hel,hget,_,_⟩
   ·exact⟨[.slice .plain (P.cellsOf e) []],Rs.one ⟨.slice0 _ _ _ _ (by simp) (by simp),rfl,rfl⟩,by unfold CellsT;rw[hu];exact⟨[],rfl,by simp,by simp⟩,by simp[h1]⟩
   ·cases hm;have key:∀i,i<len->∃l:List PV,l.length=P.cellsOf e/\CellsT P n e l/\cellsOf (packT P e l)=l/\zp (packT P e l)=true/\∀(j:Nat) c,l[j]? =some c->∃v,w.cell? ((a.add (i*P.cellsOf e)).add j)=some v/\R1 w c v:=by
     intro i hi;have hg:=hget i hi;have hlt:i<elems.length:=by omega
     rw[ye hlt,yG]at hg;obtain⟨cs',h2,h3⟩:=hg;obtain⟨l,h4,h5,h6⟩:=ih _ _ _ hS h3;obtain⟨h7,h8⟩:=cells?_get h2;obtain⟨h9,h10⟩:=cells_packed h4 h5 h6;refine⟨l,by rw[h4.1,h6],h5,h9,h10,fun j c hc=>?_⟩;have hj:j<cs'.length:=by rw[<-h4.1];exact(yb.1 hc).1
     exact⟨cs'[j],h8 j _ (ye hj),h4.2 j c _ hc (ye hj)⟩
    let g:Nat->List PV:=fun i=>if hi:i<len then(key i hi).choose else[]
    have hg:∀i,i<len->(g i).length=P.cellsOf e/\CellsT P n e (g i)/\cellsOf (packT P e (g i))=g i/\zp (packT P e (g i))=true/\∀(j:Nat) c,(g i)[j]? =some c->∃v,w.cell? ((a.add (i*P.cellsOf e)).add j)=some v/\R1 w c v:=by
     intro i hi;have:=(key i hi).choose_spec;simp only[g,dif_pos hi];exact this
    have hel':∀(i:Nat) x,(((yS len).map g).map (packT P e))[i]? =some x->i<len/\x=packT P e (g i):=by
     intro i x hx;rw[List.map_map,yk,yc]at hx;obtain⟨k,hk,rfl⟩:=hx;obtain⟨hk1,hk2⟩:=yb.1 hk;rw[List.length_range]at hk1;rw[List.getElem_range]at hk2;subst hk2;exact⟨hk1,rfl⟩
    refine⟨[.slice .plain (P.cellsOf e) (((yS len).map g).map (packT P e))],Rs.one ⟨?_,rfl,rfl⟩,?_,by simp[h1]⟩
    ·by_cases h0:len=0
     ·subst h0;exact .slice0 _ _ _ _ (by simp) (by simp)
     ·obtain⟨q1,q2,q3,q4,q5⟩:=hg 0 (by omega);have hspot:a.spot=none:=by
       have hlt:0<(g 0).length:=by omega
       obtain⟨v,hv,_⟩:=q5 0 _ (ye hlt);have hsp:=World.cell?_spot hv;obtain⟨b,o,s⟩:=a;simpa[Addr.add]using hsp
      obtain⟨b,o,s⟩:=a;simp only at hspot;subst hspot;have hcell:∀(i:Nat) x (j:Nat) c,(((yS len).map g).map (packT P e))[i]? =some x->(cellsOf x)[j]? =some c->∃v,(gh0 w).im w b (o+i*P.cellsOf e+j)=some v/\R1 w c v:=by
       intro i x j c hx hc;obtain⟨hi,rfl⟩:=hel' i x hx;obtain⟨r1,r2,r3,r4,r5⟩:=hg i hi;rw[r3]at hc;obtain⟨v,hv,hr⟩:=r5 j c hc;refine⟨v,gh0_im ?_,hr⟩;rw[add_add ⟨b,o,none⟩ rfl,add_add ⟨b,o+i*P.cellsOf e,none⟩ rfl]at hv;exact hv
      have hlen:(((yS len).map g).map (packT P e)).length=len:=by simp
      have:=VR.slice (I:=(gh0 w).im w) (L:=fun _=>none) (k:= .plain) (sz:=P.cellsOf e) (l:=((yS len).map g).map (packT P e)) (b:=b) (o:=o) (cap:=cap)
       (by simp) (by simp) (by rw[hlen];exact hle) (fun i j=>((gh0 w).im w b (o+i*P.cellsOf e+j)).getD (.bool false)) ?_ ?_ ?_
      ·rw[hlen]at this;exact this
      ·intro i x hx;obtain⟨hi,rfl⟩:=hel' i x hx;obtain⟨r1,r2,r3,r4,r5⟩:=hg i hi;exact⟨by rw[r3,r1],r4⟩
      ·intro i x j c hx hc;obtain⟨v,hv,hr⟩:=hcell i x j c hx hc;simp only[hv,yU];exact⟨trivial,hr.2.2⟩
      ·intro i x j c hx hc;obtain⟨v,hv,hr⟩:=hcell i x j c hx hc;simp only[hv,yU];exact hr.1
    ·unfold CellsT;rw[hu];refine⟨(yS len).map g,rfl,by simp;omega,?_⟩;intro c hc;rw[yua]at hc;obtain⟨i,hi,rfl⟩:=hc;exact(hg i (yka.1 hi)).2.1
  ·cases hp'
theorem packT_struct{P:Program}{e:TypeId}{fs:Array Field}(hu:P.underlying e=some (.struct fs))(l:List PV):packT P e l= .agg l:=by
 unfold packT;rw[hu]
theorem le_max{n:Nat}(h:n<=maxLen):n<=9223372036854775807:=by rw[maxLen_eq]at h;exact h
theorem read_row{P:Program}{S:List TypeId}(hp:plainB P S=true){H:Type}{enc:TypeId×Value->H}{w:World}{sp:Nat->Bool}{t e:TypeId}(hu:P.underlying t=some (.slice e))(ht:t∈S){v:Value}{d:DataW H}{ps:List MemPlace}(h:DataW.Trod enc P w 0 sp true t v d ps){a:Option Addr}{len cap:Nat}(hv:v= .slice a len cap):
  ∃(n:Nat) (es:List (List PV)),VR ((gh0 w).im w) (fun _=>none) (.slice .plain (P.cellsOf e) (es.map (packT P e))) v/\es.length<=maxLen/\∀c∈es,CellsT P n e c:=by
 subst hv;obtain⟨n,hf⟩:=h;obtain⟨l,h1,h2,h3⟩:=read_cells hp n t _ _ ht hf;cases n with
 |zero=>exact h2.elim
 |succ n=>
  unfold CellsT at h2;rw[hu]at h2;obtain⟨es,rfl,hm,hc⟩:=h2;exact⟨n,es,(h1.2 0 _ _ rfl (by simp[Value.cells])).1,hm,hc⟩
end PE
