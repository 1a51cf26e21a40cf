/-
  Texts joined by program: PfWp, PfOps, Ts81Fnsa, Ts81Fnsb, Ts81Fns, ASX10, ASW1, ASU0, ASU1, ASU1b, ASU2, ASU3, ASU4, ASU5, ASU6, ASU6r, ASU7, ASU8, ASU9, ASU10, ASU11, ASU12, ASU13, ASA1, ASU14, ASU15, ASU16, ASU17, ASU18, ASU19, ASH1, ASH2, ASH3, ASH4.
-/
import Derived.Test.YtianoihfjikdgaaT02
import Derived.Test.YtianoihfjikdgaaProg
import Derived.Laws.BitsLemmas
import Derived.Laws.RangeAny
import Derived.Laws.RangeString
set_option linter.unusedVariables false
set_option linter.unusedSectionVars false
set_option linter.unusedSimpArgs false
open Bool renaming and_eq_true→ya,false_eq_true→yM,false_or→yAa,or_eq_true→yy,true_and→yBa
open Eq renaming trans→yd
open List renaming all_eq_true→yn,append_assoc→yV,findIdx?_cons→yna,findIdx?_eq_none_iff→yW,getElem?_eq_getElem→ye,getElem?_eq_none→yea,getElem?_eq_some_iff→yb,getElem?_zip_eq_some→yba,length_append→yh,length_cons→yP,length_nil→yN,map_cons→yda,mem_append→yx,mem_cons→yz,mem_cons_of_mem→yH,mem_map→yxa,mem_of_getElem?→yO,mem_range→yga,mem_zipIdx_iff_getElem?→yfa,range→yS,replicate→yE
open Nat renaming le_refl→yl,zero_add→yF
open Option renaming getD_some→yJ
namespace PE
open Go
def zT(x:Option (Ex×St))(Q:Ex->St->Prop):Prop:=match x with
 |some (e,s)=>Q e s
 |none=>False
@[simp] theorem holds_some(e:Ex)(s:St)(Q:Ex->St->Prop):zT (some (e,s)) Q=Q e s:=yd rfl rfl
theorem holds_iff{x:Option (Ex×St)}{Q:Ex->St->Prop}:zT x Q<->∃e s,x=some (e,s)/\Q e s:=by
 cases x with
 |none=>exact⟨fun h=>h.elim,fun⟨_,_,h,_⟩=>by cases h⟩
 |some q=>obtain⟨e,s⟩:=q;exact⟨fun h=>⟨e,s,rfl,h⟩,fun⟨_,_,h,h'⟩=>by cases h;exact h'⟩
theorem zT.mono{x:Option (Ex×St)}{Q R:Ex->St->Prop}(h:zT x Q)(hq:∀e s,Q e s->R e s):zT x R:=by
 cases x with
 |none=>exact h
 |some q=>obtain⟨e,s⟩:=q;exact hq e s h
def seqQ(k:St->Option (Ex×St))(Q:Ex->St->Prop):Ex->St->Prop
 | .normal,s=>zT (k s) Q
 |e,s=>Q e s
@[simp] theorem seqQ_normal(k:St->Option (Ex×St))(Q:Ex->St->Prop)(s:St):seqQ k Q .normal s=zT (k s) Q:=yd rfl rfl
@[simp] theorem seqQ_exit(k:St->Option (Ex×St))(Q:Ex->St->Prop)(s:St)(i:Nat):seqQ k Q (.exit i) s=Q (.exit i) s:=yd rfl rfl
@[simp] theorem seqQ_ret(k:St->Option (Ex×St))(Q:Ex->St->Prop)(s:St):seqQ k Q .ret s=Q .ret s:=yd rfl rfl
@[simp] theorem holds_thenSeq(k:St->Option (Ex×St))(x:Option (Ex×St))(Q:Ex->St->Prop):zT (thenSeq k x) Q=zT x (seqQ k Q):=by
 cases x with
 |none=>rfl
 |some q=>obtain⟨e,s⟩:=q;cases e<;>rfl
def blkQ(id:Nat)(Q:Ex->St->Prop):Ex->St->Prop
 | .exit i,s=>if i=id then Q .normal s else Q (.exit i) s
 |e,s=>Q e s
@[simp] theorem blkQ_normal(id:Nat)(Q:Ex->St->Prop)(s:St):blkQ id Q .normal s=Q .normal s:=yd rfl rfl
@[simp] theorem blkQ_exit(id i:Nat)(Q:Ex->St->Prop)(s:St):blkQ id Q (.exit i) s=if i=id then Q .normal s else Q (.exit i) s:=yd rfl rfl
@[simp] theorem blkQ_ret(id:Nat)(Q:Ex->St->Prop)(s:St):blkQ id Q .ret s=Q .ret s:=yd rfl rfl
@[simp] theorem holds_leaveBlock(id:Nat)(x:Option (Ex×St))(Q:Ex->St->Prop):zT (leaveBlock id x) Q=zT x (blkQ id Q):=by
 cases x with
 |none=>rfl
 |some q=>
  obtain⟨e,s⟩:=q;cases e<;>try rfl
  rename_i i;by_cases h:i=id<;>simp[leaveBlock,h]
noncomputable def wpS(cf:zw)(s0:St)(ops:List GOp)(s:St)(Q:Ex->St->Prop):Prop:=zT (regionEnd s0 (zbb cf ops s)) Q
def after(cf:zw)(s0:St)(r:List GOp)(Q:Ex->St->Prop):Option SR->Prop
 |some (.ok s')=>wpS cf s0 r s' Q
 |some (.pan v st)=>Q (.pan v) {s0 with st:=st}
 |none=>False
@[simp] theorem after_ok(cf:zw)(s0:St)(r:List GOp)(Q:Ex->St->Prop)(s:St):after cf s0 r Q (some (.ok s))=wpS cf s0 r s Q:=yd rfl rfl
@[simp] theorem wpS_nil(cf:zw)(s0 s:St)(Q:Ex->St->Prop):wpS cf s0 [] s Q=Q .normal s:=yd rfl rfl
noncomputable def zJ(cf:zw)(w:Bool)(d:Option Nat)(o:IOp)(s:St):PV->Option SR
 | .bool b=>if b=w then zx cf d o s else some (.ok {s with fr:=zda s.fr d (.tup [])})
 | .tup []=>some (.ok {s with fr:=zda s.fr d (.tup [])})
 |_=>none
theorem step_guarded(cf:zw)(g:Nat)(w:Bool)(d:Option Nat)(o:IOp)(s:St):step cf ⟨some (g,w),d,o⟩ s=zJ cf w d o s (s.fr g):=by
 simp only[step];generalize s.fr g=v;cases v<;>try rfl
 ·rename_i b;cases b<;>cases w<;>rfl
 ·rename_i l;cases l<;>rfl
@[simp] theorem wpS_free(cf:zw)(s0:St)(d:Option Nat)(o:IOp)(r:List GOp)(s:St)(Q:Ex->St->Prop):wpS cf s0 (⟨none,d,o⟩::r) s Q=after cf s0 r Q (zx cf d o s):=by
 have:step cf ⟨none,d,o⟩ s=zx cf d o s:=rfl;simp only[wpS,zbb,this];cases zx cf d o s with
 |none=>rfl
 |some q=>cases q<;>rfl
@[simp] theorem wpS_guard(cf:zw)(s0:St)(g:Nat)(w:Bool)(d:Option Nat)(o:IOp)(r:List GOp)(s:St)(Q:Ex->St->Prop):wpS cf s0 (⟨some (g,w),d,o⟩::r) s Q=after cf s0 r Q (zJ cf w d o s (s.fr g)):=by
 simp only[wpS,zbb,step_guarded];cases zJ cf w d o s (s.fr g)with
 |none=>rfl
 |some q=>cases q<;>rfl
@[simp] theorem guarded_tt(cf:zw)(d:Option Nat)(o:IOp)(s:St):zJ cf true d o s (.bool true)=zx cf d o s:=yd rfl rfl
@[simp] theorem guarded_ff(cf:zw)(d:Option Nat)(o:IOp)(s:St):zJ cf false d o s (.bool false)=zx cf d o s:=yd rfl rfl
@[simp] theorem guarded_tf(cf:zw)(d:Option Nat)(o:IOp)(s:St):zJ cf true d o s (.bool false)=some (.ok {s with fr:=zda s.fr d (.tup [])}):=yd rfl rfl
@[simp] theorem guarded_ft(cf:zw)(d:Option Nat)(o:IOp)(s:St):zJ cf false d o s (.bool true)=some (.ok {s with fr:=zda s.fr d (.tup [])}):=yd rfl rfl
@[simp] theorem guarded_nil(cf:zw)(w:Bool)(d:Option Nat)(o:IOp)(s:St):zJ cf w d o s (.tup [])=some (.ok {s with fr:=zda s.fr d (.tup [])}):=yd rfl rfl
theorem wp_region(cf:zw)(ops:List GOp)(s:St)(Q:Ex->St->Prop):zT (exec cf (.region ops) s) Q=wpS cf s ops s Q:=by
 rw[exec_region];rfl
theorem guard_split{cf:zw}{s0:St}{r:List GOp}{Q:Ex->St->Prop}{w:Bool}{d:Option Nat}{o:IOp}{s:St}(b:Bool)
  (h1:b=true->after cf s0 r Q (zJ cf w d o s (.bool true))) (h2:b=false->after cf s0 r Q (zJ cf w d o s (.bool false))):after cf s0 r Q (zJ cf w d o s (.bool b)):=by
 cases b
 ·exact h2 rfl
 ·exact h1 rfl
theorem guard_splitP{cf:zw}{s0:St}{r:List GOp}{Q:Ex->St->Prop}{w:Bool}{d:Option Nat}{o:IOp}{s:St}(p:Prop)[Decidable p]
  (h1:p->after cf s0 r Q (zJ cf w d o s (.bool true))) (h2:¬p->after cf s0 r Q (zJ cf w d o s (.bool false))):after cf s0 r Q (zJ cf w d o s (.bool (decide p))):=by
 by_cases h:p
 ·simpa[h]using h1 h
 ·simpa[h]using h2 h
noncomputable def condX(cf:zw)(a b:ICode)(s:St):PV->Option (Ex×St)
 | .bool true=>exec cf a s
 | .bool false=>exec cf b s
 |_=>none
@[simp] theorem condX_true(cf:zw)(a b:ICode)(s:St):condX cf a b s (.bool true)=exec cf a s:=yd rfl rfl
@[simp] theorem condX_false(cf:zw)(a b:ICode)(s:St):condX cf a b s (.bool false)=exec cf b s:=yd rfl rfl
@[simp] theorem wp_cond(cf:zw)(c:Arg)(a b:ICode)(s:St):exec cf (.cond c a b) s=condX cf a b s (c.val s.fr):=by
 rw[exec_cond];generalize c.val s.fr=v;cases v with
 |bool x=>cases x<;>rfl
 |_=>rfl
theorem cond_split{cf:zw}{x y:ICode}{s:St}{Q:Ex->St->Prop}(b:Bool)(h1:b=true->zT (exec cf x s) Q)(h2:b=false->zT (exec cf y s) Q):zT (condX cf x y s (.bool b)) Q:=by
 cases b
 ·exact h2 rfl
 ·exact h1 rfl
theorem cond_splitP{cf:zw}{x y:ICode}{s:St}{Q:Ex->St->Prop}(p:Prop)[Decidable p](h1:p->zT (exec cf x s) Q)(h2:¬p->zT (exec cf y s) Q):zT (condX cf x y s (.bool (decide p))) Q:=by
 by_cases h:p
 ·have:decide p=true:=decide_eq_true h;rw[this];exact h1 h
 ·have:decide p=false:=decide_eq_false h;rw[this];exact h2 h
theorem guard_splitN{cf:zw}{s0:St}{r:List GOp}{Q:Ex->St->Prop}{w:Bool}{d:Option Nat}{o:IOp}{s:St}(p:Prop)[Decidable p]
  (h1:¬p->after cf s0 r Q (zJ cf w d o s (.bool true))) (h2:p->after cf s0 r Q (zJ cf w d o s (.bool false))):after cf s0 r Q (zJ cf w d o s (.bool (!decide p))):=by
 by_cases h:p
 ·simpa[h]using h2 h
 ·simpa[h]using h1 h
theorem guard_splitM{cf:zw}{s0:St}{r:List GOp}{Q:Ex->St->Prop}{w:Bool}{d:Option Nat}{o:IOp}{s:St}(b:Bool)
  (h1:b=false->after cf s0 r Q (zJ cf w d o s (.bool true))) (h2:b=true->after cf s0 r Q (zJ cf w d o s (.bool false))):after cf s0 r Q (zJ cf w d o s (.bool (!b))):=by
 cases b
 ·exact h1 rfl
 ·exact h2 rfl
theorem cond_splitN{cf:zw}{x y:ICode}{s:St}{Q:Ex->St->Prop}(p:Prop)[Decidable p](h1:¬p->zT (exec cf x s) Q)(h2:p->zT (exec cf y s) Q):zT (condX cf x y s (.bool (!decide p))) Q:=by
 by_cases h:p
 ·have:decide p=true:=decide_eq_true h;rw[this];exact h2 h
 ·have:decide p=false:=decide_eq_false h;rw[this];exact h1 h
theorem cond_splitM{cf:zw}{x y:ICode}{s:St}{Q:Ex->St->Prop}(b:Bool)(h1:b=false->zT (exec cf x s) Q)(h2:b=true->zT (exec cf y s) Q):zT (condX cf x y s (.bool (!b))) Q:=by
 cases b
 ·exact h1 rfl
 ·exact h2 rfl
theorem sP{cf:zw}{x y:ICode}{s:St}{Q:Ex->St->Prop}(p:Prop)[Decidable p](h1:p->zT (exec cf x s) Q)(h2:¬p->zT (exec cf y s) Q):zT (condX cf x y s (.bool (decide p))) Q:=cond_splitP p h1 h2
theorem gP{cf:zw}{s0:St}{r:List GOp}{Q:Ex->St->Prop}{w:Bool}{d:Option Nat}{o:IOp}{s:St}(p:Prop)[Decidable p]
  (h1:p->after cf s0 r Q (zJ cf w d o s (.bool true))) (h2:¬p->after cf s0 r Q (zJ cf w d o s (.bool false))):after cf s0 r Q (zJ cf w d o s (.bool (decide p))):=guard_splitP p h1 h2
theorem sN{cf:zw}{x y:ICode}{s:St}{Q:Ex->St->Prop}(p:Prop)[Decidable p](h1:¬p->zT (exec cf x s) Q)(h2:p->zT (exec cf y s) Q):zT (condX cf x y s (.bool (!decide p))) Q:=cond_splitN p h1 h2
theorem gN{cf:zw}{s0:St}{r:List GOp}{Q:Ex->St->Prop}{w:Bool}{d:Option Nat}{o:IOp}{s:St}(p:Prop)[Decidable p]
  (h1:¬p->after cf s0 r Q (zJ cf w d o s (.bool true))) (h2:p->after cf s0 r Q (zJ cf w d o s (.bool false))):after cf s0 r Q (zJ cf w d o s (.bool (!decide p))):=guard_splitN p h1 h2
theorem sM{cf:zw}{x y:ICode}{s:St}{Q:Ex->St->Prop}(b:Bool)(h1:b=false->zT (exec cf x s) Q)(h2:b=true->zT (exec cf y s) Q):zT (condX cf x y s (.bool (!b))) Q:=cond_splitM b h1 h2
theorem gM{cf:zw}{s0:St}{r:List GOp}{Q:Ex->St->Prop}{w:Bool}{d:Option Nat}{o:IOp}{s:St}(b:Bool)
  (h1:b=false->after cf s0 r Q (zJ cf w d o s (.bool true))) (h2:b=true->after cf s0 r Q (zJ cf w d o s (.bool false))):after cf s0 r Q (zJ cf w d o s (.bool (!b))):=guard_splitM b h1 h2
theorem sB{cf:zw}{x y:ICode}{s:St}{Q:Ex->St->Prop}(b:Bool)(h1:b=true->zT (exec cf x s) Q)(h2:b=false->zT (exec cf y s) Q):zT (condX cf x y s (.bool b)) Q:=cond_split b h1 h2
theorem gB{cf:zw}{s0:St}{r:List GOp}{Q:Ex->St->Prop}{w:Bool}{d:Option Nat}{o:IOp}{s:St}(b:Bool)
  (h1:b=true->after cf s0 r Q (zJ cf w d o s (.bool true))) (h2:b=false->after cf s0 r Q (zJ cf w d o s (.bool false))):after cf s0 r Q (zJ cf w d o s (.bool b)):=guard_split b h1 h2
theorem eqp{p:Prop}(h:p):p=True:=eq_true h
theorem eqn{p:Prop}(h:¬p):p=False:=eq_false h
def loopQ(I:St->Prop)(Q:Ex->St->Prop):Ex->St->Prop
 | .normal,s=>I s
 |e,s=>Q e s
@[simp] theorem loopQ_normal(I:St->Prop)(Q:Ex->St->Prop)(s:St):loopQ I Q .normal s=I s:=yd rfl rfl
@[simp] theorem loopQ_exit(I:St->Prop)(Q:Ex->St->Prop)(s:St)(i:Nat):loopQ I Q (.exit i) s=Q (.exit i) s:=yd rfl rfl
@[simp] theorem loopQ_ret(I:St->Prop)(Q:Ex->St->Prop)(s:St):loopQ I Q .ret s=Q .ret s:=yd rfl rfl
def round(cf:zw)(keep dead:List Nat)(b:ICode)(s:St)(Q:Ex->St->Prop):Prop:=match havoc keep dead s with
 |some s0=>zT (exec cf b s0) Q
 |none=>False
theorem round_eq(cf:zw)(keep dead:List Nat)(b:ICode)(s:St)(Q:Ex->St->Prop):
  round cf keep dead b s Q=(keep.all (fun t=>avoids dead (s.fr t))=true/\zT (exec cf b {fr:=keepFr s.fr keep,bx:=dropBx s.bx dead,st:=s.st}) Q):=by
 unfold round havoc;generalize keep.all (fun t=>avoids dead (s.fr t))=c;cases c<;>simp
theorem holds_loop(cf:zw)(keep dead:List Nat)(b:ICode)(s:St)(Q:Ex->St->Prop):
  zT (exec cf (.loop keep dead b) s) Q=round cf keep dead b s (seqQ (exec cf (.loop keep dead b)) Q):=by
 rw[exec_loop];unfold round;cases havoc keep dead s with
 |none=>rfl
 |some s0=>exact holds_thenSeq _ _ _
theorem wp_loop{cf:zw}{keep dead:List Nat}{b:ICode}{Q:Ex->St->Prop}(I:Nat->St->Prop)
  (hstep:∀n s,I n s->round cf keep dead b s (loopQ (fun s'=>∃m,m<n/\I m s') Q)):∀n s,I n s->zT (exec cf (.loop keep dead b) s) Q:=by
 intro n
 induction n using Nat.strongRecOn with
 |ind n ih=>
  intro s hI;rw[holds_loop];have h:=hstep n s hI;unfold round at h ⊢;cases hh:havoc keep dead s with
  |none=>rw[hh]at h;exact h
  |some s0=>
   rw[hh]at h;refine zT.mono h ?_;intro e s' h';cases e with
   |normal=>obtain⟨m,hm,hI'⟩:=h';exact ih m hm s' hI'
   |exit i=>exact h'
   |ret=>exact h'
   |pan v=>exact h'
theorem zo{n:Int}(h0: -9223372036854775808<=n)(h1:n<=9223372036854775807):zX .i64 n=n:=by
 rw[zkc];simp only[IntKind.wrap,IntKind.bits,IntKind.signed,yBa];split
 ·rename_i h;have:=of_decide_eq_true h;omega
 ·rename_i h;have:¬(n%2^64>=2^(64-1)):=fun hh=>h (decide_eq_true hh)
  omega
theorem wp_list{α:Type}{cf:zw}{keep dead:List Nat}{b:ICode}{Q:Ex->St->Prop}{s:St}(l:List α)(I:List α->St->Prop)(hb:l.length<2^62)(h0:I [] s)
  (hstep:∀d x r s,l=d++x::r->(hlt:d.length<l.length)->l[d.length]? =some x->l[d.length]'hlt=x->zX .i64 ((d.length:Int)+1)=(d.length:Int)+1->I d s->round cf keep dead b s (loopQ (I (d++[x])) Q))
  (hend:∀s,I l s->round cf keep dead b s (loopQ (fun _=>False) Q)):zT (exec cf (.loop keep dead b) s) Q:=by
 have key:∀(r d:List α) (s:St),l=d++r->I d s->zT (exec cf (.loop keep dead b) s) Q:=by
  intro r
  induction r with
  |nil=>
   intro d s hl hI;rw[List.append_nil]at hl;subst hl;rw[holds_loop];have h:=hend s hI;unfold round at h ⊢;cases hh:havoc keep dead s with
   |none=>rw[hh]at h;exact h
   |some s0=>
    rw[hh]at h;refine zT.mono h ?_;intro e s' h';cases e with
    |normal=>exact h'.elim
    |exit i=>exact h'
    |ret=>exact h'
    |pan v=>exact h'
  |cons x r ih=>
   intro d s hl hI;rw[holds_loop];have h:=hstep d x r s hl (by rw[hl];simp) (by rw[hl];simp) (by simp[hl]) (zo (by omega) (by have:=congrArg List.length hl;simp at this;omega)) hI;unfold round at h ⊢;cases hh:havoc keep dead s with
   |none=>rw[hh]at h;exact h
   |some s0=>
    rw[hh]at h;refine zT.mono h ?_;intro e s' h';cases e with
    |normal=>exact ih (d++[x]) s' (by simpa using hl) h'
    |exit i=>exact h'
    |ret=>exact h'
    |pan v=>exact h'
 exact key l [] s rfl h0
def Split{α:Type}(l d:List α)(x:α)(r:List α):Prop:=l=d++x::r
def kept(K B:List Nat)(s0 s:St):Prop:=(∀t∈K,s.fr t=s0.fr t)/\(∀k∈B,s.bx k=s0.bx k)
def has(V:List (Nat×PV))(s:St):Prop:=∀p∈V,s.fr p.1=p.2
@[simp] theorem kept_eq(K B:List Nat)(s0 s:St):kept K B s0 s=((∀t∈K,s.fr t=s0.fr t)/\(∀k∈B,s.bx k=s0.bx k)):=yd rfl rfl
@[simp] theorem has_nil(s:St):has [] s=True:=by simp[has]
@[simp] theorem has_cons(t:Nat)(v:PV)(V:List (Nat×PV))(s:St):has ((t,v)::V) s=(s.fr t=v/\has V s):=by simp[has]
def hasB(W:List (Nat×Bx))(s:St):Prop:=∀p∈W,s.bx p.1=p.2
@[simp] theorem hasB_nil(s:St):hasB [] s=True:=by simp[hasB]
@[simp] theorem hasB_cons(t:Nat)(v:Bx)(W:List (Nat×Bx))(s:St):hasB ((t,v)::W) s=(s.bx t=v/\hasB W s):=by simp[hasB]
def Inv(K B:List Nat)(s0:St)(V:List (Nat×PV))(W:List (Nat×Bx))(σ:zb)(P:Prop)(s:St):Prop:=kept K B s0 s/\has V s/\hasB W s/\s.st=σ/\P
@[simp] theorem Inv_eq(K B:List Nat)(s0:St)(V:List (Nat×PV))(W:List (Nat×Bx))(σ:zb)(P:Prop)(s:St):Inv K B s0 V W σ P s=(kept K B s0 s/\has V s/\hasB W s/\s.st=σ/\P):=yd rfl rfl
theorem wp_eachB{α:Type}{cf:zw}{keep dead:List Nat}{b:ICode}{Q:Ex->St->Prop}{s0:St}(l:List α)(K B:List Nat)(V:List α->List (Nat×PV))(W:List α->List (Nat×Bx))(σ:List α->zb)(P:List α->Prop)
  (hb:l.length<2^62) (h0:has (V []) s0/\hasB (W []) s0/\s0.st=σ []/\P [])
  (hstep:∀d x r s,Split l d x r->(hlt:d.length<l.length)->l[d.length]? =some x->l[d.length]'hlt=x->zX .i64 ((d.length:Int)+1)=(d.length:Int)+1->P d→
   (∀t∈K,s.fr t=s0.fr t)->(∀k∈B,s.bx k=s0.bx k)->has (V d) s->hasB (W d) s->s.st=σ d->round cf keep dead b s (loopQ (Inv K B s0 (V (d++[x])) (W (d++[x])) (σ (d++[x])) (P (d++[x]))) Q))
  (hend:∀s,P l->(∀t∈K,s.fr t=s0.fr t)->(∀k∈B,s.bx k=s0.bx k)->has (V l) s->hasB (W l) s->s.st=σ l->round cf keep dead b s (loopQ (fun _=>False) Q)):zT (exec cf (.loop keep dead b) s0) Q:=by
 refine wp_list l (fun d s=>Inv K B s0 (V d) (W d) (σ d) (P d) s) hb ?_ ?_ ?_
 ·exact⟨⟨fun _ _=>rfl,fun _ _=>rfl⟩,h0⟩
 ·rintro d x r s hl hlt hg hg' hw ⟨⟨h1,h2⟩,h3,h3',h4,h5⟩
  exact hstep d x r s hl hlt hg hg' hw h5 h1 h2 h3 h3' h4
 ·rintro s ⟨⟨h1,h2⟩,h3,h3',h4,h5⟩
  exact hend s h5 h1 h2 h3 h3' h4
theorem zba{α:Type}{cf:zw}{keep dead:List Nat}{b:ICode}{Q:Ex->St->Prop}{s0:St}(l:List α)(K B:List Nat)(V:List α->List (Nat×PV))(σ:List α->zb)(P:List α->Prop)
  (hb:l.length<2^62) (h0:has (V []) s0/\s0.st=σ []/\P [])
  (hstep:∀d x r s,Split l d x r->(hlt:d.length<l.length)->l[d.length]? =some x->l[d.length]'hlt=x->zX .i64 ((d.length:Int)+1)=(d.length:Int)+1->P d→
   (∀t∈K,s.fr t=s0.fr t)->(∀k∈B,s.bx k=s0.bx k)->has (V d) s->s.st=σ d->round cf keep dead b s (loopQ (Inv K B s0 (V (d++[x])) [] (σ (d++[x])) (P (d++[x]))) Q))
  (hend:∀s,P l->(∀t∈K,s.fr t=s0.fr t)->(∀k∈B,s.bx k=s0.bx k)->has (V l) s->s.st=σ l->round cf keep dead b s (loopQ (fun _=>False) Q)):zT (exec cf (.loop keep dead b) s0) Q:=
 wp_eachB l K B V (fun _=>[]) σ P hb ⟨h0.1,by simp,h0.2⟩ (fun d x r s a1 a2 a3 a4 a5 a6 a7 a8 a9 _ a10=>hstep d x r s a1 a2 a3 a4 a5 a6 a7 a8 a9 a10) (fun s a1 a2 a3 a4 _ a5=>hend s a1 a2 a3 a4 a5)
theorem wp_while{β:Type}{cf:zw}{keep dead:List Nat}{b:ICode}{Q:Ex->St->Prop}{s0:St}(K B:List Nat)(μ:β->Nat)(V:β->List (Nat×PV))(W:β->List (Nat×Bx))(σ:β->zb)(P:β->Prop)(c0:β)
  (h0:has (V c0) s0/\hasB (W c0) s0/\s0.st=σ c0/\P c0)
  (hstep:∀c s,P c->(∀t∈K,s.fr t=s0.fr t)->(∀k∈B,s.bx k=s0.bx k)->has (V c) s->hasB (W c) s->s.st=σ c→
   round cf keep dead b s (loopQ (fun s'=>∃c',μ c'<μ c/\Inv K B s0 (V c') (W c') (σ c') (P c') s') Q)):zT (exec cf (.loop keep dead b) s0) Q:=by
 refine wp_loop (fun n s=>∃c,μ c=n/\Inv K B s0 (V c) (W c) (σ c) (P c) s) ?_ (μ c0) s0 ⟨c0,rfl,⟨fun _ _=>rfl,fun _ _=>rfl⟩,h0⟩
 rintro n s ⟨c,rfl,⟨h1,h2⟩,h3,h3',h4,h5⟩
 have h:=hstep c s h5 h1 h2 h3 h3' h4;unfold round at h ⊢;cases hh:havoc keep dead s with
 |none=>rw[hh]at h;exact h
 |some s1=>
  rw[hh]at h;refine zT.mono h ?_;intro e s' h';cases e with
  |normal=>obtain⟨c',q1,q2⟩:=h';exact⟨μ c',q1,c',rfl,q2⟩
  |exit i=>exact h'
  |ret=>exact h'
  |pan v=>exact h'
def PC(x:Option (CRes×zb))(R:CRes->zb->Prop):Prop:=match x with
 |some (r,st)=>R r st
 |none=>False
theorem PC_iff{x:Option (CRes×zb)}{R:CRes->zb->Prop}:PC x R<->∃r st,x=some (r,st)/\R r st:=by
 cases x with
 |none=>exact⟨fun h=>h.elim,fun⟨_,_,h,_⟩=>by cases h⟩
 |some q=>obtain⟨e,s⟩:=q;exact⟨fun h=>⟨e,s,rfl,h⟩,fun⟨_,_,h,h'⟩=>by cases h;exact h'⟩
def fin(res:List IRes)(fz:Bool)(n:Nat)(s:St):Option (CRes×zb):=
 match getAll s res with
 |none=>none
 |some vs=>if vs.all zq then
   if fz then
    if zH n (vs.map (zfd n s.st))&&zb.wf n (s.st.take n)&&decide (n<=s.st.length)then some (.ret (zEc (vs.map (zfd n s.st))),s.st.take n)else none
   else some (.ret (zEc vs),s.st)
  else none
def finPan(fz:Bool)(n:Nat)(v:PV)(s:St):Option (CRes×zb):=
 if fz then
  if zr n v&&zb.wf n (s.st.take n)&&decide (n<=s.st.length)then some (.pan v,s.st.take n)else none
 else some (.pan v,s.st)
def leaveQ(res:List IRes)(fz:Bool)(n:Nat)(R:CRes->zb->Prop):Ex->St->Prop
 | .normal,s=>PC (fin res fz n s) R
 | .ret,s=>PC (fin res fz n s) R
 | .pan v,s=>PC (finPan fz n v s) R
 |_,_=>False
section
variable (res:List IRes) (fz:Bool) (n:Nat) (R:CRes->zb->Prop) (s:St)
@[simp] theorem leaveQ_normal:leaveQ res fz n R .normal s=PC (fin res fz n s) R:=yd rfl rfl
@[simp] theorem leaveQ_ret:leaveQ res fz n R .ret s=PC (fin res fz n s) R:=yd rfl rfl
@[simp] theorem fin_false:fin res false n s=match getAll s res with
 |none=>none
 |some vs=>if vs.all zq then some (.ret (zEc vs),s.st)else none:=yd rfl rfl
@[simp] theorem PC_some(r:CRes)(st:zb):PC (some (r,st)) R=R r st:=yd rfl rfl
end
section
variable (res:List IRes) (n:Nat) (R:CRes->zb->Prop) (s:St)
end
theorem pcall_wpP{E:Env}{f:Nat}{F:IFn}{args:List PV}{st:zb}{R:CRes->zb->Prop}(hx:E.ext f=none)(hf:E.fn f=some F)(hl:args.length=F.nargs)(hv:args.all zq=true)
  (h:zT (exec (zn E) F.body {fr:=frOf args 0,bx:=fun _=> .no,st:=st}) (leaveQ F.res F.freeze st.length R)) (hh:E.hand f=none:=by rfl) (hd:F.deep=false:=by rfl) (ho:F.own=none:=by rfl):PC (zn E f args st) R:=by
 rw[holds_iff]at h;obtain⟨e,s,h1,h2⟩:=h;have h3:PC (leave F st.length (some (e,s))) R:=by
  cases e with
  |normal=>show PC (zrc F st.length s) R;unfold zrc;rw[ho,hd];exact h2
  |ret=>show PC (zrc F st.length s) R;unfold zrc;rw[ho,hd];exact h2
  |pan v=>exact h2
  |exit i=>exact h2.elim
 rw[PC_iff]at h3;obtain⟨r,st',h4,h5⟩:=h3;rw[pcall_body hx hf hl hv hh (by rw[h1];exact h4)];exact h5
def isR(r:CRes×zb):CRes->zb->Prop:=fun r' st'=>r'=r.1/\st'=r.2
theorem ze{E:Env}{f:Nat}{F:IFn}{args:List PV}{st:zb}{r:CRes×zb}(hx:E.ext f=none)(hf:E.fn f=some F)(hl:args.length=F.nargs)(hv:args.all zq=true)
  (h:zT (exec (zn E) F.body {fr:=frOf args 0,bx:=fun _=> .no,st:=st}) (leaveQ F.res F.freeze st.length (isR r))) (hh:E.hand f=none:=by rfl) (hd:F.deep=false:=by rfl) (ho:F.own=none:=by rfl):zn E f args st=some r:=by
 have h1:=pcall_wpP (R:=isR r) hx hf hl hv h hh hd ho;rw[PC_iff]at h1;obtain⟨r',st',e,q1,q2⟩:=h1;rw[e,q1,q2]
def finO(t:Nat)(s:St):Option (CRes×zb):=if zq (s.fr t)then some (.ret (s.fr t),s.st)else none
def leaveO(t:Nat)(R:CRes->zb->Prop):Ex->St->Prop
 | .normal,s=>PC (finO t s) R
 | .ret,s=>PC (finO t s) R
 | .pan v,s=>PC (some (.pan v,s.st)) R
 |_,_=>False
section
variable (t:Nat) (R:CRes->zb->Prop) (s:St)
@[simp] theorem leaveO_ret:leaveO t R .ret s=PC (finO t s) R:=yd rfl rfl
@[simp] theorem finO_eq:finO t s=if zq (s.fr t)then some (.ret (s.fr t),s.st)else none:=yd rfl rfl
end
theorem pcall_wpO{E:Env}{f:Nat}{F:IFn}{args:List PV}{st:zb}{r:CRes×zb}(t:Nat)(hx:E.ext f=none)(hf:E.fn f=some F)(hl:args.length=F.nargs)(hv:args.all zq=true)
  (h:zT (exec (zn E) F.body {fr:=frOf args 0,bx:=fun _=> .no,st:=st}) (leaveO t (isR r))) (hh:E.hand f=none:=by rfl) (hz:F.freeze=false:=by rfl) (ho:F.own=some t:=by rfl):zn E f args st=some r:=by
 rw[holds_iff]at h;obtain⟨e,s,h1,h2⟩:=h;have h3:PC (leave F st.length (some (e,s))) (isR r):=by
  cases e with
  |normal=>show PC (zrc F st.length s) (isR r);unfold zrc;rw[ho];exact h2
  |ret=>show PC (zrc F st.length s) (isR r);unfold zrc;rw[ho];exact h2
  |pan v=>show PC (finishPan F st.length v s) (isR r);unfold finishPan;rw[hz];exact h2
  |exit i=>exact h2.elim
 rw[PC_iff]at h3;obtain⟨r',st',h4,q1,q2⟩:=h3;rw[pcall_body hx hf hl hv hh (by rw[h1];exact h4),q1,q2]
@[simp] theorem isR_mk(r r':CRes)(st st':zb):isR (r,st) r' st'=(r'=r/\st'=st):=yd rfl rfl
attribute [simp] wp_region round_eq exec_sealK
section
variable (n:Nat)
@[simp] theorem below_bool(b:Bool):zr n (.bool b)=true:=yd rfl rfl
@[simp] theorem below_int(k:IntKind)(m:Int):zr n (.int k m)=true:=yd rfl rfl
@[simp] theorem below_str(m:List UInt8):zr n (.str m)=true:=yd rfl rfl
@[simp] theorem below_slice(k:SK)(z:Nat)(l:List PV):zr n (.slice k z l)=zH n l:=yd rfl rfl
@[simp] theorem below_agg(l:List PV):zr n (.agg l)=zH n l:=yd rfl rfl
@[simp] theorem below_tup(l:List PV):zr n (.tup l)=zH n l:=yd rfl rfl
@[simp] theorem belowL_nil:zH n []=true:=yd rfl rfl
@[simp] theorem belowL_cons(v:PV)(l:List PV):zH n (v::l)=(zr n v&&zH n l):=yd rfl rfl
end
@[simp] theorem zQc{α:Type}(n:Nat)(f:α->PV)(l:List α)(h:∀x,zr n (f x)=true):zH n (l.map f)=true:=by
 induction l with
 |nil=>rfl
 |cons x r ih=>simp[h,ih]
theorem Split.mem{α:Type}{l d:List α}{x:α}{r:List α}(h:Split l d x r):x∈l:=by
 have h:l=d++x::r:=h;rw[h];simp
theorem Split.eq{α:Type}{l d:List α}{x:α}{r:List α}(h:Split l d x r):l=d++x::r:=h
theorem byte_lt(b:UInt8):(b.toNat:Int)<256:=by
 have:=b.toNat_lt;omega
@[simp] theorem wrapK_byte(k:IntKind)(h:k≠ .i8)(b:UInt8):zX k b.toNat=b.toNat:=by
 have:=byte_lt b;have h0:(0:Int)<=b.toNat:=by omega
 rw[zkc];cases k<;>first|exact absurd rfl h|(simp only[IntKind.wrap,IntKind.bits,IntKind.signed,yBa,Bool.false_and];split<;>rename_i h<;>first|omega|(have:=of_decide_eq_true h;omega)|(exact absurd h (by simp)))
section
variable (n:Nat) (st:zb)
@[simp] theorem frA_bool(b:Bool):zfd n st (.bool b)=(.bool b):=yd rfl rfl
end
@[simp] theorem fin_true0(res:List IRes)(s:St):fin res true 0 s=match getAll s res with
 |none=>none
 |some vs=>if vs.all zq then if zH 0 (vs.map (zfd 0 s.st))then some (.ret (zEc (vs.map (zfd 0 s.st))),[])else none else none:=by
 unfold fin;cases getAll s res with
 |none=>rfl
 |some vs=>simp[zb.wf]
def acc(sz:Nat)(l:List PV):PV:=match l with
 | []=> .slice .fit sz []
 |x::r=> .slice .own sz (x::r)
@[simp] theorem acc_nil(sz:Nat):acc sz []= .slice .fit sz []:=yd rfl rfl
@[simp] theorem acc_cons(sz:Nat)(x:PV)(r:List PV):acc sz (x::r)= .slice .own sz (x::r):=yd rfl rfl
theorem acc_ne{sz:Nat}{l:List PV}(h:l≠ []):acc sz l= .slice .own sz l:=by cases l<;>first|exact absurd rfl h|rfl
@[simp] theorem stripA_acc(sz:Nat)(l:List PV):stripA (acc sz l)= .slice .plain sz l:=by cases l<;>rfl
@[simp] theorem isVar_acc(sz:Nat)(l:List PV):zq (acc sz l)=true:=by cases l<;>rfl
@[simp] theorem avoids_acc(dead:List Nat)(sz:Nat)(l:List PV):avoids dead (acc sz l)=true:=by cases l<;>rfl
@[simp] theorem appendS_acc(sz bytes:Nat)(b:Bx)(st:zb)(l l':List PV)(h:(l.length+l'.length)*bytes<=zl):appendS sz bytes b st (some l') (acc sz l)=some (acc sz (l++l'),b,st):=by
 cases l with
 |nil=>
  cases l' with
  |nil=>simp
  |cons y r=>
   simp at h;simp;exact h
 |cons x r=>simp at h;simp;exact h
@[simp high] theorem appendS_nil(sz bytes:Nat)(b:Bx)(st:zb)(l':List PV)(h:l'.length*bytes<=zl):appendS sz bytes b st (some l') (.slice .fit sz [])=some (acc sz l',b,st):=by
 have:=appendS_acc sz bytes b st [] l' (by simpa using h);simpa using this
@[simp] theorem canon1_sacc(sz:Nat)(l:List PV):canon1 (strip (acc sz l))= .slice .plain sz l:=by cases l<;>rfl
@[simp] theorem stripA_sacc(sz:Nat)(l:List PV):stripA (strip (acc sz l))= .slice .plain sz l:=by cases l<;>rfl
@[simp] theorem isVar_sacc(sz:Nat)(l:List PV):zq (strip (acc sz l))=true:=by cases l<;>rfl
@[simp] theorem cellsOf_sacc(sz:Nat)(l:List PV):cellsOf (strip (acc sz l))=[strip (acc sz l)]:=by cases l<;>rfl
@[simp] theorem src_sacc(st:zb)(sz z:Nat)(l:List PV):zna st sz (strip (acc z l))=if sz=z then some l else none:=by cases l<;>rfl
@[simp] def cI(n:Int):Arg:= .c (.int .i64 n)
@[simp] def oM(a b:Nat):GOp:=⟨none,some a,.mv (.t b)⟩
@[simp] def oC(a:Nat)(v:PV):GOp:=⟨none,some a,.mv (.c v)⟩
@[simp] def oO(a:Nat)(x:IOp):GOp:=⟨none,some a,x⟩
@[simp] def oN(x:IOp):GOp:=⟨none,none,x⟩
@[simp] def oT(g a:Nat)(x:IOp):GOp:=⟨some (g,true),some a,x⟩
@[simp] def oF(g a:Nat)(x:IOp):GOp:=⟨some (g,false),some a,x⟩
@[simp] def oA(a off t:Nat):GOp:=⟨none,some a,.faddr off (.t t)⟩
@[simp] def oX(a t i:Nat):GOp:=⟨none,some a,.ext (.t t) i⟩
@[simp] def oL(a k t:Nat):GOp:=⟨none,some a,.load (.box k) false 1 (.t t)⟩
@[simp] def oLa(a k sz t:Nat):GOp:=⟨none,some a,.load (.box k) true sz (.t t)⟩
@[simp] def oG(a t:Nat):GOp:=⟨none,some a,.load .any false 1 (.t t)⟩
@[simp] def oS(k sz t v:Nat):GOp:=⟨none,none,.store (.box k) sz (.t t) (.t v)⟩
@[simp] def oB(a:Nat)(op:BinOp)(x y:Arg):GOp:=⟨none,some a,.bin 0 [] op x y⟩
@[simp] def bF:PV:= .bool false
@[simp] def bT:PV:= .bool true
@[simp] def sr(o:List GOp)(r:ICode):ICode:= .seq (.region o) r
@[simp] def cP(a f:Nat)(l:List Arg):GOp:=⟨none,some a,.callP false (.c (.fn f [] [])) l⟩
@[simp] def cF(a f:Nat)(l:List Arg):GOp:=⟨none,some a,.call false (.c (.fn f [] [])) l⟩
@[simp] def oK(a t:Nat):GOp:=⟨none,some a,.nilck (.t t)⟩
@[simp] def oI(a z t i:Nat):GOp:=⟨none,some a,.iaddr z (.t t) (.t i)⟩
@[simp] def oE(a t:Nat):GOp:=⟨none,some a,.take t⟩
@[simp] def oZ(a:Nat)(n:Int):GOp:=⟨none,some a,.mv (.c (.int .i64 n))⟩
@[simp] def oY(a t:Nat):GOp:=⟨none,some a,.len 1 (.t t)⟩
@[simp] def oW(a z t:Nat):GOp:=⟨none,some a,.load .any true z (.t t)⟩
@[simp] def oH(a t:Nat):GOp:=⟨none,some a,.load .imm false 1 (.t t)⟩
@[simp] def oU(a t:Nat):GOp:=⟨none,some a,.un .not (.t t)⟩
@[simp] def oV(t v:Nat):GOp:=⟨none,none,.store .any 1 (.t t) (.t v)⟩
@[simp] def oP(a:Nat)(op:BinOp)(x y:Nat):GOp:=⟨none,some a,.bin 0 [] op (.t x) (.t y)⟩
@[simp] def oD(a:Nat)(op:BinOp)(x:Nat)(y:Int):GOp:=⟨none,some a,.bin 0 [] op (.t x) (.c (.int .i64 y))⟩
@[simp] def oTm(g a t:Nat):GOp:=⟨some (g,true),some a,.mv (.t t)⟩
@[simp] def oFm(g a t:Nat):GOp:=⟨some (g,false),some a,.mv (.t t)⟩
@[simp] def pP(n:Nat)(l:List Arg):IOp:= .callP false (.c (.fn n [] [])) l
@[simp] def pF(n:Nat)(l:List Arg):IOp:= .call false (.c (.fn n [] [])) l
end PE

set_option maxRecDepth 100000
namespace PE.U
open Go PE Go.Proofs
def F36:IFn:=⟨21,2,[.tmp 4],false,false,none,(sr [oZ 4 0] (sr [oM 5 0,oM 6 0,oK 7 6,oA 8 2 7,oO 9 (.loadT .any (.t 8)),oM 10 1,oO 11 (.bslice 1 (.int .i64 0) 1 [(0,(.t 10))]),oO 12 (.append 1 8 (.t 9) (.t 11)),oK 13 5,oA 14 2 13,oN (.storeT .any (.t 14) 12)] (sr [oM 15 0,oK 16 15,oA 17 2 16,oG 18 17,oY 19 18,oD 20 .sub 19 1,oM 4 20] .ret)))⟩
theorem ok36:zh Try.prog Try.f36 F36=true:=by kernel_rfl
def L35_0:ICode:= .loop [0,1,5,6] []
 (.seq
 (sr [
 oM 7 6,
 oM 8 1,
 oY 9 8,
 oP 10 .lss 7 9]
 (.cond (.t 10)
 .skip
 (.exit 0)))
 (.seq
 (.block 1
 (.region [
 oE 13 5,
 oM 14 0,
 oM 15 1,
 oM 16 6,
 oI 17 1 15 16,
 oG 18 17,
 cF 19 36 [.t 14,.t 18],
 oO 20 (.bslice 1 (.int .i64 0) 1 [(0,(.t 19))]),
 oO 21 (.append 1 8 (.t 13) (.t 20)),
 oE 5 21]))
 (.region [
 oM 11 6,
 oD 12 .add 11 1,
 oM 6 12])))
abbrev K35_0:List Nat:=[0,1]
abbrev B35_0:List Nat:=[]
def F35:IFn:=⟨23,2,[.tmp 4],false,false,some 4,(sr [oC 4 (.slice .fit 1 [])] (sr [oC 5 (.slice .fit 1 [])] (.seq (sr [oZ 6 0] (.block 0 L35_0)) (sr [oE 22 5,oE 4 22] .ret))))⟩
theorem ok35:zh Try.prog Try.f35 F35=true:=by kernel_rfl
def F54:IFn:=⟨43,2,[.tmp 4],false,false,none,(sr [oZ 4 0] (sr [oM 5 0,oK 6 5,oA 7 1 6,oG 8 7,oD 9 .add 8 1,oK 10 5,oA 11 1 10,oV 11 9] (.seq (sr [oM 12 0,oK 13 12,oA 14 1 13,oG 15 14,oM 16 0,oK 17 16,oA 18 0 17,oG 19 18,oY 20 19,oP 21 .gtr 15 20,oM 22 21,oFm 22 23 0,oF 22 24 (.nilck (.t 23)),oF 22 25 (.faddr 1 (.t 24)),oF 22 26 (.load .any false 1 (.t 25)),oF 22 27 (.bin 0 [] .gtr (.t 26) (cI 150)),oO 28 (.pick (.t 22) (.c bT) (.t 27))] (.cond (.t 28) (sr [oZ 4 0] .ret) .skip)) (sr [oM 29 0,oK 30 29,oA 31 0 30,oG 32 31,oM 33 0,oK 34 33,oA 35 1 34,oG 36 35,oD 37 .sub 36 1,oI 38 1 32 37,oH 39 38,oO 40 (.conv .i64 (.t 39)),oM 41 1,oP 42 .rem 40 41,oM 4 42] .ret))))⟩
theorem ok54:zh Try.prog Try.f54 F54=true:=by kernel_rfl
def L76_0:ICode:= .loop [0,1,2,7,8,9] []
 (.seq
 (sr [
 oM 13 9,
 oM 14 1,
 oY 15 14,
 oP 16 .lss 13 15]
 (.cond (.t 16)
 .skip
 (.exit 0)))
 (.seq
 (.block 1
 (sr [
 oM 19 0,
 oK 20 19,
 oA 21 2 20,
 oG 22 21,
 oM 23 1,
 oM 24 9,
 oI 25 1 23 24,
 oH 26 25,
 oI 27 1 22 26,
 oH 28 27,
 oM 29 2,
 oP 30 .eql 28 29,
 oM 31 30,
 oTm 31 32 9,
 oT 31 33 (.bin 0 [] .eql (.t 32) (cI 0)),
 oTm 31 34 33,
 oFm 34 35 7,
 oF 34 36 (.bin 0 [] .gtr (.t 35) (cI 0)),
 oT 31 37 (.pick (.t 34) (.c bT) (.t 36)),
 oO 38 (.pick (.t 31) (.t 37) (.c bF))]
 (.cond (.t 38)
 (sr [
 oM 39 1,
 oM 40 9,
 oI 41 1 39 40,
 oG 42 41,
 oM 8 42]
 (.region [
 oM 43 7,
 oD 44 .sub 43 1,
 oM 7 44]))
 .skip)))
 (.region [
 oM 17 9,
 oD 18 .add 17 1,
 oM 9 18])))
def L76_1:ICode:= .loop [0,1,2,8,10] []
 (.seq
 (sr [
 oM 45 10,
 oM 46 1,
 oY 47 46,
 oP 48 .lss 45 47,
 oM 49 48,
 oTm 49 50 0,
 oT 49 51 (.nilck (.t 50)),
 oT 49 52 (.faddr 2 (.t 51)),
 oT 49 53 (.load .any false 1 (.t 52)),
 oTm 49 54 8,
 oT 49 55 (.iaddr 1 (.t 53) (.t 54)),
 oT 49 56 (.load .any false 1 (.t 55)),
 oTm 49 57 2,
 oT 49 58 (.bin 0 [] .neq (.t 56) (.t 57)),
 oO 59 (.pick (.t 49) (.t 58) (.c bF))]
 (.cond (.t 59)
 .skip
 (.exit 2)))
 (.seq
 (.block 3
 (sr [
 oM 62 0,
 oK 63 62,
 oA 64 2 63,
 oG 65 64,
 oM 66 1,
 oM 67 10,
 oI 68 1 66 67,
 oH 69 68,
 oI 70 1 65 69,
 oH 71 70,
 oM 72 2,
 oP 73 .eql 71 72]
 (.cond (.t 73)
 (.region [
 oM 74 1,
 oM 75 10,
 oI 76 1 74 75,
 oG 77 76,
 oM 8 77])
 .skip)))
 (.region [
 oM 60 10,
 oD 61 .add 60 1,
 oM 10 61])))
abbrev K76_0:List Nat:=[0,1,2]
abbrev B76_0:List Nat:=[]
abbrev K76_1:List Nat:=[0,1,2]
abbrev B76_1:List Nat:=[]
def F76:IFn:=⟨79,3,[.tmp 6],false,false,none,(sr [oZ 6 0] (sr [oM 11 0,cF 12 54 [.t 11,cI 8],oM 7 12] (sr [oZ 8 0] (.seq (sr [oZ 9 0] (.block 0 L76_0)) (.seq (sr [oZ 10 0] (.block 2 L76_1)) (sr [oM 78 8,oM 6 78] .ret))))))⟩
theorem ok76:zh Try.prog Try.f76 F76=true:=by kernel_rfl
def L57_0:ICode:= .loop [0,1,2,7,8] []
 (.seq
 (sr [
 oM 9 8,
 oM 10 2,
 oY 11 10,
 oP 12 .lss 9 11]
 (.cond (.t 12)
 .skip
 (.exit 0)))
 (.seq
 (.block 1
 (.region [
 oE 15 7,
 oM 16 0,
 oM 17 1,
 oM 18 2,
 oM 19 8,
 oI 20 1 18 19,
 oG 21 20,
 cF 22 76 [.t 16,.t 17,.t 21],
 oO 23 (.bslice 1 (.int .i64 0) 1 [(0,(.t 22))]),
 oO 24 (.append 1 8 (.t 15) (.t 23)),
 oE 7 24]))
 (.region [
 oM 13 8,
 oD 14 .add 13 1,
 oM 8 14])))
abbrev K57_0:List Nat:=[0,1,2]
abbrev B57_0:List Nat:=[]
def F57:IFn:=⟨26,3,[.tmp 6],false,false,none,(sr [oC 6 (.slice .fit 1 [])] (sr [oC 7 (.slice .fit 1 [])] (.seq (sr [oZ 8 0] (.block 0 L57_0)) (sr [oE 25 7,oE 6 25] .ret))))⟩
theorem ok57:zh Try.prog Try.f57 F57=true:=by kernel_rfl
def F55:IFn:=⟨137,2,[.cell 4 true 8],false,false,none,(sr [oO 4 (.boxL 4 (.c (.agg [.int .i64 0,.int .i64 0,.int .i64 0,.str [],.slice .fit 1 [],.slice .fit 1 [],.slice .fit 1 [],.slice .fit 1 []])))] (sr [oZ 5 1] (.seq (sr [oM 6 0,cF 7 54 [.t 6,cI 12]] (.block 0 (sr [oD 9 .eql 7 0,oM 8 9] (.cond (.t 8) (sr [oO 10 (.bslice 1 (.int .i64 0) 6 [(0,(cI 0)),(1,(cI 1)),(2,(cI 2)),(3,(cI 3)),(4,(cI (-1))),(5,(cI 100))]),oM 11 0,cF 12 54 [.t 11,cI 6],oI 13 1 10 12,oH 14 13,oM 15 0,oM 16 5,oO 17 (.bslice 1 (.int .i64 0) 1 [(0,(.t 16))]),cF 18 35 [.t 15,.t 17],oO 19 (.build [.int .i64 0,.int .i64 0,.int .i64 0,.str [],.slice .fit 1 [],.slice .fit 1 [],.slice .fit 1 [],.slice .fit 1 []] [(0,1,(cI 1)),(2,1,(.t 14)),(5,1,(.t 18))]),oS 4 8 4 19] .ret) (sr [oD 21 .eql 7 1,oM 20 21] (.cond (.t 20) (sr [oM 22 0,cF 23 54 [.t 22,cI 2],oM 24 0,oO 25 (.bslice 1 (.int .i64 0) 1 [(0,(cI 2))]),cF 26 35 [.t 24,.t 25],oO 27 (.build [.int .i64 0,.int .i64 0,.int .i64 0,.str [],.slice .fit 1 [],.slice .fit 1 [],.slice .fit 1 [],.slice .fit 1 []] [(0,1,(cI 2)),(2,1,(.t 23)),(5,1,(.t 26))]),oS 4 8 4 27] .ret) (sr [oD 29 .eql 7 2,oM 28 29] (.cond (.t 28) (sr [oO 30 (.bslice 1 (.int .i64 0) 4 [(0,(cI 20)),(1,(cI 21)),(2,(cI 23)),(3,(cI 27))]),oM 31 0,cF 32 54 [.t 31,cI 4],oI 33 1 30 32,oH 34 33,oM 35 0,oE 36 1,oM 37 5,oO 38 (.bslice 1 (.int .i64 0) 1 [(0,(.t 37))]),cF 39 57 [.t 35,.t 36,.t 38],oM 40 0,oM 41 5,oO 42 (.bslice 1 (.int .i64 0) 1 [(0,(.t 41))]),cF 43 35 [.t 40,.t 42],oO 44 (.build [.int .i64 0,.int .i64 0,.int .i64 0,.str [],.slice .fit 1 [],.slice .fit 1 [],.slice .fit 1 [],.slice .fit 1 []] [(0,1,(cI 3)),(1,1,(.t 34)),(4,1,(.t 39)),(5,1,(.t 43))]),oS 4 8 4 44] .ret) (sr [oD 46 .eql 7 3,oM 45 46] (.cond (.t 45) (sr [oM 47 0,oE 48 1,oO 49 (.bslice 1 (.int .i64 0) 1 [(0,(cI 2))]),cF 50 57 [.t 47,.t 48,.t 49],oM 51 0,oO 52 (.bslice 1 (.int .i64 0) 1 [(0,(cI 2))]),cF 53 35 [.t 51,.t 52],oO 54 (.build [.int .i64 0,.int .i64 0,.int .i64 0,.str [],.slice .fit 1 [],.slice .fit 1 [],.slice .fit 1 [],.slice .fit 1 []] [(0,1,(cI 3)),(1,1,(cI 22)),(4,1,(.t 50)),(5,1,(.t 53))]),oS 4 8 4 54] .ret) (.seq (sr [oD 56 .eql 7 4,oM 55 56] (.cond (.t 55) .skip (sr [oD 57 .eql 7 5,oM 55 57] (.cond (.t 55) .skip (.region [oD 58 .eql 7 6,oM 55 58]))))) (.cond (.t 55) (sr [oM 59 0,cF 60 54 [.t 59,cI 11],oB 61 .add (cI 1) (.t 60),oM 62 0,oE 63 1,oM 64 5,oM 65 5,oO 66 (.bslice 1 (.int .i64 0) 2 [(0,(.t 64)),(1,(.t 65))]),cF 67 57 [.t 62,.t 63,.t 66],oM 68 0,oM 69 5,oO 70 (.bslice 1 (.int .i64 0) 1 [(0,(.t 69))]),cF 71 35 [.t 68,.t 70],oO 72 (.build [.int .i64 0,.int .i64 0,.int .i64 0,.str [],.slice .fit 1 [],.slice .fit 1 [],.slice .fit 1 [],.slice .fit 1 []] [(0,1,(cI 4)),(1,1,(.t 61)),(4,1,(.t 67)),(5,1,(.t 71))]),oS 4 8 4 72] .ret) (.seq (sr [oD 74 .eql 7 7,oM 73 74] (.cond (.t 73) .skip (.region [oD 75 .eql 7 8,oM 73 75]))) (.cond (.t 73) (sr [oM 76 0,cF 77 54 [.t 76,cI 6],oB 78 .add (cI 12) (.t 77),oM 79 0,oE 80 1,oM 81 5,oM 82 5,oO 83 (.bslice 1 (.int .i64 0) 2 [(0,(.t 81)),(1,(.t 82))]),cF 84 57 [.t 79,.t 80,.t 83],oM 85 0,oO 86 (.bslice 1 (.int .i64 0) 1 [(0,(cI 2))]),cF 87 35 [.t 85,.t 86],oO 88 (.build [.int .i64 0,.int .i64 0,.int .i64 0,.str [],.slice .fit 1 [],.slice .fit 1 [],.slice .fit 1 [],.slice .fit 1 []] [(0,1,(cI 4)),(1,1,(.t 78)),(4,1,(.t 84)),(5,1,(.t 87))]),oS 4 8 4 88] .ret) (sr [oD 90 .eql 7 9,oM 89 90] (.cond (.t 89) (sr [oM 91 0,oE 92 1,oM 93 5,oO 94 (.bslice 1 (.int .i64 0) 1 [(0,(.t 93))]),cF 95 57 [.t 91,.t 92,.t 94],oM 96 0,oM 97 5,oO 98 (.bslice 1 (.int .i64 0) 1 [(0,(.t 97))]),cF 99 35 [.t 96,.t 98],oO 100 (.build [.int .i64 0,.int .i64 0,.int .i64 0,.str [],.slice .fit 1 [],.slice .fit 1 [],.slice .fit 1 [],.slice .fit 1 []] [(0,1,(cI 5)),(3,1,(.c (.str [97]))),(4,1,(.t 95)),(5,1,(.t 99))]),oS 4 8 4 100] .ret) (sr [oD 102 .eql 7 10,oM 101 102] (.cond (.t 101) (sr [oM 103 0,oE 104 1,oM 105 5,oM 106 5,oO 107 (.bslice 1 (.int .i64 0) 2 [(0,(.t 105)),(1,(.t 106))]),cF 108 57 [.t 103,.t 104,.t 107],oO 109 (.build [.int .i64 0,.int .i64 0,.int .i64 0,.str [],.slice .fit 1 [],.slice .fit 1 [],.slice .fit 1 [],.slice .fit 1 []] [(0,1,(cI 6)),(3,1,(.c (.str [97]))),(4,1,(.t 108))]),oS 4 8 4 109] .ret) .skip)))))))))))))))))) (.seq (sr [oM 110 0,cF 111 54 [.t 110,cI 4]] (.block 1 (sr [oD 113 .eql 111 0,oM 112 113] (.cond (.t 112) (sr [oM 114 0,oE 115 1,oM 116 5,oO 117 (.bslice 1 (.int .i64 0) 2 [(0,(.t 116)),(1,(cI 2))]),cF 118 57 [.t 114,.t 115,.t 117],oM 119 0,oM 120 5,oO 121 (.bslice 1 (.int .i64 0) 1 [(0,(.t 120))]),cF 122 35 [.t 119,.t 121],oO 123 (.build [.int .i64 0,.int .i64 0,.int .i64 0,.str [],.slice .fit 1 [],.slice .fit 1 [],.slice .fit 1 [],.slice .fit 1 []] [(0,1,(cI 7)),(3,1,(.c (.str [102]))),(4,1,(.t 118)),(5,1,(.t 122))]),oS 4 8 4 123] .ret) (sr [oD 125 .eql 111 1,oM 124 125] (.cond (.t 124) (sr [oM 126 0,oM 127 5,oO 128 (.bslice 1 (.int .i64 0) 1 [(0,(.t 127))]),cF 129 35 [.t 126,.t 128],oO 130 (.build [.int .i64 0,.int .i64 0,.int .i64 0,.str [],.slice .fit 1 [],.slice .fit 1 [],.slice .fit 1 [],.slice .fit 1 []] [(0,1,(cI 8)),(5,1,(.t 129))]),oS 4 8 4 130] .ret) .skip)))))) (sr [oM 131 0,oE 132 1,oM 133 5,oO 134 (.bslice 1 (.int .i64 0) 1 [(0,(.t 133))]),cF 135 57 [.t 131,.t 132,.t 134],oO 136 (.build [.int .i64 0,.int .i64 0,.int .i64 0,.str [],.slice .fit 1 [],.slice .fit 1 [],.slice .fit 1 [],.slice .fit 1 []] [(0,1,(cI 9)),(4,1,(.t 135))]),oS 4 8 4 136] .ret)))))⟩
theorem ok55:zh Try.prog Try.f55 F55=true:=by kernel_rfl
def L56_0:ICode:= .loop [0,3,4] []
 (.seq
 (sr [
 oM 7 4,
 oD 8 .gtr 7 0]
 (.cond (.t 8)
 .skip
 (.exit 0)))
 (.seq
 (.block 1
 (.region [
 oE 11 3,
 oM 12 0,
 cF 13 54 [.t 12,cI 2],
 oB 14 .add (cI 1) (.t 13),
 oO 15 (.bslice 1 (.int .i64 0) 1 [(0,(.t 14))]),
 oO 16 (.append 1 8 (.t 11) (.t 15)),
 oE 3 16]))
 (.region [
 oM 9 4,
 oD 10 .sub 9 1,
 oM 4 10])))
abbrev K56_0:List Nat:=[0]
abbrev B56_0:List Nat:=[]
def F56:IFn:=⟨18,1,[.tmp 2],false,false,none,(sr [oC 2 (.slice .fit 1 [])] (sr [oC 3 (.slice .fit 1 [])] (.seq (sr [oM 5 0,cF 6 54 [.t 5,cI 3],oM 4 6] (.block 0 L56_0)) (sr [oE 17 3,oE 2 17] .ret))))⟩
theorem ok56:zh Try.prog Try.f56 F56=true:=by kernel_rfl
def F79:IFn:=⟨11,1,[.tmp 2],false,false,none,(sr [oO 1 (.boxL 1 (.t 0)),oC 2 bF] (sr [oA 3 0 1,oL 4 1 3,oD 5 .geq 4 12,oM 6 5,oT 6 7 (.faddr 0 (.t 1)),oT 6 8 (.load (.box 1) false 1 (.t 7)),oT 6 9 (.bin 0 [] .leq (.t 8) (cI 15)),oO 10 (.pick (.t 6) (.t 9) (.c bF)),oM 2 10] .ret))⟩
theorem ok79:zh Try.prog Try.f79 F79=true:=by kernel_rfl
def F77:IFn:=⟨23,1,[.tmp 2],false,false,none,(sr [oZ 2 0] (.seq (sr [oM 3 0,oY 4 3,oD 5 .eql 4 0,oM 6 5,oFm 6 7 0,oFm 6 8 0,oF 6 9 (.len 1 (.t 8)),oF 6 10 (.bin 0 [] .sub (.t 9) (cI 1)),oF 6 11 (.iaddr 8 (.t 7) (.t 10)),oF 6 12 (.load .any true 8 (.t 11)),oF 6 13 (pP 79 [.t 12]),oF 6 14 (.un .not (.t 13)),oO 15 (.pick (.t 6) (.c bT) (.t 14))] (.cond (.t 15) (sr [oZ 2 0] .ret) .skip)) (sr [oM 16 0,oE 17 0,oY 18 17,oD 19 .sub 18 1,oI 20 8 16 19,oA 21 0 20,oG 22 21,oM 2 22] .ret)))⟩
theorem ok77:zh Try.prog Try.f77 F77=true:=by kernel_rfl
def L78_0:ICode:= .loop [0,3,4] []
 (.seq
 (sr [
 oM 17 4,
 oM 18 0,
 oM 19 3,
 oI 20 8 18 19,
 oA 21 7 20,
 oG 22 21,
 oY 23 22,
 oP 24 .lss 17 23,
 oM 25 24,
 oTm 25 26 0,
 oTm 25 27 3,
 oT 25 28 (.iaddr 8 (.t 26) (.t 27)),
 oT 25 29 (.faddr 0 (.t 28)),
 oT 25 30 (.load .any false 1 (.t 29)),
 oT 25 31 (.bin 0 [] .eql (.t 30) (cI 10)),
 oO 32 (.pick (.t 25) (.t 31) (.c bF))]
 (.cond (.t 32)
 .skip
 (.exit 2)))
 (.seq
 (.block 3
 (sr [
 oM 35 0,
 oM 36 3,
 oI 37 8 35 36,
 oA 38 7 37,
 oG 39 38,
 oM 40 4,
 oI 41 1 39 40,
 oG 42 41,
 cP 43 78 [.t 42]]
 (.cond (.t 43)
 (sr [
 oC 2 bT]
 .ret)
 .skip)))
 (.region [
 oM 33 4,
 oD 34 .add 33 1,
 oM 4 34])))
def L78_1:ICode:= .loop [0,3] []
 (.seq
 (sr [
 oM 5 3,
 oM 6 0,
 oY 7 6,
 oP 8 .lss 5 7]
 (.cond (.t 8)
 .skip
 (.exit 0)))
 (.seq
 (.block 1
 (.seq
 (sr [
 oM 11 0,
 oM 12 3,
 oI 13 8 11 12,
 oA 14 0 13,
 oG 15 14,
 oD 16 .eql 15 14]
 (.cond (.t 16)
 (sr [
 oC 2 bT]
 .ret)
 .skip))
 (sr [
 oZ 4 0]
 (.block 2
 L78_0))))
 (.region [
 oM 9 3,
 oD 10 .add 9 1,
 oM 3 10])))
abbrev K78_0:List Nat:=[0,3]
abbrev B78_0:List Nat:=[]
abbrev K78_1:List Nat:=[0]
abbrev B78_1:List Nat:=[]
def F78:IFn:=⟨44,1,[.tmp 2],false,false,none,(sr [oC 2 bF] (.seq (sr [oZ 3 0] (.block 0 L78_1)) (sr [oC 2 bF] .ret)))⟩
theorem ok78:zh Try.prog Try.f78 F78=true:=by kernel_rfl
def F58:IFn:=⟨45,1,[.tmp 2],false,false,none,(sr [oO 1 (.boxL 1 (.t 0)),oC 2 bF] (.seq (.block 0 (sr [oA 4 0 1,oL 5 1 4,oD 6 .eql 5 10,oM 7 6,oT 7 8 (.faddr 7 (.t 1)),oT 7 9 (.load (.box 1) false 1 (.t 8)),oT 7 10 (.len 1 (.t 9)),oT 7 11 (.bin 0 [] .eql (.t 10) (cI 2)),oO 12 (.pick (.t 7) (.t 11) (.c bF)),oM 3 12] (.cond (.t 3) (sr [oA 13 7 1,oL 14 1 13,oO 15 (.iaddr 1 (.t 14) (cI 0)),oG 16 15,cP 17 77 [.t 16],oD 18 .neq 17 12,oM 19 18,oT 19 20 (.faddr 7 (.t 1)),oT 19 21 (.load (.box 1) false 1 (.t 20)),oT 19 22 (.iaddr 1 (.t 21) (cI 1)),oT 19 23 (.load .any false 1 (.t 22)),oT 19 24 (pP 77 [.t 23]),oT 19 25 (.bin 0 [] .neq (.t 24) (cI 12)),oO 26 (.pick (.t 19) (.t 25) (.c bF)),oM 2 26] .ret) (sr [oA 28 0 1,oL 29 1 28,oD 30 .eql 29 11,oM 31 30,oT 31 32 (.faddr 7 (.t 1)),oT 31 33 (.load (.box 1) false 1 (.t 32)),oT 31 34 (.len 1 (.t 33)),oT 31 35 (.bin 0 [] .eql (.t 34) (cI 1)),oO 36 (.pick (.t 31) (.t 35) (.c bF)),oM 27 36] (.cond (.t 27) (sr [oA 37 7 1,oL 38 1 37,oO 39 (.iaddr 1 (.t 38) (cI 0)),oG 40 39,cP 41 78 [.t 40],oU 42 41,oM 2 42] .ret) .skip))))) (sr [oLa 43 1 8 1,cP 44 79 [.t 43],oM 2 44] .ret)))⟩
theorem ok58:zh Try.prog Try.f58 F58=true:=by kernel_rfl
def F59:IFn:=⟨51,3,[.cell 6 true 8],false,false,none,(sr [oO 5 (.boxL 5 (.t 2)),oO 6 (.boxL 6 (.c (.agg [.int .i64 0,.int .i64 0,.int .i64 0,.str [],.slice .fit 1 [],.slice .fit 1 [],.slice .fit 1 [],.slice .fit 1 []])))] (sr [oM 8 0,cF 9 54 [.t 8,cI 6],oM 7 9] (.seq (.block 0 (sr [oA 11 0 5,oL 12 5 11,oM 13 12,oTm 13 14 7,oT 13 15 (.bin 0 [] .lss (.t 14) (cI 4)),oO 16 (.pick (.t 13) (.t 15) (.c bF)),oM 10 16] (.cond (.t 10) (sr [oM 17 0,oE 18 1,oA 19 2 5,oL 20 5 19,cF 21 57 [.t 17,.t 18,.t 20],oO 22 (.build [.int .i64 0,.int .i64 0,.int .i64 0,.str [],.slice .fit 1 [],.slice .fit 1 [],.slice .fit 1 [],.slice .fit 1 []] [(0,1,(cI 12)),(4,1,(.t 21))]),oS 6 8 6 22] .ret) (sr [oA 24 1 5,oL 25 5 24,oM 26 25,oTm 26 27 7,oT 26 28 (.bin 0 [] .rem (.t 27) (cI 2)),oT 26 29 (.bin 0 [] .eql (.t 28) (cI 0)),oO 30 (.pick (.t 26) (.t 29) (.c bF)),oM 23 30] (.cond (.t 23) (sr [oM 31 0,oE 32 1,oA 33 3 5,oL 34 5 33,cF 35 57 [.t 31,.t 32,.t 34],oO 36 (.build [.int .i64 0,.int .i64 0,.int .i64 0,.str [],.slice .fit 1 [],.slice .fit 1 [],.slice .fit 1 [],.slice .fit 1 []] [(0,1,(cI 13)),(4,1,(.t 35))]),oS 6 8 6 36] .ret) (sr [oA 38 1 5,oL 39 5 38,oM 37 39] (.cond (.t 37) (sr [oM 40 0,oE 41 1,oA 42 4 5,oL 43 5 42,cF 44 57 [.t 40,.t 41,.t 43],oO 45 (.build [.int .i64 0,.int .i64 0,.int .i64 0,.str [],.slice .fit 1 [],.slice .fit 1 [],.slice .fit 1 [],.slice .fit 1 []] [(0,1,(cI 14)),(4,1,(.t 44))]),oS 6 8 6 45] .ret) .skip))))))) (sr [oM 46 0,oE 47 1,oO 48 (.bslice 1 (.int .i64 0) 1 [(0,(cI 1))]),cF 49 57 [.t 46,.t 47,.t 48],oO 50 (.build [.int .i64 0,.int .i64 0,.int .i64 0,.str [],.slice .fit 1 [],.slice .fit 1 [],.slice .fit 1 [],.slice .fit 1 []] [(0,1,(cI 15)),(4,1,(.t 49))]),oS 6 8 6 50] .ret))))⟩
theorem ok59:zh Try.prog Try.f59 F59=true:=by kernel_rfl
def L37_0:ICode:= .loop [0,3,6,9,10,11] [12,15]
 (.seq
 (sr [
 oM 25 11,
 oD 26 .gtr 25 0,
 oM 27 26,
 oTm 27 28 0,
 oT 27 29 (.nilck (.t 28)),
 oT 27 30 (.faddr 3 (.t 29)),
 oT 27 31 (.load .any false 1 (.t 30)),
 oT 27 32 (.bin 0 [] .gtr (.t 31) (cI 0)),
 oO 33 (.pick (.t 27) (.t 32) (.c bF))]
 (.cond (.t 33)
 .skip
 (.exit 0)))
 (.seq
 (.block 1
 (sr [
 oM 36 0,
 oM 37 0,
 oK 38 37,
 oA 39 3 38,
 oG 40 39,
 oD 41 .sub 40 1,
 oK 42 36,
 oA 43 3 42,
 oV 43 41]
 (sr [
 oM 44 0,
 oM 45 10,
 cF 46 55 [.t 44,.t 45],
 oO 12 (.boxL 12 (.c (.agg [.int .i64 0,.int .i64 0,.int .i64 0,.str [],.slice .fit 1 [],.slice .fit 1 [],.slice .fit 1 [],.slice .fit 1 []]))),
 oS 12 8 12 46]
 (sr [
 oM 47 0,
 cF 48 54 [.t 47,cI 6],
 oM 13 48]
 (.seq
 (.block 2
 (sr [
 oM 50 13,
 oD 51 .eql 50 0,
 oM 52 51,
 oTm 52 53 3,
 oT 52 54 (.bin 0 [] .gtr (.t 53) (cI 0)),
 oO 55 (.pick (.t 52) (.t 54) (.c bF)),
 oM 49 55]
 (.cond (.t 49)
 (sr [
 oM 56 0,
 cF 57 56 [.t 56],
 oE 14 57]
 (sr [
 oA 58 1 6,
 oL 59 6 58,
 oM 60 14,
 oA 61 3 6,
 oL 62 6 61,
 oA 63 4 6,
 oL 64 6 63,
 oO 65 (.build [.bool false,.bool false,.slice .fit 1 [],.slice .fit 1 [],.slice .fit 1 []] [(0,1,(.c bT)),(1,1,(.t 59)),(2,1,(.t 60)),(3,1,(.t 62)),(4,1,(.t 64))]),
 oO 15 (.boxL 15 (.c (.agg [.bool false,.bool false,.slice .fit 1 [],.slice .fit 1 [],.slice .fit 1 []]))),
 oS 15 5 15 65]
 (sr [
 oM 66 0,
 oM 67 10,
 oO 68 (.bslice 1 (.int .i64 0) 1 [(0,(cI 2))]),
 cF 69 57 [.t 66,.t 67,.t 68],
 oO 70 (.build [.int .i64 0,.int .i64 0,.int .i64 0,.str [],.slice .fit 1 [],.slice .fit 1 [],.slice .fit 1 [],.slice .fit 1 []] [(0,1,(cI 10)),(4,1,(.t 69))]),
 oS 12 8 12 70]
 (sr [
 oM 71 0,
 oM 72 10,
 oLa 73 15 5 15,
 oM 74 3,
 oD 75 .sub 74 1,
 cF 76 37 [.t 71,.t 72,.t 73,.t 75],
 oE 16 76]
 (sr [
 oE 77 16,
 oM 78 0,
 oM 79 10,
 oLa 80 15 5 15,
 oM 81 3,
 oD 82 .sub 81 1,
 cF 83 37 [.t 78,.t 79,.t 80,.t 82],
 oO 84 (.bslice 1 (.slice .fit 8 []) 2 [(0,(.t 77)),(1,(.t 83))]),
 oA 85 7 12,
 oS 12 1 85 84]
 (sr [
 oLa 86 12 8 12,
 cP 87 58 [.t 86],
 oU 88 87]
 (.cond (.t 88)
 (.region [
 oM 89 0,
 oE 90 14,
 cF 91 35 [.t 89,.t 90],
 oA 92 5 12,
 oS 12 1 92 91])
 .skip)))))))
 (sr [
 oM 94 13,
 oD 95 .eql 94 1,
 oM 96 95,
 oTm 96 97 3,
 oT 96 98 (.bin 0 [] .gtr (.t 97) (cI 0)),
 oO 99 (.pick (.t 96) (.t 98) (.c bF)),
 oM 93 99]
 (.cond (.t 93)
 (sr [
 oM 100 0,
 cF 101 56 [.t 100],
 oM 102 0,
 cF 103 56 [.t 102],
 oE 17 101,
 oE 18 103]
 (sr [
 oM 104 0,
 oM 105 10,
 oM 106 17,
 cF 107 57 [.t 104,.t 105,.t 106],
 oM 108 0,
 oM 109 17,
 cF 110 35 [.t 108,.t 109],
 oO 111 (.build [.int .i64 0,.int .i64 0,.int .i64 0,.str [],.slice .fit 1 [],.slice .fit 1 [],.slice .fit 1 [],.slice .fit 1 []] [(0,1,(cI 11)),(4,1,(.t 107)),(6,1,(.t 110))]),
 oS 12 8 12 111]
 (sr [
 oC 19 (.slice .fit 1 [])]
 (sr [
 oE 112 19,
 oM 113 10,
 oO 114 (.append 1 8 (.t 112) (.t 113)),
 oE 19 114]
 (sr [
 oE 115 19,
 oA 116 6 12,
 oL 117 12 116,
 oO 118 (.append 1 8 (.t 115) (.t 117)),
 oE 19 118]
 (sr [
 oM 119 0,
 oE 120 19,
 oE 121 17,
 oM 122 18,
 oO 123 (.build [.bool false,.bool false,.slice .fit 1 [],.slice .fit 1 [],.slice .fit 1 []] [(1,1,(.c bT)),(3,1,(.t 121)),(4,1,(.t 122))]),
 oM 124 3,
 oD 125 .sub 124 1,
 cF 126 37 [.t 119,.t 120,.t 123,.t 125],
 oO 127 (.bslice 1 (.slice .fit 8 []) 1 [(0,(.t 126))]),
 oA 128 7 12,
 oS 12 1 128 127]
 (sr [
 oLa 129 12 8 12,
 cP 130 58 [.t 129],
 oU 131 130]
 (.cond (.t 131)
 (.region [
 oM 132 0,
 oE 133 18,
 cF 134 35 [.t 132,.t 133],
 oA 135 5 12,
 oS 12 1 135 134])
 .skip))))))))
 .skip)))))
 (sr [
 oE 136 9,
 oLa 137 12 8 12,
 oO 138 (.bslice 8 (.agg [.int .i64 0,.int .i64 0,.int .i64 0,.str [],.slice .fit 1 [],.slice .fit 1 [],.slice .fit 1 [],.slice .fit 1 []]) 1 [(0,(.t 137))]),
 oO 139 (.append 8 136 (.t 136) (.t 138)),
 oE 9 139]
 (.seq
 (sr [
 oLa 140 12 8 12,
 cP 141 58 [.t 140]]
 (.cond (.t 141)
 (sr [
 oE 142 9,
 oE 8 142]
 .ret)
 .skip))
 (.region [
 oE 143 10,
 oA 144 5 12,
 oL 145 12 144,
 oO 146 (.append 1 8 (.t 143) (.t 145)),
 oE 10 146]))))))))
 (.region [
 oM 34 11,
 oD 35 .sub 34 1,
 oM 11 35])))
abbrev K37_0:List Nat:=[0,3,6]
abbrev B37_0:List Nat:=[6]
def F37:IFn:=⟨154,4,[.tmp 8],false,false,none,(sr [oO 6 (.boxL 6 (.t 2)),oC 8 (.slice .fit 8 [])] (sr [oC 9 (.slice .fit 8 [])] (sr [oC 10 (.slice .fit 1 [])] (sr [oE 20 10,oE 21 1,oO 22 (.append 1 8 (.t 20) (.t 21)),oE 10 22] (.seq (sr [oM 23 0,cF 24 54 [.t 23,cI 6],oM 11 24] (.block 0 L37_0)) (sr [oE 147 9,oM 148 0,oE 149 10,oLa 150 6 5 6,cF 151 59 [.t 148,.t 149,.t 150],oO 152 (.bslice 8 (.agg [.int .i64 0,.int .i64 0,.int .i64 0,.str [],.slice .fit 1 [],.slice .fit 1 [],.slice .fit 1 [],.slice .fit 1 []]) 1 [(0,(.t 151))]),oO 153 (.append 8 136 (.t 147) (.t 152)),oE 8 153] .ret))))))⟩
theorem ok37:zh Try.prog Try.f37 F37=true:=by kernel_rfl
def F22:IFn:=⟨51,3,[.cell 6 true 5],false,false,none,(sr [oO 6 (.boxL 6 (.c (.agg [.str [],.int .i64 0,.int .i64 0,.slice .fit 1 [],.slice .fit 8 []])))] (sr [oM 11 0,oM 12 0,oK 13 11,oA 14 2 13,oN (.store .any 1 (.t 14) (.c (.slice .fit 1 []))),oK 15 12,oA 16 3 15,oN (.store .any 1 (.t 16) (cI 30))] (sr [oM 17 0,oM 18 2,cF 19 35 [.t 17,.t 18],oE 7 19] (sr [oM 20 0,cF 21 36 [.t 20,cI 1],oM 22 0,cF 23 36 [.t 22,cI 2],oM 8 21,oM 9 23] (sr [oM 24 8,oO 25 (.bslice 1 (.int .i64 0) 1 [(0,(.t 24))]),oO 26 (.build [.int .i64 0,.int .i64 0,.int .i64 0,.str [],.slice .fit 1 [],.slice .fit 1 [],.slice .fit 1 [],.slice .fit 1 []] [(0,1,(cI 1)),(2,1,(cI 3)),(5,1,(.t 25))]),oM 27 9,oO 28 (.bslice 1 (.int .i64 0) 1 [(0,(.t 27))]),oO 29 (.build [.int .i64 0,.int .i64 0,.int .i64 0,.str [],.slice .fit 1 [],.slice .fit 1 [],.slice .fit 1 [],.slice .fit 1 []] [(0,1,(cI 2)),(2,1,(cI 1)),(5,1,(.t 28))]),oO 30 (.bslice 8 (.agg [.int .i64 0,.int .i64 0,.int .i64 0,.str [],.slice .fit 1 [],.slice .fit 1 [],.slice .fit 1 [],.slice .fit 1 []]) 2 [(0,(.t 26)),(1,(.t 29))]),oE 10 30] (sr [oE 31 7,oM 32 8,oM 33 9,oO 34 (.bslice 1 (.int .i64 0) 2 [(0,(.t 32)),(1,(.t 33))]),oO 35 (.append 1 8 (.t 31) (.t 34)),oE 7 35] (sr [oE 36 10,oM 37 0,oE 38 7,oO 39 (.build [.bool false,.bool false,.slice .fit 1 [],.slice .fit 1 [],.slice .fit 1 []] []),cF 40 37 [.t 37,.t 38,.t 39,cI 3],oO 41 (.append 8 136 (.t 36) (.t 40)),oE 10 41] (sr [oM 42 1,oE 43 2,oY 44 43,oM 45 0,oK 46 45,oA 47 2 46,oG 48 47,oE 49 10,oO 50 (.build [.str [],.int .i64 0,.int .i64 0,.slice .fit 1 [],.slice .fit 8 []] [(0,1,(.t 42)),(1,1,(cI 1)),(2,1,(.t 44)),(3,1,(.t 48)),(4,1,(.t 49))]),oS 6 5 6 50] .ret))))))))⟩
theorem ok22:zh Try.prog Try.f22 F22=true:=by kernel_rfl
def F8:IFn:=⟨27,1,[.cell 2 true 2],false,false,none,(sr [oO 2 (.boxL 2 (.c (.agg [.slice .fit 2 [],.slice .fit 5 []])))] (sr [oE 5 0,oO 6 (.build [.slice .fit 1 [],.int .i64 0,.slice .fit 1 [],.int .i64 0] [(0,1,(.t 5))]),oO 7 (.boxS 4 (.t 6)),oM 3 7] (sr [oO 8 (.build [.str [],.int .i64 0] [(0,1,(.c (.str [97]))),(1,1,(cI 4))]),oO 9 (.bslice 2 (.agg [.str [],.int .i64 0]) 1 [(0,(.t 8))]),oO 10 (.build [.slice .fit 2 [],.slice .fit 5 []] [(0,1,(.t 9))]),oO 4 (.boxL 4 (.c (.agg [.slice .fit 2 [],.slice .fit 5 []]))),oS 4 2 4 10] (sr [oA 11 1 4,oO 12 (.loadT (.box 4) (.t 11)),oM 13 3,cF 14 22 [(.t 13),(.c (.str [109,97,105,110])),(.c (.slice .fit 1 []))],oO 15 (.bslice 5 (.agg [.str [],.int .i64 0,.int .i64 0,.slice .fit 1 [],.slice .fit 8 []]) 1 [(0,(.t 14))]),oO 16 (.appendS 5 80 (.t 12) (.t 15)),oA 17 1 4,oS 4 1 17 16] (sr [oA 18 1 4,oO 19 (.loadT (.box 4) (.t 18)),oM 20 3,oO 21 (.bslice 1 (.int .i64 0) 2 [(0,(cI 1)),(1,(cI 2))]),cF 22 22 [(.t 20),(.c (.str [102])),(.t 21)],oO 23 (.bslice 5 (.agg [.str [],.int .i64 0,.int .i64 0,.slice .fit 1 [],.slice .fit 8 []]) 1 [(0,(.t 22))]),oO 24 (.appendS 5 80 (.t 19) (.t 23)),oA 25 1 4,oS 4 1 25 24] (sr [oLa 26 4 2 4,oS 2 2 2 26] .ret))))))⟩
theorem ok8:zh Try.prog Try.f8 F8=true:=by kernel_rfl
def F60:IFn:=⟨21,1,[.tmp 2],false,false,none,(sr [oC 2 bF] (sr [oM 3 0,oB 4 .geq (.t 3) (.c (.int .i32 97)),oM 5 4,oTm 5 6 0,oT 5 7 (.bin 0 [] .leq (.t 6) (.c (.int .i32 122))),oO 8 (.pick (.t 5) (.t 7) (.c bF)),oM 9 8,oFm 9 10 0,oF 9 11 (.bin 0 [] .geq (.t 10) (.c (.int .i32 65))),oFm 9 12 11,oTm 12 13 0,oT 12 14 (.bin 0 [] .leq (.t 13) (.c (.int .i32 90))),oF 9 15 (.pick (.t 12) (.t 14) (.c bF)),oO 16 (.pick (.t 9) (.c bT) (.t 15)),oM 17 16,oFm 17 18 0,oF 17 19 (.bin 0 [] .eql (.t 18) (.c (.int .i32 95))),oO 20 (.pick (.t 17) (.c bT) (.t 19)),oM 2 20] .ret))⟩
theorem ok60:zh Try.prog Try.f60 F60=true:=by kernel_rfl
def F80:IFn:=⟨9,1,[.tmp 2],false,false,none,(sr [oC 2 bF] (sr [oM 3 0,oB 4 .geq (.t 3) (.c (.int .i32 48)),oM 5 4,oTm 5 6 0,oT 5 7 (.bin 0 [] .leq (.t 6) (.c (.int .i32 57))),oO 8 (.pick (.t 5) (.t 7) (.c bF)),oM 2 8] .ret))⟩
theorem ok80:zh Try.prog Try.f80 F80=true:=by kernel_rfl
def L61_0:ICode:= .loop [0,6] []
 (sr [
 oO 7 (.next 6 (.t 6)),
 oX 8 7 0]
 (.seq
 (.cond (.t 8)
 .skip
 (.exit 0))
 (.block 1
 (sr [
 oX 9 7 1,
 oX 10 7 2,
 oM 3 9,
 oM 4 10]
 (sr [
 oM 11 4,
 cP 12 60 [.t 11],
 oU 13 12,
 oM 14 13,
 oTm 14 15 4,
 oT 14 16 (pP 80 [.t 15]),
 oT 14 17 (.un .not (.t 16)),
 oO 18 (.pick (.t 14) (.t 17) (.c bF))]
 (.cond (.t 18)
 (sr [
 oM 19 0,
 oM 20 3,
 oO 21 (.slc true 0 (.t 19) none (some (.t 20)) none),
 oM 2 21]
 .ret)
 .skip))))))
abbrev K61_0:List Nat:=[0,6]
abbrev B61_0:List Nat:=[]
def F61:IFn:=⟨23,1,[.tmp 2],false,false,none,(sr [oC 2 (.str [])] (.seq (sr [oM 5 0,oO 6 (.rng 6 (.t 5))] (.block 0 L61_0)) (sr [oM 22 0,oM 2 22] .ret)))⟩
theorem ok61:zh Try.prog Try.f61 F61=true:=by kernel_rfl
def F62:IFn:=⟨23,1,[.tmp 2],false,false,none,(sr [oC 2 bF] (.seq (sr [oM 3 0] (.block 0 (.seq (sr [oB 5 .eql (.t 3) (.c (.str [105,110,116])),oM 4 5] (.cond (.t 4) .skip (sr [oB 6 .eql (.t 3) (.c (.str [98,111,111,108])),oM 4 6] (.cond (.t 4) .skip (sr [oB 7 .eql (.t 3) (.c (.str [105,102])),oM 4 7] (.cond (.t 4) .skip (sr [oB 8 .eql (.t 3) (.c (.str [101,108,115,101])),oM 4 8] (.cond (.t 4) .skip (sr [oB 9 .eql (.t 3) (.c (.str [119,104,105,108,101])),oM 4 9] (.cond (.t 4) .skip (sr [oB 10 .eql (.t 3) (.c (.str [98,114,101,97,107])),oM 4 10] (.cond (.t 4) .skip (sr [oB 11 .eql (.t 3) (.c (.str [99,111,110,116,105,110,117,101])),oM 4 11] (.cond (.t 4) .skip (sr [oB 12 .eql (.t 3) (.c (.str [114,101,116,117,114,110])),oM 4 12] (.cond (.t 4) .skip (sr [oB 13 .eql (.t 3) (.c (.str [112,114,105,110,116])),oM 4 13] (.cond (.t 4) .skip (sr [oB 14 .eql (.t 3) (.c (.str [114,101,97,100])),oM 4 14] (.cond (.t 4) .skip (sr [oB 15 .eql (.t 3) (.c (.str [116,114,117,101])),oM 4 15] (.cond (.t 4) .skip (sr [oB 16 .eql (.t 3) (.c (.str [102,97,108,115,101])),oM 4 16] (.cond (.t 4) .skip (sr [oB 17 .eql (.t 3) (.c (.str [105,56])),oM 4 17] (.cond (.t 4) .skip (sr [oB 18 .eql (.t 3) (.c (.str [105,49,54])),oM 4 18] (.cond (.t 4) .skip (sr [oB 19 .eql (.t 3) (.c (.str [105,51,50])),oM 4 19] (.cond (.t 4) .skip (sr [oB 20 .eql (.t 3) (.c (.str [117,56])),oM 4 20] (.cond (.t 4) .skip (sr [oB 21 .eql (.t 3) (.c (.str [117,49,54])),oM 4 21] (.cond (.t 4) .skip (.region [oB 22 .eql (.t 3) (.c (.str [117,51,50])),oM 4 22]))))))))))))))))))))))))))))))))))) (.cond (.t 4) (sr [oC 2 bT] .ret) .skip)))) (sr [oC 2 bF] .ret)))⟩
theorem ok62:zh Try.prog Try.f62 F62=true:=by kernel_rfl
def F38:IFn:=⟨27,1,[.tmp 2],false,false,none,(sr [oC 2 bF] (sr [oM 3 0,oB 4 .neq (.t 3) (.c (.str [])),oM 5 4,oTm 5 6 0,oT 5 7 (.idxS (.t 6) (cI 0)),oT 5 8 (.conv .i32 (.t 7)),oT 5 9 (pP 60 [.t 8]),oO 10 (.pick (.t 5) (.t 9) (.c bF)),oM 11 10,oTm 11 12 0,oT 11 13 (pP 61 [.t 12]),oTm 11 14 0,oT 11 15 (.bin 0 [] .eql (.t 13) (.t 14)),oO 16 (.pick (.t 11) (.t 15) (.c bF)),oM 17 16,oTm 17 18 0,oT 17 19 (.len 0 (.t 18)),oT 17 20 (.bin 0 [] .leq (.t 19) (cI 20)),oO 21 (.pick (.t 17) (.t 20) (.c bF)),oM 22 21,oTm 22 23 0,oT 22 24 (pP 62 [.t 23]),oT 22 25 (.un .not (.t 24)),oO 26 (.pick (.t 22) (.t 25) (.c bF)),oM 2 26] .ret))⟩
theorem ok38:zh Try.prog Try.f38 F38=true:=by kernel_rfl
def F39:IFn:=⟨9,1,[.tmp 2],false,false,none,(sr [oC 2 bF] (sr [oM 3 0,oD 4 .eql 3 1,oM 5 4,oFm 5 6 0,oF 5 7 (.bin 0 [] .eql (.t 6) (cI 2)),oO 8 (.pick (.t 5) (.c bT) (.t 7)),oM 2 8] .ret))⟩
theorem ok39:zh Try.prog Try.f39 F39=true:=by kernel_rfl
def L63_0:ICode:= .loop [0,1,7,8] []
 (sr [
 oP 9 .lss 8 7]
 (.seq
 (.cond (.t 9)
 .skip
 (.exit 0))
 (.seq
 (.block 1
 (sr [
 oM 10 8,
 oM 5 10]
 (sr [
 oM 11 1,
 oM 12 0,
 oM 13 5,
 oI 14 5 12 13,
 oW 15 5 14,
 oO 16 (.call false (.t 11) [.t 15])]
 (.cond (.t 16)
 (sr [
 oM 17 5,
 oM 4 17]
 .ret)
 .skip))))
 (.region [
 oD 18 .add 8 1,
 oM 8 18]))))
abbrev K63_0:List Nat:=[0,1,7]
abbrev B63_0:List Nat:=[]
def F63:IFn:=⟨19,2,[.tmp 4],false,false,none,(sr [oZ 4 0] (.seq (sr [oM 6 0,oY 7 6,oZ 8 0] (.block 0 L63_0)) (sr [oO 4 (.mv (cI (-1)))] .ret)))⟩
theorem ok63:zh Try.prog Try.f63 F63=true:=by kernel_rfl
def F64:IFn:=⟨8,2,[.tmp 3],false,false,none,(sr [oO 2 (.boxL 2 (.t 0)),oC 3 bF] (sr [oA 4 0 2,oL 5 2 4,oG 6 1,oP 7 .eql 5 6,oM 3 7] .ret))⟩
theorem ok64:zh Try.prog Try.f64 F64=true:=by kernel_rfl
def F40:IFn:=⟨9,2,[.tmp 4],false,false,none,(sr [oO 2 (.boxL 2 (.t 0)),oO 3 (.boxI (.t 1)),oZ 4 0] (sr [oA 5 1 2,oL 6 2 5,oO 7 (.mkfn 64 [] [.t 3]),cF 8 63 [.t 6,.t 7],oM 4 8] .ret))⟩
theorem ok40:zh Try.prog Try.f40 F40=true:=by kernel_rfl
def L23_0:ICode:= .loop [1,3,11,12,13] [5]
 (sr [
 oP 14 .lss 13 12]
 (.seq
 (.cond (.t 14)
 .skip
 (.exit 0))
 (.seq
 (.block 1
 (sr [
 oI 15 2 11 13,
 oW 16 2 15,
 oO 5 (.boxL 5 (.c (.agg [.str [],.int .i64 0]))),
 oS 5 2 5 16]
 (sr [
 oM 17 3,
 oA 18 0 5,
 oL 19 5 18,
 oO 20 (.lookup true false (.int .i64 0) (.t 17) (.t 19)),
 oD 21 .add 20 1,
 oN (.mapset true (.t 17) (.t 19) (.t 21))]
 (sr [
 oA 22 0 5,
 oL 23 5 22,
 cP 24 38 [.t 23],
 oU 25 24,
 oM 26 25,
 oF 26 27 (.faddr 1 (.t 5)),
 oF 26 28 (.load (.box 5) false 1 (.t 27)),
 oF 26 29 (.bin 0 [] .lss (.t 28) (cI 1)),
 oO 30 (.pick (.t 26) (.c bT) (.t 29)),
 oM 31 30,
 oF 31 32 (.faddr 1 (.t 5)),
 oF 31 33 (.load (.box 5) false 1 (.t 32)),
 oF 31 34 (.bin 0 [] .gtr (.t 33) (cI 1000)),
 oO 35 (.pick (.t 31) (.c bT) (.t 34))]
 (.cond (.t 35)
 (sr [
 oC 2 bF]
 .ret)
 .skip)))))
 (.region [
 oD 36 .add 13 1,
 oM 13 36]))))
def L23_1:ICode:= .loop [1,3,38,39,40] [7]
 (sr [
 oP 41 .lss 40 39]
 (.seq
 (.cond (.t 41)
 .skip
 (.exit 2))
 (.seq
 (.block 3
 (sr [
 oI 42 5 38 40,
 oW 43 5 42,
 oO 7 (.boxL 7 (.c (.agg [.str [],.int .i64 0,.int .i64 0,.slice .fit 1 [],.slice .fit 8 []]))),
 oS 7 5 7 43]
 (sr [
 oM 44 3,
 oA 45 0 7,
 oL 46 7 45,
 oO 47 (.lookup true false (.int .i64 0) (.t 44) (.t 46)),
 oD 48 .add 47 1,
 oN (.mapset true (.t 44) (.t 46) (.t 48))]
 (sr [
 oA 49 0 7,
 oL 50 7 49,
 cP 51 38 [.t 50],
 oU 52 51,
 oM 53 52,
 oF 53 54 (.faddr 1 (.t 7)),
 oF 53 55 (.load (.box 7) false 1 (.t 54)),
 oF 53 56 (pP 39 [.t 55]),
 oF 53 57 (.un .not (.t 56)),
 oO 58 (.pick (.t 53) (.c bT) (.t 57)),
 oM 59 58,
 oF 59 60 (.faddr 2 (.t 7)),
 oF 59 61 (.load (.box 7) false 1 (.t 60)),
 oF 59 62 (.bin 0 [] .lss (.t 61) (cI 0)),
 oO 63 (.pick (.t 59) (.c bT) (.t 62)),
 oM 64 63,
 oF 64 65 (.faddr 2 (.t 7)),
 oF 64 66 (.load (.box 7) false 1 (.t 65)),
 oF 64 67 (.faddr 3 (.t 7)),
 oF 64 68 (.load (.box 7) false 1 (.t 67)),
 oF 64 69 (.len 1 (.t 68)),
 oF 64 70 (.bin 0 [] .gtr (.t 66) (.t 69)),
 oO 71 (.pick (.t 64) (.c bT) (.t 70))]
 (.cond (.t 71)
 (sr [
 oC 2 bF]
 .ret)
 .skip)))))
 (.region [
 oD 72 .add 40 1,
 oM 40 72]))))
abbrev K23_0:List Nat:=[1,3,11,12]
abbrev B23_0:List Nat:=[1]
abbrev K23_1:List Nat:=[1,3,38,39]
abbrev B23_1:List Nat:=[1]
def F23:IFn:=⟨107,1,[.tmp 2],true,false,none,(sr [oO 1 (.boxL 1 (.t 0)),oC 2 bF] (sr [oO 9 (.mkmap),oM 3 9] (.seq (sr [oA 10 0 1,oL 11 1 10,oY 12 11,oZ 13 0] (.block 0 L23_0)) (.seq (sr [oA 37 1 1,oL 38 1 37,oY 39 38,oZ 40 0] (.block 2 L23_1)) (sr [oLa 73 1 2 1,cP 74 40 [(.t 73),(.c (.str [109,97,105,110]))],oM 8 74] (sr [oM 75 3,oO 76 (.len 2 (.t 75)),oA 77 0 1,oL 78 1 77,oY 79 78,oA 80 1 1,oL 81 1 80,oY 82 81,oP 83 .add 79 82,oP 84 .eql 76 83,oM 85 84,oTm 85 86 8,oT 85 87 (.bin 0 [] .geq (.t 86) (cI 0)),oO 88 (.pick (.t 85) (.t 87) (.c bF)),oM 89 88,oT 89 90 (.faddr 1 (.t 1)),oT 89 91 (.load (.box 1) false 1 (.t 90)),oTm 89 92 8,oT 89 93 (.iaddr 5 (.t 91) (.t 92)),oT 89 94 (.faddr 1 (.t 93)),oT 89 95 (.load .any false 1 (.t 94)),oT 89 96 (.bin 0 [] .eql (.t 95) (cI 1)),oO 97 (.pick (.t 89) (.t 96) (.c bF)),oM 98 97,oT 98 99 (.faddr 1 (.t 1)),oT 98 100 (.load (.box 1) false 1 (.t 99)),oTm 98 101 8,oT 98 102 (.iaddr 5 (.t 100) (.t 101)),oT 98 103 (.faddr 2 (.t 102)),oT 98 104 (.load .any false 1 (.t 103)),oT 98 105 (.bin 0 [] .eql (.t 104) (cI 0)),oO 106 (.pick (.t 98) (.t 105) (.c bF)),oM 2 106] .ret))))))⟩
theorem ok23:zh Try.prog Try.f23 F23=true:=by kernel_rfl
def L65_0:ICode:= .loop [0,1,7,8] []
 (sr [
 oP 9 .lss 8 7]
 (.seq
 (.cond (.t 9)
 .skip
 (.exit 0))
 (.seq
 (.block 1
 (sr [
 oM 10 8,
 oM 5 10]
 (sr [
 oM 11 1,
 oM 12 0,
 oM 13 5,
 oI 14 1 12 13,
 oG 15 14,
 oO 16 (.call false (.t 11) [.t 15])]
 (.cond (.t 16)
 (sr [
 oM 17 5,
 oM 4 17]
 .ret)
 .skip))))
 (.region [
 oD 18 .add 8 1,
 oM 8 18]))))
abbrev K65_0:List Nat:=[0,1,7]
abbrev B65_0:List Nat:=[]
def F65:IFn:=⟨19,2,[.tmp 4],false,false,none,(sr [oZ 4 0] (.seq (sr [oM 6 0,oY 7 6,oZ 8 0] (.block 0 L65_0)) (sr [oO 4 (.mv (cI (-1)))] .ret)))⟩
theorem ok65:zh Try.prog Try.f65 F65=true:=by kernel_rfl
def F41:IFn:=⟨9,2,[.tmp 4],false,false,none,(sr [oC 4 bF] (sr [oE 5 0,oM 6 1,cF 7 65 [.t 5,.t 6],oD 8 .geq 7 0,oM 4 8] .ret))⟩
theorem ok41:zh Try.prog Try.f41 F41=true:=by kernel_rfl
def F42:IFn:=⟨6,1,[.tmp 2],false,false,none,(sr [oC 2 bF] (sr [oM 3 0,cP 4 39 [.t 3],oU 5 4,oM 2 5] .ret))⟩
theorem ok42:zh Try.prog Try.f42 F42=true:=by kernel_rfl
def F49:IFn:=⟨16,1,[.tmp 2],false,false,none,(sr [oC 2 bF] (sr [oM 3 0,oY 4 3,oD 5 .gtr 4 0,oM 6 5,oTm 6 7 0,oT 6 8 (.take 0),oT 6 9 (.len 1 (.t 8)),oT 6 10 (.bin 0 [] .sub (.t 9) (cI 1)),oT 6 11 (.iaddr 8 (.t 7) (.t 10)),oT 6 12 (.faddr 0 (.t 11)),oT 6 13 (.load .any false 1 (.t 12)),oT 6 14 (.bin 0 [] .eql (.t 13) (cI 12)),oO 15 (.pick (.t 6) (.t 14) (.c bF)),oM 2 15] .ret))⟩
theorem ok49:zh Try.prog Try.f49 F49=true:=by kernel_rfl
def L91_0:ICode:= .loop [0,1,7,8] []
 (sr [
 oP 9 .lss 8 7]
 (.seq
 (.cond (.t 9)
 .skip
 (.exit 0))
 (.seq
 (.block 1
 (sr [
 oM 10 8,
 oM 5 10]
 (sr [
 oM 11 1,
 oM 12 0,
 oM 13 5,
 oI 14 8 12 13,
 oW 15 8 14,
 oO 16 (.call false (.t 11) [.t 15])]
 (.cond (.t 16)
 (sr [
 oM 17 5,
 oM 4 17]
 .ret)
 .skip))))
 (.region [
 oD 18 .add 8 1,
 oM 8 18]))))
abbrev K91_0:List Nat:=[0,1,7]
abbrev B91_0:List Nat:=[]
def F91:IFn:=⟨19,2,[.tmp 4],false,false,none,(sr [oZ 4 0] (.seq (sr [oM 6 0,oY 7 6,oZ 8 0] (.block 0 L91_0)) (sr [oO 4 (.mv (cI (-1)))] .ret)))⟩
theorem ok91:zh Try.prog Try.f91 F91=true:=by kernel_rfl
def F72:IFn:=⟨9,2,[.tmp 4],false,false,none,(sr [oC 4 bF] (sr [oE 5 0,oM 6 1,cF 7 91 [.t 5,.t 6],oD 8 .geq 7 0,oM 4 8] .ret))⟩
theorem ok72:zh Try.prog Try.f72 F72=true:=by kernel_rfl
def L92_0:ICode:= .loop [0,1,7,8] []
 (sr [
 oP 9 .lss 8 7]
 (.seq
 (.cond (.t 9)
 .skip
 (.exit 0))
 (.seq
 (.block 1
 (sr [
 oM 10 8,
 oM 5 10]
 (sr [
 oM 11 1,
 oM 12 0,
 oM 13 5,
 oI 14 1 12 13,
 oG 15 14,
 oO 16 (.call false (.t 11) [.t 15])]
 (.cond (.t 16)
 (sr [
 oM 17 5,
 oM 4 17]
 .ret)
 .skip))))
 (.region [
 oD 18 .add 8 1,
 oM 8 18]))))
abbrev K92_0:List Nat:=[0,1,7]
abbrev B92_0:List Nat:=[]
def F92:IFn:=⟨19,2,[.tmp 4],false,false,none,(sr [oZ 4 0] (.seq (sr [oM 6 0,oY 7 6,oZ 8 0] (.block 0 L92_0)) (sr [oO 4 (.mv (cI (-1)))] .ret)))⟩
theorem ok92:zh Try.prog Try.f92 F92=true:=by kernel_rfl
def F74:IFn:=⟨9,2,[.tmp 4],false,false,none,(sr [oC 4 bF] (sr [oE 5 0,oM 6 1,cF 7 92 [.t 5,.t 6],oD 8 .geq 7 0,oM 4 8] .ret))⟩
theorem ok74:zh Try.prog Try.f74 F74=true:=by kernel_rfl
def F73:IFn:=⟨16,1,[.tmp 2],false,false,none,(sr [oO 1 (.boxL 1 (.t 0)),oC 2 bF] (sr [oA 3 0 1,oL 4 1 3,oD 5 .eql 4 14,oM 6 5,oF 6 7 (.faddr 0 (.t 1)),oF 6 8 (.load (.box 1) false 1 (.t 7)),oF 6 9 (.bin 0 [] .eql (.t 8) (cI 10)),oFm 6 10 9,oT 10 11 (.faddr 7 (.t 1)),oT 10 12 (.load (.box 1) false 1 (.t 11)),oT 10 13 (pF 74 [(.t 12),(.c (.fn 50 [] []))]),oF 6 14 (.pick (.t 10) (.t 13) (.c bF)),oO 15 (.pick (.t 6) (.c bT) (.t 14)),oM 2 15] .ret))⟩
theorem ok73:zh Try.prog Try.f73 F73=true:=by kernel_rfl
def F50:IFn:=⟨5,1,[.tmp 2],false,false,none,(sr [oC 2 bF] (sr [oE 3 0,cF 4 72 [(.t 3),(.c (.fn 73 [] []))],oM 2 4] .ret))⟩
theorem ok50:zh Try.prog Try.f50 F50=true:=by kernel_rfl
def F51:IFn:=⟨11,1,[.tmp 2],false,false,none,(sr [oO 1 (.boxL 1 (.t 0)),oC 2 bF] (sr [oA 3 0 1,oL 4 1 3,oD 5 .geq 4 12,oM 6 5,oT 6 7 (.faddr 0 (.t 1)),oT 6 8 (.load (.box 1) false 1 (.t 7)),oT 6 9 (.bin 0 [] .leq (.t 8) (cI 15)),oO 10 (.pick (.t 6) (.t 9) (.c bF)),oM 2 10] .ret))⟩
theorem ok51:zh Try.prog Try.f51 F51=true:=by kernel_rfl
def F29:IFn:=⟨45,1,[.tmp 2],false,false,none,(sr [oO 1 (.boxL 1 (.t 0)),oC 2 bF] (.seq (.block 0 (sr [oA 4 0 1,oL 5 1 4,oD 6 .eql 5 10,oM 7 6,oT 7 8 (.faddr 7 (.t 1)),oT 7 9 (.load (.box 1) false 1 (.t 8)),oT 7 10 (.len 1 (.t 9)),oT 7 11 (.bin 0 [] .eql (.t 10) (cI 2)),oO 12 (.pick (.t 7) (.t 11) (.c bF)),oM 3 12] (.cond (.t 3) (sr [oA 13 7 1,oL 14 1 13,oO 15 (.iaddr 1 (.t 14) (cI 0)),oG 16 15,cP 17 49 [.t 16],oU 18 17,oM 19 18,oT 19 20 (.faddr 7 (.t 1)),oT 19 21 (.load (.box 1) false 1 (.t 20)),oT 19 22 (.iaddr 1 (.t 21) (cI 1)),oT 19 23 (.load .any false 1 (.t 22)),oT 19 24 (pP 49 [.t 23]),oT 19 25 (.un .not (.t 24)),oO 26 (.pick (.t 19) (.t 25) (.c bF)),oM 2 26] .ret) (sr [oA 28 0 1,oL 29 1 28,oD 30 .eql 29 11,oM 31 30,oT 31 32 (.faddr 7 (.t 1)),oT 31 33 (.load (.box 1) false 1 (.t 32)),oT 31 34 (.len 1 (.t 33)),oT 31 35 (.bin 0 [] .eql (.t 34) (cI 1)),oO 36 (.pick (.t 31) (.t 35) (.c bF)),oM 27 36] (.cond (.t 27) (sr [oA 37 7 1,oL 38 1 37,oO 39 (.iaddr 1 (.t 38) (cI 0)),oG 40 39,cP 41 50 [.t 40],oU 42 41,oM 2 42] .ret) .skip))))) (sr [oLa 43 1 8 1,cP 44 51 [.t 43],oM 2 44] .ret)))⟩
theorem ok29:zh Try.prog Try.f29 F29=true:=by kernel_rfl
def F81:IFn:=⟨53,1,[.tmp 2],true,false,none,(sr [oO 1 (.boxL 1 (.t 0)),oC 2 bF] (sr [oO 4 (.mkmap),oN (.mapset false (.t 4) (cI 10) (cI 2)),oN (.mapset false (.t 4) (cI 11) (cI 1)),oM 5 4,oA 6 0 1,oL 7 1 6,oO 8 (.lookup false false (.int .i64 0) (.t 5) (.t 7)),oM 3 8] (.seq (sr [oA 9 0 1,oL 10 1 9] (.block 0 (.seq (sr [oD 12 .eql 10 3,oM 11 12] (.cond (.t 11) .skip (.region [oD 13 .eql 10 4,oM 11 13]))) (.cond (.t 11) (.region [oA 14 1 1,oN (.store (.box 1) 1 (.t 14) (cI 0))]) (.seq (sr [oD 16 .eql 10 1,oM 15 16] (.cond (.t 15) .skip (.region [oD 17 .eql 10 2,oM 15 17]))) (.cond (.t 15) (.region [oA 18 2 1,oN (.store (.box 1) 1 (.t 18) (cI 0))]) (.seq (sr [oD 20 .eql 10 5,oM 19 20] (.cond (.t 19) .skip (sr [oD 21 .eql 10 6,oM 19 21] (.cond (.t 19) .skip (.region [oD 22 .eql 10 7,oM 19 22]))))) (.cond (.t 19) (.region [oA 23 3 1,oN (.store (.box 1) 1 (.t 23) (.c (.str [])))]) (sr [oD 25 .eql 10 11,oM 24 25] (.cond (.t 24) (.region [oA 26 6 1,oN (.store (.box 1) 1 (.t 26) (.c (.slice .fit 1 [])))]) .skip)))))))))) (sr [oA 27 1 1,oL 28 1 27,oD 29 .eql 28 0,oM 30 29,oT 30 31 (.faddr 2 (.t 1)),oT 30 32 (.load (.box 1) false 1 (.t 31)),oT 30 33 (.bin 0 [] .eql (.t 32) (cI 0)),oO 34 (.pick (.t 30) (.t 33) (.c bF)),oM 35 34,oT 35 36 (.faddr 3 (.t 1)),oT 35 37 (.load (.box 1) false 1 (.t 36)),oT 35 38 (.bin 0 [] .eql (.t 37) (.c (.str []))),oO 39 (.pick (.t 35) (.t 38) (.c bF)),oM 40 39,oT 40 41 (.faddr 6 (.t 1)),oT 40 42 (.load (.box 1) false 1 (.t 41)),oT 40 43 (.len 1 (.t 42)),oT 40 44 (.bin 0 [] .eql (.t 43) (cI 0)),oO 45 (.pick (.t 40) (.t 44) (.c bF)),oM 46 45,oT 46 47 (.faddr 7 (.t 1)),oT 46 48 (.load (.box 1) false 1 (.t 47)),oT 46 49 (.len 1 (.t 48)),oTm 46 50 3,oT 46 51 (.bin 0 [] .eql (.t 49) (.t 50)),oO 52 (.pick (.t 46) (.t 51) (.c bF)),oM 2 52] .ret))))⟩
theorem ok81:zh Try.prog Try.f81 F81=true:=by kernel_rfl
end PE.U

set_option maxRecDepth 100000
namespace PE.U
open Go PE Go.Proofs
def F110:IFn:=⟨35,3,[.tmp 6],false,false,none,(sr [oC 6 bF] (sr [oM 7 1,oD 8 .geq 7 0,oM 9 8,oTm 9 10 1,oTm 9 11 0,oT 9 12 (.nilck (.t 11)),oT 9 13 (.faddr 2 (.t 12)),oT 9 14 (.faddr 3 (.t 13)),oT 9 15 (.load .any false 1 (.t 14)),oT 9 16 (.len 1 (.t 15)),oT 9 17 (.bin 0 [] .lss (.t 10) (.t 16)),oO 18 (.pick (.t 9) (.t 17) (.c bF)),oM 19 18,oTm 19 20 2,oT 19 21 (.bin 0 [] .eql (.t 20) (cI 0)),oTm 19 22 21,oFm 22 23 0,oF 22 24 (.nilck (.t 23)),oF 22 25 (.faddr 2 (.t 24)),oF 22 26 (.faddr 3 (.t 25)),oF 22 27 (.load .any false 1 (.t 26)),oFm 22 28 1,oF 22 29 (.iaddr 1 (.t 27) (.t 28)),oF 22 30 (.load .any false 1 (.t 29)),oFm 22 31 2,oF 22 32 (.bin 0 [] .eql (.t 30) (.t 31)),oT 19 33 (.pick (.t 22) (.c bT) (.t 32)),oO 34 (.pick (.t 19) (.t 33) (.c bF)),oM 6 34] .ret))⟩
theorem ok110:zh Try.prog Try.f110 F110=true:=by kernel_rfl
def L94_0:ICode:= .loop [0,4,7,8,9] []
 (sr [
 oP 10 .lss 9 8]
 (.seq
 (.cond (.t 10)
 .skip
 (.exit 0))
 (.seq
 (.block 1
 (sr [
 oI 11 1 7 9,
 oG 12 11,
 oM 6 12]
 (.seq
 (sr [
 oM 13 0,
 oM 14 6,
 cF 15 110 [.t 13,.t 14,cI 0],
 oU 16 15]
 (.cond (.t 16)
 (sr [
 oC 4 (.slice .fit 1 [])]
 .ret)
 .skip))
 (.region [
 oE 17 4,
 oM 18 0,
 oK 19 18,
 oA 20 2 19,
 oA 21 3 20,
 oG 22 21,
 oM 23 6,
 oI 24 1 22 23,
 oG 25 24,
 oO 26 (.bslice 1 (.int .i64 0) 1 [(0,(.t 25))]),
 oO 27 (.append 1 8 (.t 17) (.t 26)),
 oE 4 27]))))
 (.region [
 oD 28 .add 9 1,
 oM 9 28]))))
abbrev K94_0:List Nat:=[0,7,8]
abbrev B94_0:List Nat:=[]
def F94:IFn:=⟨30,2,[.tmp 4],false,false,none,(sr [oC 4 (.slice .fit 1 [])] (.seq (sr [oE 7 1,oY 8 7,oZ 9 0] (.block 0 L94_0)) (sr [oE 29 4,oE 4 29] .ret)))⟩
theorem ok94:zh Try.prog Try.f94 F94=true:=by kernel_rfl
def L111_0:ICode:= .loop [1,2,15,16,17] []
 (sr [
 oP 18 .lss 17 16]
 (.seq
 (.cond (.t 18)
 .skip
 (.exit 0))
 (.seq
 (.block 1
 (sr [
 oM 19 17,
 oI 20 1 15 17,
 oG 21 20,
 oM 7 19,
 oM 8 21]
 (sr [
 oM 22 1,
 oM 23 7,
 oI 24 1 22 23,
 oG 25 24,
 oM 9 25]
 (sr [
 oM 26 2,
 oM 27 8,
 oM 28 9,
 oO 29 (.call false (.t 26) [.t 27,.t 28]),
 oU 30 29]
 (.cond (.t 30)
 (sr [
 oC 6 bF]
 .ret)
 .skip)))))
 (.region [
 oD 31 .add 17 1,
 oM 17 31]))))
abbrev K111_0:List Nat:=[1,2,15,16]
abbrev B111_0:List Nat:=[]
def F111:IFn:=⟨32,3,[.tmp 6],false,false,none,(sr [oC 6 bF] (.seq (sr [oM 10 0,oY 11 10,oM 12 1,oY 13 12,oP 14 .neq 11 13] (.cond (.t 14) (sr [oC 6 bF] .ret) .skip)) (.seq (sr [oE 15 0,oY 16 15,oZ 17 0] (.block 0 L111_0)) (sr [oC 6 bT] .ret))))⟩
theorem ok111:zh Try.prog Try.f111 F111=true:=by kernel_rfl
def F112:IFn:=⟨20,3,[.tmp 5],false,false,none,(sr [oC 5 bF] (sr [oG 6 2,oM 7 0,oM 8 1,cF 9 110 [.t 6,.t 7,.t 8],oM 10 9,oT 10 11 (.load .any false 1 (.t 2)),oT 10 12 (.nilck (.t 11)),oT 10 13 (.faddr 7 (.t 12)),oT 10 14 (.load .any false 1 (.t 13)),oTm 10 15 0,oT 10 16 (.iaddr 1 (.t 14) (.t 15)),oT 10 17 (.load .any false 1 (.t 16)),oT 10 18 (.bin 0 [] .eql (.t 17) (cI 1)),oO 19 (.pick (.t 10) (.t 18) (.c bF)),oM 5 19] .ret))⟩
theorem ok112:zh Try.prog Try.f112 F112=true:=by kernel_rfl
def F95:IFn:=⟨11,3,[.tmp 6],false,false,none,(sr [oO 3 (.boxI (.t 0)),oC 6 bF] (sr [oE 7 1,oE 8 2,oO 9 (.mkfn 112 [] [.t 3]),cF 10 111 [.t 7,.t 8,.t 9],oM 6 10] .ret))⟩
theorem ok95:zh Try.prog Try.f95 F95=true:=by kernel_rfl
def F113:IFn:=⟨27,3,[.tmp 5],false,false,none,(sr [oC 5 bF] (.seq (sr [oG 6 2,oM 7 0,oM 8 1,cF 9 110 [.t 6,.t 7,.t 8],oU 10 9,oM 11 10,oF 11 12 (.load .any false 1 (.t 2)),oF 11 13 (.nilck (.t 12)),oF 11 14 (.faddr 7 (.t 13)),oF 11 15 (.load .any false 1 (.t 14)),oFm 11 16 0,oF 11 17 (.iaddr 1 (.t 15) (.t 16)),oF 11 18 (.load .any false 1 (.t 17)),oF 11 19 (.bin 0 [] .neq (.t 18) (cI 0)),oO 20 (.pick (.t 11) (.c bT) (.t 19))] (.cond (.t 20) (sr [oC 5 bF] .ret) .skip)) (sr [oG 21 2,oK 22 21,oA 23 7 22,oG 24 23,oM 25 0,oI 26 1 24 25,oN (.store .any 1 (.t 26) (cI 1))] (sr [oC 5 bT] .ret))))⟩
theorem ok113:zh Try.prog Try.f113 F113=true:=by kernel_rfl
def F97:IFn:=⟨11,3,[.tmp 6],false,false,none,(sr [oO 3 (.boxI (.t 0)),oC 6 bF] (sr [oE 7 1,oE 8 2,oO 9 (.mkfn 113 [] [.t 3]),cF 10 111 [.t 7,.t 8,.t 9],oM 6 10] .ret))⟩
theorem ok97:zh Try.prog Try.f97 F97=true:=by kernel_rfl
def F96:IFn:=⟨11,2,[.tmp 4],false,false,none,(sr [oC 4 bF] (sr [oM 5 0,oM 6 1,oE 7 1,oY 8 7,oO 9 (.mkslice 1 (.int .i64 0) 8 (.t 8) (.t 8)),cF 10 97 [.t 5,.t 6,.t 9],oM 4 10] .ret))⟩
theorem ok96:zh Try.prog Try.f96 F96=true:=by kernel_rfl
def F82:IFn:=⟨57,4,[.tmp 8],false,false,none,(sr [oO 5 (.boxL 5 (.t 1)),oO 6 (.boxL 6 (.t 2)),oC 8 bF] (sr [oM 9 0,oA 10 5 5,oL 11 5 10,cF 12 94 [.t 9,.t 11],oA 13 0 6,oN (.store (.box 6) 1 (.t 13) (.c bT)),oA 14 2 6,oS 6 1 14 12] (sr [oM 15 0,oA 16 4 5,oL 17 5 16,oO 18 (.bslice 1 (.int .i64 0) 1 [(0,(cI 2))]),cF 19 95 [.t 15,.t 17,.t 18],oM 20 19,oTm 20 21 0,oT 20 22 (.faddr 7 (.t 5)),oT 20 23 (.load (.box 5) false 1 (.t 22)),oT 20 24 (.iaddr 1 (.t 23) (cI 0)),oT 20 25 (.load .imm false 1 (.t 24)),oT 20 26 (.load (.box 6) true 5 (.t 6)),oTm 20 27 3,oT 20 28 (pF 43 [.t 21,.t 25,.t 26,.t 27]),oO 29 (.pick (.t 20) (.t 28) (.c bF)),oM 30 29,oTm 30 31 0,oT 30 32 (.faddr 7 (.t 5)),oT 30 33 (.load (.box 5) false 1 (.t 32)),oT 30 34 (.iaddr 1 (.t 33) (cI 1)),oT 30 35 (.load .imm false 1 (.t 34)),oT 30 36 (.load (.box 6) true 5 (.t 6)),oTm 30 37 3,oT 30 38 (pF 43 [.t 31,.t 35,.t 36,.t 37]),oO 39 (.pick (.t 30) (.t 38) (.c bF)),oM 40 39,oT 40 41 (.faddr 5 (.t 5)),oT 40 42 (.load (.box 5) false 1 (.t 41)),oT 40 43 (.len 1 (.t 42)),oT 40 44 (.bin 0 [] .eql (.t 43) (cI 0)),oTm 40 45 44,oF 45 46 (.load (.box 5) true 8 (.t 5)),oF 45 47 (pP 29 [.t 46]),oF 45 48 (.un .not (.t 47)),oT 40 49 (.pick (.t 45) (.c bT) (.t 48)),oO 50 (.pick (.t 40) (.t 49) (.c bF)),oM 51 50,oTm 51 52 0,oT 51 53 (.faddr 5 (.t 5)),oT 51 54 (.load (.box 5) false 1 (.t 53)),oT 51 55 (pF 96 [.t 52,.t 54]),oO 56 (.pick (.t 51) (.t 55) (.c bF)),oM 8 56] .ret)))⟩
theorem ok82:zh Try.prog Try.f82 F82=true:=by kernel_rfl
def L67_0:ICode:= .loop [0,6,7,8] []
 (sr [
 oP 9 .lss 8 7]
 (.seq
 (.cond (.t 9)
 .skip
 (.exit 0))
 (.seq
 (.block 1
 (sr [
 oI 10 1 6 8,
 oG 11 10,
 oM 5 11]
 (.region [
 oM 12 0,
 oK 13 12,
 oA 14 7 13,
 oG 15 14,
 oM 16 5,
 oI 17 1 15 16,
 oN (.store .any 1 (.t 17) (cI 2))])))
 (.region [
 oD 18 .add 8 1,
 oM 8 18]))))
abbrev K67_0:List Nat:=[0,6,7]
abbrev B67_0:List Nat:=[]
def F67:IFn:=⟨19,2,[],false,false,none,(sr [oE 6 1,oY 7 6,oZ 8 0] (.block 0 L67_0))⟩
theorem ok67:zh Try.prog Try.f67 F67=true:=by kernel_rfl
def F83:IFn:=⟨61,3,[.tmp 6],false,false,none,(sr [oO 4 (.boxL 4 (.t 1)),oC 6 bF] (sr [oM 8 0,oA 9 6 4,oL 10 4 9,cF 11 94 [.t 8,.t 10],oM 12 0,oA 13 5 4,oL 14 4 13,cF 15 94 [.t 12,.t 14],oO 16 (.build [.bool false,.bool false,.slice .fit 1 [],.slice .fit 1 [],.slice .fit 1 []] [(1,1,(.c bT)),(3,1,(.t 11)),(4,1,(.t 15))]),oO 7 (.boxL 7 (.c (.agg [.bool false,.bool false,.slice .fit 1 [],.slice .fit 1 [],.slice .fit 1 []]))),oS 7 5 7 16] (.seq (sr [oM 17 0,oA 18 4 4,oL 19 4 18,oA 20 3 7,oL 21 7 20,cF 22 95 [.t 17,.t 19,.t 21],oU 23 22,oM 24 23,oFm 24 25 0,oF 24 26 (.faddr 6 (.t 4)),oF 24 27 (.load (.box 4) false 1 (.t 26)),oF 24 28 (pF 96 [.t 25,.t 27]),oF 24 29 (.un .not (.t 28)),oO 30 (.pick (.t 24) (.c bT) (.t 29)),oM 31 30,oFm 31 32 0,oF 31 33 (.faddr 7 (.t 4)),oF 31 34 (.load (.box 4) false 1 (.t 33)),oF 31 35 (.iaddr 1 (.t 34) (cI 0)),oF 31 36 (.load .imm false 1 (.t 35)),oF 31 37 (.load (.box 7) true 5 (.t 7)),oFm 31 38 2,oF 31 39 (pF 43 [.t 32,.t 36,.t 37,.t 38]),oF 31 40 (.un .not (.t 39)),oO 41 (.pick (.t 31) (.c bT) (.t 40))] (.cond (.t 41) (sr [oC 6 bF] .ret) .skip)) (sr [oM 42 0,oA 43 6 4,oL 44 4 43,cF 45 67 [.t 42,.t 44]] (sr [oA 46 5 4,oL 47 4 46,oY 48 47,oD 49 .eql 48 0,oM 50 49,oF 50 51 (.load (.box 4) true 8 (.t 4)),oF 50 52 (pP 29 [.t 51]),oF 50 53 (.un .not (.t 52)),oO 54 (.pick (.t 50) (.c bT) (.t 53)),oM 55 54,oTm 55 56 0,oT 55 57 (.faddr 5 (.t 4)),oT 55 58 (.load (.box 4) false 1 (.t 57)),oT 55 59 (pF 96 [.t 56,.t 58]),oO 60 (.pick (.t 55) (.t 59) (.c bF)),oM 6 60] .ret)))))⟩
theorem ok83:zh Try.prog Try.f83 F83=true:=by kernel_rfl
def F84:IFn:=⟨72,3,[.tmp 6],false,false,none,(sr [oO 4 (.boxL 4 (.t 1)),oO 5 (.boxL 5 (.t 2)),oC 6 bF] (sr [oA 8 5 4,oL 9 4 8,oY 10 9,oD 11 .eql 10 0,oM 7 11] (.seq (sr [oA 12 0 4,oL 13 4 12] (.block 0 (sr [oD 15 .eql 13 12,oM 14 15] (.cond (.t 14) (sr [oM 16 7,oM 17 16,oT 17 18 (.faddr 0 (.t 5)),oT 17 19 (.load (.box 5) false 1 (.t 18)),oO 20 (.pick (.t 17) (.t 19) (.c bF)),oM 21 20,oTm 21 22 0,oT 21 23 (.faddr 4 (.t 4)),oT 21 24 (.load (.box 4) false 1 (.t 23)),oT 21 25 (.faddr 2 (.t 5)),oT 21 26 (.load (.box 5) false 1 (.t 25)),oT 21 27 (pF 95 [.t 22,.t 24,.t 26]),oO 28 (.pick (.t 21) (.t 27) (.c bF)),oM 6 28] .ret) (sr [oD 30 .eql 13 13,oM 29 30] (.cond (.t 29) (sr [oM 31 7,oM 32 31,oT 32 33 (.faddr 1 (.t 5)),oT 32 34 (.load (.box 5) false 1 (.t 33)),oO 35 (.pick (.t 32) (.t 34) (.c bF)),oM 36 35,oTm 36 37 0,oT 36 38 (.faddr 4 (.t 4)),oT 36 39 (.load (.box 4) false 1 (.t 38)),oT 36 40 (.faddr 3 (.t 5)),oT 36 41 (.load (.box 5) false 1 (.t 40)),oT 36 42 (pF 95 [.t 37,.t 39,.t 41]),oO 43 (.pick (.t 36) (.t 42) (.c bF)),oM 6 43] .ret) (sr [oD 45 .eql 13 14,oM 44 45] (.cond (.t 44) (sr [oM 46 7,oM 47 46,oT 47 48 (.faddr 1 (.t 5)),oT 47 49 (.load (.box 5) false 1 (.t 48)),oO 50 (.pick (.t 47) (.t 49) (.c bF)),oM 51 50,oTm 51 52 0,oT 51 53 (.faddr 4 (.t 4)),oT 51 54 (.load (.box 4) false 1 (.t 53)),oT 51 55 (.faddr 4 (.t 5)),oT 51 56 (.load (.box 5) false 1 (.t 55)),oT 51 57 (pF 95 [.t 52,.t 54,.t 56]),oO 58 (.pick (.t 51) (.t 57) (.c bF)),oM 6 58] .ret) .skip)))))))) (sr [oM 59 7,oM 60 59,oTm 60 61 0,oT 60 62 (.faddr 4 (.t 4)),oT 60 63 (.load (.box 4) false 1 (.t 62)),oTm 60 64 0,oT 60 65 (.nilck (.t 64)),oT 60 66 (.faddr 2 (.t 65)),oT 60 67 (.faddr 1 (.t 66)),oT 60 68 (.load .imm false 1 (.t 67)),oT 60 69 (.bslice 1 (.int .i64 0) 1 [(0,(.t 68))]),oT 60 70 (pF 95 [.t 61,.t 63,.t 69]),oO 71 (.pick (.t 60) (.t 70) (.c bF)),oM 6 71] .ret))))⟩
theorem ok84:zh Try.prog Try.f84 F84=true:=by kernel_rfl
def F114:IFn:=⟨15,1,[.tmp 2,.tmp 3],false,false,none,(sr [oZ 2 0,oZ 3 0] (.seq (sr [oM 4 0] (.block 0 (sr [oD 6 .eql 4 22,oM 5 6] (.cond (.t 5) (sr [oZ 2 2,oZ 3 2] .ret) (.seq (sr [oD 8 .eql 4 16,oM 7 8] (.cond (.t 7) .skip (.region [oD 9 .eql 4 17,oM 7 9]))) (.cond (.t 7) (sr [oZ 2 0,oZ 3 2] .ret) (.seq (sr [oD 11 .eql 4 12,oM 10 11] (.cond (.t 10) .skip (sr [oD 12 .eql 4 13,oM 10 12] (.cond (.t 10) .skip (sr [oD 13 .eql 4 14,oM 10 13] (.cond (.t 10) .skip (.region [oD 14 .eql 4 15,oM 10 14]))))))) (.cond (.t 10) (sr [oZ 2 1,oZ 3 2] .ret) .skip)))))))) (sr [oZ 2 1,oZ 3 1] .ret)))⟩
theorem ok114:zh Try.prog Try.f114 F114=true:=by kernel_rfl
def F122:IFn:=⟨43,1,[.cell 2 true 2],false,false,none,(sr [oO 2 (.boxL 2 (.c (.agg [.str [],.int .i64 0])))] (sr [oO 4 (.build [.str [],.int .i64 0] [(0,1,(.c (.str [43]))),(1,1,(cI 9))]),oO 5 (.build [.str [],.int .i64 0] [(0,1,(.c (.str [45]))),(1,1,(cI 9))]),oO 6 (.build [.str [],.int .i64 0] [(0,1,(.c (.str [42]))),(1,1,(cI 10))]),oO 7 (.build [.str [],.int .i64 0] [(0,1,(.c (.str [47]))),(1,1,(cI 10))]),oO 8 (.build [.str [],.int .i64 0] [(0,1,(.c (.str [37]))),(1,1,(cI 10))]),oO 9 (.build [.str [],.int .i64 0] [(0,1,(.c (.str [38]))),(1,1,(cI 5))]),oO 10 (.build [.str [],.int .i64 0] [(0,1,(.c (.str [124]))),(1,1,(cI 3))]),oO 11 (.build [.str [],.int .i64 0] [(0,1,(.c (.str [94]))),(1,1,(cI 4))]),oO 12 (.build [.str [],.int .i64 0] [(0,1,(.c (.str [60,60]))),(1,1,(cI 8))]),oO 13 (.build [.str [],.int .i64 0] [(0,1,(.c (.str [62,62]))),(1,1,(cI 8))]),oO 14 (.build [.str [],.int .i64 0] [(0,1,(.c (.str [62,62,62]))),(1,1,(cI 8))]),oO 15 (.build [.str [],.int .i64 0] [(0,1,(.c (.str [60]))),(1,1,(cI 7))]),oO 16 (.build [.str [],.int .i64 0] [(0,1,(.c (.str [60,61]))),(1,1,(cI 7))]),oO 17 (.build [.str [],.int .i64 0] [(0,1,(.c (.str [62]))),(1,1,(cI 7))]),oO 18 (.build [.str [],.int .i64 0] [(0,1,(.c (.str [62,61]))),(1,1,(cI 7))]),oO 19 (.build [.str [],.int .i64 0] [(0,1,(.c (.str [61,61]))),(1,1,(cI 6))]),oO 20 (.build [.str [],.int .i64 0] [(0,1,(.c (.str [33,61]))),(1,1,(cI 6))]),oO 21 (.build [.str [],.int .i64 0] [(0,1,(.c (.str [38,38]))),(1,1,(cI 2))]),oO 22 (.build [.str [],.int .i64 0] [(0,1,(.c (.str [124,124]))),(1,1,(cI 1))]),oO 23 (.build [.str [],.int .i64 0] [(0,1,(.c (.str [45]))),(1,1,(cI 0))]),oO 24 (.build [.str [],.int .i64 0] [(0,1,(.c (.str [126]))),(1,1,(cI 0))]),oO 25 (.build [.str [],.int .i64 0] [(0,1,(.c (.str [33]))),(1,1,(cI 0))]),oO 26 (.build [.str [],.int .i64 0] [(0,1,(.c (.str [105,56]))),(1,1,(cI 0))]),oO 27 (.build [.str [],.int .i64 0] [(0,1,(.c (.str [105,49,54]))),(1,1,(cI 0))]),oO 28 (.build [.str [],.int .i64 0] [(0,1,(.c (.str [105,51,50]))),(1,1,(cI 0))]),oO 29 (.build [.str [],.int .i64 0] [(0,1,(.c (.str [117,56]))),(1,1,(cI 0))]),oO 30 (.build [.str [],.int .i64 0] [(0,1,(.c (.str [117,49,54]))),(1,1,(cI 0))]),oO 31 (.build [.str [],.int .i64 0] [(0,1,(.c (.str [117,51,50]))),(1,1,(cI 0))]),oO 32 (.build [.str [],.int .i64 0,.str [],.int .i64 0,.str [],.int .i64 0,.str [],.int .i64 0,.str [],.int .i64 0,.str [],.int .i64 0,.str [],.int .i64 0,.str [],.int .i64 0,.str [],.int .i64 0,.str [],.int .i64 0,.str [],.int .i64 0,.str [],.int .i64 0,.str [],.int .i64 0,.str [],.int .i64 0,.str [],.int .i64 0,.str [],.int .i64 0,.str [],.int .i64 0,.str [],.int .i64 0,.str [],.int .i64 0,.str [],.int .i64 0,.str [],.int .i64 0,.str [],.int .i64 0,.str [],.int .i64 0,.str [],.int .i64 0,.str [],.int .i64 0,.str [],.int .i64 0,.str [],.int .i64 0,.str [],.int .i64 0,.str [],.int .i64 0] [(2,2,(.t 4)),(4,2,(.t 5)),(6,2,(.t 6)),(8,2,(.t 7)),(10,2,(.t 8)),(12,2,(.t 9)),(14,2,(.t 10)),(16,2,(.t 11)),(18,2,(.t 12)),(20,2,(.t 13)),(22,2,(.t 14)),(24,2,(.t 15)),(26,2,(.t 16)),(28,2,(.t 17)),(30,2,(.t 18)),(32,2,(.t 19)),(34,2,(.t 20)),(36,2,(.t 21)),(38,2,(.t 22)),(40,2,(.t 23)),(42,2,(.t 24)),(44,2,(.t 25)),(46,2,(.t 26)),(48,2,(.t 27)),(50,2,(.t 28)),(52,2,(.t 29)),(54,2,(.t 30)),(56,2,(.t 31))]),oO 3 (.boxL 3 (.c (.agg [.str [],.int .i64 0,.str [],.int .i64 0,.str [],.int .i64 0,.str [],.int .i64 0,.str [],.int .i64 0,.str [],.int .i64 0,.str [],.int .i64 0,.str [],.int .i64 0,.str [],.int .i64 0,.str [],.int .i64 0,.str [],.int .i64 0,.str [],.int .i64 0,.str [],.int .i64 0,.str [],.int .i64 0,.str [],.int .i64 0,.str [],.int .i64 0,.str [],.int .i64 0,.str [],.int .i64 0,.str [],.int .i64 0,.str [],.int .i64 0,.str [],.int .i64 0,.str [],.int .i64 0,.str [],.int .i64 0,.str [],.int .i64 0,.str [],.int .i64 0,.str [],.int .i64 0,.str [],.int .i64 0,.str [],.int .i64 0,.str [],.int .i64 0]))),oS 3 58 3 32] (.seq (sr [oM 33 0,oD 34 .lss 33 0,oM 35 34,oFm 35 36 0,oF 35 37 (.bin 0 [] .geq (.t 36) (cI 29)),oO 38 (.pick (.t 35) (.c bT) (.t 37))] (.cond (.t 38) (sr [oO 39 (.build [.str [],.int .i64 0] []),oS 2 2 2 39] .ret) .skip)) (sr [oM 40 0,oO 41 (.iaddrA 29 2 (.t 3) (.t 40)),oLa 42 3 2 41,oS 2 2 2 42] .ret))))⟩
theorem ok122:zh Try.prog Try.f122 F122=true:=by kernel_rfl
def F115:IFn:=⟨6,1,[.tmp 2],false,false,none,(sr [oZ 2 0] (sr [oM 3 0,cP 4 122 [.t 3],oO 5 (.fld false 1 1 (.t 4)),oM 2 5] .ret))⟩
theorem ok115:zh Try.prog Try.f115 F115=true:=by kernel_rfl
def F98:IFn:=⟨93,2,[.tmp 4],false,false,none,(sr [oO 3 (.boxL 3 (.t 1)),oC 4 bF] (sr [oA 9 1 3,oL 10 3 9,cP 11 114 [.t 10],oM 8 11,oX 12 8 0,oX 13 8 1,oM 5 12,oM 6 13] (.seq (sr [oA 14 0 3,oL 15 3 14,oD 16 .eql 15 3] (.cond (.t 16) (sr [oA 17 1 3,oL 18 3 17,oD 19 .geq 18 20,oM 20 19,oT 20 21 (.faddr 1 (.t 3)),oT 20 22 (.load (.box 3) false 1 (.t 21)),oT 20 23 (.bin 0 [] .leq (.t 22) (cI 28)),oO 24 (.pick (.t 20) (.t 23) (.c bF)),oM 25 24,oTm 25 26 0,oT 25 27 (.faddr 4 (.t 3)),oT 25 28 (.load (.box 3) false 1 (.t 27)),oTm 25 29 5,oT 25 30 (.bslice 1 (.int .i64 0) 1 [(0,(.t 29))]),oT 25 31 (pF 95 [.t 26,.t 28,.t 30]),oO 32 (.pick (.t 25) (.t 31) (.c bF)),oM 33 32,oTm 33 34 0,oT 33 35 (.faddr 5 (.t 3)),oT 33 36 (.load (.box 3) false 1 (.t 35)),oTm 33 37 6,oT 33 38 (.bslice 1 (.int .i64 0) 1 [(0,(.t 37))]),oT 33 39 (pF 97 [.t 34,.t 36,.t 38]),oO 40 (.pick (.t 33) (.t 39) (.c bF)),oM 4 40] .ret) .skip)) (sr [oA 41 1 3,oL 42 3 41,cP 43 115 [.t 42],oD 44 .gtr 43 0,oM 45 44,oT 45 46 (.faddr 1 (.t 3)),oT 45 47 (.load (.box 3) false 1 (.t 46)),oT 45 48 (.bin 0 [] .leq (.t 47) (cI 17)),oO 49 (.pick (.t 45) (.t 48) (.c bF)),oM 50 49,oTm 50 51 0,oT 50 52 (.faddr 4 (.t 3)),oT 50 53 (.load (.box 3) false 1 (.t 52)),oTm 50 54 5,oTm 50 55 5,oT 50 56 (.bslice 1 (.int .i64 0) 2 [(0,(.t 54)),(1,(.t 55))]),oT 50 57 (pF 95 [.t 51,.t 53,.t 56]),oO 58 (.pick (.t 50) (.t 57) (.c bF)),oM 7 58] (sr [oM 59 7,oM 60 59,oTm 60 61 0,oT 60 62 (.nilck (.t 61)),oT 60 63 (.faddr 2 (.t 62)),oT 60 64 (.faddr 3 (.t 63)),oT 60 65 (.load .imm false 1 (.t 64)),oT 60 66 (.faddr 4 (.t 3)),oT 60 67 (.load (.box 3) false 1 (.t 66)),oT 60 68 (.iaddr 1 (.t 67) (cI 0)),oT 60 69 (.load .imm false 1 (.t 68)),oT 60 70 (.iaddr 1 (.t 65) (.t 69)),oT 60 71 (.load .imm false 1 (.t 70)),oTm 60 72 0,oT 60 73 (.nilck (.t 72)),oT 60 74 (.faddr 2 (.t 73)),oT 60 75 (.faddr 3 (.t 74)),oT 60 76 (.load .imm false 1 (.t 75)),oT 60 77 (.faddr 4 (.t 3)),oT 60 78 (.load (.box 3) false 1 (.t 77)),oT 60 79 (.iaddr 1 (.t 78) (cI 1)),oT 60 80 (.load .imm false 1 (.t 79)),oT 60 81 (.iaddr 1 (.t 76) (.t 80)),oT 60 82 (.load .imm false 1 (.t 81)),oT 60 83 (.bin 0 [] .eql (.t 71) (.t 82)),oO 84 (.pick (.t 60) (.t 83) (.c bF)),oM 85 84,oTm 85 86 0,oT 85 87 (.faddr 5 (.t 3)),oT 85 88 (.load (.box 3) false 1 (.t 87)),oTm 85 89 6,oT 85 90 (.bslice 1 (.int .i64 0) 1 [(0,(.t 89))]),oT 85 91 (pF 97 [.t 86,.t 88,.t 90]),oO 92 (.pick (.t 85) (.t 91) (.c bF)),oM 4 92] .ret)))))⟩
theorem ok98:zh Try.prog Try.f98 F98=true:=by kernel_rfl
def L123_0:ICode:= .loop [0,1,7,8] []
 (sr [
 oP 9 .lss 8 7]
 (.seq
 (.cond (.t 9)
 .skip
 (.exit 0))
 (.seq
 (.block 1
 (sr [
 oM 10 8,
 oM 5 10]
 (sr [
 oM 11 1,
 oM 12 0,
 oM 13 5,
 oI 14 2 12 13,
 oW 15 2 14,
 oO 16 (.call false (.t 11) [.t 15])]
 (.cond (.t 16)
 (sr [
 oM 17 5,
 oM 4 17]
 .ret)
 .skip))))
 (.region [
 oD 18 .add 8 1,
 oM 8 18]))))
abbrev K123_0:List Nat:=[0,1,7]
abbrev B123_0:List Nat:=[]
def F123:IFn:=⟨19,2,[.tmp 4],false,false,none,(sr [oZ 4 0] (.seq (sr [oM 6 0,oY 7 6,oZ 8 0] (.block 0 L123_0)) (sr [oO 4 (.mv (cI (-1)))] .ret)))⟩
theorem ok123:zh Try.prog Try.f123 F123=true:=by kernel_rfl
def F116:IFn:=⟨9,2,[.tmp 4],false,false,none,(sr [oC 4 bF] (sr [oE 5 0,oM 6 1,cF 7 123 [.t 5,.t 6],oD 8 .geq 7 0,oM 4 8] .ret))⟩
theorem ok116:zh Try.prog Try.f116 F116=true:=by kernel_rfl
def F117:IFn:=⟨8,2,[.tmp 3],false,false,none,(sr [oO 2 (.boxL 2 (.t 0)),oC 3 bF] (sr [oA 4 0 2,oL 5 2 4,oG 6 1,oP 7 .eql 5 6,oM 3 7] .ret))⟩
theorem ok117:zh Try.prog Try.f117 F117=true:=by kernel_rfl
def F99:IFn:=⟨9,2,[.tmp 4],false,false,none,(sr [oO 2 (.boxL 2 (.t 0)),oO 3 (.boxI (.t 1)),oC 4 bF] (sr [oA 5 0 2,oL 6 2 5,oO 7 (.mkfn 117 [] [.t 3]),cF 8 116 [.t 6,.t 7],oM 4 8] .ret))⟩
theorem ok99:zh Try.prog Try.f99 F99=true:=by kernel_rfl
def F85:IFn:=⟨159,2,[.tmp 4],false,false,none,(sr [oO 3 (.boxL 3 (.t 1)),oC 4 bF] (.seq (sr [oA 7 0 3,oL 8 3 7] (.block 0 (sr [oD 10 .eql 8 1,oM 9 10] (.cond (.t 9) (sr [oM 11 0,oA 12 4 3,oL 13 3 12,cF 14 95 [(.t 11),(.t 13),(.c (.slice .fit 1 []))],oM 15 14,oTm 15 16 0,oT 15 17 (.faddr 5 (.t 3)),oT 15 18 (.load (.box 3) false 1 (.t 17)),oT 15 19 (.bslice 1 (.int .i64 0) 1 [(0,(cI 1))]),oT 15 20 (pF 97 [.t 16,.t 18,.t 19]),oO 21 (.pick (.t 15) (.t 20) (.c bF)),oM 4 21] .ret) (sr [oD 23 .eql 8 2,oM 22 23] (.cond (.t 22) (sr [oA 24 2 3,oL 25 3 24,oD 26 .eql 25 0,oM 27 26,oF 27 28 (.faddr 2 (.t 3)),oF 27 29 (.load (.box 3) false 1 (.t 28)),oF 27 30 (.bin 0 [] .eql (.t 29) (cI 1)),oO 31 (.pick (.t 27) (.c bT) (.t 30)),oM 32 31,oTm 32 33 0,oT 32 34 (.faddr 4 (.t 3)),oT 32 35 (.load (.box 3) false 1 (.t 34)),oT 32 36 (pF 95 [(.t 33),(.t 35),(.c (.slice .fit 1 []))]),oO 37 (.pick (.t 32) (.t 36) (.c bF)),oM 38 37,oTm 38 39 0,oT 38 40 (.faddr 5 (.t 3)),oT 38 41 (.load (.box 3) false 1 (.t 40)),oT 38 42 (.bslice 1 (.int .i64 0) 1 [(0,(cI 2))]),oT 38 43 (pF 97 [.t 39,.t 41,.t 42]),oO 44 (.pick (.t 38) (.t 43) (.c bF)),oM 4 44] .ret) (.seq (sr [oD 46 .eql 8 3,oM 45 46] (.cond (.t 45) .skip (.region [oD 47 .eql 8 4,oM 45 47]))) (.cond (.t 45) (sr [oM 48 0,oLa 49 3 8 3,cF 50 98 [.t 48,.t 49],oM 4 50] .ret) (sr [oD 52 .eql 8 5,oM 51 52] (.cond (.t 51) (sr [oM 53 0,oK 54 53,oA 55 0 54,oO 56 (.load .imm true 2 (.t 55)),oA 57 3 3,oL 58 3 57,cP 59 99 [.t 56,.t 58],oM 60 59,oTm 60 61 0,oT 60 62 (.faddr 4 (.t 3)),oT 60 63 (.load (.box 3) false 1 (.t 62)),oT 60 64 (.bslice 1 (.int .i64 0) 1 [(0,(cI 1))]),oT 60 65 (pF 95 [.t 61,.t 63,.t 64]),oO 66 (.pick (.t 60) (.t 65) (.c bF)),oM 67 66,oTm 67 68 0,oT 67 69 (.faddr 5 (.t 3)),oT 67 70 (.load (.box 3) false 1 (.t 69)),oT 67 71 (.bslice 1 (.int .i64 0) 1 [(0,(cI 1))]),oT 67 72 (pF 97 [.t 68,.t 70,.t 71]),oO 73 (.pick (.t 67) (.t 72) (.c bF)),oM 4 73] .ret) (sr [oD 75 .eql 8 6,oM 74 75] (.cond (.t 74) (sr [oM 76 0,oK 77 76,oA 78 0 77,oO 79 (.load .imm true 2 (.t 78)),oA 80 3 3,oL 81 3 80,cP 82 99 [.t 79,.t 81],oM 83 82,oTm 83 84 0,oT 83 85 (.faddr 4 (.t 3)),oT 83 86 (.load (.box 3) false 1 (.t 85)),oT 83 87 (.bslice 1 (.int .i64 0) 2 [(0,(cI 1)),(1,(cI 1))]),oT 83 88 (pF 95 [.t 84,.t 86,.t 87]),oO 89 (.pick (.t 83) (.t 88) (.c bF)),oM 90 89,oTm 90 91 0,oT 90 92 (.faddr 5 (.t 3)),oT 90 93 (.load (.box 3) false 1 (.t 92)),oT 90 94 (pF 97 [(.t 91),(.t 93),(.c (.slice .fit 1 []))]),oO 95 (.pick (.t 90) (.t 94) (.c bF)),oM 4 95] .ret) (sr [oD 97 .eql 8 8,oM 96 97] (.cond (.t 96) (sr [oM 98 0,oA 99 4 3,oL 100 3 99,cF 101 95 [(.t 98),(.t 100),(.c (.slice .fit 1 []))],oM 102 101,oTm 102 103 0,oT 102 104 (.faddr 5 (.t 3)),oT 102 105 (.load (.box 3) false 1 (.t 104)),oT 102 106 (.bslice 1 (.int .i64 0) 1 [(0,(cI 1))]),oT 102 107 (pF 97 [.t 103,.t 105,.t 106]),oO 108 (.pick (.t 102) (.t 107) (.c bF)),oM 4 108] .ret) (sr [oD 110 .eql 8 9,oM 109 110] (.cond (.t 109) (sr [oM 111 0,oA 112 4 3,oL 113 3 112,oO 114 (.bslice 1 (.int .i64 0) 1 [(0,(cI 1))]),cF 115 95 [.t 111,.t 113,.t 114],oM 116 115,oTm 116 117 0,oT 116 118 (.faddr 5 (.t 3)),oT 116 119 (.load (.box 3) false 1 (.t 118)),oT 116 120 (pF 97 [(.t 117),(.t 119),(.c (.slice .fit 1 []))]),oO 121 (.pick (.t 116) (.t 120) (.c bF)),oM 4 121] .ret) (sr [oD 123 .eql 8 7,oM 122 123] (.cond (.t 122) (sr [oM 124 0,oK 125 124,oA 126 0 125,oO 127 (.load .imm true 2 (.t 126)),oA 128 3 3,oL 129 3 128,cP 130 40 [.t 127,.t 129],oM 5 130] (.seq (sr [oM 131 5,oD 132 .lss 131 0] (.cond (.t 132) (sr [oC 4 bF] .ret) .skip)) (sr [oM 133 0,oK 134 133,oA 135 0 134,oA 136 1 135,oG 137 136,oM 138 5,oI 139 5 137 138,oW 140 5 139,oO 6 (.boxL 6 (.c (.agg [.str [],.int .i64 0,.int .i64 0,.slice .fit 1 [],.slice .fit 8 []]))),oS 6 5 6 140] (sr [oM 141 0,oA 142 4 3,oL 143 3 142,oA 144 3 6,oL 145 6 144,oA 146 2 6,oL 147 6 146,oO 148 (.slc false 1 (.t 145) none (some (.t 147)) none),cF 149 95 [.t 141,.t 143,.t 148],oM 150 149,oTm 150 151 0,oT 150 152 (.faddr 5 (.t 3)),oT 150 153 (.load (.box 3) false 1 (.t 152)),oT 150 154 (.faddr 1 (.t 6)),oT 150 155 (.load (.box 6) false 1 (.t 154)),oT 150 156 (.bslice 1 (.int .i64 0) 1 [(0,(.t 155))]),oT 150 157 (pF 97 [.t 151,.t 153,.t 156]),oO 158 (.pick (.t 150) (.t 157) (.c bF)),oM 4 158] .ret)))) .skip)))))))))))))))))) (sr [oC 4 bF] .ret)))⟩
theorem ok85:zh Try.prog Try.f85 F85=true:=by kernel_rfl
def F66:IFn:=⟨42,4,[.tmp 8],false,false,none,(sr [oO 5 (.boxL 5 (.t 1)),oO 6 (.boxL 6 (.t 2)),oC 8 bF] (.seq (.block 0 (sr [oLa 10 5 8 5,cP 11 81 [.t 10],oU 12 11,oM 9 12] (.cond (.t 9) (sr [oC 8 bF] .ret) (sr [oA 14 0 5,oL 15 5 14,oD 16 .eql 15 10,oM 13 16] (.cond (.t 13) (sr [oM 17 0,oLa 18 5 8 5,oLa 19 6 5 6,oM 20 3,oD 21 .add 20 1,cF 22 82 [.t 17,.t 18,.t 19,.t 21],oM 8 22] .ret) (sr [oA 24 0 5,oL 25 5 24,oD 26 .eql 25 11,oM 23 26] (.cond (.t 23) (sr [oM 27 0,oLa 28 5 8 5,oM 29 3,oD 30 .add 29 1,cF 31 83 [.t 27,.t 28,.t 30],oM 8 31] .ret) (sr [oLa 33 5 8 5,cP 34 51 [.t 33],oM 32 34] (.cond (.t 32) (sr [oM 35 0,oLa 36 5 8 5,oLa 37 6 5 6,cF 38 84 [.t 35,.t 36,.t 37],oM 8 38] .ret) .skip))))))))) (sr [oM 39 0,oLa 40 5 8 5,cF 41 85 [.t 39,.t 40],oM 8 41] .ret)))⟩
theorem ok66:zh Try.prog Try.f66 F66=true:=by kernel_rfl
def L43_0:ICode:= .loop [0,1,3,6,13,14,15] [10]
 (sr [
 oP 16 .lss 15 14]
 (.seq
 (.cond (.t 16)
 .skip
 (.exit 0))
 (.seq
 (.block 1
 (sr [
 oM 17 15,
 oI 18 8 13 15,
 oW 19 8 18,
 oO 10 (.boxL 10 (.c (.agg [.int .i64 0,.int .i64 0,.int .i64 0,.str [],.slice .fit 1 [],.slice .fit 1 [],.slice .fit 1 [],.slice .fit 1 []]))),
 oM 9 17,
 oS 10 8 10 19]
 (sr [
 oM 20 3,
 oD 21 .gtr 20 100,
 oM 22 21,
 oFm 22 23 0,
 oF 22 24 (.load (.box 10) true 8 (.t 10)),
 oF 22 25 (.load (.box 6) true 5 (.t 6)),
 oFm 22 26 3,
 oF 22 27 (pF 66 [.t 23,.t 24,.t 25,.t 26]),
 oF 22 28 (.un .not (.t 27)),
 oO 29 (.pick (.t 22) (.c bT) (.t 28)),
 oM 30 29,
 oF 30 31 (.load (.box 10) true 8 (.t 10)),
 oF 30 32 (pP 29 [.t 31]),
 oFm 30 33 9,
 oFm 30 34 1,
 oF 30 35 (.len 1 (.t 34)),
 oF 30 36 (.bin 0 [] .sub (.t 35) (cI 1)),
 oF 30 37 (.bin 0 [] .eql (.t 33) (.t 36)),
 oF 30 38 (.bin 1 [] .neq (.t 32) (.t 37)),
 oO 39 (.pick (.t 30) (.c bT) (.t 38))]
 (.cond (.t 39)
 (sr [
 oC 8 bF]
 .ret)
 .skip))))
 (.region [
 oD 40 .add 15 1,
 oM 15 40]))))
def L43_1:ICode:= .loop [0,1,41,42,43] [12]
 (sr [
 oP 44 .lss 43 42]
 (.seq
 (.cond (.t 44)
 .skip
 (.exit 2))
 (.seq
 (.block 3
 (sr [
 oI 45 8 41 43,
 oW 46 8 45,
 oO 12 (.boxL 12 (.c (.agg [.int .i64 0,.int .i64 0,.int .i64 0,.str [],.slice .fit 1 [],.slice .fit 1 [],.slice .fit 1 [],.slice .fit 1 []]))),
 oS 12 8 12 46]
 (.region [
 oM 47 0,
 oA 48 5 12,
 oL 49 12 48,
 cF 50 67 [.t 47,.t 49]])))
 (.region [
 oD 51 .add 43 1,
 oM 43 51]))))
abbrev K43_0:List Nat:=[0,1,3,6,13,14]
abbrev B43_0:List Nat:=[6]
abbrev K43_1:List Nat:=[0,1,41,42]
abbrev B43_1:List Nat:=[]
def F43:IFn:=⟨55,4,[.tmp 8],false,false,none,(sr [oO 6 (.boxL 6 (.t 2)),oC 8 bF] (.seq (sr [oM 13 1,oY 14 13,oZ 15 0] (.block 0 L43_0)) (.seq (sr [oM 41 1,oY 42 41,oZ 43 0] (.block 2 L43_1)) (sr [oE 52 1,oY 53 52,oD 54 .gtr 53 0,oM 8 54] .ret))))⟩
theorem ok43:zh Try.prog Try.f43 F43=true:=by kernel_rfl
def L24_0:ICode:= .loop [3,5,30,31] []
 (sr [
 oP 32 .lss 31 30]
 (.seq
 (.cond (.t 32)
 .skip
 (.exit 0))
 (.seq
 (.block 1
 (sr [
 oM 33 31,
 oM 6 33]
 (.region [
 oM 34 5,
 oK 35 34,
 oA 36 7 35,
 oG 37 36,
 oM 38 6,
 oI 39 1 37 38,
 oN (.store .any 1 (.t 39) (cI 1))])))
 (.region [
 oD 40 .add 31 1,
 oM 31 40]))))
abbrev K24_0:List Nat:=[3,5,30]
abbrev B24_0:List Nat:=[3]
def F24:IFn:=⟨46,2,[.tmp 4],true,false,none,(sr [oO 2 (.boxL 2 (.t 0)),oO 3 (.boxL 3 (.t 1)),oC 4 bF] (.seq (sr [oA 7 2 3,oL 8 3 7,oD 9 .gtr 8 8,oM 10 9,oF 10 11 (.faddr 3 (.t 3)),oF 10 12 (.load (.box 3) false 1 (.t 11)),oF 10 13 (.len 1 (.t 12)),oF 10 14 (.bin 0 [] .gtr (.t 13) (cI 20000)),oO 15 (.pick (.t 10) (.c bT) (.t 14)),oM 16 15,oF 16 17 (.faddr 3 (.t 3)),oF 16 18 (.load (.box 3) false 1 (.t 17)),oF 16 19 (pF 41 [(.t 18),(.c (.fn 42 [] []))]),oO 20 (.pick (.t 16) (.c bT) (.t 19))] (.cond (.t 20) (sr [oC 4 bF] .ret) .skip)) (sr [oLa 21 2 2 2,oLa 22 3 5 3,oA 23 3 3,oL 24 3 23,oY 25 24,oO 26 (.mksliceS 1 (.int .i64 0) 8 (.t 25) (.t 25)),oO 27 (.build [.slice .fit 2 [],.slice .fit 5 [],.str [],.int .i64 0,.int .i64 0,.slice .fit 1 [],.slice .fit 8 [],.slice .fit 1 []] [(0,2,(.t 21)),(2,5,(.t 22)),(7,1,(.t 26))]),oO 28 (.boxI (.t 27)),oM 5 28] (.seq (sr [oA 29 2 3,oL 30 3 29,oZ 31 0] (.block 0 L24_0)) (sr [oM 41 5,oA 42 4 3,oL 43 3 42,oO 44 (.build [.bool false,.bool false,.slice .fit 1 [],.slice .fit 1 [],.slice .fit 1 []] []),cF 45 43 [.t 41,.t 43,.t 44,cI 1],oM 4 45] .ret)))))⟩
theorem ok24:zh Try.prog Try.f24 F24=true:=by kernel_rfl
def L9_0:ICode:= .loop [1,10,11,12] [5]
 (sr [
 oP 13 .lss 12 11]
 (.seq
 (.cond (.t 13)
 .skip
 (.exit 0))
 (.seq
 (.block 1
 (sr [
 oM 14 12,
 oI 15 5 10 12,
 oW 16 5 15,
 oO 5 (.boxL 5 (.c (.agg [.str [],.int .i64 0,.int .i64 0,.slice .fit 1 [],.slice .fit 8 []]))),
 oM 4 14,
 oS 5 5 5 16]
 (sr [
 oLa 17 1 2 1,
 oLa 18 5 5 5,
 cP 19 24 [.t 17,.t 18],
 oU 20 19]
 (.cond (.t 20)
 (sr [
 oM 21 4,
 oZ 2 80,
 oM 3 21]
 .ret)
 .skip))))
 (.region [
 oD 22 .add 12 1,
 oM 12 22]))))
abbrev K9_0:List Nat:=[1,10,11]
abbrev B9_0:List Nat:=[1]
def F9:IFn:=⟨23,1,[.tmp 2,.tmp 3],false,false,none,(sr [oO 1 (.boxL 1 (.t 0)),oZ 2 0,oZ 3 0] (.seq (sr [oLa 6 1 2 1,cP 7 23 [.t 6],oU 8 7] (.cond (.t 8) (sr [oZ 2 1,oZ 3 0] .ret) .skip)) (.seq (sr [oA 9 1 1,oL 10 1 9,oY 11 10,oZ 12 0] (.block 0 L9_0)) (sr [oZ 2 0,oZ 3 0] .ret))))⟩
theorem ok9:zh Try.prog Try.f9 F9=true:=by kernel_rfl
def L14_0:ICode:= .loop [2,7,8,9,16,17,18] []
 (sr [
 oP 19 .lss 18 17]
 (.seq
 (.cond (.t 19)
 .skip
 (.exit 2))
 (.seq
 (.block 3
 (sr [
 oI 20 1 16 18,
 oG 21 20,
 oE 6 21]
 (.region [
 oM 22 2,
 oE 23 6,
 cP 24 14 [.t 23],
 oP 25 .add 22 24,
 oM 2 25])))
 (.region [
 oD 26 .add 18 1,
 oM 18 26]))))
def L14_1:ICode:= .loop [2,7,8,9] [4]
 (sr [
 oP 10 .lss 9 8]
 (.seq
 (.cond (.t 10)
 .skip
 (.exit 0))
 (.seq
 (.block 1
 (sr [
 oI 11 8 7 9,
 oW 12 8 11,
 oO 4 (.boxL 4 (.c (.agg [.int .i64 0,.int .i64 0,.int .i64 0,.str [],.slice .fit 1 [],.slice .fit 1 [],.slice .fit 1 [],.slice .fit 1 []]))),
 oS 4 8 4 12]
 (sr [
 oM 13 2,
 oD 14 .add 13 1,
 oM 2 14]
 (sr [
 oA 15 7 4,
 oL 16 4 15,
 oY 17 16,
 oZ 18 0]
 (.block 2
 L14_0)))))
 (.region [
 oD 27 .add 9 1,
 oM 9 27]))))
abbrev K14_0:List Nat:=[7,8,9,16,17]
abbrev B14_0:List Nat:=[]
abbrev K14_1:List Nat:=[7,8]
abbrev B14_1:List Nat:=[]
def F14:IFn:=⟨29,1,[.tmp 2],false,false,none,(sr [oZ 2 0] (.seq (sr [oE 7 0,oY 8 7,oZ 9 0] (.block 0 L14_1)) (sr [oM 28 2,oM 2 28] .ret)))⟩
theorem ok14:zh Try.prog Try.f14 F14=true:=by kernel_rfl
def F28:IFn:=⟨10,0,[.cell 0 true 2],false,false,none,(sr [oO 0 (.boxL 0 (.c (.agg [.slice .fit 2 [],.slice .fit 5 []])))] (sr [oO 1 (.bslice 1 (.int .i64 0) 1 [(0,(cI 1))]),oO 2 (.bslice 1 (.int .i64 0) 1 [(0,(cI 0))]),oO 3 (.build [.int .i64 0,.int .i64 0,.int .i64 0,.str [],.slice .fit 1 [],.slice .fit 1 [],.slice .fit 1 [],.slice .fit 1 []] [(0,1,(cI 1)),(2,1,(cI 7)),(5,1,(.t 2))]),oO 4 (.bsliceS 1 (.int .i64 0) 1 [(0,(cI 0))]),oO 5 (.build [.int .i64 0,.int .i64 0,.int .i64 0,.str [],.slice .fit 1 [],.slice .fit 1 [],.slice .fit 1 [],.slice .fit 1 []] [(0,1,(cI 15)),(4,1,(.t 4))]),oO 6 (.bsliceS 8 (.agg [.int .i64 0,.int .i64 0,.int .i64 0,.str [],.slice .fit 1 [],.slice .fit 1 [],.slice .fit 1 [],.slice .fit 1 []]) 2 [(0,(.t 3)),(1,(.t 5))]),oO 7 (.build [.str [],.int .i64 0,.int .i64 0,.slice .fit 1 [],.slice .fit 8 []] [(0,1,(.c (.str [109,97,105,110]))),(1,1,(cI 1)),(3,1,(.t 1)),(4,1,(.t 6))]),oO 8 (.bsliceS 5 (.agg [.str [],.int .i64 0,.int .i64 0,.slice .fit 1 [],.slice .fit 8 []]) 1 [(0,(.t 7))]),oO 9 (.build [.slice .fit 2 [],.slice .fit 5 []] [(1,1,(.t 8))]),oS 0 2 0 9] .ret))⟩
theorem ok28:zh Try.prog Try.f28 F28=true:=by kernel_rfl
def F12:IFn:=⟨60,0,[.tmp 0],true,false,none,(sr [oC 0 bF] (sr [cF 8 28 [],oO 1 (.boxL 1 (.c (.agg [.slice .fit 2 [],.slice .fit 5 []]))),oS 1 2 1 8] (sr [oLa 10 1 2 1,oO 11 (.callV (.c (.fn 9 [] [])) [.t 10]),oM 9 11,oX 12 9 0,oX 13 9 1,oM 2 12,oM 3 13] (sr [oA 14 1 1,oL 15 1 14,oO 16 (.iaddr 5 (.t 15) (cI 0)),oA 17 4 16,oG 18 17,oO 19 (.iaddr 8 (.t 18) (cI 1)),oA 20 4 19,oG 21 20,oO 22 (.iaddr 1 (.t 21) (cI 0)),oN (.store .any 1 (.t 22) (cI 1))] (sr [oLa 24 1 2 1,oO 25 (.callV (.c (.fn 9 [] [])) [.t 24]),oM 23 25,oX 26 23 0,oX 27 23 1,oM 4 26,oM 5 27] (sr [oO 29 (.build [.slice .fit 2 [],.slice .fit 5 []] []),cP 30 9 [.t 29],oM 28 30,oX 31 28 0,oX 32 28 1,oM 6 31,oM 7 32] (sr [oM 33 2,oD 34 .eql 33 0,oM 35 34,oTm 35 36 4,oT 35 37 (.bin 0 [] .eql (.t 36) (cI 80)),oO 38 (.pick (.t 35) (.t 37) (.c bF)),oM 39 38,oTm 39 40 5,oT 39 41 (.bin 0 [] .eql (.t 40) (cI 0)),oO 42 (.pick (.t 39) (.t 41) (.c bF)),oM 43 42,oTm 43 44 6,oT 43 45 (.bin 0 [] .eql (.t 44) (cI 1)),oO 46 (.pick (.t 43) (.t 45) (.c bF)),oM 47 46,oT 47 48 (.build [.int .i64 0,.int .i64 0,.int .i64 0,.str [],.slice .fit 1 [],.slice .fit 1 [],.slice .fit 1 [],.slice .fit 1 []] [(0,1,(cI 13))]),oT 47 49 (pP 29 [.t 48]),oO 50 (.pick (.t 47) (.t 49) (.c bF)),oM 51 50,oT 51 52 (.faddr 1 (.t 1)),oT 51 53 (.load (.box 1) false 1 (.t 52)),oT 51 54 (.iaddr 5 (.t 53) (cI 0)),oT 51 55 (.faddr 4 (.t 54)),oT 51 56 (.load .any false 1 (.t 55)),oT 51 57 (.callV (.c (.fn 14 [] [])) [.t 56]),oT 51 58 (.bin 0 [] .eql (.t 57) (cI 2)),oO 59 (.pick (.t 51) (.t 58) (.c bF)),oM 0 59] .ret)))))))⟩
theorem ok12:zh Try.prog Try.f12 F12=true:=by kernel_rfl
def L30_0:ICode:= .loop [0,1,5,6] []
 (.seq
 (sr [
 oM 7 6,
 oM 8 0,
 oY 9 8,
 oP 10 .lss 7 9]
 (.cond (.t 10)
 .skip
 (.exit 0)))
 (.seq
 (.block 1
 (sr [
 oM 13 0,
 oM 14 6,
 oI 15 1 13 14,
 oG 16 15,
 oD 17 .geq 16 0,
 oM 18 17,
 oTm 18 19 0,
 oTm 18 20 6,
 oT 18 21 (.iaddr 1 (.t 19) (.t 20)),
 oT 18 22 (.load .any false 1 (.t 21)),
 oTm 18 23 1,
 oT 18 24 (.len 1 (.t 23)),
 oT 18 25 (.bin 0 [] .lss (.t 22) (.t 24)),
 oO 26 (.pick (.t 18) (.t 25) (.c bF))]
 (.cond (.t 26)
 (.region [
 oE 27 5,
 oM 28 1,
 oM 29 0,
 oM 30 6,
 oI 31 1 29 30,
 oG 32 31,
 oI 33 1 28 32,
 oG 34 33,
 oO 35 (.bslice 1 (.int .i64 0) 1 [(0,(.t 34))]),
 oO 36 (.append 1 8 (.t 27) (.t 35)),
 oE 5 36])
 .skip)))
 (.region [
 oM 11 6,
 oD 12 .add 11 1,
 oM 6 12])))
abbrev K30_0:List Nat:=[0,1]
abbrev B30_0:List Nat:=[]
def F30:IFn:=⟨38,2,[.tmp 4],false,false,none,(sr [oC 4 (.slice .fit 1 [])] (sr [oC 5 (.slice .fit 1 [])] (.seq (sr [oZ 6 0] (.block 0 L30_0)) (sr [oE 37 5,oE 4 37] .ret))))⟩
theorem ok30:zh Try.prog Try.f30 F30=true:=by kernel_rfl
def L13_0:ICode:= .loop [0,1,5,6,7,8,9] []
 (.seq
 (sr [
 oM 35 9,
 oA 36 7 7,
 oL 37 7 36,
 oY 38 37,
 oP 39 .lss 35 38]
 (.cond (.t 39)
 .skip
 (.exit 2)))
 (.seq
 (.block 3
 (.region [
 oE 42 8,
 oA 43 7 7,
 oL 44 7 43,
 oM 45 9,
 oI 46 1 44 45,
 oG 47 46,
 oM 48 1,
 cP 49 13 [.t 47,.t 48],
 oO 50 (.bslice 1 (.slice .fit 8 []) 1 [(0,(.t 49))]),
 oO 51 (.append 1 24 (.t 42) (.t 50)),
 oE 8 51]))
 (.region [
 oM 40 9,
 oD 41 .add 40 1,
 oM 9 41])))
def L13_1:ICode:= .loop [0,1,5,6] [7]
 (.seq
 (sr [
 oM 10 6,
 oM 11 0,
 oY 12 11,
 oP 13 .lss 10 12]
 (.cond (.t 13)
 .skip
 (.exit 0)))
 (.seq
 (.block 1
 (sr [
 oM 16 0,
 oM 17 6,
 oI 18 8 16 17,
 oW 19 8 18,
 oO 7 (.boxL 7 (.c (.agg [.int .i64 0,.int .i64 0,.int .i64 0,.str [],.slice .fit 1 [],.slice .fit 1 [],.slice .fit 1 [],.slice .fit 1 []]))),
 oS 7 8 7 19]
 (sr [
 oA 20 4 7,
 oL 21 7 20,
 oM 22 1,
 cP 23 30 [.t 21,.t 22],
 oA 24 5 7,
 oL 25 7 24,
 oM 26 1,
 cP 27 30 [.t 25,.t 26],
 oA 28 6 7,
 oL 29 7 28,
 oM 30 1,
 cP 31 30 [.t 29,.t 30],
 oA 32 4 7,
 oS 7 1 32 23,
 oA 33 5 7,
 oS 7 1 33 27,
 oA 34 6 7,
 oS 7 1 34 31]
 (sr [
 oC 8 (.slice .fit 1 [])]
 (.seq
 (sr [
 oZ 9 0]
 (.block 2
 L13_0))
 (sr [
 oE 52 8,
 oA 53 7 7,
 oN (.storeT (.box 7) (.t 53) 52)]
 (.region [
 oE 54 5,
 oLa 55 7 8 7,
 oO 56 (.bslice 8 (.agg [.int .i64 0,.int .i64 0,.int .i64 0,.str [],.slice .fit 1 [],.slice .fit 1 [],.slice .fit 1 [],.slice .fit 1 []]) 1 [(0,(.t 55))]),
 oO 57 (.append 8 136 (.t 54) (.t 56)),
 oE 5 57])))))))
 (.region [
 oM 14 6,
 oD 15 .add 14 1,
 oM 6 15])))
abbrev K13_0:List Nat:=[0,1,5,6,7]
abbrev B13_0:List Nat:=[7]
abbrev K13_1:List Nat:=[0,1]
abbrev B13_1:List Nat:=[]
def F13:IFn:=⟨59,2,[.tmp 4],false,false,none,(sr [oC 4 (.slice .fit 8 [])] (sr [oC 5 (.slice .fit 8 [])] (.seq (sr [oZ 6 0] (.block 0 L13_1)) (sr [oE 58 5,oE 4 58] .ret))))⟩
theorem ok13:zh Try.prog Try.f13 F13=true:=by kernel_rfl
def L4_0:ICode:= .loop [3,4,5,7,8,9,10,11] []
 (.seq
 (sr [
 oM 35 11,
 oM 36 8,
 oP 37 .lss 35 36]
 (.cond (.t 37)
 .skip
 (.exit 0)))
 (.seq
 (.block 1
 (sr [
 oM 40 11,
 oM 12 40]
 (.seq
 (sr [
 oM 41 11,
 oA 42 2 7,
 oL 43 7 42,
 oP 44 .geq 41 43]
 (.cond (.t 44)
 (.region [
 oM 45 8,
 oD 46 .sub 45 1,
 oM 47 11,
 oA 48 2 7,
 oL 49 7 48,
 oP 50 .sub 47 49,
 oP 51 .sub 46 50,
 oM 12 51])
 .skip))
 (sr [
 oE 52 9,
 oM 53 12,
 oO 54 (.bslice 1 (.int .i64 0) 1 [(0,(.t 53))]),
 oO 55 (.append 1 8 (.t 52) (.t 54)),
 oE 9 55]
 (.region [
 oM 56 10,
 oM 57 12,
 oA 58 3 7,
 oL 59 7 58,
 oM 60 11,
 oI 61 1 59 60,
 oG 62 61,
 oI 63 1 56 57,
 oV 63 62])))))
 (.region [
 oM 38 11,
 oD 39 .add 38 1,
 oM 11 39])))
abbrev K4_0:List Nat:=[3,4,5,7,8,10]
def F4:IFn:=⟨103,1,[.tmp 2],true,false,none,(sr [oC 2 bF] (sr [cP 16 12 [],oM 3 16] (.seq (sr [oM 17 3,oU 18 17] (.cond (.t 18) (sr [oC 2 bF] .ret) .skip)) (sr [oE 19 0,cF 20 8 [.t 19],oO 4 (.boxL 4 (.c (.agg [.slice .fit 2 [],.slice .fit 5 []]))),oS 4 2 4 20] (sr [oLa 22 4 2 4,oO 23 (.callV (.c (.fn 9 [] [])) [.t 22]),oM 21 23,oX 24 21 0,oX 25 21 1,oM 5 24,oM 6 25] (sr [oA 26 1 4,oL 27 4 26,oO 28 (.iaddr 5 (.t 27) (cI 1)),oW 29 5 28,oO 7 (.boxL 7 (.c (.agg [.str [],.int .i64 0,.int .i64 0,.slice .fit 1 [],.slice .fit 8 []]))),oS 7 5 7 29] (sr [oA 30 3 7,oL 31 7 30,oY 32 31,oM 8 32] (sr [oC 9 (.slice .fit 1 [])] (sr [oM 33 8,oO 34 (.mksliceS 1 (.int .i64 0) 8 (.t 33) (.t 33)),oE 10 34] (.seq (sr [oZ 11 0] (.block 0 L4_0)) (sr [oA 64 0 7,oL 65 7 64,oA 66 1 7,oL 67 7 66,oA 68 2 7,oL 69 7 68,oE 70 10,oA 71 4 7,oL 72 7 71,oE 73 9,cP 74 13 [.t 72,.t 73],oO 75 (.build [.str [],.int .i64 0,.int .i64 0,.slice .fit 1 [],.slice .fit 8 []] [(0,1,(.t 65)),(1,1,(.t 67)),(2,1,(.t 69)),(3,1,(.t 70)),(4,1,(.t 74))]),oO 13 (.boxL 13 (.c (.agg [.str [],.int .i64 0,.int .i64 0,.slice .fit 1 [],.slice .fit 8 []]))),oS 13 5 13 75] (sr [oA 76 1 4,oL 77 4 76,oLa 78 13 5 13,oO 79 (.iaddr 5 (.t 77) (cI 1)),oN (.store .any 5 (.t 79) (.t 78))] (sr [oLa 81 4 2 4,oO 82 (.callV (.c (.fn 9 [] [])) [.t 81]),oM 80 82,oX 83 80 0,oX 84 80 1,oM 14 83,oM 15 84] (sr [oM 85 3,oM 86 85,oTm 86 87 5,oT 86 88 (.bin 0 [] .eql (.t 87) (cI 0)),oO 89 (.pick (.t 86) (.t 88) (.c bF)),oM 90 89,oTm 90 91 14,oT 90 92 (.bin 0 [] .eql (.t 91) (cI 0)),oO 93 (.pick (.t 90) (.t 92) (.c bF)),oM 94 93,oT 94 95 (.faddr 4 (.t 7)),oT 94 96 (.load (.box 7) false 1 (.t 95)),oT 94 97 (pP 14 [.t 96]),oT 94 98 (.faddr 4 (.t 13)),oT 94 99 (.load (.box 13) false 1 (.t 98)),oT 94 100 (pP 14 [.t 99]),oT 94 101 (.bin 0 [] .eql (.t 97) (.t 100)),oO 102 (.pick (.t 94) (.t 101) (.c bF)),oM 2 102] .ret))))))))))))))⟩
theorem ok4:zh Try.prog Try.f4 F4=true:=by kernel_rfl
def fns:Nat->Option IFn
 |36=>some F36
 |35=>some F35
 |54=>some F54
 |76=>some F76
 |57=>some F57
 |55=>some F55
 |56=>some F56
 |79=>some F79
 |77=>some F77
 |78=>some F78
 |58=>some F58
 |59=>some F59
 |37=>some F37
 |22=>some F22
 |8=>some F8
 |60=>some F60
 |80=>some F80
 |61=>some F61
 |62=>some F62
 |38=>some F38
 |39=>some F39
 |63=>some F63
 |64=>some F64
 |40=>some F40
 |23=>some F23
 |65=>some F65
 |41=>some F41
 |42=>some F42
 |49=>some F49
 |91=>some F91
 |72=>some F72
 |92=>some F92
 |74=>some F74
 |73=>some F73
 |50=>some F50
 |51=>some F51
 |29=>some F29
 |81=>some F81
 |110=>some F110
 |94=>some F94
 |111=>some F111
 |112=>some F112
 |95=>some F95
 |113=>some F113
 |97=>some F97
 |96=>some F96
 |82=>some F82
 |67=>some F67
 |83=>some F83
 |84=>some F84
 |114=>some F114
 |122=>some F122
 |115=>some F115
 |98=>some F98
 |123=>some F123
 |116=>some F116
 |117=>some F117
 |99=>some F99
 |85=>some F85
 |66=>some F66
 |43=>some F43
 |24=>some F24
 |9=>some F9
 |14=>some F14
 |28=>some F28
 |12=>some F12
 |30=>some F30
 |13=>some F13
 |4=>some F4
 |_=>none
set_option maxRecDepth 100000 in
theorem fnsOk:∀f F,fns f=some F->∃fn,Try.prog.funcs[f]? =some fn/\zh Try.prog fn F=true:=by
 intro f F h;unfold fns at h;split at h
 ·cases h;exact⟨Try.f36,Try.func36,ok36⟩
 ·cases h;exact⟨Try.f35,Try.func35,ok35⟩
 ·cases h;exact⟨Try.f54,Try.func54,ok54⟩
 ·cases h;exact⟨Try.f76,Try.func76,ok76⟩
 ·cases h;exact⟨Try.f57,Try.func57,ok57⟩
 ·cases h;exact⟨Try.f55,Try.func55,ok55⟩
 ·cases h;exact⟨Try.f56,Try.func56,ok56⟩
 ·cases h;exact⟨Try.f79,Try.func79,ok79⟩
 ·cases h;exact⟨Try.f77,Try.func77,ok77⟩
 ·cases h;exact⟨Try.f78,Try.func78,ok78⟩
 ·cases h;exact⟨Try.f58,Try.func58,ok58⟩
 ·cases h;exact⟨Try.f59,Try.func59,ok59⟩
 ·cases h;exact⟨Try.f37,Try.func37,ok37⟩
 ·cases h;exact⟨Try.f22,Try.func22,ok22⟩
 ·cases h;exact⟨Try.f8,Try.func8,ok8⟩
 ·cases h;exact⟨Try.f60,Try.func60,ok60⟩
 ·cases h;exact⟨Try.f80,Try.func80,ok80⟩
 ·cases h;exact⟨Try.f61,Try.func61,ok61⟩
 ·cases h;exact⟨Try.f62,Try.func62,ok62⟩
 ·cases h;exact⟨Try.f38,Try.func38,ok38⟩
 ·cases h;exact⟨Try.f39,Try.func39,ok39⟩
 ·cases h;exact⟨Try.f63,Try.func63,ok63⟩
 ·cases h;exact⟨Try.f64,Try.func64,ok64⟩
 ·cases h;exact⟨Try.f40,Try.func40,ok40⟩
 ·cases h;exact⟨Try.f23,Try.func23,ok23⟩
 ·cases h;exact⟨Try.f65,Try.func65,ok65⟩
 ·cases h;exact⟨Try.f41,Try.func41,ok41⟩
 ·cases h;exact⟨Try.f42,Try.func42,ok42⟩
 ·cases h;exact⟨Try.f49,Try.func49,ok49⟩
 ·cases h;exact⟨Try.f91,Try.func91,ok91⟩
 ·cases h;exact⟨Try.f72,Try.func72,ok72⟩
 ·cases h;exact⟨Try.f92,Try.func92,ok92⟩
 ·cases h;exact⟨Try.f74,Try.func74,ok74⟩
 ·cases h;exact⟨Try.f73,Try.func73,ok73⟩
 ·cases h;exact⟨Try.f50,Try.func50,ok50⟩
 ·cases h;exact⟨Try.f51,Try.func51,ok51⟩
 ·cases h;exact⟨Try.f29,Try.func29,ok29⟩
 ·cases h;exact⟨Try.f81,Try.func81,ok81⟩
 ·cases h;exact⟨Try.f110,Try.func110,ok110⟩
 ·cases h;exact⟨Try.f94,Try.func94,ok94⟩
 ·cases h;exact⟨Try.f111,Try.func111,ok111⟩
 ·cases h;exact⟨Try.f112,Try.func112,ok112⟩
 ·cases h;exact⟨Try.f95,Try.func95,ok95⟩
 ·cases h;exact⟨Try.f113,Try.func113,ok113⟩
 ·cases h;exact⟨Try.f97,Try.func97,ok97⟩
 ·cases h;exact⟨Try.f96,Try.func96,ok96⟩
 ·cases h;exact⟨Try.f82,Try.func82,ok82⟩
 ·cases h;exact⟨Try.f67,Try.func67,ok67⟩
 ·cases h;exact⟨Try.f83,Try.func83,ok83⟩
 ·cases h;exact⟨Try.f84,Try.func84,ok84⟩
 ·cases h;exact⟨Try.f114,Try.func114,ok114⟩
 ·cases h;exact⟨Try.f122,Try.func122,ok122⟩
 ·cases h;exact⟨Try.f115,Try.func115,ok115⟩
 ·cases h;exact⟨Try.f98,Try.func98,ok98⟩
 ·cases h;exact⟨Try.f123,Try.func123,ok123⟩
 ·cases h;exact⟨Try.f116,Try.func116,ok116⟩
 ·cases h;exact⟨Try.f117,Try.func117,ok117⟩
 ·cases h;exact⟨Try.f99,Try.func99,ok99⟩
 ·cases h;exact⟨Try.f85,Try.func85,ok85⟩
 ·cases h;exact⟨Try.f66,Try.func66,ok66⟩
 ·cases h;exact⟨Try.f43,Try.func43,ok43⟩
 ·cases h;exact⟨Try.f24,Try.func24,ok24⟩
 ·cases h;exact⟨Try.f9,Try.func9,ok9⟩
 ·cases h;exact⟨Try.f14,Try.func14,ok14⟩
 ·cases h;exact⟨Try.f28,Try.func28,ok28⟩
 ·cases h;exact⟨Try.f12,Try.func12,ok12⟩
 ·cases h;exact⟨Try.f30,Try.func30,ok30⟩
 ·cases h;exact⟨Try.f13,Try.func13,ok13⟩
 ·cases h;exact⟨Try.f4,Try.func4,ok4⟩
 ·cases h
def hand:Nat->Option HFn:=fun _=>none
theorem handOk:∀f H,hand f=some H->∃fn cl,Try.prog.funcs[f]? =some fn/\Try.prog.funcs[H.k]? =some cl/\checkH Try.prog fn cl H=true:=by
 intro f H h;cases h
noncomputable def E:Env:={fn:=fns,ext:=fun _=>none,hand:=hand}
theorem envOk:EnvOk Try.prog [] E:=⟨fnsOk,fun f g h args st r st' hg=>(nomatch h),handOk⟩
end PE.U

namespace PE.U
open Go PE
noncomputable def one(op a:Int):Int:=
 if op=20 then W (0-a)else if op=21 then xor64 (-1) a else if op=22 then(if a=0 then 1 else 0)
 else if op=23 then W (zX .i8 a)else if op=24 then W (zX .i16 a)else if op=25 then W (zX .i32 a)
 else if op=26 then W (zX .u8 a)else if op=27 then W (zX .u16 a)else if op=28 then W (zX .u32 a)else 0
def cmp(op a b:Int):Bool×Bool:=
 if op=12 then(decide (a<b),true)else if op=13 then(decide (a<=b),true)else if op=14 then(decide (b<a),true)
 else if op=15 then(decide (b<=a),true)else if op=16 then(decide (a=b),true)else if op=17 then(!decide (a=b),true)else(false,false)
noncomputable def two(op a b:Int):Int×Bool:=
 if(cmp op a b).2=true then(if(cmp op a b).1=true then 1 else 0,true)
 else if op=1 then(W (a+b),true)else if op=2 then(W (a-b),true)else if op=3 then(W (a*b),true)
 else if op=6 then(and64 a b,true)else if op=7 then(or64 a b,true)else if op=8 then(xor64 a b,true)
 else if op=9 then(W (a*2^(min (and64 b 63).toNat 64)),true)else if op=10 then(shrK a (min (and64 b 63).toNat 64),true)
 else if op=11 then(W (shrK (zX .u64 a) (min (and64 b 63).toNat 64)),true)
 else if b=0 then(0,false)else if op=4 then(W (a.tdiv b),true)else if op=5 then(remK a b,true)else(0,false)
structure Node where
 kind:Int
 op:Int
 n:Int
 name:List UInt8
 args:List Int
 outs:List Int
 params:List Int
 kids:List (List Node)
structure Flow where
 name:List UInt8
 type:Int
 params:Int
 types:List Int
 body:List Node
structure Arr where
 name:List UInt8
 size:Int
structure Unt where
 arrays:List Arr
 flows:List Flow
abbrev int(n:Int):PV:= .int .i64 n
def ints(l:List Int):PV:= .slice .plain 1 (l.map (PV.int .i64))
mutual
def zQ:Node->PV
 |⟨k,o,n,s,a,u,p,ks⟩=> .agg [.int .i64 k,.int .i64 o,.int .i64 n,.str s,ints a,ints u,ints p,.slice .plain 1 (encK ks)]
def encL:List Node->List PV
 | []=>[]
 |x::r=>zQ x::encL r
def encK:List (List Node)->List PV
 | []=>[]
 |l::r=> .slice .plain 8 (encL l)::encK r
end
theorem encL_eq(l:List Node):encL l=l.map zQ:=by
 induction l with
 |nil=>rfl
 |cons x r ih=>rw[encL,ih];rfl
def zj(l:List Node):PV:= .slice .plain 8 (l.map zQ)
def kids(l:List (List Node)):PV:= .slice .plain 1 (l.map zj)
theorem encK_eq(l:List (List Node)):encK l=l.map zj:=by
 induction l with
 |nil=>rfl
 |cons x r ih=>rw[encK,ih,encL_eq];rfl
theorem za(x:Node):zQ x= .agg [.int .i64 x.kind,.int .i64 x.op,.int .i64 x.n,.str x.name,ints x.args,ints x.outs,ints x.params,kids x.kids]:=by
 cases x;simp[zQ,encK_eq,kids]
mutual
theorem flatN(k:Nat):∀x:Node,zr k (zQ x)=true
 |⟨_,_,_,_,a,u,p,ks⟩=>by simp[zQ,ints,flatK k ks]
theorem flatL(k:Nat):∀l:List Node,zH k (encL l)=true
 | []=>rfl
 |x::r=>by simp[encL,flatN k x,flatL k r]
theorem flatK(k:Nat):∀l:List (List Node),zH k (encK l)=true
 | []=>rfl
 |x::r=>by simp[encK,flatL k x,flatK k r]
end
def zg(f:Flow):PV:= .agg [.str f.name,.int .i64 f.type,.int .i64 f.params,ints f.types,zj f.body]
def zea(a:Arr):PV:= .agg [.str a.name,.int .i64 a.size]
def flows(l:List Flow):PV:= .slice .plain 5 (l.map zg)
def arrs(l:List Arr):PV:= .slice .plain 2 (l.map zea)
def encUnt(u:Unt):PV:= .agg [arrs u.arrays,flows u.flows]
section
variable (k:Nat)
@[simp] theorem flat_ints(l:List Int):zr k (ints l)=true:=by simp[ints]
@[simp] theorem flat_node(x:Node):zr k (zQ x)=true:=flatN k x
@[simp] theorem flat_nodes(l:List Node):zr k (zj l)=true:=by simp[zj]
@[simp] theorem flat_kids(l:List (List Node)):zr k (kids l)=true:=by simp[kids]
@[simp] theorem flat_flow(f:Flow):zr k (zg f)=true:=by simp[zg]
@[simp] theorem flat_arr(f:Arr):zr k (zea f)=true:=by simp[zea]
@[simp] theorem flat_flows(f:List Flow):zr k (flows f)=true:=by simp[flows]
@[simp] theorem flat_arrs(f:List Arr):zr k (arrs f)=true:=by simp[arrs]
@[simp] theorem flat_unt(f:Unt):zr k (encUnt f)=true:=by simp[encUnt]
end
section
variable (n:Nat)
@[simp high] theorem bl_int(l:List Int):zH n (l.map (PV.int .i64))=true:=zQc _ _ _ (fun _=>rfl)
@[simp high] theorem bl_node(l:List Node):zH n (l.map zQ)=true:=zQc _ _ _ (flat_node n)
@[simp high] theorem bl_nodes(l:List (List Node)):zH n (l.map zj)=true:=zQc _ _ _ (flat_nodes n)
@[simp high] theorem bl_flow(l:List Flow):zH n (l.map zg)=true:=zQc _ _ _ (flat_flow n)
@[simp high] theorem bl_arr(l:List Arr):zH n (l.map zea)=true:=zQc _ _ _ (flat_arr n)
end
section
@[simp high] theorem isVar_ints(l:List Int):zq (ints l)=true:=yd rfl rfl
@[simp high] theorem canon1_ints(l:List Int):canon1 (ints l)=ints l:=yd rfl rfl
@[simp high] theorem strip_ints(l:List Int):strip (ints l)=ints l:=yd rfl rfl
@[simp high] theorem stripA_ints(l:List Int):stripA (ints l)=ints l:=yd rfl rfl
@[simp high] theorem isVar_nodes(l:List Node):zq (zj l)=true:=yd rfl rfl
@[simp high] theorem canon1_nodes(l:List Node):canon1 (zj l)=zj l:=yd rfl rfl
@[simp high] theorem stripA_nodes(l:List Node):stripA (zj l)=zj l:=yd rfl rfl
@[simp high] theorem cellsOf_nodes(l:List Node):cellsOf (zj l)=[zj l]:=yd rfl rfl
@[simp high] theorem canon1_kids(l:List (List Node)):canon1 (kids l)=kids l:=yd rfl rfl
@[simp high] theorem canon1_flows(l:List Flow):canon1 (flows l)=flows l:=yd rfl rfl
@[simp high] theorem canon1_arrs(l:List Arr):canon1 (arrs l)=arrs l:=yd rfl rfl
end
mutual
def wtN:Node->Nat
 |⟨_,_,_,s,a,u,p,ks⟩=>1+s.length+a.length+u.length+p.length+wtK ks
def wtL:List Node->Nat
 | []=>0
 |x::r=>1+wtN x+wtL r
def wtK:List (List Node)->Nat
 | []=>0
 |l::r=>1+wtL l+wtK r
end
theorem zjc(x:Node):wtN x=1+x.name.length+x.args.length+x.outs.length+x.params.length+wtK x.kids:=by cases x;rfl
theorem wtL_append(a b:List Node):wtL (a++b)=wtL a+wtL b:=by
 induction a with
 |nil=>simp[wtL]
 |cons x r ih=>simp[wtL,ih];omega
theorem len_wtL(l:List Node):l.length<=wtL l:=by
 induction l with
 |nil=>simp
 |cons x r ih=>simp[wtL];omega
theorem len_wtK(l:List (List Node)):l.length<=wtK l:=by
 induction l with
 |nil=>simp
 |cons x r ih=>simp[wtK];omega
theorem wt_kid{x:Node}{l:List Node}(h:l∈x.kids):wtL l+2<=wtN x:=by
 rw[zjc];have:∀ks:List (List Node),l∈ks->wtL l+1<=wtK ks:=by
  intro ks
  induction ks with
  |nil=>intro h;cases h
  |cons y r ih=>
   intro h;simp only[wtK];rcases yz.1 h with rfl|h
   ·omega
   ·have:=ih h;omega
 have:=this _ h;omega
theorem wt_mem{x:Node}{l:List Node}(h:x∈l):wtN x+1<=wtL l:=by
 induction l with
 |nil=>cases h
 |cons y r ih=>
  simp only[wtL];rcases yz.1 h with rfl|h
  ·omega
  ·have:=ih h;omega
def zcd(c:Int):Bool:=(decide (97<=c)&&decide (c<=122))||(decide (65<=c)&&decide (c<=90))||decide (c=95)
def digitN(c:Int):Bool:=decide (48<=c)&&decide (c<=57)
theorem zqb(c:Int)(σ:zb):zn E 60 [.int .i32 c] σ=some (.ret (.bool (zcd c)),σ):=by
 refine ze rfl rfl rfl (by simp) ?_
 (simp[*,F60,zcd])<;>(repeat' ((first|refine sP _ ?_ ?_|refine gP _ ?_ ?_|refine sN _ ?_ ?_|refine gN _ ?_ ?_|refine sM _ ?_ ?_|refine gM _ ?_ ?_|refine sB _ ?_ ?_|refine gB _ ?_ ?_)<;>intro hc<;>simp[*,F60,zcd]))
theorem digit_spec(c:Int)(σ:zb):zn E 80 [.int .i32 c] σ=some (.ret (.bool (digitN c)),σ):=by
 refine ze rfl rfl rfl (by simp) ?_
 (simp[*,F80,digitN])<;>(repeat' ((first|refine sP _ ?_ ?_|refine gP _ ?_ ?_|refine sN _ ?_ ?_|refine gN _ ?_ ?_|refine sM _ ?_ ?_|refine gM _ ?_ ?_|refine sB _ ?_ ?_|refine gB _ ?_ ?_)<;>intro hc<;>simp[*,F80,digitN]))
def words:List (List UInt8):=[[105,110,116],[98,111,111,108],[105,102],[101,108,115,101],[119,104,105,108,101],[98,114,101,97,107],[99,111,110,116,105,110,117,101],[114,101,116,117,114,110],
 [112,114,105,110,116],[114,101,97,100],[116,114,117,101],[102,97,108,115,101],[105,56],[105,49,54],[105,51,50],[117,56],[117,49,54],[117,51,50]]
def wordM(s:List UInt8):Bool:=words.contains s
theorem word_spec(s:List UInt8)(σ:zb):zn E 62 [.str s] σ=some (.ret (.bool (wordM s)),σ):=by
 refine ze rfl rfl rfl (by simp) ?_
 (simp[*,F62,wordM,words])<;>(repeat' ((first|refine sP _ ?_ ?_|refine gP _ ?_ ?_|refine sN _ ?_ ?_|refine gN _ ?_ ?_|refine sM _ ?_ ?_|refine gM _ ?_ ?_|refine sB _ ?_ ?_|refine gB _ ?_ ?_)<;>intro hc<;>simp[*,F62,wordM,words]))
def zvb(b:UInt8):Bool:=zcd b.toNat||digitN b.toNat
def runM(s:List UInt8):List UInt8:=s.takeWhile zvb
def nameM(s:List UInt8):Bool:=decide (s≠ [])&&(zcd ((s.head?.getD 0).toNat)&&(s.all zvb&&(decide (s.length<=20)&& !wordM s)))
theorem nameByte_high{b:UInt8}(h:128<=b.toNat):zvb b=false:=by
 simp[zvb,zcd,digitN];omega
theorem high_not{c:Nat}(h:128<=c):zcd c=false/\digitN c=false:=by
 simp[zcd,digitN];omega
theorem zvc{p:UInt8->Bool}:∀{s:List UInt8},s.takeWhile p=s<->s.all p=true
 | []=>by simp
 |b::r=>by
  rw[List.takeWhile_cons];cases h:p b
  ·simp[h]
  ·simp[h,zvc (s:=r)]
theorem run_spec(s:List UInt8)(σ:zb):zn E 61 [.str s] σ=some (.ret (.str (runM s)),σ):=by
 refine ze rfl rfl rfl (by simp) ?_;simp[F61];refine wp_while K61_0 B61_0 (fun d=>s.length-d) (fun d=>[]) (fun d=>[(6,.iter s d)]) (fun _=>σ) (fun d=>d<=s.length/\(s.take d).all zvb=true) 0 (by simp) ?_
 rintro d s1 ⟨hd,ha⟩ h1 h2 h3 h4 h5
 simp at h4;by_cases hlt:d<s.length
 ·have hs:d<(⟨s.toArray⟩:ByteArray).size:=by show d<s.toArray.size;simpa using hlt
  have hget:(⟨s.toArray⟩:ByteArray)[d]'hs=s[d]:=rfl;have htk:s.take (d+1)=s.take d++[s[d]]:=by simp
  by_cases hb:s[d].toNat<128
  ·have hdec:=decode_ascii ⟨s.toArray⟩ d hs (by rw[hget];exact hb);rw[hget]at hdec;cases hn:zvb s[d]
   ·have e:runM s=s.take d:=by
     have:s=s.take d++(s[d]::s.drop (d+1)):=by simp
     unfold runM;rw[this,List.takeWhile_append_of_pos (by simpa using ha),List.takeWhile_cons,hn];simp
    have hn2:=hn;simp only[zvb,Bool.or_eq_false_iff]at hn2;have hmin:min d s.length=d:=by omega
    simp[*,zqb,digit_spec]
   ·have hn2:=hn;simp only[zvb,yy]at hn2;cases hl:zcd s[d].toNat
    ·rw[hl]at hn2;simp at hn2;simp[*,zqb,digit_spec];exact⟨d+1,by omega,rfl,by omega,by rw[<-yn,htk,List.all_append,ha];simp[hn]⟩
    ·simp[*,zqb,digit_spec];exact⟨d+1,by omega,rfl,by omega,by rw[<-yn,htk,List.all_append,ha];simp[hn]⟩
  ·obtain⟨hd1,hd2⟩:=decode_high ⟨s.toArray⟩ d hs (by rw[hget];omega);obtain⟨q1,q2⟩:=high_not hd1;have e:runM s=s.take d:=by
    have:s=s.take d++(s[d]::s.drop (d+1)):=by simp
    unfold runM;rw[this,List.takeWhile_append_of_pos (by simpa using ha),List.takeWhile_cons,nameByte_high (by omega)];simp
   simp[*,zqb,digit_spec]
 ·have hd':d=s.length:=by omega
  subst hd';simp at ha;have e:runM s=s:=by
   unfold runM;exact zvc.2 (by simpa using ha)
  simp[*]
theorem name_spec(s:List UInt8)(σ:zb):zn E 38 [.str s] σ=some (.ret (.bool (nameM s)),σ):=by
 refine ze rfl rfl rfl (by simp) ?_;have hr:decide (runM s=s)=s.all zvb:=by
  unfold runM;simp only[zvc,Bool.decide_eq_true]
 by_cases hne:s=[]
 ·subst hne;simp[F38,nameM]
 obtain⟨b,r,hs⟩:=List.exists_cons_of_ne_nil hne;have hb:s[0]? =some b:=by rw[hs];rfl
 have hd:s.head? =some b:=by rw[hs];rfl
 clear hs;generalize ha:s.all zvb=A at hr
 (simp[*,F38,nameM,zqb,run_spec,word_spec])<;>(repeat' ((first|refine sP _ ?_ ?_|refine gP _ ?_ ?_|refine sN _ ?_ ?_|refine gN _ ?_ ?_|refine sM _ ?_ ?_|refine gM _ ?_ ?_|refine sB _ ?_ ?_|refine gB _ ?_ ?_)<;>intro hc<;>simp[*,F38,nameM,zqb,run_spec,word_spec]))
 all_goals(try grind)
def idx{α:Type}(p:α->Bool)(l:List α):Int:=match l.findIdx? p with
 |some i=>(i:Int)
 |none=> -1
theorem idx_hit{α:Type}{p:α->Bool}{l d:List α}{x:α}{r:List α}(h:Split l d x r)(hd:∀y∈d,p y=false)(hx:p x=true):idx p l=d.length:=by
 have:l.findIdx? p=some d.length:=by
  rw[h.eq,List.findIdx?_append];have:d.findIdx? p=none:=by rw[yW];exact hd
  rw[this];simp[yna,hx]
 simp[idx,this]
theorem idx_none{α:Type}{p:α->Bool}{l:List α}(hd:∀y∈l,p y=false):idx p l= -1:=by
 have:l.findIdx? p=none:=by rw[yW];exact hd
 simp[idx,this]
theorem idx_ge{α:Type}(p:α->Bool)(l:List α):decide (0<=idx p l)=l.any p:=by
 unfold idx;cases h:l.findIdx? p with
 |none=>
  rw[yW]at h;simp;exact h
 |some i=>
  have:(l.findIdx? p).isSome=true:=by rw[h];rfl
  rw[List.findIdx?_isSome]at this;simp[this]
theorem indexFuncFlow(l:List (Flow))(p:Flow->Bool)(k:Nat)(first caps:List PV)(σ:zb)(hl:l.length<1099511627776)(hf:∀x∈l,zn E k (first++[zg x]++caps) σ=some (.ret (.bool (p x)),σ)):
  zn E 63 [.slice .plain 5 (l.map (zg)),.fn k first caps] σ=some (.ret (.int .i64 (idx p l)),σ):=by
 refine ze rfl rfl rfl (by simp) ?_;simp[F63];refine zba l K63_0 B63_0 (fun d=>[(8,.int .i64 d.length)]) (fun _=>σ) (fun d=>∀y∈d,p y=false) (by omega) (by simp) ?_ ?_
 ·intros d x r s hl' hlt hget hget' hw hp h1 h2 h3 h4;have hfx:=hf x hl'.mem;simp[zg]at h1 h3 hfx;clear h2 hf;cases hx:p x
  ·(simp[*,zg])<;>(repeat' ((first|refine sP _ ?_ ?_|refine gP _ ?_ ?_|refine sN _ ?_ ?_|refine gN _ ?_ ?_|refine sM _ ?_ ?_|refine gM _ ?_ ?_|refine sB _ ?_ ?_|refine gB _ ?_ ?_)<;>intro hc<;>simp[*,zg]))
   all_goals(try grind)
  ·have:=idx_hit hl' hp hx
   (simp[*,zg])<;>(repeat' ((first|refine sP _ ?_ ?_|refine gP _ ?_ ?_|refine sN _ ?_ ?_|refine gN _ ?_ ?_|refine sM _ ?_ ?_|refine gM _ ?_ ?_|refine sB _ ?_ ?_|refine gB _ ?_ ?_)<;>intro hc<;>simp[*,zg]))
 ·intros s hp h1 h2 h3 h4;have:=idx_none hp;simp at h1 h3
  (simp[*,zg])<;>(repeat' ((first|refine sP _ ?_ ?_|refine gP _ ?_ ?_|refine sN _ ?_ ?_|refine gN _ ?_ ?_|refine sM _ ?_ ?_|refine gM _ ?_ ?_|refine sB _ ?_ ?_|refine gB _ ?_ ?_)<;>intro hc<;>simp[*,zg]))
theorem indexFuncInt(l:List (Int))(p:Int->Bool)(k:Nat)(first caps:List PV)(σ:zb)(hl:l.length<1099511627776)(hf:∀x∈l,zn E k (first++[PV.int .i64 x]++caps) σ=some (.ret (.bool (p x)),σ)):
  zn E 65 [.slice .plain 1 (l.map (PV.int .i64)),.fn k first caps] σ=some (.ret (.int .i64 (idx p l)),σ):=by
 refine ze rfl rfl rfl (by simp) ?_;simp[F65];refine zba l K65_0 B65_0 (fun d=>[(8,.int .i64 d.length)]) (fun _=>σ) (fun d=>∀y∈d,p y=false) (by omega) (by simp) ?_ ?_
 ·intros d x r s hl' hlt hget hget' hw hp h1 h2 h3 h4;have hfx:=hf x hl'.mem;simp at h1 h3 hfx;clear h2 hf;cases hx:p x
  ·(simp[*])<;>(repeat' ((first|refine sP _ ?_ ?_|refine gP _ ?_ ?_|refine sN _ ?_ ?_|refine gN _ ?_ ?_|refine sM _ ?_ ?_|refine gM _ ?_ ?_|refine sB _ ?_ ?_|refine gB _ ?_ ?_)<;>intro hc<;>simp[*]))
   all_goals(try grind)
  ·have:=idx_hit hl' hp hx
   (simp[*])<;>(repeat' ((first|refine sP _ ?_ ?_|refine gP _ ?_ ?_|refine sN _ ?_ ?_|refine gN _ ?_ ?_|refine sM _ ?_ ?_|refine gM _ ?_ ?_|refine sB _ ?_ ?_|refine gB _ ?_ ?_)<;>intro hc<;>simp[*]))
 ·intros s hp h1 h2 h3 h4;have:=idx_none hp;simp at h1 h3
  (simp[*])<;>(repeat' ((first|refine sP _ ?_ ?_|refine gP _ ?_ ?_|refine sN _ ?_ ?_|refine gN _ ?_ ?_|refine sM _ ?_ ?_|refine gM _ ?_ ?_|refine sB _ ?_ ?_|refine gB _ ?_ ?_)<;>intro hc<;>simp[*]))
theorem containsFuncInt(l:List (Int))(p:Int->Bool)(k:Nat)(first caps:List PV)(σ:zb)(hl:l.length<1099511627776)(hc:(first.map stripA)=first/\(caps.map stripA)=caps)(hf:∀x∈l,zn E k (first++[PV.int .i64 x]++caps) σ=some (.ret (.bool (p x)),σ)):
  zn E 41 [.slice .plain 1 (l.map (PV.int .i64)),.fn k first caps] σ=some (.ret (.bool (l.any p)),σ):=by
 refine ze rfl rfl rfl (by simp) ?_;have h:=indexFuncInt l p k first caps σ hl hf;have h2:=idx_ge p l;clear hf
 (simp[*,F41])<;>(repeat' ((first|refine sP _ ?_ ?_|refine gP _ ?_ ?_|refine sN _ ?_ ?_|refine gN _ ?_ ?_|refine sM _ ?_ ?_|refine gM _ ?_ ?_|refine sB _ ?_ ?_|refine gB _ ?_ ?_)<;>intro hc<;>simp[*,F41]))
theorem indexFuncNode(l:List (Node))(p:Node->Bool)(k:Nat)(first caps:List PV)(σ:zb)(hl:l.length<1099511627776)(hf:∀x∈l,zn E k (first++[zQ x]++caps) σ=some (.ret (.bool (p x)),σ)):
  zn E 91 [.slice .plain 8 (l.map (zQ)),.fn k first caps] σ=some (.ret (.int .i64 (idx p l)),σ):=by
 refine ze rfl rfl rfl (by simp) ?_;simp[F91];refine zba l K91_0 B91_0 (fun d=>[(8,.int .i64 d.length)]) (fun _=>σ) (fun d=>∀y∈d,p y=false) (by omega) (by simp) ?_ ?_
 ·intros d x r s hl' hlt hget hget' hw hp h1 h2 h3 h4;have hfx:=hf x hl'.mem;simp[za]at h1 h3 hfx;clear h2 hf;cases hx:p x
  ·(simp[*,za])<;>(repeat' ((first|refine sP _ ?_ ?_|refine gP _ ?_ ?_|refine sN _ ?_ ?_|refine gN _ ?_ ?_|refine sM _ ?_ ?_|refine gM _ ?_ ?_|refine sB _ ?_ ?_|refine gB _ ?_ ?_)<;>intro hc<;>simp[*,za]))
   all_goals(try grind)
  ·have:=idx_hit hl' hp hx
   (simp[*,za])<;>(repeat' ((first|refine sP _ ?_ ?_|refine gP _ ?_ ?_|refine sN _ ?_ ?_|refine gN _ ?_ ?_|refine sM _ ?_ ?_|refine gM _ ?_ ?_|refine sB _ ?_ ?_|refine gB _ ?_ ?_)<;>intro hc<;>simp[*,za]))
 ·intros s hp h1 h2 h3 h4;have:=idx_none hp;simp at h1 h3
  (simp[*,za])<;>(repeat' ((first|refine sP _ ?_ ?_|refine gP _ ?_ ?_|refine sN _ ?_ ?_|refine gN _ ?_ ?_|refine sM _ ?_ ?_|refine gM _ ?_ ?_|refine sB _ ?_ ?_|refine gB _ ?_ ?_)<;>intro hc<;>simp[*,za]))
theorem containsFuncNode(l:List (Node))(p:Node->Bool)(k:Nat)(first caps:List PV)(σ:zb)(hl:l.length<1099511627776)(hc:(first.map stripA)=first/\(caps.map stripA)=caps)(hf:∀x∈l,zn E k (first++[zQ x]++caps) σ=some (.ret (.bool (p x)),σ)):
  zn E 72 [.slice .plain 8 (l.map (zQ)),.fn k first caps] σ=some (.ret (.bool (l.any p)),σ):=by
 refine ze rfl rfl rfl (by simp) ?_;have h:=indexFuncNode l p k first caps σ hl hf;have h2:=idx_ge p l;clear hf
 (simp[*,F72])<;>(repeat' ((first|refine sP _ ?_ ?_|refine gP _ ?_ ?_|refine sN _ ?_ ?_|refine gN _ ?_ ?_|refine sM _ ?_ ?_|refine gM _ ?_ ?_|refine sB _ ?_ ?_|refine gB _ ?_ ?_)<;>intro hc<;>simp[*,F72]))
theorem indexFuncArr(l:List (Arr))(p:Arr->Bool)(k:Nat)(first caps:List PV)(σ:zb)(hl:l.length<1099511627776)(hf:∀x∈l,zn E k (first++[zea x]++caps) σ=some (.ret (.bool (p x)),σ)):
  zn E 123 [.slice .plain 2 (l.map (zea)),.fn k first caps] σ=some (.ret (.int .i64 (idx p l)),σ):=by
 refine ze rfl rfl rfl (by simp) ?_;simp[F123];refine zba l K123_0 B123_0 (fun d=>[(8,.int .i64 d.length)]) (fun _=>σ) (fun d=>∀y∈d,p y=false) (by omega) (by simp) ?_ ?_
 ·intros d x r s hl' hlt hget hget' hw hp h1 h2 h3 h4;have hfx:=hf x hl'.mem;simp[zea]at h1 h3 hfx;clear h2 hf;cases hx:p x
  ·(simp[*,zea])<;>(repeat' ((first|refine sP _ ?_ ?_|refine gP _ ?_ ?_|refine sN _ ?_ ?_|refine gN _ ?_ ?_|refine sM _ ?_ ?_|refine gM _ ?_ ?_|refine sB _ ?_ ?_|refine gB _ ?_ ?_)<;>intro hc<;>simp[*,zea]))
   all_goals(try grind)
  ·have:=idx_hit hl' hp hx
   (simp[*,zea])<;>(repeat' ((first|refine sP _ ?_ ?_|refine gP _ ?_ ?_|refine sN _ ?_ ?_|refine gN _ ?_ ?_|refine sM _ ?_ ?_|refine gM _ ?_ ?_|refine sB _ ?_ ?_|refine gB _ ?_ ?_)<;>intro hc<;>simp[*,zea]))
 ·intros s hp h1 h2 h3 h4;have:=idx_none hp;simp at h1 h3
  (simp[*,zea])<;>(repeat' ((first|refine sP _ ?_ ?_|refine gP _ ?_ ?_|refine sN _ ?_ ?_|refine gN _ ?_ ?_|refine sM _ ?_ ?_|refine gM _ ?_ ?_|refine sB _ ?_ ?_|refine gB _ ?_ ?_)<;>intro hc<;>simp[*,zea]))
theorem containsFuncArr(l:List (Arr))(p:Arr->Bool)(k:Nat)(first caps:List PV)(σ:zb)(hl:l.length<1099511627776)(hc:(first.map stripA)=first/\(caps.map stripA)=caps)(hf:∀x∈l,zn E k (first++[zea x]++caps) σ=some (.ret (.bool (p x)),σ)):
  zn E 116 [.slice .plain 2 (l.map (zea)),.fn k first caps] σ=some (.ret (.bool (l.any p)),σ):=by
 refine ze rfl rfl rfl (by simp) ?_;have h:=indexFuncArr l p k first caps σ hl hf;have h2:=idx_ge p l;clear hf
 (simp[*,F116])<;>(repeat' ((first|refine sP _ ?_ ?_|refine gP _ ?_ ?_|refine sN _ ?_ ?_|refine gN _ ?_ ?_|refine sM _ ?_ ?_|refine gM _ ?_ ?_|refine sB _ ?_ ?_|refine gB _ ?_ ?_)<;>intro hc<;>simp[*,F116]))
theorem indexFuncList(l:List (List Node))(p:List Node->Bool)(k:Nat)(first caps:List PV)(σ:zb)(hl:l.length<1099511627776)(hf:∀x∈l,zn E k (first++[zj x]++caps) σ=some (.ret (.bool (p x)),σ)):
  zn E 92 [.slice .plain 1 (l.map (zj)),.fn k first caps] σ=some (.ret (.int .i64 (idx p l)),σ):=by
 refine ze rfl rfl rfl (by simp) ?_;simp[F92];refine zba l K92_0 B92_0 (fun d=>[(8,.int .i64 d.length)]) (fun _=>σ) (fun d=>∀y∈d,p y=false) (by omega) (by simp) ?_ ?_
 ·intros d x r s hl' hlt hget hget' hw hp h1 h2 h3 h4;have hfx:=hf x hl'.mem;simp at h1 h3 hfx;clear h2 hf;cases hx:p x
  ·(simp[*])<;>(repeat' ((first|refine sP _ ?_ ?_|refine gP _ ?_ ?_|refine sN _ ?_ ?_|refine gN _ ?_ ?_|refine sM _ ?_ ?_|refine gM _ ?_ ?_|refine sB _ ?_ ?_|refine gB _ ?_ ?_)<;>intro hc<;>simp[*]))
   all_goals(try grind)
  ·have:=idx_hit hl' hp hx
   (simp[*])<;>(repeat' ((first|refine sP _ ?_ ?_|refine gP _ ?_ ?_|refine sN _ ?_ ?_|refine gN _ ?_ ?_|refine sM _ ?_ ?_|refine gM _ ?_ ?_|refine sB _ ?_ ?_|refine gB _ ?_ ?_)<;>intro hc<;>simp[*]))
 ·intros s hp h1 h2 h3 h4;have:=idx_none hp;simp at h1 h3
  (simp[*])<;>(repeat' ((first|refine sP _ ?_ ?_|refine gP _ ?_ ?_|refine sN _ ?_ ?_|refine gN _ ?_ ?_|refine sM _ ?_ ?_|refine gM _ ?_ ?_|refine sB _ ?_ ?_|refine gB _ ?_ ?_)<;>intro hc<;>simp[*]))
theorem containsFuncList(l:List (List Node))(p:List Node->Bool)(k:Nat)(first caps:List PV)(σ:zb)(hl:l.length<1099511627776)(hc:(first.map stripA)=first/\(caps.map stripA)=caps)(hf:∀x∈l,zn E k (first++[zj x]++caps) σ=some (.ret (.bool (p x)),σ)):
  zn E 74 [.slice .plain 1 (l.map (zj)),.fn k first caps] σ=some (.ret (.bool (l.any p)),σ):=by
 refine ze rfl rfl rfl (by simp) ?_;have h:=indexFuncList l p k first caps σ hl hf;have h2:=idx_ge p l;clear hf
 (simp[*,F74])<;>(repeat' ((first|refine sP _ ?_ ?_|refine gP _ ?_ ?_|refine sN _ ?_ ?_|refine gN _ ?_ ?_|refine sM _ ?_ ?_|refine gM _ ?_ ?_|refine sB _ ?_ ?_|refine gB _ ?_ ?_)<;>intro hc<;>simp[*,F74]))
def zZ(l:List Flow)(s:List UInt8):Int:=idx (fun f=>decide (f.name=s)) l
def zFb(l:List Arr)(s:List UInt8):Bool:=l.any fun a=>decide (a.name=s)
def arrAt(l:List Arr)(s:List UInt8):Int:=idx (fun f=>decide (f.name=s)) l
theorem place_spec(u:Unt)(s:List UInt8)(σ:zb)(hl:u.flows.length<1099511627776):zn E 40 [encUnt u,.str s] σ=some (.ret (.int .i64 (zZ u.flows s)),σ):=by
 refine ze rfl rfl rfl (by simp[encUnt]) ?_;have h:=indexFuncFlow u.flows (fun f=>decide (f.name=s)) 64 [] [.iptr [.str s] 0] σ hl (by
  intro x hx;refine ze rfl rfl rfl (by simp[zg]) ?_
  (simp[*,F64,zg])<;>(repeat' ((first|refine sP _ ?_ ?_|refine gP _ ?_ ?_|refine sN _ ?_ ?_|refine gN _ ?_ ?_|refine sM _ ?_ ?_|refine gM _ ?_ ?_|refine sB _ ?_ ?_|refine gB _ ?_ ?_)<;>intro hc<;>simp[*,F64,zg])))
 (simp[*,F40,encUnt,zZ,flows])<;>(repeat' ((first|refine sP _ ?_ ?_|refine gP _ ?_ ?_|refine sN _ ?_ ?_|refine gN _ ?_ ?_|refine sM _ ?_ ?_|refine gM _ ?_ ?_|refine sB _ ?_ ?_|refine gB _ ?_ ?_)<;>intro hc<;>simp[*,F40,encUnt,zZ,flows]))
theorem hasArray_spec(u:Unt)(s:List UInt8)(σ:zb)(hl:u.arrays.length<1099511627776):zn E 99 [encUnt u,.str s] σ=some (.ret (.bool (zFb u.arrays s)),σ):=by
 refine ze rfl rfl rfl (by simp[encUnt]) ?_;have h:=containsFuncArr u.arrays (fun f=>decide (f.name=s)) 117 [] [.iptr [.str s] 0] σ hl (by simp) (by
  intro x hx;refine ze rfl rfl rfl (by simp[zea]) ?_
  (simp[*,F117,zea])<;>(repeat' ((first|refine sP _ ?_ ?_|refine gP _ ?_ ?_|refine sN _ ?_ ?_|refine gN _ ?_ ?_|refine sM _ ?_ ?_|refine gM _ ?_ ?_|refine sB _ ?_ ?_|refine gB _ ?_ ?_)<;>intro hc<;>simp[*,F117,zea])))
 (simp[*,F99,encUnt,zFb,arrs])<;>(repeat' ((first|refine sP _ ?_ ?_|refine gP _ ?_ ?_|refine sN _ ?_ ?_|refine gN _ ?_ ?_|refine sM _ ?_ ?_|refine gM _ ?_ ?_|refine sB _ ?_ ?_|refine gB _ ?_ ?_)<;>intro hc<;>simp[*,F99,encUnt,zFb,arrs]))
def Node.ends(n:Node):Bool:=decide (12<=n.kind)&&decide (n.kind<=15)
def zpa(l:List Node):Bool:=match l.getLast? with
 |some n=>decide (n.kind=12)
 |none=>false
mutual
def Node.leaves:Node->Bool
 |⟨k,_,_,_,_,_,_,ks⟩=>decide (k=14)||(decide (k=10)&&leavesK ks)
def zP:List Node->Bool
 | []=>false
 |x::r=>x.leaves||zP r
def leavesK:List (List Node)->Bool
 | []=>false
 |l::r=>zP l||leavesK r
end
theorem leavesL_eq(l:List Node):zP l=l.any Node.leaves:=by
 induction l with
 |nil=>rfl
 |cons x r ih=>simp[zP,ih]
theorem leavesK_eq(l:List (List Node)):leavesK l=l.any zP:=by
 induction l with
 |nil=>rfl
 |cons x r ih=>simp[leavesK,ih]
theorem leaves_eq(x:Node):x.leaves=(decide (x.kind=14)||(decide (x.kind=10)&&x.kids.any zP)):=by
 cases x;simp[Node.leaves,leavesK_eq]
def zi(n:Node):Bool:=
 if n.kind=10/\n.kids.length=2 then n.kids.all fun l=> !zpa l
 else if n.kind=11/\n.kids.length=1 then n.kids.all fun l=> !zP l
 else n.ends
def endK(k:Int):Bool:=decide (12<=k)&&decide (k<=15)
theorem ends_raw(k:Int)(a b c d e f g:PV)(σ:zb):zn E 51 [.agg [.int .i64 k,a,b,c,d,e,f,g]] σ=some (.ret (.bool (endK k)),σ):=by
 refine ze rfl rfl rfl (by simp) ?_
 (simp[*,F51,endK])<;>(repeat' ((first|refine sP _ ?_ ?_|refine gP _ ?_ ?_|refine sN _ ?_ ?_|refine gN _ ?_ ?_|refine sM _ ?_ ?_|refine gM _ ?_ ?_|refine sB _ ?_ ?_|refine gB _ ?_ ?_)<;>intro hc<;>simp[*,F51,endK]))
theorem rends_raw(k:Int)(a b c d e f g:PV)(σ:zb):zn E 79 [.agg [.int .i64 k,a,b,c,d,e,f,g]] σ=some (.ret (.bool (endK k)),σ):=by
 refine ze rfl rfl rfl (by simp) ?_
 (simp[*,F79,endK])<;>(repeat' ((first|refine sP _ ?_ ?_|refine gP _ ?_ ?_|refine sN _ ?_ ?_|refine gN _ ?_ ?_|refine sM _ ?_ ?_|refine gM _ ?_ ?_|refine sB _ ?_ ?_|refine gB _ ?_ ?_)<;>intro hc<;>simp[*,F79,endK]))
theorem rends_spec(x:Node)(σ:zb):zn E 79 [zQ x] σ=some (.ret (.bool x.ends),σ):=by
 rw[za,rends_raw];rfl
theorem yields_spec(l:List Node)(σ:zb)(hl:l.length<1099511627776):zn E 49 [zj l] σ=some (.ret (.bool (zpa l)),σ):=by
 refine ze rfl rfl rfl (by simp) ?_;rcases List.eq_nil_or_concat l with rfl|⟨d,x,rfl⟩
 ·(simp[*,F49,zj,zpa])<;>(repeat' ((first|refine sP _ ?_ ?_|refine gP _ ?_ ?_|refine sN _ ?_ ?_|refine gN _ ?_ ?_|refine sM _ ?_ ?_|refine gM _ ?_ ?_|refine sB _ ?_ ?_|refine gB _ ?_ ?_)<;>intro hc<;>simp[*,F49,zj,zpa]))
 ·have hw:zX .i64 (d.length:Int)=d.length:=zo (by omega) (by simp at hl;omega);have hp:(0:Int)<d.length+1:=by omega
  (simp[*,F49,zj,zpa,za])<;>(repeat' ((first|refine sP _ ?_ ?_|refine gP _ ?_ ?_|refine sN _ ?_ ?_|refine gN _ ?_ ?_|refine sM _ ?_ ?_|refine gM _ ?_ ?_|refine sB _ ?_ ?_|refine gB _ ?_ ?_)<;>intro hc<;>simp[*,F49,zj,zpa,za]))
def lastM(l:List Node):Int:=match l.getLast? with
 |some n=>if n.ends then n.kind else 0
 |none=>0
theorem lastM_eq(l:List Node):decide (lastM l=12)=zpa l:=by
 unfold lastM zpa;cases l.getLast? with
 |none=>simp
 |some n=>
  simp only[Node.ends];by_cases h:n.kind=12
  ·simp[h]
  ·simp[h];split<;>simp[h]
theorem rlast_spec(l:List Node)(σ:zb)(hl:l.length<1099511627776):zn E 77 [zj l] σ=some (.ret (.int .i64 (lastM l)),σ):=by
 refine ze rfl rfl rfl (by simp) ?_;rcases List.eq_nil_or_concat l with rfl|⟨d,x,rfl⟩
 ·(simp[*,F77,zj,lastM])<;>(repeat' ((first|refine sP _ ?_ ?_|refine gP _ ?_ ?_|refine sN _ ?_ ?_|refine gN _ ?_ ?_|refine sM _ ?_ ?_|refine gM _ ?_ ?_|refine sB _ ?_ ?_|refine gB _ ?_ ?_)<;>intro hc<;>simp[*,F77,zj,lastM]))
 ·have hw:zX .i64 (d.length:Int)=d.length:=zo (by omega) (by simp at hl;omega);have hp:¬(d.length:Int)+1=0:=by omega
  have he:=rends_spec x [];simp[za]at he
  (simp[*,F77,zj,lastM,za])<;>(repeat' ((first|refine sP _ ?_ ?_|refine gP _ ?_ ?_|refine sN _ ?_ ?_|refine gN _ ?_ ?_|refine sM _ ?_ ?_|refine gM _ ?_ ?_|refine sB _ ?_ ?_|refine gB _ ?_ ?_)<;>intro hc<;>simp[*,F77,zj,lastM,za]))
  all_goals(try grind)
theorem leaves_spec:∀(N:Nat) (l:List Node) (σ:zb),wtL l<=N->N<1099511627776->zn E 50 [zj l] σ=some (.ret (.bool (zP l)),σ):=by
 intro N
 induction N using Nat.strongRecOn with
 |ind N ih=>
  intro l σ hl hN;refine ze rfl rfl rfl (by simp) ?_;have h:=containsFuncNode l Node.leaves 73 [] [] σ (by have:=len_wtL l;omega) (by simp) (by
   intro x hx;refine ze rfl rfl rfl (by simp[za]) ?_;have hw:=wt_mem hx;have hk:=zjc x;have hk2:=len_wtK x.kids;have h:=containsFuncList x.kids zP 50 [] [] σ (by omega) (by simp) (by
    intro y hy;have:=wt_kid hy;exact ih (wtL y) (by omega) y σ (yl _) (by omega))
   (simp[*,F73,za,leaves_eq,kids])<;>(repeat' ((first|refine sP _ ?_ ?_|refine gP _ ?_ ?_|refine sN _ ?_ ?_|refine gN _ ?_ ?_|refine sM _ ?_ ?_|refine gM _ ?_ ?_|refine sB _ ?_ ?_|refine gB _ ?_ ?_)<;>intro hc<;>simp[*,F73,za,leaves_eq,kids])))
  (simp[*,F50,leavesL_eq,zj])<;>(repeat' ((first|refine sP _ ?_ ?_|refine gP _ ?_ ?_|refine sN _ ?_ ?_|refine gN _ ?_ ?_|refine sM _ ?_ ?_|refine gM _ ?_ ?_|refine sB _ ?_ ?_|refine gB _ ?_ ?_)<;>intro hc<;>simp[*,F50,leavesL_eq,zj]))
theorem rleaves_spec:∀(N:Nat) (l:List Node) (σ:zb),wtL l<=N->N<1099511627776->zn E 78 [zj l] σ=some (.ret (.bool (zP l)),σ):=by
 intro N
 induction N using Nat.strongRecOn with
 |ind N ih=>
  intro l σ hl hN;refine ze rfl rfl rfl (by simp) ?_;have hll:=len_wtL l;simp[F78];refine zba l K78_1 B78_1 (fun d=>[(3,.int .i64 d.length)]) (fun _=>σ) (fun d=>∀y∈d,y.leaves=false) (by omega) (by simp) ?_ ?_
  ·intros d x r s hl' hlt hget hget' hw hp h1 h2 h3 h4;simp at h1 h3;clear h2;have hx:=hl'.mem;have hwx:=wt_mem hx;have hk:=zjc x;have hk2:=len_wtK x.kids;have hex:=leaves_eq x;have hel:zP l=l.any Node.leaves:=leavesL_eq l;by_cases h14:x.kind=14
   ·(simp[*,zj,za])<;>(repeat' ((first|refine sP _ ?_ ?_|refine gP _ ?_ ?_|refine sN _ ?_ ?_|refine gN _ ?_ ?_|refine sM _ ?_ ?_|refine gM _ ?_ ?_|refine sB _ ?_ ?_|refine gB _ ?_ ?_)<;>intro hc<;>simp[*,zj,za]))
    all_goals(try grind)
   ·simp[*,zj,za];refine zba (if x.kind=10 then x.kids else[]) K78_0 B78_0 (fun d=>[(4,.int .i64 d.length)]) (fun _=>σ) (fun d=>∀y∈d,zP y=false) (by split<;>simp<;>omega) (by simp) ?_ ?_
    ·intros d' y r' s' hl'' hlt' hget2 hget2' hw' hp' h1' h2' h3' h4';simp at h1' h3';clear h2';by_cases h10:x.kind=10
     ·simp[h10]at hl'' hlt' hget2 hget2';have hy:=hl''.mem;have:=wt_kid hy;have hr:=ih (wtL y) (by omega) y [] (yl _) (by omega);simp[zj]at hr
      (simp[*,zj,za,kids])<;>(repeat' ((first|refine sP _ ?_ ?_|refine gP _ ?_ ?_|refine sN _ ?_ ?_|refine gN _ ?_ ?_|refine sM _ ?_ ?_|refine gM _ ?_ ?_|refine sB _ ?_ ?_|refine gB _ ?_ ?_)<;>intro hc<;>simp[*,zj,za,kids]))
      all_goals(try grind)
     ·exfalso;simp[h10]at hlt'
    ·intros s' hp' h1' h2' h3' h4';simp at h1' h3';clear h2';by_cases h10:x.kind=10
     ·simp[h10]at h3' hp'
      (simp[*,zj,za,kids])<;>(repeat' ((first|refine sP _ ?_ ?_|refine gP _ ?_ ?_|refine sN _ ?_ ?_|refine gN _ ?_ ?_|refine sM _ ?_ ?_|refine gM _ ?_ ?_|refine sB _ ?_ ?_|refine gB _ ?_ ?_)<;>intro hc<;>simp[*,zj,za,kids]))
      all_goals(try grind)
     ·simp[h10]at h3' hp'
      (simp[*,zj,za,kids])<;>(repeat' ((first|refine sP _ ?_ ?_|refine gP _ ?_ ?_|refine sN _ ?_ ?_|refine gN _ ?_ ?_|refine sM _ ?_ ?_|refine gM _ ?_ ?_|refine sB _ ?_ ?_|refine gB _ ?_ ?_)<;>intro hc<;>simp[*,zj,za,kids]))
      all_goals(try grind)
  ·intros s hp h1 h2 h3 h4;simp at h1 h3;have hel:zP l=l.any Node.leaves:=leavesL_eq l
   (simp[*,zj,za])<;>(repeat' ((first|refine sP _ ?_ ?_|refine gP _ ?_ ?_|refine sN _ ?_ ?_|refine gN _ ?_ ?_|refine sM _ ?_ ?_|refine gM _ ?_ ?_|refine sB _ ?_ ?_|refine gB _ ?_ ?_)<;>intro hc<;>simp[*,zj,za]))
   all_goals(try grind)
theorem zdc(x:Node)(σ:zb)(hx:wtN x<1099511627776):zn E 29 [zQ x] σ=some (.ret (.bool (zi x)),σ):=by
 refine ze rfl rfl rfl (by simp[za]) ?_;have he:x.ends=endK x.kind:=rfl;have hk:∀l∈x.kids,wtL l+2<=wtN x:=fun l=>wt_kid
 have hy:∀l∈x.kids,zn E 49 [zj l] []=some (.ret (.bool (zpa l)),[]):=fun l hl=>yields_spec l [] (by have:=len_wtL l;have:=hk l hl;omega)
 have hv:∀l∈x.kids,zn E 50 [zj l] []=some (.ret (.bool (zP l)),[]):=fun l hl=>leaves_spec (wtL l) l [] (yl _) (by have:=hk l hl;omega)
 have hks:zi x=if x.kind=10/\x.kids.length=2 then(x.kids.all fun l=> !zpa l)else if x.kind=11/\x.kids.length=1 then(x.kids.all fun l=> !zP l)else x.ends:=rfl
 rcases hkk:x.kids with _|⟨a,_|⟨b,_|⟨c,t⟩⟩⟩
 all_goals
  rw[hkk]at hy hv;simp at hy hv
  (simp[*,F29,za,kids,ends_raw])<;>(repeat' ((first|refine sP _ ?_ ?_|refine gP _ ?_ ?_|refine sN _ ?_ ?_|refine gN _ ?_ ?_|refine sM _ ?_ ?_|refine gM _ ?_ ?_|refine sB _ ?_ ?_|refine gB _ ?_ ?_)<;>intro hc<;>simp[*,F29,za,kids,ends_raw]))
  all_goals(try grind)
theorem zxb(x:Node)(σ:zb)(hx:wtN x<1099511627776):zn E 58 [zQ x] σ=some (.ret (.bool (zi x)),σ):=by
 refine ze rfl rfl rfl (by simp[za]) ?_;have he:x.ends=endK x.kind:=rfl;have hk:∀l∈x.kids,wtL l+2<=wtN x:=fun l=>wt_kid
 have hy:∀l∈x.kids,zn E 77 [zj l] []=some (.ret (.int .i64 (lastM l)),[]):=fun l hl=>rlast_spec l [] (by have:=len_wtL l;have:=hk l hl;omega)
 have hv:∀l∈x.kids,zn E 78 [zj l] []=some (.ret (.bool (zP l)),[]):=fun l hl=>rleaves_spec (wtL l) l [] (yl _) (by have:=hk l hl;omega)
 have hks:zi x=if x.kind=10/\x.kids.length=2 then(x.kids.all fun l=> !decide (lastM l=12))else if x.kind=11/\x.kids.length=1 then(x.kids.all fun l=> !zP l)else x.ends:=by simp only[lastM_eq];rfl
 rcases hkk:x.kids with _|⟨a,_|⟨b,_|⟨c,t⟩⟩⟩
 all_goals
  rw[hkk]at hy hv;simp at hy hv
  (simp[*,F58,za,kids,rends_raw])<;>(repeat' ((first|refine sP _ ?_ ?_|refine gP _ ?_ ?_|refine sN _ ?_ ?_|refine gN _ ?_ ?_|refine sM _ ?_ ?_|refine gM _ ?_ ?_|refine sB _ ?_ ?_|refine gB _ ?_ ?_)<;>intro hc<;>simp[*,F58,za,kids,rends_raw]))
  all_goals(try grind)
abbrev St1:=List Int
def stO(S:List Int):Obj:= .arr 1 (S.map (PV.int .i64))
def chkV(u:Unt)(f:Flow)(n:Nat):PV:= .iptr [arrs u.arrays,flows u.flows,.str f.name,.int .i64 f.type,.int .i64 f.params,ints f.types,zj f.body,.mslice 0 0 n 1] 0
def at0(l:List Int)(v:Int):Int:=(l[v.toNat]?).getD 0
theorem at0_get{l:List Int}{v:Int}(h0:0<=v)(h1:v<l.length):l[v.toNat]? =some (at0 l v):=by
 unfold at0;have:v.toNat<l.length:=by omega
 simp[this]
theorem zld{l:List Int}{v:Int}(h0:0<=v)(h1:v<l.length)(h:v.toNat<l.length):l[v.toNat]'h=at0 l v:=by
 unfold at0;simp[h]
def valM(ty:List Int)(v t:Int):Bool:=decide (0<=v)&&(decide (v<ty.length)&&(decide (t=0)||decide (at0 ty v=t)))
theorem value_spec(u:Unt)(f:Flow)(n:Nat)(v t:Int)(σ:zb):zn E 110 [chkV u f n,.int .i64 v,.int .i64 t] σ=some (.ret (.bool (valM f.types v t)),σ):=by
 refine ze rfl rfl rfl (by simp[chkV]) ?_;by_cases h0:0<=v
 ·by_cases h1:v<f.types.length
  ·have h2:=at0_get h0 h1;have h3:v.toNat<f.types.length:=by omega
   have h4:=zld h0 h1 h3
   (simp[*,F110,chkV,ints,valM])<;>(repeat' ((first|refine sP _ ?_ ?_|refine gP _ ?_ ?_|refine sN _ ?_ ?_|refine gN _ ?_ ?_|refine sM _ ?_ ?_|refine gM _ ?_ ?_|refine sB _ ?_ ?_|refine gB _ ?_ ?_)<;>intro hc<;>simp[*,F110,chkV,ints,valM]))
  ·(simp[*,F110,chkV,ints,valM])<;>(repeat' ((first|refine sP _ ?_ ?_|refine gP _ ?_ ?_|refine sN _ ?_ ?_|refine gN _ ?_ ?_|refine sM _ ?_ ?_|refine gM _ ?_ ?_|refine sB _ ?_ ?_|refine gB _ ?_ ?_)<;>intro hc<;>simp[*,F110,chkV,ints,valM]))
 ·(simp[*,F110,chkV,ints,valM])<;>(repeat' ((first|refine sP _ ?_ ?_|refine gP _ ?_ ?_|refine sN _ ?_ ?_|refine gN _ ?_ ?_|refine sM _ ?_ ?_|refine gM _ ?_ ?_|refine sB _ ?_ ?_|refine gB _ ?_ ?_)<;>intro hc<;>simp[*,F110,chkV,ints,valM]))
def typesM(ty l:List Int):List Int:=if l.all (fun v=>valM ty v 0)then l.map (at0 ty)else[]
theorem zqa{ty:List Int}{v t:Int}(h:valM ty v t=true):0<=v/\v<ty.length:=by
 simp[valM]at h;exact⟨h.1,h.2.1⟩
theorem types_spec(u:Unt)(f:Flow)(n:Nat)(l:List Int)(σ:zb)(hl:l.length<1099511627776):zn E 94 [chkV u f n,ints l] σ=some (.ret (ints (typesM f.types l)),σ):=by
 refine ze rfl rfl rfl (by simp[chkV]) ?_;simp[F94,ints];refine zba l K94_0 B94_0 (fun d=>[(9,.int .i64 d.length),(4,acc 1 (d.map fun v=> .int .i64 (at0 f.types v)))]) (fun _=>σ) (fun d=>d.all (fun v=>valM f.types v 0)=true) (by omega) (by simp) ?_ ?_
 ·intros d x r s hl' hlt hget hget' hw hp h1 h2 h3 h4;simp at h1 h3;clear h2;have hv:=value_spec u f n x 0 σ;cases hx:valM f.types x 0
  ·have:typesM f.types l=[]:=by
    unfold typesM;rw[if_neg];rw[hl'.eq];simp[hx]
   simp[chkV]at hv
   (simp[*,chkV])<;>(repeat' ((first|refine sP _ ?_ ?_|refine gP _ ?_ ?_|refine sN _ ?_ ?_|refine gN _ ?_ ?_|refine sM _ ?_ ?_|refine gM _ ?_ ?_|refine sB _ ?_ ?_|refine gB _ ?_ ?_)<;>intro hc<;>simp[*,chkV]))
  ·obtain⟨r0,r1⟩:=zqa hx;have q1:=at0_get r0 r1;have q2:x.toNat<f.types.length:=by omega
   have q3:=zld r0 r1 q2;have q4:(d.length+1)*8<=zl:=by simp only[zl];omega
   simp[chkV,ints]at hv
   (simp[*,chkV,ints])<;>(repeat' ((first|refine sP _ ?_ ?_|refine gP _ ?_ ?_|refine sN _ ?_ ?_|refine gN _ ?_ ?_|refine sM _ ?_ ?_|refine gM _ ?_ ?_|refine sB _ ?_ ?_|refine gB _ ?_ ?_)<;>intro hc<;>simp[*,chkV,ints]))
 ·intros s hp h1 h2 h3 h4;simp at h1 h3;have:typesM f.types l=l.map (at0 f.types):=by
   unfold typesM;rw[if_pos hp]
  (simp[*,ints])<;>(repeat' ((first|refine sP _ ?_ ?_|refine gP _ ?_ ?_|refine sN _ ?_ ?_|refine gN _ ?_ ?_|refine sM _ ?_ ?_|refine gM _ ?_ ?_|refine sB _ ?_ ?_|refine gB _ ?_ ?_)<;>intro hc<;>simp[*,ints]))
def eqGo{S:Type}(g:S->Int->Int->Bool×S):S->List (Int×Int)->Bool×S
 |s,[]=>(true,s)
 |s,p::r=>if(g s p.1 p.2).1 then eqGo g (g s p.1 p.2).2 r else(false,(g s p.1 p.2).2)
theorem zhd{S:Type}(g:S->Int->Int->Bool×S):∀(d r:List (Int×Int)) (s:S),eqGo g s (d++r)=if(eqGo g s d).1 then eqGo g (eqGo g s d).2 r else(false,(eqGo g s d).2)
 | [],r,s=>by simp[eqGo]
 |p::d,r,s=>by
  simp only[List.cons_append,eqGo];split
  ·rename_i h;simp[zhd g d r]
  ·simp
def eqM{S:Type}(g:S->Int->Int->Bool×S)(s:S)(l ts:List Int):Bool×S:=if l.length=ts.length then eqGo g s (l.zip ts)else(false,s)
theorem equalFunc_spec{S:Type}(g:S->Int->Int->Bool×S)(e:S->zb)(J:S->Prop)(s0:S)(l ts:List Int)(k:Nat)(first caps:List PV)(hl:l.length<1099511627776)(hJ:J s0)
  (hg:∀s v t,J s->J (g s v t).2/\zn E k (first++[.int .i64 v,.int .i64 t]++caps) (e s)=some (.ret (.bool (g s v t).1),e (g s v t).2)):
  zn E 111 [ints l,ints ts,.fn k first caps] (e s0)=some (.ret (.bool (eqM g s0 l ts).1),e (eqM g s0 l ts).2):=by
 refine ze rfl rfl rfl (by simp) ?_;by_cases hlen:l.length=ts.length
 ·have hm:eqM g s0 l ts=eqGo g s0 (l.zip ts):=by simp[eqM,hlen]
  simp[F111,ints,hlen];refine zba (l.zip ts) K111_0 B111_0 (fun d=>[(17,.int .i64 d.length)]) (fun d=>e (eqGo g s0 d).2) (fun d=>(eqGo g s0 d).1=true/\J (eqGo g s0 d).2) (by simp;omega) (by simp[eqGo,hJ]) ?_ ?_
  ·rintro d ⟨v,t⟩ r s hl' hlt hget hget' hw ⟨hp,hj⟩ h1 h2 h3 h4
   simp at h1 h3;clear h2;rw[yba]at hget;obtain⟨g1,g2⟩:=hget;have hlt1:d.length<l.length:=by simp at hlt;omega
   have hlt2:d.length<ts.length:=by omega
   have g1':l[d.length]=v:=by simpa[hlt1]using g1
   have g2':ts[d.length]=t:=by simpa[hlt2]using g2
   obtain⟨hj',hc⟩:=hg (eqGo g s0 d).2 v t hj;have e1:eqGo g s0 (d++[(v,t)])=((g (eqGo g s0 d).2 v t).1,(g (eqGo g s0 d).2 v t).2):=by
    rw[zhd,hp];simp only[eqGo,if_true];cases(g (eqGo g s0 d).2 v t).1<;>rfl
   have e2:(g (eqGo g s0 d).2 v t).1=false->eqGo g s0 (l.zip ts)=(false,(g (eqGo g s0 d).2 v t).2):=by
    intro hf;rw[hl'.eq,zhd,hp];simp[eqGo,hf]
   clear hg;simp at hc;rw[hm];cases hb:(g (eqGo g s0 d).2 v t).1
   ·have e3:=e2 hb;clear e2;rw[hb]at hc e1
    (simp[*,ints])<;>(repeat' ((first|refine sP _ ?_ ?_|refine gP _ ?_ ?_|refine sN _ ?_ ?_|refine gN _ ?_ ?_|refine sM _ ?_ ?_|refine gM _ ?_ ?_|refine sB _ ?_ ?_|refine gB _ ?_ ?_)<;>intro hc<;>simp[*,ints]))
   ·clear e2;rw[hb]at hc e1
    (simp[*,ints])<;>(repeat' ((first|refine sP _ ?_ ?_|refine gP _ ?_ ?_|refine sN _ ?_ ?_|refine gN _ ?_ ?_|refine sM _ ?_ ?_|refine gM _ ?_ ?_|refine sB _ ?_ ?_|refine gB _ ?_ ?_)<;>intro hc<;>simp[*,ints]))
  ·rintro s ⟨hp,hj⟩ h1 h2 h3 h4
   have hz:(l.zip ts).length=l.length:=by simp;omega
   rw[hz]at h3;simp at h1 h3;clear hg
   (simp[*,ints])<;>(repeat' ((first|refine sP _ ?_ ?_|refine gP _ ?_ ?_|refine sN _ ?_ ?_|refine gN _ ?_ ?_|refine sM _ ?_ ?_|refine gM _ ?_ ?_|refine sB _ ?_ ?_|refine gB _ ?_ ?_)<;>intro hc<;>simp[*,ints]))
 ·have hm:eqM g s0 l ts=(false,s0):=by simp[eqM,hlen]
  have hlen':¬(l.length:Int)=ts.length:=by omega
  clear hg
  (simp[*,F111,ints])<;>(repeat' ((first|refine sP _ ?_ ?_|refine gP _ ?_ ?_|refine sN _ ?_ ?_|refine gN _ ?_ ?_|refine sM _ ?_ ?_|refine gM _ ?_ ?_|refine sB _ ?_ ?_|refine gB _ ?_ ?_)<;>intro hc<;>simp[*,F111,ints]))
def useG(ty:List Int)(S:St1)(v t:Int):Bool×St1:=(valM ty v t&&decide (at0 S v=1),S)
def zCa(ty:List Int)(S:St1)(l ts:List Int):Bool:=(eqM (useG ty) S l ts).1
theorem eqGo_useG(ty:List Int)(S:St1):∀l,(eqGo (useG ty) S l).2=S
 | []=>rfl
 |p::r=>by
  simp only[eqGo];split
  ·exact eqGo_useG ty S r
  ·rfl
theorem eqM_useG(ty:List Int)(S:St1)(l ts:List Int):(eqM (useG ty) S l ts).2=S:=by
 unfold eqM;split
 ·exact eqGo_useG _ _ _
 ·rfl
theorem use1_spec(u:Unt)(f:Flow)(S:St1)(v t:Int)(hS:S.length=f.types.length):
  zn E 112 [.int .i64 v,.int .i64 t,.iptr [chkV u f f.types.length] 0] [stO S]=some (.ret (.bool (useG f.types S v t).1),[stO S]):=by
 refine ze rfl rfl rfl (by simp) ?_;have hv:=value_spec u f f.types.length v t [stO S];simp[chkV,ints,stO]at hv;cases hx:valM f.types v t
 ·(simp[*,F112,useG,chkV,stO,ints])<;>(repeat' ((first|refine sP _ ?_ ?_|refine gP _ ?_ ?_|refine sN _ ?_ ?_|refine gN _ ?_ ?_|refine sM _ ?_ ?_|refine gM _ ?_ ?_|refine sB _ ?_ ?_|refine gB _ ?_ ?_)<;>intro hc<;>simp[*,F112,useG,chkV,stO,ints]))
 ·obtain⟨r0,r1⟩:=zqa hx;have q0:v<S.length:=by omega
  have q1:=at0_get r0 q0;have q2:v.toNat<S.length:=by omega
  have q3:=zld r0 q0 q2;have q4:v.toNat<f.types.length:=by omega
  (simp[*,F112,useG,chkV,stO,ints])<;>(repeat' ((first|refine sP _ ?_ ?_|refine gP _ ?_ ?_|refine sN _ ?_ ?_|refine gN _ ?_ ?_|refine sM _ ?_ ?_|refine gM _ ?_ ?_|refine sB _ ?_ ?_|refine gB _ ?_ ?_)<;>intro hc<;>simp[*,F112,useG,chkV,stO,ints]))
theorem zFa(u:Unt)(f:Flow)(S:St1)(l ts:List Int)(hS:S.length=f.types.length)(hl:l.length<1099511627776):
  zn E 95 [chkV u f f.types.length,ints l,ints ts] [stO S]=some (.ret (.bool (zCa f.types S l ts)),[stO S]):=by
 refine ze rfl rfl rfl (by simp[chkV]) ?_;have h:=equalFunc_spec (useG f.types) (fun S=>[stO S]) (fun S=>S.length=f.types.length) S l ts 112 [] [.iptr [chkV u f f.types.length] 0] hl hS (fun s v t hs=>⟨hs,use1_spec u f s v t hs⟩);simp only[eqM_useG]at h;simp[chkV]at h
 (simp[*,F95,chkV,zCa])<;>(repeat' ((first|refine sP _ ?_ ?_|refine gP _ ?_ ?_|refine sN _ ?_ ?_|refine gN _ ?_ ?_|refine sM _ ?_ ?_|refine gM _ ?_ ?_|refine sB _ ?_ ?_|refine gB _ ?_ ?_)<;>intro hc<;>simp[*,F95,chkV,zCa]))
def setG(ty:List Int)(S:St1)(v t:Int):Bool×St1:=if valM ty v t&&decide (at0 S v=0)then(true,S.set v.toNat 1)else(false,S)
def setM(ty:List Int)(S:St1)(l ts:List Int):Bool×St1:=eqM (setG ty) S l ts
theorem setG_len(ty:List Int)(S:St1)(v t:Int):(setG ty S v t).2.length=S.length:=by
 unfold setG;split<;>simp
theorem eqGo_setG_len(ty:List Int):∀(l:List (Int×Int)) (S:St1),(eqGo (setG ty) S l).2.length=S.length
 | [],S=>rfl
 |p::r,S=>by
  simp only[eqGo];split
  ·rw[eqGo_setG_len ty r,setG_len]
  ·rw[setG_len]
theorem zSc(ty:List Int)(S:St1)(l ts:List Int):(setM ty S l ts).2.length=S.length:=by
 unfold setM eqM;split
 ·exact eqGo_setG_len _ _ _
 ·rfl
theorem set1_spec(u:Unt)(f:Flow)(S:St1)(v t:Int)(hS:S.length=f.types.length):
  zn E 113 [.int .i64 v,.int .i64 t,.iptr [chkV u f f.types.length] 0] [stO S]=some (.ret (.bool (setG f.types S v t).1),[stO (setG f.types S v t).2]):=by
 refine ze rfl rfl rfl (by simp) ?_;have hv:=value_spec u f f.types.length v t [stO S];simp[chkV,ints,stO]at hv;cases hx:valM f.types v t
 ·(simp[*,F113,setG,chkV,stO,ints])<;>(repeat' ((first|refine sP _ ?_ ?_|refine gP _ ?_ ?_|refine sN _ ?_ ?_|refine gN _ ?_ ?_|refine sM _ ?_ ?_|refine gM _ ?_ ?_|refine sB _ ?_ ?_|refine gB _ ?_ ?_)<;>intro hc<;>simp[*,F113,setG,chkV,stO,ints]))
 ·obtain⟨r0,r1⟩:=zqa hx;have q0:v<S.length:=by omega
  have q1:=at0_get r0 q0;have q2:v.toNat<S.length:=by omega
  have q3:=zld r0 q0 q2;have q4:v.toNat<f.types.length:=by omega
  (simp[*,F113,setG,chkV,stO,ints,zF,zob,List.map_set])<;>(repeat' ((first|refine sP _ ?_ ?_|refine gP _ ?_ ?_|refine sN _ ?_ ?_|refine gN _ ?_ ?_|refine sM _ ?_ ?_|refine gM _ ?_ ?_|refine sB _ ?_ ?_|refine gB _ ?_ ?_)<;>intro hc<;>simp[*,F113,setG,chkV,stO,ints,zF,zob,List.map_set]))
theorem set_spec(u:Unt)(f:Flow)(S:St1)(l ts:List Int)(hS:S.length=f.types.length)(hl:l.length<1099511627776):
  zn E 97 [chkV u f f.types.length,ints l,ints ts] [stO S]=some (.ret (.bool (setM f.types S l ts).1),[stO (setM f.types S l ts).2]):=by
 refine ze rfl rfl rfl (by simp[chkV]) ?_;have h:=equalFunc_spec (setG f.types) (fun S=>[stO S]) (fun S=>S.length=f.types.length) S l ts 113 [] [.iptr [chkV u f f.types.length] 0] hl hS (fun s v t hs=>⟨by rw[setG_len];exact hs,set1_spec u f s v t hs⟩);simp[chkV]at h
 (simp[*,F97,chkV,setM])<;>(repeat' ((first|refine sP _ ?_ ?_|refine gP _ ?_ ?_|refine sN _ ?_ ?_|refine gN _ ?_ ?_|refine sM _ ?_ ?_|refine gM _ ?_ ?_|refine sB _ ?_ ?_|refine gB _ ?_ ?_)<;>intro hc<;>simp[*,F97,chkV,setM]))
def zmb(n:Nat):List Int:=yE n 0
def allM(ty:List Int)(S:St1)(l:List Int):Bool×St1:=setM ty S l (zmb l.length)
theorem all_spec(u:Unt)(f:Flow)(S:St1)(l:List Int)(hS:S.length=f.types.length)(hl:l.length<1099511627776):
  zn E 96 [chkV u f f.types.length,ints l] [stO S]=some (.ret (.bool (allM f.types S l).1),[stO (allM f.types S l).2]):=by
 refine ze rfl rfl rfl (by simp[chkV]) ?_;have h:=set_spec u f S l (zmb l.length) hS hl;have h1:(0:Int)<=(l.length:Int):=by omega
 have h2:(l.length:Int)<=9223372036854775807:=by omega
 have h3:8*(l.length:Int)<=281474976710656:=by omega
 simp[chkV,ints,zmb]at h
 (simp[*,F96,chkV,allM,zmb,ints])<;>(repeat' ((first|refine sP _ ?_ ?_|refine gP _ ?_ ?_|refine sN _ ?_ ?_|refine gN _ ?_ ?_|refine sM _ ?_ ?_|refine gM _ ?_ ?_|refine sB _ ?_ ?_|refine gB _ ?_ ?_)<;>intro hc<;>simp[*,F96,chkV,allM,zmb,ints]))
def zCb(S:St1)(l:List Int):St1:=l.foldl (fun S v=>S.set v.toNat 2) S
theorem zKc(l:List Int):∀S:St1,(zCb S l).length=S.length:=by
 induction l with
 |nil=>intro S;rfl
 |cons v r ih=>intro S;simp[zCb]at ih ⊢;rw[ih];simp
theorem hideM_snoc(S:St1)(l:List Int)(v:Int):zCb S (l++[v])=(zCb S l).set v.toNat 2:=by simp[zCb]
theorem hide_spec(u:Unt)(f:Flow)(S:St1)(l:List Int)(hS:S.length=f.types.length)(hl:l.length<1099511627776)(hv:∀v∈l,0<=v/\v<f.types.length):
  zn E 67 [chkV u f f.types.length,ints l] [stO S]=some (.ret (.tup []),[stO (zCb S l)]):=by
 refine ze rfl rfl rfl (by simp[chkV]) ?_;simp[F67,ints];refine zba l K67_0 B67_0 (fun d=>[(8,.int .i64 d.length)]) (fun d=>[stO (zCb S d)]) (fun d=>True) (by omega) (by simp[zCb]) ?_ ?_
 ·intros d x r s hl' hlt hget hget' hw hp h1 h2 h3 h4;simp at h1 h3;clear h2;obtain⟨r0,r1⟩:=hv x hl'.mem;have hlen:=zKc d S;have q2:x.toNat<S.length:=by omega
  have q4:x.toNat<f.types.length:=by omega
  have hsn:=hideM_snoc S d x;clear hv
  (simp[*,chkV,stO,zF,zob,List.map_set])<;>(repeat' ((first|refine sP _ ?_ ?_|refine gP _ ?_ ?_|refine sN _ ?_ ?_|refine gN _ ?_ ?_|refine sM _ ?_ ?_|refine gM _ ?_ ?_|refine sB _ ?_ ?_|refine gB _ ?_ ?_)<;>intro hc<;>simp[*,chkV,stO,zF,zob,List.map_set]))
 ·intros s hp h1 h2 h3 h4;simp at h1 h3;clear hv
  (simp[*])<;>(repeat' ((first|refine sP _ ?_ ?_|refine gP _ ?_ ?_|refine sN _ ?_ ?_|refine gN _ ?_ ?_|refine sM _ ?_ ?_|refine gM _ ?_ ?_|refine sB _ ?_ ?_|refine gB _ ?_ ?_)<;>intro hc<;>simp[*]))
def zYa(k:Int):Int:=if k=10 then 2 else if k=11 then 1 else 0
def zxa(n:Node):Bool:=
 (decide (n.kind=3)||decide (n.kind=4)||decide (n.op=0))&&(decide (n.kind=1)||decide (n.kind=2)||decide (n.n=0))&&
 (decide (n.kind=5)||decide (n.kind=6)||decide (n.kind=7)||decide (n.name=[]))&&(decide (n.kind=11)||decide (n.params=[]))&&decide ((n.kids.length:Int)=zYa n.kind)
theorem bare_spec(x:Node):zn E 81 [zQ x] []=some (.ret (.bool (zxa x)),[]):=by
 refine ze rfl rfl rfl (by simp[za]) ?_;have hp:decide ((x.params.length:Int)=0)=decide (x.params=[]):=by simp
 by_cases h10:x.kind=10
 ·(simp[*,F81,za,ints,kids,zxa,zYa])<;>(repeat' ((first|refine sP _ ?_ ?_|refine gP _ ?_ ?_|refine sN _ ?_ ?_|refine gN _ ?_ ?_|refine sM _ ?_ ?_|refine gM _ ?_ ?_|refine sB _ ?_ ?_|refine gB _ ?_ ?_)<;>intro hc<;>simp[*,F81,za,ints,kids,zxa,zYa]))
  all_goals(try grind)
 ·by_cases h11:x.kind=11
  ·(simp[*,F81,za,ints,kids,zxa,zYa])<;>(repeat' ((first|refine sP _ ?_ ?_|refine gP _ ?_ ?_|refine sN _ ?_ ?_|refine gN _ ?_ ?_|refine sM _ ?_ ?_|refine gM _ ?_ ?_|refine sB _ ?_ ?_|refine gB _ ?_ ?_)<;>intro hc<;>simp[*,F81,za,ints,kids,zxa,zYa]))
   all_goals(try grind)
  ·(simp[*,F81,za,ints,kids,zxa,zYa])<;>(repeat' ((first|refine sP _ ?_ ?_|refine gP _ ?_ ?_|refine sN _ ?_ ?_|refine gN _ ?_ ?_|refine sM _ ?_ ?_|refine gM _ ?_ ?_|refine sB _ ?_ ?_|refine gB _ ?_ ?_)<;>intro hc<;>simp[*,F81,za,ints,kids,zxa,zYa]))
   all_goals(try grind)
def takes(op:Int):Int:=if op=22 then 2 else if op=16\/op=17 then 0 else 1
def zbd(op:Int):Int:=if op=22\/(12<=op/\op<=17)then 2 else 1
theorem operand_spec(op:Int):zn E 114 [.int .i64 op] []=some (.ret (.tup [.int .i64 (takes op),.int .i64 (zbd op)]),[]):=by
 refine ze rfl rfl rfl (by simp) ?_
 (simp[*,F114,takes,zbd])<;>(repeat' ((first|refine sP _ ?_ ?_|refine gP _ ?_ ?_|refine sN _ ?_ ?_|refine gN _ ?_ ?_|refine sM _ ?_ ?_|refine gM _ ?_ ?_|refine sB _ ?_ ?_|refine gB _ ?_ ?_)<;>intro hc<;>simp[*,F114,takes,zbd]))
 all_goals(try grind)
def signList:List (List UInt8):=[[],[43],[45],[42],[47],[37],[38],[124],[94],[60,60],[62,62],[62,62,62],[60],[60,61],[62],[62,61],[61,61],[33,61],[38,38],[124,124],[45],[126],[33],[105,56],[105,49,54],[105,51,50],[117,56],[117,49,54],[117,51,50]]
def zIc:List Int:=[0,9,9,10,10,10,5,3,4,8,8,8,7,7,7,7,6,6,2,1,0,0,0,0,0,0,0,0,0]
def sgn(op:Int):List UInt8:=if op<0 then[]else(signList[op.toNat]?).getD []
def lvl(op:Int):Int:=if op<0 then 0 else(zIc[op.toNat]?).getD 0
theorem rowCells:∀n:Nat,n<29->List.take 2 (List.drop (n*2) [.str [],.int .i64 0,.str [43],.int .i64 9,.str [45],.int .i64 9,.str [42],.int .i64 10,.str [47],.int .i64 10,.str [37],.int .i64 10,.str [38],.int .i64 5,.str [124],.int .i64 3,.str [94],.int .i64 4,.str [60,60],.int .i64 8,.str [62,62],.int .i64 8,.str [62,62,62],.int .i64 8,.str [60],.int .i64 7,.str [60,61],.int .i64 7,.str [62],.int .i64 7,.str [62,61],.int .i64 7,.str [61,61],.int .i64 6,.str [33,61],.int .i64 6,.str [38,38],.int .i64 2,.str [124,124],.int .i64 1,.str [45],.int .i64 0,.str [126],.int .i64 0,.str [33],.int .i64 0,.str [105,56],.int .i64 0,.str [105,49,54],.int .i64 0,.str [105,51,50],.int .i64 0,.str [117,56],.int .i64 0,.str [117,49,54],.int .i64 0,.str [117,51,50],.int .i64 0])=[PV.str ((signList[n]?).getD []),PV.int .i64 ((zIc[n]?).getD 0)]
 |0,_=>rfl
 |1,_=>rfl
 |2,_=>rfl
 |3,_=>rfl
 |4,_=>rfl
 |5,_=>rfl
 |6,_=>rfl
 |7,_=>rfl
 |8,_=>rfl
 |9,_=>rfl
 |10,_=>rfl
 |11,_=>rfl
 |12,_=>rfl
 |13,_=>rfl
 |14,_=>rfl
 |15,_=>rfl
 |16,_=>rfl
 |17,_=>rfl
 |18,_=>rfl
 |19,_=>rfl
 |20,_=>rfl
 |21,_=>rfl
 |22,_=>rfl
 |23,_=>rfl
 |24,_=>rfl
 |25,_=>rfl
 |26,_=>rfl
 |27,_=>rfl
 |28,_=>rfl
 |n+29,h=>by omega
set_option maxHeartbeats 4000000 in
theorem rowOf_spec(op:Int)(σ:zb):zn E 122 [.int .i64 op] σ=some (.ret (.agg [.str (sgn op),.int .i64 (lvl op)]),σ):=by
 refine ze rfl rfl rfl (by simp) ?_;by_cases h0:op<0
 ·simp[F122,h0,sgn,lvl]
 by_cases h1:29<=op
 ·have:29<=op.toNat:=by omega
  simp[F122,h0,h1,sgn,lvl,signList,zIc,yea,this]
 have h2:op.toNat<29:=by omega
 have h3:0<=op:=by omega
 have h4:op.toNat*2<=56:=by omega
 have e1:sgn op=((signList[op.toNat]?).getD []):=by simp[sgn,h0]
 have e2:lvl op=((zIc[op.toNat]?).getD 0):=by simp[lvl,h0]
 rw[e1,e2];have e3:=rowCells op.toNat h2;generalize((signList[op.toNat]?).getD [])=s at*;generalize((zIc[op.toNat]?).getD 0)=l at*;simp[F122,h0,h1,h2,h3,h4,e3]
theorem level_spec(op:Int)(σ:zb):zn E 115 [.int .i64 op] σ=some (.ret (.int .i64 (lvl op)),σ):=by
 refine ze rfl rfl rfl (by simp) ?_
 (simp[*,F115,rowOf_spec])<;>(repeat' ((first|refine sP _ ?_ ?_|refine gP _ ?_ ?_|refine sN _ ?_ ?_|refine gN _ ?_ ?_|refine sM _ ?_ ?_|refine gM _ ?_ ?_|refine sB _ ?_ ?_|refine gB _ ?_ ?_)<;>intro hc<;>simp[*,F115,rowOf_spec]))
theorem lvl_pos(op:Int):(0<lvl op/\op<=17)=(1<=op/\op<=17):=by
 apply propext;constructor
 ·rintro⟨h,h'⟩
  refine⟨?_,h'⟩;by_cases h0:op<0
  ·simp[lvl,h0]at h
  ·by_cases h1:op=0
   ·subst h1;simp[lvl,zIc]at h
   ·omega
 ·rintro⟨h,h'⟩
  refine⟨?_,h'⟩;have:op=1\/op=2\/op=3\/op=4\/op=5\/op=6\/op=7\/op=8\/op=9\/op=10\/op=11\/op=12\/op=13\/op=14\/op=15\/op=16\/op=17:=by omega
  rcases this with h|h|h|h|h|h|h|h|h|h|h|h|h|h|h|h|h<;>subst h<;>decide
structure Place where
 inIf:Bool
 inLoop:Bool
 yield:List Int
 next:List Int
 left:List Int
def zm(p:Place):PV:= .agg [.bool p.inIf,.bool p.inLoop,ints p.yield,ints p.next,ints p.left]
structure UOk(u:Unt):Prop where
 arrs:u.arrays.length<1099511627776
 flows:u.flows.length<1099511627776
 pars:∀f∈u.flows,0<=f.params/\f.params<=f.types.length
 types:∀f∈u.flows,f.types.length<1099511627776
def sumM(ty:List Int)(S:St1)(n:Node):Bool×St1:=
 if n.kind=3 then
  if 20<=n.op/\n.op<=28/\zCa ty S n.args [takes n.op]=true then setM ty S n.outs [zbd n.op]else(false,S)
 else
  if 1<=n.op/\n.op<=17/\zCa ty S n.args [takes n.op,takes n.op]=true/\at0 ty (at0 n.args 0)=at0 ty (at0 n.args 1)then setM ty S n.outs [zbd n.op]else(false,S)
theorem usesM_two{ty S l:List Int}{t t':Int}(h:zCa ty S l [t,t']=true):∃a b,l=[a,b]/\0<=a/\a<ty.length/\0<=b/\b<ty.length:=by
 unfold zCa eqM at h
 match l with
 | []=>simp at h
 | [_]=>simp at h
 |a::b::_::_=>simp at h
 | [a,b]=>
  simp[eqGo,useG]at h;split at h
  ·rename_i q;split at h
   ·rename_i q';obtain⟨r0,r1⟩:=zqa q.1;obtain⟨r2,r3⟩:=zqa q'.1;exact⟨a,b,rfl,r0,r1,r2,r3⟩
   ·simp at h
  ·simp at h
theorem sum_spec(u:Unt)(f:Flow)(S:St1)(x:Node)(hS:S.length=f.types.length)(hx:wtN x<1099511627776)(hk:x.kind=3\/x.kind=4):
  zn E 98 [chkV u f f.types.length,zQ x] [stO S]=some (.ret (.bool (sumM f.types S x).1),[stO (sumM f.types S x).2]):=by
 refine ze rfl rfl rfl (by simp[za,chkV]) ?_;have hw:=zjc x;have h1:=zFa u f S x.args [takes x.op] hS (by omega);have h2:=zFa u f S x.args [takes x.op,takes x.op] hS (by omega);have h3:=set_spec u f S x.outs [zbd x.op] hS (by omega);have h4:=operand_spec x.op;have h5:=level_spec x.op [];have h6:=lvl_pos x.op;simp[chkV,ints]at h1 h2 h3;rcases hk with hk|hk
 ·have e:sumM f.types S x=if 20<=x.op/\x.op<=28/\zCa f.types S x.args [takes x.op]=true then setM f.types S x.outs [zbd x.op]else(false,S):=by simp[sumM,hk]
  (simp[*,F98,za,chkV,ints])<;>(repeat' ((first|refine sP _ ?_ ?_|refine gP _ ?_ ?_|refine sN _ ?_ ?_|refine gN _ ?_ ?_|refine sM _ ?_ ?_|refine gM _ ?_ ?_|refine sB _ ?_ ?_|refine gB _ ?_ ?_)<;>intro hc<;>simp[*,F98,za,chkV,ints]))
 ·have e:sumM f.types S x=if 1<=x.op/\x.op<=17/\zCa f.types S x.args [takes x.op,takes x.op]=true/\at0 f.types (at0 x.args 0)=at0 f.types (at0 x.args 1)then setM f.types S x.outs [zbd x.op]else(false,S):=by simp[sumM,hk]
  by_cases hu:zCa f.types S x.args [takes x.op,takes x.op]=true
  ·obtain⟨a,b,e1,r0,r1,r2,r3⟩:=usesM_two hu;have q1:=at0_get r0 r1;have q2:a.toNat<f.types.length:=by omega
   have q3:=zld r0 r1 q2;have q1':=at0_get r2 r3;have q2':b.toNat<f.types.length:=by omega
   have q3':=zld r2 r3 q2';have z0:at0 [a,b] 0=a:=rfl;have z1:at0 [a,b] 1=b:=rfl;rw[e1]at h1 h2 e hu;rw[hu]at h2;clear h1 hw;simp at h2
   (simp[*,F98,za,chkV,ints])<;>(repeat' ((first|refine sP _ ?_ ?_|refine gP _ ?_ ?_|refine sN _ ?_ ?_|refine gN _ ?_ ?_|refine sM _ ?_ ?_|refine gM _ ?_ ?_|refine sB _ ?_ ?_|refine gB _ ?_ ?_)<;>intro hc<;>simp[*,F98,za,chkV,ints]))
   all_goals(try grind)
  ·have hu':zCa f.types S x.args [takes x.op,takes x.op]=false:=by simpa using hu
   rw[hu']at h2;clear h1 hw
   (simp[*,F98,za,chkV,ints])<;>(repeat' ((first|refine sP _ ?_ ?_|refine gP _ ?_ ?_|refine sN _ ?_ ?_|refine gN _ ?_ ?_|refine sM _ ?_ ?_|refine gM _ ?_ ?_|refine sB _ ?_ ?_|refine gB _ ?_ ?_)<;>intro hc<;>simp[*,F98,za,chkV,ints]))
   all_goals(try grind)
def endM(f:Flow)(S:St1)(n:Node)(p:Place):Bool:=
 decide (n.outs=[])&&(if n.kind=12 then p.inIf&&zCa f.types S n.args p.yield else if n.kind=13 then p.inLoop&&zCa f.types S n.args p.next
  else if n.kind=14 then p.inLoop&&zCa f.types S n.args p.left else zCa f.types S n.args [f.type])
theorem end_spec(u:Unt)(f:Flow)(S:St1)(x:Node)(p:Place)(hS:S.length=f.types.length)(hx:wtN x<1099511627776):
  zn E 84 [chkV u f f.types.length,zQ x,zm p] [stO S]=some (.ret (.bool (endM f S x p)),[stO S]):=by
 refine ze rfl rfl rfl (by simp[za,chkV,zm]) ?_;have hw:=zjc x;have h1:=zFa u f S x.args p.yield hS (by omega);have h2:=zFa u f S x.args p.next hS (by omega);have h3:=zFa u f S x.args p.left hS (by omega);have h4:=zFa u f S x.args [f.type] hS (by omega);have ho:decide ((x.outs.length:Int)=0)=decide (x.outs=[]):=by simp
 simp[chkV,ints]at h1 h2 h3 h4;clear hw;by_cases h0:x.outs=[]
 ·(simp[*,F84,za,chkV,ints,zm,endM])<;>(repeat' ((first|refine sP _ ?_ ?_|refine gP _ ?_ ?_|refine sN _ ?_ ?_|refine gN _ ?_ ?_|refine sM _ ?_ ?_|refine gM _ ?_ ?_|refine sB _ ?_ ?_|refine gB _ ?_ ?_)<;>intro hc<;>simp[*,F84,za,chkV,ints,zm,endM]))
 ·(simp[*,F84,za,chkV,ints,zm,endM])<;>(repeat' ((first|refine sP _ ?_ ?_|refine gP _ ?_ ?_|refine sN _ ?_ ?_|refine gN _ ?_ ?_|refine sM _ ?_ ?_|refine gM _ ?_ ?_|refine sB _ ?_ ?_|refine gB _ ?_ ?_)<;>intro hc<;>simp[*,F84,za,chkV,ints,zm,endM]))
def pars(f:Flow):List Int:=f.types.take f.params.toNat
def zJa(u:Unt)(f:Flow)(S:St1)(n:Node):Bool×St1:=
 let ty:=f.types
 if n.kind=1 then if zCa ty S n.args []then setM ty S n.outs [1]else(false,S)
 else if n.kind=2 then if(n.n=0\/n.n=1)/\zCa ty S n.args []=true then setM ty S n.outs [2]else(false,S)
 else if n.kind=3\/n.kind=4 then sumM ty S n
 else if n.kind=5 then if zFb u.arrays n.name&&zCa ty S n.args [1]then setM ty S n.outs [1]else(false,S)
 else if n.kind=6 then if zFb u.arrays n.name&&zCa ty S n.args [1,1]then setM ty S n.outs []else(false,S)
 else if n.kind=8 then if zCa ty S n.args []then setM ty S n.outs [1]else(false,S)
 else if n.kind=9 then if zCa ty S n.args [1]then setM ty S n.outs []else(false,S)
 else if n.kind=7 then
  match u.flows[(zZ u.flows n.name).toNat]? with
  |some g=>if 0<=zZ u.flows n.name/\zCa ty S n.args (pars g)=true then setM ty S n.outs [g.type]else(false,S)
  |none=>(false,S)
 else(false,S)
theorem place_get{l:List Flow}{s:List UInt8}(h:0<=zZ l s):∃g,l[(zZ l s).toNat]? =some g/\g∈l/\g.name=s/\(zZ l s).toNat<l.length:=by
 unfold zZ idx at h ⊢;cases hf:l.findIdx? (fun f=>decide (f.name=s))with
 |none=>rw[hf]at h;simp at h
 |some i=>
  rw[List.findIdx?_eq_some_iff_getElem]at hf;obtain⟨hi,h1,_⟩:=hf;refine⟨l[i],by simp[hi],List.getElem_mem hi,by simpa using h1,by simpa using hi⟩
theorem simple_spec(u:Unt)(f:Flow)(S:St1)(x:Node)(hu:UOk u)(hS:S.length=f.types.length)(hx:wtN x<1099511627776):
  zn E 85 [chkV u f f.types.length,zQ x] [stO S]=some (.ret (.bool (zJa u f S x).1),[stO (zJa u f S x).2]):=by
 refine ze rfl rfl rfl (by simp[za,chkV]) ?_;have hw:=zjc x;have h0:=zFa u f S x.args [] hS (by omega);have h1:=zFa u f S x.args [1] hS (by omega);have h2:=zFa u f S x.args [1,1] hS (by omega);have h3:=set_spec u f S x.outs [] hS (by omega);have h4:=set_spec u f S x.outs [1] hS (by omega);have h5:=set_spec u f S x.outs [2] hS (by omega);have h6:=hasArray_spec u x.name [] hu.arrs;have h7:=place_spec u x.name [] hu.flows;simp[chkV,ints,encUnt,za]at h0 h1 h2 h3 h4 h5 h6 h7;clear hw;by_cases k34:x.kind=3\/x.kind=4
 ·have h8:=sum_spec u f S x hS hx k34;have e:zJa u f S x=sumM f.types S x:=by rcases k34 with h|h<;>simp[zJa,h]
  simp[chkV,ints,encUnt,za]at h8
  (simp[*,F85,za,chkV,ints])<;>(repeat' (first|((first|refine sP _ ?_ ?_|refine gP _ ?_ ?_|refine sN _ ?_ ?_|refine gN _ ?_ ?_)<;>intro hc<;>(first|replace hc:=eqn hc|replace hc:=eqp hc)<;>simp[*,F85,za,chkV,ints])|((first|refine sM _ ?_ ?_|refine gM _ ?_ ?_|refine sB _ ?_ ?_|refine gB _ ?_ ?_)<;>intro hc<;>simp[*,F85,za,chkV,ints])))
  all_goals(try grind)
 by_cases k7:x.kind=7
 ·by_cases hp:0<=zZ u.flows x.name
  ·obtain⟨g,q1,q2,q3,q4⟩:=place_get hp;obtain⟨p1,p2⟩:=hu.pars g q2;have q5:u.flows[(zZ u.flows x.name).toNat]=g:=by simpa[q4]using q1
   have e:zJa u f S x=if 0<=zZ u.flows x.name/\zCa f.types S x.args (pars g)=true then setM f.types S x.outs [g.type]else(false,S):=by simp[zJa,k7,q1]
   have h8:=zFa u f S x.args (pars g) hS (by have:=zjc x;omega);have h9:=set_spec u f S x.outs [g.type] hS (by have:=zjc x;omega);have p3:g.params.toNat<=g.types.length:=by omega
   have p4:¬zZ u.flows x.name<0:=by omega
   simp[chkV,ints,encUnt,za,k7,flows,pars,List.map_take]at h8 h9 h7;clear h0 h1 h2 h3 h4 h5 h6 hu
   (simp[*,F85,za,chkV,ints,flows,zg,pars,List.map_take])<;>(repeat' ((first|refine sP _ ?_ ?_|refine gP _ ?_ ?_|refine sN _ ?_ ?_|refine gN _ ?_ ?_|refine sM _ ?_ ?_|refine gM _ ?_ ?_|refine sB _ ?_ ?_|refine gB _ ?_ ?_)<;>intro hc<;>simp[*,F85,za,chkV,ints,flows,zg,pars,List.map_take]))
  ·have e:zJa u f S x=(false,S):=by
    simp only[zJa,k7];simp;split<;>simp[hp]
   have p4:zZ u.flows x.name<0:=by omega
   (simp[*,F85,za,chkV,ints])<;>(repeat' ((first|refine sP _ ?_ ?_|refine gP _ ?_ ?_|refine sN _ ?_ ?_|refine gN _ ?_ ?_|refine sM _ ?_ ?_|refine gM _ ?_ ?_|refine sB _ ?_ ?_|refine gB _ ?_ ?_)<;>intro hc<;>simp[*,F85,za,chkV,ints]))
 have k3:¬x.kind=3:=fun h=>k34 (.inl h)
 have k4:¬x.kind=4:=fun h=>k34 (.inr h)
 have hs:zJa u f S x=if x.kind=1 then if zCa f.types S x.args []then setM f.types S x.outs [1]else(false,S)
  else if x.kind=2 then if(x.n=0\/x.n=1)/\zCa f.types S x.args []=true then setM f.types S x.outs [2]else(false,S)
  else if x.kind=5 then if zFb u.arrays x.name&&zCa f.types S x.args [1]then setM f.types S x.outs [1]else(false,S)
  else if x.kind=6 then if zFb u.arrays x.name&&zCa f.types S x.args [1,1]then setM f.types S x.outs []else(false,S)
  else if x.kind=8 then if zCa f.types S x.args []then setM f.types S x.outs [1]else(false,S)
  else if x.kind=9 then if zCa f.types S x.args [1]then setM f.types S x.outs []else(false,S)
  else(false,S):=by simp[zJa,k34,k7]
 (simp[*,F85,za,chkV,ints,encUnt])<;>(repeat' ((first|refine sP _ ?_ ?_|refine gP _ ?_ ?_|refine sN _ ?_ ?_|refine gN _ ?_ ?_|refine sM _ ?_ ?_|refine gM _ ?_ ?_|refine sB _ ?_ ?_|refine gB _ ?_ ?_)<;>intro hc<;>simp[*,F85,za,chkV,ints,encUnt]))
 all_goals(try grind)
def listE(l:List Node)(q:Bool×St1):Bool×St1:=if q.1 then(!l.isEmpty,zCb q.2 (l.flatMap Node.outs))else(false,q.2)
def zfc(ty:List Int)(x:Node)(q:Bool×St1):Bool×St1:=if q.1&&(decide (x.outs=[])|| !zi x)then allM ty q.2 x.outs else(false,q.2)
def loopE(ty:List Int)(x:Node)(q:Bool×St1):Bool×St1:=if q.1 then(if decide (x.outs=[])|| !zi x then allM ty (zCb q.2 x.params) x.outs else(false,zCb q.2 x.params))else(false,q.2)
mutual
def nodeM(u:Unt)(f:Flow):Node->Place->Int->St1->Bool×St1
 |⟨k,o,n,s,a,us,ps,ks⟩,p,deep,S=>
  if !zxa ⟨k,o,n,s,a,us,ps,ks⟩then(false,S)
  else if k=10 then
   if zCa f.types S a [2]then zfc f.types ⟨k,o,n,s,a,us,ps,ks⟩ (zdd u f ks {p with inIf:=true,yield:=typesM f.types us} (deep+1) S)else(false,S)
  else if k=11 then
   if zCa f.types S a (typesM f.types ps)then
    if(allM f.types S ps).1 then loopE f.types ⟨k,o,n,s,a,us,ps,ks⟩ (zdd u f ks ⟨false,true,[],typesM f.types ps,typesM f.types us⟩ (deep+1) (allM f.types S ps).2)
    else(false,(allM f.types S ps).2)
   else(false,S)
  else if endK k then(endM f S ⟨k,o,n,s,a,us,ps,ks⟩ p,S)
  else zJa u f S ⟨k,o,n,s,a,us,ps,ks⟩
def zdd(u:Unt)(f:Flow):List (List Node)->Place->Int->St1->Bool×St1
 | [],p,deep,S=>(true,S)
 |l::r,p,deep,S=>if(listE l (goM u f l p deep S)).1 then zdd u f r p deep (listE l (goM u f l p deep S)).2 else(false,(listE l (goM u f l p deep S)).2)
def goM(u:Unt)(f:Flow):List Node->Place->Int->St1->Bool×St1
 | [],p,deep,S=>(true,S)
 |x::r,p,deep,S=>if 100<deep then(false,S)else
   if(nodeM u f x p deep S).1 then(if zi x=r.isEmpty then goM u f r p deep (nodeM u f x p deep S).2 else(false,(nodeM u f x p deep S).2))else(false,(nodeM u f x p deep S).2)
end
def zSa(u:Unt)(f:Flow)(l:List Node)(p:Place)(deep:Int)(S:St1):Bool×St1:=listE l (goM u f l p deep S)
theorem nodeM_eq(u:Unt)(f:Flow)(x:Node)(p:Place)(deep:Int)(S:St1):nodeM u f x p deep S=
  if !zxa x then(false,S)
  else if x.kind=10 then
   if zCa f.types S x.args [2]then zfc f.types x (zdd u f x.kids {p with inIf:=true,yield:=typesM f.types x.outs} (deep+1) S)else(false,S)
  else if x.kind=11 then
   if zCa f.types S x.args (typesM f.types x.params)then
    if(allM f.types S x.params).1 then loopE f.types x (zdd u f x.kids ⟨false,true,[],typesM f.types x.params,typesM f.types x.outs⟩ (deep+1) (allM f.types S x.params).2)
    else(false,(allM f.types S x.params).2)
   else(false,S)
  else if endK x.kind then(endM f S x p,S)
  else zJa u f S x:=by
 cases x;rw[nodeM]
theorem sumM_len(ty:List Int)(S:St1)(x:Node):(sumM ty S x).2.length=S.length:=by
 unfold sumM;split<;>split<;>simp[zSc]
theorem simpleM_len(u:Unt)(f:Flow)(S:St1)(x:Node):(zJa u f S x).2.length=S.length:=by
 simp only[zJa]
 repeat' split
 all_goals simp[zSc,sumM_len]
theorem choiceE_len(ty:List Int)(x:Node)(q:Bool×St1):(zfc ty x q).2.length=q.2.length:=by
 unfold zfc;split<;>simp[allM,zSc]
theorem loopE_len(ty:List Int)(x:Node)(q:Bool×St1):(loopE ty x q).2.length=q.2.length:=by
 unfold loopE;split
 ·split<;>simp[allM,zSc,zKc]
 ·rfl
theorem listE_len(l:List Node)(q:Bool×St1):(listE l q).2.length=q.2.length:=by
 unfold listE;split<;>simp[zKc]
mutual
theorem nodeM_len(u:Unt)(f:Flow):∀(x:Node) (p:Place) (deep:Int) (S:St1),(nodeM u f x p deep S).2.length=S.length
 |⟨k,o,n,s,a,us,ps,ks⟩,p,deep,S=>by
  rw[nodeM];split
  ·rfl
  split
  ·split
   ·rw[choiceE_len,kidsM_len u f ks]
   ·rfl
  split
  ·split
   ·split
    ·rw[loopE_len,kidsM_len u f ks];simp[allM,zSc]
    ·simp[allM,zSc]
   ·rfl
  split
  ·rfl
  ·exact simpleM_len _ _ _ _
theorem kidsM_len(u:Unt)(f:Flow):∀(ks:List (List Node)) (p:Place) (deep:Int) (S:St1),(zdd u f ks p deep S).2.length=S.length
 | [],p,deep,S=>rfl
 |l::r,p,deep,S=>by
  rw[zdd];split
  ·rw[kidsM_len u f r,listE_len,goM_len u f l]
  ·simp only;rw[listE_len,goM_len u f l]
theorem goM_len(u:Unt)(f:Flow):∀(l:List Node) (p:Place) (deep:Int) (S:St1),(goM u f l p deep S).2.length=S.length
 | [],p,deep,S=>rfl
 |x::r,p,deep,S=>by
  rw[goM];split
  ·rfl
  split
  ·split
   ·rw[goM_len u f r,nodeM_len u f x]
   ·exact nodeM_len u f x p deep S
  ·exact nodeM_len u f x p deep S
end
theorem listM_len(u:Unt)(f:Flow)(l:List Node)(p:Place)(deep:Int)(S:St1):(zSa u f l p deep S).2.length=S.length:=by
 unfold zSa;rw[listE_len,goM_len]
theorem eqGo_setG_ok{ty:List Int}:∀{l:List (Int×Int)} {S:St1},(eqGo (setG ty) S l).1=true->∀q∈l,0<=q.1/\q.1<ty.length
 | [],S,_,q,hq=>by cases hq
 |p::r,S,h,q,hq=>by
  simp only[eqGo]at h;split at h
  ·rename_i hp;rcases yz.1 hq with rfl|hq
   ·unfold setG at hp;split at hp
    ·rename_i hv;simp only[ya]at hv;exact zqa hv.1
    ·cases hp
   ·exact eqGo_setG_ok h q hq
  ·cases h
theorem setM_ok{ty:List Int}{S:St1}{l ts:List Int}(h:(setM ty S l ts).1=true):∀v∈l,0<=v/\v<ty.length:=by
 unfold setM eqM at h;split at h
 ·rename_i hl;intro v hv;have:=eqGo_setG_ok h;obtain⟨i,hi,rfl⟩:=List.getElem_of_mem hv;exact this (l[i],ts[i]) (List.mem_iff_getElem.2 ⟨i,by simp;omega,by simp⟩)
 ·cases h
theorem nodeM_outs{u:Unt}{f:Flow}{x:Node}{p:Place}{deep:Int}{S:St1}(h:(nodeM u f x p deep S).1=true):∀v∈x.outs,0<=v/\v<f.types.length:=by
 rw[nodeM_eq]at h;split at h
 ·cases h
 split at h
 ·split at h
  ·unfold zfc at h;split at h
   ·exact setM_ok h
   ·cases h
  ·cases h
 split at h
 ·split at h
  ·split at h
   ·unfold loopE at h;split at h
    ·split at h
     ·exact setM_ok h
     ·cases h
    ·cases h
   ·cases h
  ·cases h
 split at h
 ·simp only[endM,ya,decide_eq_true_eq]at h;rw[h.1];simp
 ·simp only[zJa]at h
  repeat' split at h
  all_goals first|(cases h;done)|exact setM_ok h|skip
  all_goals
   simp only[sumM]at h
   repeat' split at h
   all_goals first|(cases h;done)|exact setM_ok h
theorem kidsM_nil(u:Unt)(f:Flow)(p:Place)(deep:Int)(S:St1):zdd u f [] p deep S=(true,S):=by rw[zdd]
theorem kidsM_cons(u:Unt)(f:Flow)(l:List Node)(r:List (List Node))(p:Place)(deep:Int)(S:St1):zdd u f (l::r) p deep S=if(zSa u f l p deep S).1 then zdd u f r p deep (zSa u f l p deep S).2 else(false,(zSa u f l p deep S).2):=by rw[zdd];rfl
def ListOk(u:Unt)(f:Flow)(deep:Int)(l:List Node):Prop:=∀p S,S.length=f.types.length→
 zn E 43 [chkV u f f.types.length,zj l,zm p,.int .i64 deep] [stO S]=some (.ret (.bool (zSa u f l p deep S).1),[stO (zSa u f l p deep S).2])
theorem choice_spec(u:Unt)(f:Flow)(S:St1)(x:Node)(p:Place)(deep:Int)(hS:S.length=f.types.length)(hx:wtN x<1099511627776)(hk:x.kids.length=2)(hl:∀l∈x.kids,ListOk u f deep l):
  zn E 82 [chkV u f f.types.length,zQ x,zm p,.int .i64 deep] [stO S]=
   let q:=if zCa f.types S x.args [2]then zfc f.types x (zdd u f x.kids {p with inIf:=true,yield:=typesM f.types x.outs} deep S)else(false,S)
   some (.ret (.bool q.1),[stO q.2]):=by
 refine ze rfl rfl rfl (by simp[za,chkV,zm]) ?_;have hw:=zjc x;obtain⟨a,b,hab⟩:∃a b,x.kids=[a,b]:=by
  match hh:x.kids with
  | []=>rw[hh]at hk;cases hk
  | [_]=>rw[hh]at hk;cases hk
  | [a,b]=>exact⟨a,b,rfl⟩
  |_::_::_::_=>rw[hh]at hk;simp at hk
 generalize hp':({p with inIf:=true,yield:=typesM f.types x.outs}:Place)=p';have e1:p'.inIf=true:=by rw[<-hp']
 have e2:p'.inLoop=p.inLoop:=by rw[<-hp']
 have e3:p'.yield=typesM f.types x.outs:=by rw[<-hp']
 have e4:p'.next=p.next:=by rw[<-hp']
 have e5:p'.left=p.left:=by rw[<-hp']
 have h0:=types_spec u f f.types.length x.outs [stO S] (by omega);have h1:=zFa u f S x.args [2] hS (by omega);have h2:=hl a (by rw[hab];simp) p' S hS;have hS2:(zSa u f a p' deep S).2.length=f.types.length:=by rw[listM_len];exact hS
 have h3:=hl b (by rw[hab];simp) p' _ hS2;have hS3:(zSa u f b p' deep (zSa u f a p' deep S).2).2.length=f.types.length:=by rw[listM_len];exact hS2
 have h4:=all_spec u f _ x.outs hS3 (by omega);have h5:=zdc x [] hx;have ho:decide ((x.outs.length:Int)=0)=decide (x.outs=[]):=by simp
 have ek:zdd u f [a,b] p' deep S=if(zSa u f a p' deep S).1 then if(zSa u f b p' deep (zSa u f a p' deep S).2).1 then(true,(zSa u f b p' deep (zSa u f a p' deep S).2).2)else(false,(zSa u f b p' deep (zSa u f a p' deep S).2).2)else(false,(zSa u f a p' deep S).2):=by
  rw[kidsM_cons,kidsM_cons,kidsM_nil]
 simp[chkV,ints,za,zm,kids,hab,e1,e2,e3,e4,e5]at h0 h1 h2 h3 h4 h5;generalize zSa u f a p' deep S=ra at*;generalize zSa u f b p' deep ra.2=rb at*;clear hw hl;simp only[hab]
 (simp[*,F82,za,chkV,ints,zm,kids,zfc])<;>(repeat' (first|((first|refine sP _ ?_ ?_|refine gP _ ?_ ?_|refine sN _ ?_ ?_|refine gN _ ?_ ?_)<;>intro hc<;>(first|replace hc:=eqn hc|replace hc:=eqp hc)<;>simp[*,F82,za,chkV,ints,zm,kids,zfc])|((first|refine sM _ ?_ ?_|refine gM _ ?_ ?_|refine sB _ ?_ ?_|refine gB _ ?_ ?_)<;>intro hc<;>simp[*,F82,za,chkV,ints,zm,kids,zfc])))
 all_goals(try grind)
theorem loop_spec(u:Unt)(f:Flow)(S:St1)(x:Node)(deep:Int)(hS:S.length=f.types.length)(hx:wtN x<1099511627776)(hk:x.kids.length=1)(hl:∀l∈x.kids,ListOk u f deep l):
  zn E 83 [chkV u f f.types.length,zQ x,.int .i64 deep] [stO S]=
   let q:=if zCa f.types S x.args (typesM f.types x.params)then
     if(allM f.types S x.params).1 then loopE f.types x (zdd u f x.kids ⟨false,true,[],typesM f.types x.params,typesM f.types x.outs⟩ deep (allM f.types S x.params).2)
     else(false,(allM f.types S x.params).2)
    else(false,S)
   some (.ret (.bool q.1),[stO q.2]):=by
 refine ze rfl rfl rfl (by simp[za,chkV,zm]) ?_;have hw:=zjc x;obtain⟨a,hab⟩:∃a,x.kids=[a]:=by
  match hh:x.kids with
  | []=>rw[hh]at hk;cases hk
  | [a]=>exact⟨a,rfl⟩
  |_::_::_=>rw[hh]at hk;simp at hk
 generalize hp':(⟨false,true,[],typesM f.types x.params,typesM f.types x.outs⟩:Place)=p';have e1:p'.inIf=false:=by rw[<-hp']
 have e2:p'.inLoop=true:=by rw[<-hp']
 have e3:p'.yield=[]:=by rw[<-hp']
 have e4:p'.next=typesM f.types x.params:=by rw[<-hp']
 have e5:p'.left=typesM f.types x.outs:=by rw[<-hp']
 have h0:=types_spec u f f.types.length x.outs [stO S] (by omega);have h0':=types_spec u f f.types.length x.params [stO S] (by omega);have h1:=zFa u f S x.args (typesM f.types x.params) hS (by omega);have h6:=all_spec u f S x.params hS (by omega);have hS1:(allM f.types S x.params).2.length=f.types.length:=by simp only[allM,zSc];exact hS
 have h2:=hl a (by rw[hab];simp) p' _ hS1;have hS2:(zSa u f a p' deep (allM f.types S x.params).2).2.length=f.types.length:=by rw[listM_len];exact hS1
 have h5:=zdc x [] hx;have ho:decide ((x.outs.length:Int)=0)=decide (x.outs=[]):=by simp
 have ek:zdd u f [a] p' deep (allM f.types S x.params).2=if(zSa u f a p' deep (allM f.types S x.params).2).1 then(true,(zSa u f a p' deep (allM f.types S x.params).2).2)else(false,(zSa u f a p' deep (allM f.types S x.params).2).2):=by
  rw[kidsM_cons,kidsM_nil]
 cases hok:(allM f.types S x.params).1
 ·simp[chkV,ints,za,zm,kids,hab,e1,e2,e3,e4,e5,hok]at h0 h0' h1 h2 h5 h6;clear hw hl;simp only[hab]
  (simp[*,F83,za,chkV,ints,zm,kids,loopE])<;>(repeat' (first|((first|refine sP _ ?_ ?_|refine gP _ ?_ ?_|refine sN _ ?_ ?_|refine gN _ ?_ ?_)<;>intro hc<;>(first|replace hc:=eqn hc|replace hc:=eqp hc)<;>simp[*,F83,za,chkV,ints,zm,kids,loopE])|((first|refine sM _ ?_ ?_|refine gM _ ?_ ?_|refine sB _ ?_ ?_|refine gB _ ?_ ?_)<;>intro hc<;>simp[*,F83,za,chkV,ints,zm,kids,loopE])))
  all_goals(try grind)
 ·have h7:=hide_spec u f _ x.params hS2 (by omega) (setM_ok hok);have hS3:(zCb (zSa u f a p' deep (allM f.types S x.params).2).2 x.params).length=f.types.length:=by rw[zKc];exact hS2
  have h4:=all_spec u f _ x.outs hS3 (by omega);simp[chkV,ints,za,zm,kids,hab,e1,e2,e3,e4,e5,hok]at h0 h0' h1 h2 h4 h5 h6 h7;generalize zSa u f a p' deep (allM f.types S x.params).2=ra at*;clear hw hl;simp only[hab]
  (simp[*,F83,za,chkV,ints,zm,kids,loopE])<;>(repeat' (first|((first|refine sP _ ?_ ?_|refine gP _ ?_ ?_|refine sN _ ?_ ?_|refine gN _ ?_ ?_)<;>intro hc<;>(first|replace hc:=eqn hc|replace hc:=eqp hc)<;>simp[*,F83,za,chkV,ints,zm,kids,loopE])|((first|refine sM _ ?_ ?_|refine gM _ ?_ ?_|refine sB _ ?_ ?_|refine gB _ ?_ ?_)<;>intro hc<;>simp[*,F83,za,chkV,ints,zm,kids,loopE])))
  all_goals(try grind)
theorem node_spec(u:Unt)(f:Flow)(S:St1)(x:Node)(p:Place)(deep:Int)(hu:UOk u)(hS:S.length=f.types.length)(hx:wtN x<1099511627776)(hd:0<=deep/\deep<=100)(hl:∀l∈x.kids,ListOk u f (deep+1) l):
  zn E 66 [chkV u f f.types.length,zQ x,zm p,.int .i64 deep] [stO S]=some (.ret (.bool (nodeM u f x p deep S).1),[stO (nodeM u f x p deep S).2]):=by
 refine ze rfl rfl rfl (by simp[za,chkV,zm]) ?_;have hw:zX .i64 (deep+1)=deep+1:=zo (by omega) (by omega);have h0:=bare_spec x;have h1:=ends_raw x.kind;have h2:=end_spec u f S x p hS hx;have h3:=simple_spec u f S x hu hS hx;have he:=nodeM_eq u f x p deep S;rw[he];clear he;have hb:zxa x=true->(x.kids.length:Int)=zYa x.kind:=by
  intro h;simp only[zxa,ya,decide_eq_true_eq]at h;exact h.2
 cases hbx:zxa x
 ·simp[chkV,za,zm,hbx]at h0 h2 h3;clear hl hb
  (simp[*,F66,za,chkV,zm])<;>(repeat' (first|((first|refine sP _ ?_ ?_|refine gP _ ?_ ?_|refine sN _ ?_ ?_|refine gN _ ?_ ?_)<;>intro hc<;>(first|replace hc:=eqn hc|replace hc:=eqp hc)<;>simp[*,F66,za,chkV,zm])|((first|refine sM _ ?_ ?_|refine gM _ ?_ ?_|refine sB _ ?_ ?_|refine gB _ ?_ ?_)<;>intro hc<;>simp[*,F66,za,chkV,zm])))
 have hb:=hb hbx;by_cases h10:x.kind=10
 ·have hk:x.kids.length=2:=by simp[zYa,h10]at hb;omega
  have h4:=choice_spec u f S x p (deep+1) hS hx hk hl;simp[chkV,za,zm,hbx,h10]at h0 h2 h3 h4;clear hl hb
  (simp[*,F66,za,chkV,zm])<;>(repeat' ((first|refine sP _ ?_ ?_|refine gP _ ?_ ?_|refine sN _ ?_ ?_|refine gN _ ?_ ?_|refine sM _ ?_ ?_|refine gM _ ?_ ?_|refine sB _ ?_ ?_|refine gB _ ?_ ?_)<;>intro hc<;>simp[*,F66,za,chkV,zm]))
 by_cases h11:x.kind=11
 ·have hk:x.kids.length=1:=by simp[zYa,h11]at hb;omega
  have h4:=loop_spec u f S x (deep+1) hS hx hk hl;simp[chkV,za,zm,hbx,h11]at h0 h2 h3 h4;clear hl hb
  (simp[*,F66,za,chkV,zm])<;>(repeat' ((first|refine sP _ ?_ ?_|refine gP _ ?_ ?_|refine sN _ ?_ ?_|refine gN _ ?_ ?_|refine sM _ ?_ ?_|refine gM _ ?_ ?_|refine sB _ ?_ ?_|refine gB _ ?_ ?_)<;>intro hc<;>simp[*,F66,za,chkV,zm]))
 simp[chkV,za,zm,hbx]at h0 h2 h3;clear hl hb;cases hek:endK x.kind
 ·(simp[*,F66,za,chkV,zm])<;>(repeat' ((first|refine sP _ ?_ ?_|refine gP _ ?_ ?_|refine sN _ ?_ ?_|refine gN _ ?_ ?_|refine sM _ ?_ ?_|refine gM _ ?_ ?_|refine sB _ ?_ ?_|refine gB _ ?_ ?_)<;>intro hc<;>simp[*,F66,za,chkV,zm]))
 ·(simp[*,F66,za,chkV,zm])<;>(repeat' ((first|refine sP _ ?_ ?_|refine gP _ ?_ ?_|refine sN _ ?_ ?_|refine gN _ ?_ ?_|refine sM _ ?_ ?_|refine gM _ ?_ ?_|refine sB _ ?_ ?_|refine gB _ ?_ ?_)<;>intro hc<;>simp[*,F66,za,chkV,zm]))
def sdM(u:Unt)(f:Flow)(p:Place)(deep:Int)(S:St1)(d:List Node):St1:=d.foldl (fun S x=>(nodeM u f x p deep S).2) S
theorem sdM_snoc(u:Unt)(f:Flow)(p:Place)(deep:Int)(S:St1)(d:List Node)(x:Node):sdM u f p deep S (d++[x])=(nodeM u f x p deep (sdM u f p deep S d)).2:=by simp[sdM]
theorem sdM_len(u:Unt)(f:Flow)(p:Place)(deep:Int)(d:List Node):∀S:St1,(sdM u f p deep S d).length=S.length:=by
 induction d with
 |nil=>intro S;rfl
 |cons x r ih=>intro S;simp only[sdM,List.foldl_cons];rw[<-sdM,ih,nodeM_len]
section
variable (u:Unt) (f:Flow) (n:Nat)
@[simp] theorem strip_chk:strip (chkV u f n)=chkV u f n:=yd rfl rfl
@[simp] theorem stripA_chk:stripA (chkV u f n)=chkV u f n:=yd rfl rfl
@[simp] theorem isVar_chk:zq (chkV u f n)=true:=yd rfl rfl
end
@[simp] theorem avoids_chk(dead:List Nat)(u:Unt)(f:Flow)(n:Nat):avoids dead (chkV u f n)=true:=yd rfl rfl
theorem split_of{α:Type}{l d r:List α}{x:α}(h:Split l d x r):∀{r'},l=d++r'->r'=x::r:=by
 intro r' h';have:=h.eq;rw[h']at this;exact List.append_cancel_left this
theorem split_last{α:Type}{l d r:List α}{x:α}(h:Split l d x r):decide ((d.length:Int)=(l.length:Int)-1)=r.isEmpty:=by
 have:=congrArg List.length h.eq;simp at this;cases r with
 |nil=>simp at this ⊢;omega
 |cons y t=>simp at this ⊢;omega
theorem list_spec(u:Unt)(f:Flow)(hu:UOk u):∀(N:Nat) (l:List Node) (deep:Int),wtL l<=N->N<1099511627776->0<=deep->deep<=101->ListOk u f deep l:=by
 intro N
 induction N using Nat.strongRecOn with
 |ind N ih=>
  intro l deep hl hN hd0 hd1 p S hS;refine ze rfl rfl rfl (by simp[chkV,zm]) ?_;have hll:=len_wtL l;simp[F43,zm,zj];refine zba l K43_0 B43_0 (fun d=>[(15,.int .i64 d.length)]) (fun d=>[stO (sdM u f p deep S d)]) (fun d=>(∃r,l=d++r/\goM u f l p deep S=goM u f r p deep (sdM u f p deep S d))/\∀y∈d,∀v∈y.outs,0<=v/\v<f.types.length) (by omega) (by simp[sdM]) ?_ ?_
  ·rintro d x r s hl' hlt hget hget' hw ⟨⟨r',hr1,hr2⟩,hp⟩ h1 h2 h3 h4
   have:=split_of hl' hr1;subst this;simp at h1 h2 h3;have hwx:=wt_mem hl'.mem;have hS1:(sdM u f p deep S d).length=f.types.length:=by rw[sdM_len];exact hS
   rw[goM]at hr2;have hsn:=sdM_snoc u f p deep S d x;have hlast:=split_last hl';have hw2:zX .i64 ((l.length:Int)-1)=(l.length:Int)-1:=zo (by omega) (by omega);have hc:=zdc x [] (by omega);have hout:=nodeM_outs (u:=u) (f:=f) (x:=x) (p:=p) (deep:=deep) (S:=sdM u f p deep S d);have hlm:zSa u f l p deep S=listE l (goM u f l p deep S):=rfl;by_cases hdeep:100<deep
   ·have e:zSa u f l p deep S=(false,sdM u f p deep S d):=by rw[hlm,hr2,if_pos hdeep];rfl
    clear ih hout hr1 hlm
    (simp[*,za,zj])<;>(repeat' (first|((first|refine sP _ ?_ ?_|refine gP _ ?_ ?_|refine sN _ ?_ ?_|refine gN _ ?_ ?_)<;>intro hc<;>(first|replace hc:=eqn hc|replace hc:=eqp hc)<;>simp[*,za,zj])|((first|refine sM _ ?_ ?_|refine gM _ ?_ ?_|refine sB _ ?_ ?_|refine gB _ ?_ ?_)<;>intro hc<;>simp[*,za,zj])))
   have hn:=node_spec u f (sdM u f p deep S d) x p deep hu hS1 (by omega) (by omega) (fun k hk=>by
    have:=wt_kid hk;exact ih (wtL k) (by omega) k (deep+1) (yl _) (by omega) (by omega) (by omega))
   rw[if_neg hdeep]at hr2;simp[za,zm]at hn hc;generalize hq:nodeM u f x p deep (sdM u f p deep S d)=q at*;cases hq1:q.1
   ·rw[hq1]at hr2 hn;have e:zSa u f l p deep S=(false,q.2):=by rw[hlm,hr2];rfl
    clear ih hout hr1 hlm
    (simp[*,za,zj])<;>(repeat' (first|((first|refine sP _ ?_ ?_|refine gP _ ?_ ?_|refine sN _ ?_ ?_|refine gN _ ?_ ?_)<;>intro hc<;>(first|replace hc:=eqn hc|replace hc:=eqp hc)<;>simp[*,za,zj])|((first|refine sM _ ?_ ?_|refine gM _ ?_ ?_|refine sB _ ?_ ?_|refine gB _ ?_ ?_)<;>intro hc<;>simp[*,za,zj])))
   rw[hq1]at hr2 hn;simp at hr2;by_cases hcl:zi x=r.isEmpty
   ·rw[if_pos hcl]at hr2;have hout':=hout hq1;clear ih hout hc hr1 hlm;have hc:=zdc x [] (by omega);simp[za]at hc;rw[hcl]at hc;have e:∃r',l=d++([x]++r')/\goM u f l p deep S=goM u f r' p deep q.2:=⟨r,by rw[hl'.eq];rfl,hr2⟩
    have e':∃r',l=d++x::r'/\goM u f l p deep S=goM u f r' p deep q.2:=⟨r,by rw[hl'.eq],hr2⟩
    (simp[*,za,zj])<;>(repeat' (first|((first|refine sP _ ?_ ?_|refine gP _ ?_ ?_|refine sN _ ?_ ?_|refine gN _ ?_ ?_)<;>intro hc<;>(first|replace hc:=eqn hc|replace hc:=eqp hc)<;>simp[*,za,zj])|((first|refine sM _ ?_ ?_|refine gM _ ?_ ?_|refine sB _ ?_ ?_|refine gB _ ?_ ?_)<;>intro hc<;>simp[*,za,zj])))
    all_goals(try grind)
   ·rw[if_neg hcl]at hr2;have e:zSa u f l p deep S=(false,q.2):=by rw[hlm,hr2];rfl
    clear ih hout hr1 hlm
    (simp[*,za,zj])<;>(repeat' (first|((first|refine sP _ ?_ ?_|refine gP _ ?_ ?_|refine sN _ ?_ ?_|refine gN _ ?_ ?_)<;>intro hc<;>(first|replace hc:=eqn hc|replace hc:=eqp hc)<;>simp[*,za,zj])|((first|refine sM _ ?_ ?_|refine gM _ ?_ ?_|refine sB _ ?_ ?_|refine gB _ ?_ ?_)<;>intro hc<;>simp[*,za,zj])))
    all_goals exact absurd (of_eq_true (by assumption)) hcl
  ·rintro s ⟨⟨r',hr1,hr2⟩,hp⟩ h1 h2 h3 h4
   have:r'=[]:=by
    have:=congrArg List.length hr1;simp at this;exact this
   subst this;simp at h1 h2 h3;rw[goM]at hr2;have hlm:zSa u f l p deep S=(!l.isEmpty,zCb (sdM u f p deep S l) (l.flatMap Node.outs)):=by
    show listE l (goM u f l p deep S)=_
    rw[hr2];rfl
   clear ih hr1;simp[*,zm,zj];refine zba l K43_1 B43_1 (fun d=>[(43,.int .i64 d.length)]) (fun d=>[stO (zCb (sdM u f p deep S l) (d.flatMap Node.outs))]) (fun d=>True) (by omega) (by simp[zCb]) ?_ ?_
   ·intros d x r s' hl' hlt hget hget' hw _ h1' h2' h3' h4';have hwx:=wt_mem hl'.mem;have hxe:=zjc x;have hh:=hide_spec u f (zCb (sdM u f p deep S l) (d.flatMap Node.outs)) x.outs (by rw[zKc,sdM_len];exact hS) (by omega) (hp x hl'.mem);have hh2:zCb (zCb (sdM u f p deep S l) (d.flatMap Node.outs)) x.outs=zCb (sdM u f p deep S l) (d.flatMap Node.outs++x.outs):=by simp[zCb]
    rw[hh2]at hh;simp at h1' h3';clear h2' hp h1 h2
    (simp[*,za,zj])<;>(repeat' (first|((first|refine sP _ ?_ ?_|refine gP _ ?_ ?_|refine sN _ ?_ ?_|refine gN _ ?_ ?_)<;>intro hc<;>(first|replace hc:=eqn hc|replace hc:=eqp hc)<;>simp[*,za,zj])|((first|refine sM _ ?_ ?_|refine gM _ ?_ ?_|refine sB _ ?_ ?_|refine gB _ ?_ ?_)<;>intro hc<;>simp[*,za,zj])))
   ·intros s' _ h1' h2' h3' h4';simp at h1' h3';clear h2' hp h1 h2;have hz:decide (0<l.length)= !l.isEmpty:=by cases l<;>simp
    (simp[*,zj])<;>(repeat' (first|((first|refine sP _ ?_ ?_|refine gP _ ?_ ?_|refine sN _ ?_ ?_|refine gN _ ?_ ?_)<;>intro hc<;>(first|replace hc:=eqn hc|replace hc:=eqp hc)<;>simp[*,zj])|((first|refine sM _ ?_ ?_|refine gM _ ?_ ?_|refine sB _ ?_ ?_|refine gB _ ?_ ?_)<;>intro hc<;>simp[*,zj])))
def tyOk(t:Int):Bool:=decide (t=1)||decide (t=2)
theorem isType_spec(t:Int)(σ:zb):zn E 39 [.int .i64 t] σ=some (.ret (.bool (tyOk t)),σ):=by
 refine ze rfl rfl rfl (by simp) ?_
 (simp[*,F39,tyOk])<;>(repeat' ((first|refine sP _ ?_ ?_|refine gP _ ?_ ?_|refine sN _ ?_ ?_|refine gN _ ?_ ?_|refine sM _ ?_ ?_|refine gM _ ?_ ?_|refine sB _ ?_ ?_|refine gB _ ?_ ?_)<;>intro hc<;>simp[*,F39,tyOk]))
theorem notType_spec(t:Int)(σ:zb):zn E 42 [.int .i64 t] σ=some (.ret (.bool (!tyOk t)),σ):=by
 refine ze rfl rfl rfl (by simp) ?_
 (simp[*,F42,isType_spec])<;>(repeat' ((first|refine sP _ ?_ ?_|refine gP _ ?_ ?_|refine sN _ ?_ ?_|refine gN _ ?_ ?_|refine sM _ ?_ ?_|refine gM _ ?_ ?_|refine sB _ ?_ ?_|refine gB _ ?_ ?_)<;>intro hc<;>simp[*,F42,isType_spec]))
def initM(f:Flow)(k:Nat):St1:=yE k 1++yE (f.types.length-k) 0
def zEb:Place:=⟨false,false,[],[],[]⟩
def flowM(u:Unt)(f:Flow):Bool:=
 !(decide (8<f.params)||decide (20000<f.types.length)||f.types.any (fun t=> !tyOk t))&&(zSa u f f.body zEb 1 (initM f f.params.toNat)).1
theorem initM_len(f:Flow)(k:Nat)(h:k<=f.types.length):(initM f k).length=f.types.length:=by simp[initM];omega
theorem initM_set(f:Flow)(k:Nat)(h:k<f.types.length):(initM f k).set k 1=initM f (k+1):=by
 unfold initM;have:f.types.length-k=(f.types.length-(k+1))+1:=by omega
 rw[this,List.replicate_succ,List.set_append_right _ _ (by simp)];simp[List.replicate_succ']
theorem flow_spec(u:Unt)(f:Flow)(hu:UOk u)(hp:0<=f.params/\f.params<=f.types.length)(ht:f.types.length<1099511627776)(hb:wtL f.body<1099511627776):
  zn E 24 [encUnt u,zg f] []=some (.ret (.bool (flowM u f)),[]):=by
 refine ze rfl rfl rfl (by simp[encUnt,zg]) ?_;have h1:=containsFuncInt f.types (fun t=> !tyOk t) 42 [] [] [] ht (by simp) (fun x _=>notType_spec x []);have h2:=list_spec u f hu (wtL f.body) f.body 1 (yl _) hb (by omega) (by omega) zEb (initM f f.params.toNat) (initM_len f _ (by omega));simp[zm,zEb]at h2;have ho:decide ((20000:Int)<f.types.length)=decide (20000<f.types.length):=by simp;omega
 have l1:(0:Int)<=(f.types.length:Int):=by omega
 have l2:(f.types.length:Int)<=9223372036854775807:=by omega
 have l3:8*(f.types.length:Int)<=281474976710656:=by omega
 (simp[*,F24,encUnt,zg,ints,flowM,zEb])<;>(repeat' (first|((first|refine sP _ ?_ ?_|refine gP _ ?_ ?_|refine sN _ ?_ ?_|refine gN _ ?_ ?_)<;>intro hc<;>(first|replace hc:=eqn hc|replace hc:=eqp hc)<;>simp[*,F24,encUnt,zg,ints,flowM,zEb])|((first|refine sM _ ?_ ?_|refine gM _ ?_ ?_|refine sB _ ?_ ?_|refine gB _ ?_ ?_)<;>intro hc<;>simp[*,F24,encUnt,zg,ints,flowM,zEb])))
 all_goals first
  |refine zba (yS f.params.toNat) K24_0 B24_0 (fun d=>[(31,.int .i64 d.length)]) (fun d=>[stO (initM f d.length)]) (fun _=>True) (by simp;omega) (by simp[initM,stO]) ?_ ?_
  |(try grind)
 ·intros d x r s hl' hlt hget hget' hw _ q1 q2 q3 q4;simp at hlt;have e1:(d.length:Int)<f.params:=by omega
  have e2:d.length<f.types.length:=by omega
  have e3:=initM_set f d.length e2;have e4:=initM_len f d.length (by omega);have e5:(initM f (d.length+1)).map (PV.int .i64)=((initM f d.length).map (PV.int .i64)).set d.length (.int .i64 1):=by rw[<-e3,List.map_set]
  simp at q1 q2 q3 q4;clear h1 h2 hget hget' e3
  (simp[*,zg,ints,zF,zob,stO])<;>(repeat' (first|((first|refine sP _ ?_ ?_|refine gP _ ?_ ?_|refine sN _ ?_ ?_|refine gN _ ?_ ?_)<;>intro hc<;>(first|replace hc:=eqn hc|replace hc:=eqp hc)<;>simp[*,zg,ints,zF,zob,stO])|((first|refine sM _ ?_ ?_|refine gM _ ?_ ?_|refine sB _ ?_ ?_|refine gB _ ?_ ?_)<;>intro hc<;>simp[*,zg,ints,zF,zob,stO])))
 ·intros s _ q1 q2 q3 q4;have e0:(f.params.toNat:Int)=f.params:=by omega
  simp at q1 q2 q3 q4;clear h1;simp[chkV,ints,flowM,zEb,stO]at h2
  (simp[*,zg,ints,stO])<;>(repeat' (first|((first|refine sP _ ?_ ?_|refine gP _ ?_ ?_|refine sN _ ?_ ?_|refine gN _ ?_ ?_)<;>intro hc<;>(first|replace hc:=eqn hc|replace hc:=eqp hc)<;>simp[*,zg,ints,stO])|((first|refine sM _ ?_ ?_|refine gM _ ?_ ?_|refine sB _ ?_ ?_|refine gB _ ?_ ?_)<;>intro hc<;>simp[*,zg,ints,stO])))
  all_goals(try grind)
def bump:List (List UInt8×Int)->List UInt8->List (List UInt8×Int)
 | [],s=>[(s,IntKind.wrap .i64 (0+1))]
 |(k,v)::r,s=>if s=k then(s,IntKind.wrap .i64 (v+1))::r else(k,v)::bump r s
def bumps(l:List (List UInt8)):List (List UInt8×Int):=l.foldl bump []
def encM(m:List (List UInt8×Int)):List (PV×PV):=m.map fun p=>(.str p.1,.int .i64 p.2)
def findC(s:List UInt8):List (List UInt8×Int)->Option Int
 | []=>none
 |(k,v)::r=>if s=k then some v else findC s r
theorem mapFind_enc(s:List UInt8):∀m,zEa true (.str s) (encM m)=some ((findC s m).map (PV.int .i64))
 | []=>rfl
 |(k,v)::r=>by
  have ih:=mapFind_enc s r;simp only[encM]at ih;simp only[encM,yda,zEa,keyEq,findC];by_cases h:s=k
  ·simp[h]
  ·simp[h,ih]
theorem mapSet_enc(s:List UInt8):∀m,zWb true (.str s) (.int .i64 (zX .i64 ((findC s m).getD 0+1))) (encM m)=some (encM (bump m s))
 | []=>by simp[encM,zWb,findC,bump,zkc]
 |(k,v)::r=>by
  have ih:=mapSet_enc s r;simp only[encM]at ih;simp only[encM,yda,zWb,keyEq,findC,bump];by_cases h:s=k
  ·simp[h,zkc]
  ·simp[h,ih]
theorem bump_keys(s:List UInt8):∀m,(bump m s).map Prod.fst=if s∈m.map Prod.fst then m.map Prod.fst else m.map Prod.fst++[s]
 | []=>by simp[bump]
 |(k,v)::r=>by
  have ih:=bump_keys s r;simp only[bump];by_cases h:s=k
  ·simp[h]
  ·simp only[h,if_false,yda,ih,yz,false_or];split<;>simp
def dist(l:List (List UInt8)):List (List UInt8):=l.foldl (fun d s=>if s∈d then d else d++[s]) []
theorem bumps_keys(l:List (List UInt8)):(bumps l).map Prod.fst=dist l:=by
 have:∀(l:List (List UInt8)) m,(l.foldl bump m).map Prod.fst=l.foldl (fun d s=>if s∈d then d else d++[s]) (m.map Prod.fst):=by
  intro l
  induction l with
  |nil=>intro m;rfl
  |cons s r ih=>intro m;simp only[List.foldl_cons,ih,bump_keys]
 exact this l []
theorem dist_nodup(l:List (List UInt8)):decide ((dist l).length=l.length)=decide l.Nodup:=by
 have key:∀(l d:List (List UInt8)),d.Nodup->(l.foldl (fun d s=>if s∈d then d else d++[s]) d).length<=d.length+l.length∧
   ((l.foldl (fun d s=>if s∈d then d else d++[s]) d).length=d.length+l.length<->(d++l).Nodup):=by
  intro l
  induction l with
  |nil=>intro d hd;simp[hd]
  |cons s r ih=>
   intro d hd;simp only[List.foldl_cons];by_cases h:s∈d
   ·rw[if_pos h];obtain⟨h1,h2⟩:=ih d hd;refine⟨by simp;omega,⟨fun e=>by simp at e;omega,fun e=>?_⟩⟩;rw[List.nodup_append]at e;exact absurd rfl (e.2.2 s h s (by simp))
   ·rw[if_neg h];have hd':(d++[s]).Nodup:=by
     rw[List.nodup_append];exact⟨hd,by simp,fun a ha b hb e=>by simp at hb;subst hb;subst e;exact h ha⟩
    obtain⟨h1,h2⟩:=ih (d++[s]) hd';refine⟨by simp at h1 ⊢;omega,?_⟩;rw[show d++s::r=d++[s]++r by simp,<-h2];simp;omega
 have:=(key l [] (by simp)).2;simp only[List.nil_append,yN,yF]at this;unfold dist;simp only[decide_eq_decide];exact this
theorem bumps_snoc(l:List (List UInt8))(s:List UInt8):bumps (l++[s])=bump (bumps l) s:=by simp[bumps]
theorem encM_len(m:List (List UInt8×Int)):(encM m).length=(m.map Prod.fst).length:=by simp[encM]
def zAc(u:Unt):List (List UInt8):=u.arrays.map Arr.name++u.flows.map Flow.name
def arrOk(a:Arr):Bool:=nameM a.name&&decide (1<=a.size)&&decide (a.size<=1000)
def zhb(f:Flow):Bool:=nameM f.name&&tyOk f.type&&decide (0<=f.params)&&decide (f.params<=f.types.length)
def zC:List UInt8:=[109,97,105,110]
def mainOk(u:Unt):Bool:=match u.flows[(zZ u.flows zC).toNat]? with
 |some g=>decide (0<=zZ u.flows zC)&&decide (g.type=1)&&decide (g.params=0)
 |none=>false
def zDb(u:Unt):Bool:=u.arrays.all arrOk&&u.flows.all zhb&&decide (zAc u).Nodup&&mainOk u
theorem findC_cases(s:List UInt8)(m:List (List UInt8×Int)):∃o,findC s m=o/\zEa true (.str s) (encM m)=some (o.map (PV.int .i64))/\zWb true (.str s) (.int .i64 (zX .i64 (o.getD 0+1))) (encM m)=some (encM (bump m s)):=
 ⟨_,rfl,mapFind_enc s m,mapSet_enc s m⟩
theorem head_spec(u:Unt)(hu1:u.arrays.length<1099511627776)(hu2:u.flows.length<1099511627776):zn E 23 [encUnt u] []=some (.ret (.bool (zDb u)),[]):=by
 refine ze rfl rfl rfl (by simp[encUnt]) ?_;simp[F23,encUnt,arrs];refine zba u.arrays K23_0 B23_0 (fun d=>[(13,.int .i64 d.length)]) (fun d=>[.mp (encM (bumps (d.map Arr.name)))]) (fun d=>d.all arrOk=true) (by omega) (by simp[bumps,encM]) ?_ ?_
 ·intros d x r s hl' hlt hget hget' hw hp h1 h2 h3 h4;simp at h1 h2 h3;have hn:=name_spec x.name [];have hall:u.arrays.all arrOk=(d.all arrOk&&(arrOk x&&r.all arrOk)):=by rw[hl'.eq];simp
  have hsn:bumps (List.map Arr.name d++[x.name])=bump (bumps (List.map Arr.name d)) x.name:=bumps_snoc _ _;obtain⟨o,o1,o2,o3⟩:=findC_cases x.name (bumps (d.map Arr.name));clear o1;cases hnm:nameM x.name
  ·have hx:arrOk x=false:=by simp[arrOk,hnm]
   have hh:zDb u=false:=by simp only[zDb,hall,hx];simp
   cases o<;>(simp at o3;(simp[*,zea,arrs])<;>(repeat' (first|((first|refine sP _ ?_ ?_|refine gP _ ?_ ?_|refine sN _ ?_ ?_|refine gN _ ?_ ?_)<;>intro hc<;>(first|replace hc:=eqn hc|replace hc:=eqp hc)<;>simp[*,zea,arrs])|((first|refine sM _ ?_ ?_|refine gM _ ?_ ?_|refine sB _ ?_ ?_|refine gB _ ?_ ?_)<;>intro hc<;>simp[*,zea,arrs]))))
  ·by_cases hs1:x.size<1
   ·have hx:arrOk x=false:=by simp[arrOk];omega
    have hh:zDb u=false:=by simp only[zDb,hall,hx];simp
    cases o<;>(simp at o3;(simp[*,zea,arrs])<;>(repeat' (first|((first|refine sP _ ?_ ?_|refine gP _ ?_ ?_|refine sN _ ?_ ?_|refine gN _ ?_ ?_)<;>intro hc<;>(first|replace hc:=eqn hc|replace hc:=eqp hc)<;>simp[*,zea,arrs])|((first|refine sM _ ?_ ?_|refine gM _ ?_ ?_|refine sB _ ?_ ?_|refine gB _ ?_ ?_)<;>intro hc<;>simp[*,zea,arrs]))))
   ·by_cases hs2:1000<x.size
    ·have hx:arrOk x=false:=by simp[arrOk];omega
     have hh:zDb u=false:=by simp only[zDb,hall,hx];simp
     cases o<;>(simp at o3;(simp[*,zea,arrs])<;>(repeat' (first|((first|refine sP _ ?_ ?_|refine gP _ ?_ ?_|refine sN _ ?_ ?_|refine gN _ ?_ ?_)<;>intro hc<;>(first|replace hc:=eqn hc|replace hc:=eqp hc)<;>simp[*,zea,arrs])|((first|refine sM _ ?_ ?_|refine gM _ ?_ ?_|refine sB _ ?_ ?_|refine gB _ ?_ ?_)<;>intro hc<;>simp[*,zea,arrs]))))
    ·have hx:arrOk x=true:=by simp[arrOk,hnm];omega
     have hpp:∀y∈d,arrOk y=true:=by simpa using hp
     clear hall;cases o<;>(simp at o3;(simp[*,zea,arrs])<;>(repeat' (first|((first|refine sP _ ?_ ?_|refine gP _ ?_ ?_|refine sN _ ?_ ?_|refine gN _ ?_ ?_)<;>intro hc<;>(first|replace hc:=eqn hc|replace hc:=eqp hc)<;>simp[*,zea,arrs])|((first|refine sM _ ?_ ?_|refine gM _ ?_ ?_|refine sB _ ?_ ?_|refine gB _ ?_ ?_)<;>intro hc<;>simp[*,zea,arrs]))))<;>(try grind)
 intros s0 hpa h1 h2 h3 h4;simp at h1 h2 h3;simp[*,arrs,flows];refine zba u.flows K23_1 B23_1 (fun d=>[(40,.int .i64 d.length)]) (fun d=>[.mp (encM (bumps (u.arrays.map Arr.name++d.map Flow.name)))]) (fun d=>d.all zhb=true) (by omega) (by simp) ?_ ?_
 ·intros d x r s hl' hlt hget hget' hw hp h1' h2' h3' h4';simp at h1' h2' h3';clear h1 h2 h3 h4;have hn:=name_spec x.name [];have ht:=isType_spec x.type [];have hall:u.flows.all zhb=(d.all zhb&&(zhb x&&r.all zhb)):=by rw[hl'.eq];simp
  have hsn:bumps (List.map Arr.name u.arrays++(List.map Flow.name d++[x.name]))=bump (bumps (List.map Arr.name u.arrays++List.map Flow.name d)) x.name:=by rw[<-yV];exact bumps_snoc _ _
  obtain⟨o,o1,o2,o3⟩:=findC_cases x.name (bumps (u.arrays.map Arr.name++d.map Flow.name));clear o1;have hh:zhb x=false->zDb u=false:=fun hx=>by simp only[zDb,hall,hx];simp
  have hpp:∀y∈d,zhb y=true:=by simpa using hp
  cases hx:zhb x
  ·have hh:=hh hx;simp only[zhb]at hx;clear hall;cases o<;>(simp at o3;(simp[*,zg,flows,ints])<;>(repeat' (first|((first|refine sP _ ?_ ?_|refine gP _ ?_ ?_|refine sN _ ?_ ?_|refine gN _ ?_ ?_)<;>intro hc<;>(first|replace hc:=eqn hc|replace hc:=eqp hc)<;>simp[*,zg,flows,ints])|((first|refine sM _ ?_ ?_|refine gM _ ?_ ?_|refine sB _ ?_ ?_|refine gB _ ?_ ?_)<;>intro hc<;>simp[*,zg,flows,ints]))))<;>(try grind)
  ·have hx2:=hx;simp only[zhb,ya,decide_eq_true_eq]at hx2;obtain⟨⟨⟨n1,n2⟩,n3⟩,n4⟩:=hx2;have n3':¬x.params<0:=by omega
   have n4':¬(x.types.length:Int)<x.params:=by omega
   clear hall hh;cases o<;>(simp at o3;(simp[*,zg,flows,ints])<;>(repeat' (first|((first|refine sP _ ?_ ?_|refine gP _ ?_ ?_|refine sN _ ?_ ?_|refine gN _ ?_ ?_)<;>intro hc<;>(first|replace hc:=eqn hc|replace hc:=eqp hc)<;>simp[*,zg,flows,ints])|((first|refine sM _ ?_ ?_|refine gM _ ?_ ?_|refine sB _ ?_ ?_|refine gB _ ?_ ?_)<;>intro hc<;>simp[*,zg,flows,ints]))))<;>(try grind)
 ·intros s hp h1' h2' h3' h4';simp at h1' h2' h3';clear h1 h2 h3 h4;have hpl:=place_spec u zC [] hu2;simp[encUnt,zC,arrs,flows]at hpl;have hk:(encM (bumps (u.arrays.map Arr.name++u.flows.map Flow.name))).length=(dist (zAc u)).length:=by rw[encM_len,bumps_keys];rfl
  have hd:=dist_nodup (zAc u);have hul:(zAc u).length=u.arrays.length+u.flows.length:=by simp[zAc]
  have hw:zX .i64 ((u.arrays.length:Int)+u.flows.length)=(u.arrays.length:Int)+u.flows.length:=zo (by omega) (by omega);have hh:zDb u=(decide (zAc u).Nodup&&mainOk u):=by simp only[zDb,hpa,hp];simp
  have hz:decide (((dist (zAc u)).length:Int)=(u.arrays.length:Int)+u.flows.length)=decide (zAc u).Nodup:=by
   rw[<-hd,hul];simp;omega
  by_cases hp0:0<=zZ u.flows zC
  ·obtain⟨g,q1,q2,q3,q4⟩:=place_get hp0;have q5:u.flows[(zZ u.flows zC).toNat]=g:=by simpa[q4]using q1
   have hm:mainOk u=(decide (g.type=1)&&decide (g.params=0)):=by simp[mainOk,q1,hp0]
   simp[zC]at hp0 q1 q4 q5;clear hd hul hpa hp;cases hnd:decide (zAc u).Nodup
   ·rw[hnd]at hz hh
    (simp[*,flows,zg,arrs])<;>(repeat' (first|((first|refine sP _ ?_ ?_|refine gP _ ?_ ?_|refine sN _ ?_ ?_|refine gN _ ?_ ?_)<;>intro hc<;>(first|replace hc:=eqn hc|replace hc:=eqp hc)<;>simp[*,flows,zg,arrs])|((first|refine sM _ ?_ ?_|refine gM _ ?_ ?_|refine sB _ ?_ ?_|refine gB _ ?_ ?_)<;>intro hc<;>simp[*,flows,zg,arrs])))
   ·rw[hnd]at hz hh
    (simp[*,flows,zg,arrs])<;>(repeat' (first|((first|refine sP _ ?_ ?_|refine gP _ ?_ ?_|refine sN _ ?_ ?_|refine gN _ ?_ ?_)<;>intro hc<;>(first|replace hc:=eqn hc|replace hc:=eqp hc)<;>simp[*,flows,zg,arrs])|((first|refine sM _ ?_ ?_|refine gM _ ?_ ?_|refine sB _ ?_ ?_|refine gB _ ?_ ?_)<;>intro hc<;>simp[*,flows,zg,arrs])))
  ·have hm:mainOk u=false:=by
    unfold mainOk;split<;>simp;omega
   simp only[zC]at hp0;clear hd hul hpa hp;cases hnd:decide (zAc u).Nodup
   ·rw[hnd]at hz hh
    (simp[*,flows,zg,arrs])<;>(repeat' (first|((first|refine sP _ ?_ ?_|refine gP _ ?_ ?_|refine sN _ ?_ ?_|refine gN _ ?_ ?_)<;>intro hc<;>(first|replace hc:=eqn hc|replace hc:=eqp hc)<;>simp[*,flows,zg,arrs])|((first|refine sM _ ?_ ?_|refine gM _ ?_ ?_|refine sB _ ?_ ?_|refine gB _ ?_ ?_)<;>intro hc<;>simp[*,flows,zg,arrs])))
   ·rw[hnd]at hz hh
    (simp[*,flows,zg,arrs])<;>(repeat' (first|((first|refine sP _ ?_ ?_|refine gP _ ?_ ?_|refine sN _ ?_ ?_|refine gN _ ?_ ?_)<;>intro hc<;>(first|replace hc:=eqn hc|replace hc:=eqp hc)<;>simp[*,flows,zg,arrs])|((first|refine sM _ ?_ ?_|refine gM _ ?_ ?_|refine sB _ ?_ ?_|refine gB _ ?_ ?_)<;>intro hc<;>simp[*,flows,zg,arrs])))
structure USz(u:Unt):Prop where
 arrs:u.arrays.length<1099511627776
 flows:u.flows.length<1099511627776
 types:∀f∈u.flows,f.types.length<1099511627776
 body:∀f∈u.flows,wtL f.body<1099511627776
theorem USz.ok{u:Unt}(h:USz u)(hh:zDb u=true):UOk u:=by
 refine⟨h.arrs,h.flows,fun f hf=>?_,h.types⟩;simp only[zDb,ya,yn]at hh;have:=hh.1.1.2 f hf;simp only[zhb,ya,decide_eq_true_eq]at this;exact⟨this.1.2,this.2⟩
def zAb(u:Unt):Int×Int:=if zDb u then(match u.flows.findIdx? (fun f=> !flowM u f)with
 |some i=>(80,(i:Int))
 |none=>(0,0))else(1,0)
theorem zOc(u:Unt)(hu:USz u):zn E 9 [encUnt u] []=some (.ret (.tup [.int .i64 (zAb u).1,.int .i64 (zAb u).2]),[]):=by
 refine ze rfl rfl rfl (by simp[encUnt]) ?_;have h1:=head_spec u hu.arrs hu.flows;cases hh:zDb u
 ·simp[encUnt,hh,flows]at h1;have hc:zAb u=(1,0):=by simp[zAb,hh]
  (simp[*,F9,encUnt,flows])<;>(repeat' (first|((first|refine sP _ ?_ ?_|refine gP _ ?_ ?_|refine sN _ ?_ ?_|refine gN _ ?_ ?_)<;>intro hc<;>(first|replace hc:=eqn hc|replace hc:=eqp hc)<;>simp[*,F9,encUnt,flows])|((first|refine sM _ ?_ ?_|refine gM _ ?_ ?_|refine sB _ ?_ ?_|refine gB _ ?_ ?_)<;>intro hc<;>simp[*,F9,encUnt,flows])))
 ·have ho:=hu.ok hh;simp[encUnt,hh,flows]at h1;have hf:∀f∈u.flows,zn E 24 [encUnt u,zg f] []=some (.ret (.bool (flowM u f)),[]):=fun f hf=>flow_spec u f ho (ho.pars f hf) (hu.types f hf) (hu.body f hf)
  have hfl:=hu.flows;simp[F9,encUnt,flows,h1];refine zba u.flows K9_0 B9_0 (fun d=>[(12,.int .i64 d.length)]) (fun d=>[]) (fun d=>∀f∈d,flowM u f=true) (by omega) (by simp) ?_ ?_
  ·intros d x r s hl' hlt hget hget' hw hp q1 q2 q3 q4;simp at q1 q2 q3;have hfx:=hf x hl'.mem;simp[encUnt,flows,zg]at hfx;clear hf hu ho h1;cases hx:flowM u x
   ·have hi:=idx_hit (p:=fun f=> !flowM u f) hl' (by simpa using hp) (by simp[hx]);have hcx:zAb u=(80,(d.length:Int)):=by
     unfold idx at hi;simp only[zAb,hh,if_true];cases hfi:u.flows.findIdx? (fun f=> !flowM u f)with
     |none=>rw[hfi]at hi;simp at hi
     |some i=>rw[hfi]at hi;simp at hi;simp[hi]
    (simp[*,zg,flows])<;>(repeat' (first|((first|refine sP _ ?_ ?_|refine gP _ ?_ ?_|refine sN _ ?_ ?_|refine gN _ ?_ ?_)<;>intro hc<;>(first|replace hc:=eqn hc|replace hc:=eqp hc)<;>simp[*,zg,flows])|((first|refine sM _ ?_ ?_|refine gM _ ?_ ?_|refine sB _ ?_ ?_|refine gB _ ?_ ?_)<;>intro hc<;>simp[*,zg,flows])))
   ·(simp[*,zg,flows])<;>(repeat' (first|((first|refine sP _ ?_ ?_|refine gP _ ?_ ?_|refine sN _ ?_ ?_|refine gN _ ?_ ?_)<;>intro hc<;>(first|replace hc:=eqn hc|replace hc:=eqp hc)<;>simp[*,zg,flows])|((first|refine sM _ ?_ ?_|refine gM _ ?_ ?_|refine sB _ ?_ ?_|refine gB _ ?_ ?_)<;>intro hc<;>simp[*,zg,flows])))
    all_goals(try grind)
  ·intros s hp q1 q2 q3 q4;simp at q1 q2 q3;have hcx:zAb u=(0,0):=by
    have:u.flows.findIdx? (fun f=> !flowM u f)=none:=by rw[yW];simpa using hp
    simp[zAb,hh,this]
   clear hf hu ho hh h1 hp
   (simp[*])<;>(repeat' (first|((first|refine sP _ ?_ ?_|refine gP _ ?_ ?_|refine sN _ ?_ ?_|refine gN _ ?_ ?_)<;>intro hc<;>(first|replace hc:=eqn hc|replace hc:=eqp hc)<;>simp[*])|((first|refine sM _ ?_ ?_|refine gM _ ?_ ?_|refine sB _ ?_ ?_|refine gB _ ?_ ?_)<;>intro hc<;>simp[*])))
structure RS where
 inp:List Int
 arrs:List (List Int)
 out:List Int
 cost:Int
 fuel:Nat
inductive Rt(α:Type) where
 |ok (a:α)
 |stop (k:Int)
structure Wy where
 kind:Int
 l:List Int
abbrev NEv:=Node->List Int->RS->Rt Wy×List Int×RS
def atA(l:List Int)(i:Nat):Int:=(l[i]?).getD 0
def flowAt(u:Unt)(nm:List UInt8):Option Flow:=u.flows[(zZ u.flows nm).toNat]?
section
variable (u:Unt) (ev:NEv)
end
structure Rn where
 status:Int
 code:Int
 out:List Int
 cost:Int
 fuel:Nat
abbrev Set1:=List Bool
def atB(l:List Bool)(v:Int):Bool:=(l[v.toNat]?).getD false
def useR(ty:List Int)(seen:List Int)(v t:Int):Bool:=decide (0<=v)&&(decide (v<ty.length)&&(seen.contains v&&(decide (t=0)||decide (at0 ty v=t))))
def zL(ty:List Int)(seen:List Int)(l want:List Int):Bool:=decide (l.length=want.length)&&(l.zip want).all fun p=>useR ty seen p.1 p.2
theorem zip_get{l ts d:List Int}{q:Nat}{v t:Int}(hget:(l.zip ts)[q]? =some (v,t)):l[q]? =some v/\ts[q]? =some t:=by
 rw[yba]at hget;exact hget
def zHb(ty:List Int)(Z:Set1)(v t:Int):Bool×Set1:=if valM ty v t&& !atB Z v then(true,Z.set v.toNat true)else(false,Z)
def zra(ty:List Int)(Z:Set1)(l want:List Int):Bool×Set1:=eqM (zHb ty) Z l want
def isOne(op:Int):Bool:=decide (20<=op)&&decide (op<=28)
def isTwo(op:Int):Bool:=decide (1<=op)&&decide (op<=17)
def zN(u:Unt)(f:Flow)(seen:List Int)(w:Place)(Z:Set1)(n:Node):Bool×Set1:=
 let ty:=f.types
 if n.kind=1 then if zL ty seen n.args []then zra ty Z n.outs [1]else(false,Z)
 else if n.kind=2 then if(n.n=0\/n.n=1)/\zL ty seen n.args []=true then zra ty Z n.outs [2]else(false,Z)
 else if n.kind=3 then if isOne n.op&&zL ty seen n.args [takes n.op]then zra ty Z n.outs [zbd n.op]else(false,Z)
 else if n.kind=4 then if(isTwo n.op&&zL ty seen n.args [takes n.op,takes n.op])=true/\at0 ty (at0 n.args 0)=at0 ty (at0 n.args 1)then zra ty Z n.outs [zbd n.op]else(false,Z)
 else if n.kind=5 then if zFb u.arrays n.name&&zL ty seen n.args [1]then zra ty Z n.outs [1]else(false,Z)
 else if n.kind=6 then(zFb u.arrays n.name&&(zL ty seen n.args [1,1]&&decide (n.outs=[])),Z)
 else if n.kind=7 then
  match u.flows[(zZ u.flows n.name).toNat]? with
  |some g=>if 0<=zZ u.flows n.name/\zL ty seen n.args (pars g)=true then zra ty Z n.outs [g.type]else(false,Z)
  |none=>(false,Z)
 else if n.kind=8 then if n.args=[]then zra ty Z n.outs [1]else(false,Z)
 else if n.kind=9 then(zL ty seen n.args [1]&&decide (n.outs=[]),Z)
 else if n.kind=12 then(w.inIf&&(zL ty seen n.args w.yield&&decide (n.outs=[])),Z)
 else if n.kind=13 then(w.inLoop&&(zL ty seen n.args w.next&&decide (n.outs=[])),Z)
 else if n.kind=14 then(w.inLoop&&(zL ty seen n.args w.left&&decide (n.outs=[])),Z)
 else if n.kind=15 then(zL ty seen n.args [f.type]&&decide (n.outs=[]),Z)
 else(false,Z)
theorem typesR_two{ty seen l:List Int}{t t':Int}(h:zL ty seen l [t,t']=true):∃a b,l=[a,b]/\0<=a/\a<ty.length/\0<=b/\b<ty.length:=by
 unfold zL at h
 match l with
 | []=>simp at h
 | [_]=>simp at h
 |a::b::_::_=>simp at h
 | [a,b]=>
  simp[useR]at h;exact⟨a,b,rfl,h.1.1,h.1.2.1,h.2.1,h.2.2.1⟩
def zJc(l:List Node)(q:Bool×Set1):Bool×Set1:=if q.1 then(!l.isEmpty,q.2)else(false,q.2)
def endR(ty:List Int)(x:Node)(q:Bool×Set1):Bool×Set1:=if q.1&&(decide (x.outs=[])|| !zi x)then zra ty q.2 x.outs (zmb x.outs.length)else(false,q.2)
mutual
def zha(u:Unt)(f:Flow):Node->List Int->Place->Int->Set1->Bool×Set1
 |⟨k,o,n,s,a,us,ps,ks⟩,seen,w,deep,Z=>
  if !zxa ⟨k,o,n,s,a,us,ps,ks⟩then(false,Z)
  else if k=10 then
   if zL f.types seen a [2]then endR f.types ⟨k,o,n,s,a,us,ps,ks⟩ (zYb u f ks seen {w with inIf:=true,yield:=typesM f.types us} (deep+1) Z)else(false,Z)
  else if k=11 then
   if zL f.types seen a (typesM f.types ps)then
    if(zra f.types Z ps (zmb ps.length)).1 then endR f.types ⟨k,o,n,s,a,us,ps,ks⟩ (zYb u f ks (seen++ps) ⟨false,true,[],typesM f.types ps,typesM f.types us⟩ (deep+1) (zra f.types Z ps (zmb ps.length)).2)
    else(false,(zra f.types Z ps (zmb ps.length)).2)
   else(false,Z)
  else zN u f seen w Z ⟨k,o,n,s,a,us,ps,ks⟩
def zYb(u:Unt)(f:Flow):List (List Node)->List Int->Place->Int->Set1->Bool×Set1
 | [],seen,w,deep,Z=>(true,Z)
 |l::r,seen,w,deep,Z=>if(zJc l (goR u f l seen w deep Z)).1 then zYb u f r seen w deep (zJc l (goR u f l seen w deep Z)).2 else(false,(zJc l (goR u f l seen w deep Z)).2)
def goR(u:Unt)(f:Flow):List Node->List Int->Place->Int->Set1->Bool×Set1
 | [],seen,w,deep,Z=>(true,Z)
 |x::r,seen,w,deep,Z=>if 100<deep then(false,Z)else
   if(zha u f x seen w deep Z).1 then(if zi x=r.isEmpty then goR u f r (seen++x.outs) w deep (zha u f x seen w deep Z).2 else(false,(zha u f x seen w deep Z).2))else(false,(zha u f x seen w deep Z).2)
end
def listR(u:Unt)(f:Flow)(l:List Node)(seen:List Int)(w:Place)(deep:Int)(Z:Set1):Bool×Set1:=zJc l (goR u f l seen w deep Z)
def louts(l:List Node):List Int:=l.flatMap fun x=>x.outs
@[simp] theorem louts_nil:louts []=[]:=rfl
theorem louts_cons(a:List Node)(x:Node):louts (x::a)=x.outs++louts a:=by simp[louts]
def initR(f:Flow)(k:Nat):Set1:=yE k true++yE (f.types.length-k) false
def zGb(k:Nat):List Int:=(yS k).map fun(i:Nat)=>(i:Int)
def flowR(u:Unt)(f:Flow):Bool:=
 !(decide (f.params<0)||decide (8<f.params)||decide ((f.types.length:Int)<f.params)||decide (20000<f.types.length)||f.types.any (fun t=> !tyOk t))&&
  (listR u f f.body (zGb f.params.toNat) zEb 1 (initR f f.params.toNat)).1
theorem initR_len(f:Flow)(k:Nat)(h:k<=f.types.length):(initR f k).length=f.types.length:=by simp[initR];omega
def arrGood(u:Unt)(p:Arr×Nat):Bool:=arrOk p.1&&(decide (arrAt u.arrays p.1.name=p.2)&&decide (zZ u.flows p.1.name<0))
def flowGood(u:Unt)(p:Flow×Nat):Bool:=zhb p.1&&decide (zZ u.flows p.1.name=p.2)
def rheadM(u:Unt):Bool:=u.arrays.zipIdx.all (arrGood u)&&(u.flows.zipIdx.all (flowGood u)&&mainOk u)
theorem idx_first{α:Type}{p:α->Bool}{l:List α}{k:Nat}(h:idx p l=k):∀j (hj:j<l.length),j<k->p l[j]=false:=by
 unfold idx at h;cases hf:l.findIdx? p with
 |none=>rw[hf]at h;simp at h
 |some i=>
  rw[hf]at h;have h:i=k:=by simp at h;omega
  subst h;rw[List.findIdx?_eq_some_iff_getElem]at hf;obtain⟨hi,h1,h2⟩:=hf;intro j hj hji;have:=h2 j hji;simpa using this
theorem idx_nodup{α:Type}(g:α->List UInt8)(l:List α):(∀p∈l.zipIdx,idx (fun y=>decide (g y=g p.1)) l=p.2)<->(l.map g).Nodup:=by
 rw[List.nodup_iff_pairwise_ne,List.pairwise_map,List.pairwise_iff_getElem];constructor
 ·intro h i j hi hj hij e;have h1:=h (l[j],j) (by rw[yfa];simp[hj]);have h2:=idx_first h1 i hi hij;simp at h2;exact h2 e
 ·rintro h ⟨x,i⟩ hp
  rw[yfa]at hp;simp only at hp;obtain⟨hi,rfl⟩:=yb.1 hp;have hs:Split l (l.take i) l[i] (l.drop (i+1)):=by
   show l=_
   simp
  have:=idx_hit (p:=fun y=>decide (g y=g l[i])) hs (by
   intro y hy;obtain⟨j,hj,rfl⟩:=List.getElem_of_mem hy;simp at hj;rw[List.getElem_take];have:=h j i (by omega) hi (by omega);simpa using this) (by simp)
  simp only;rw[this];simp;omega
theorem place_neg(l:List Flow)(s:List UInt8):zZ l s<0<->s ∉ l.map Flow.name:=by
 have h:=idx_ge (fun f=>decide (f.name=s)) l;unfold zZ;constructor
 ·intro h0 hm;obtain⟨f,hf,rfl⟩:=yxa.1 hm;have:l.any (fun g=>decide (g.name=f.name))=true:=by rw[List.any_eq_true];exact⟨f,hf,by simp⟩
  rw[this]at h;simp at h;omega
 ·intro hm;have:l.any (fun g=>decide (g.name=s))=false:=by
   rw[List.any_eq_false];intro f hf;simp;rintro rfl;exact hm (yxa.2 ⟨f,hf,rfl⟩)
  rw[this]at h;simp at h;omega
theorem zip_all{α:Type}{l:List α}{p:α->Bool}:(∀x∈l,p x=true)<->∀q∈l.zipIdx,p q.1=true:=by
 constructor
 ·rintro h ⟨x,i⟩ hq
  rw[yfa]at hq;exact h x (yO hq)
 ·intro h x hx;obtain⟨i,hi,rfl⟩:=List.getElem_of_mem hx;exact h (l[i],i) (by rw[yfa];simp[hi])
theorem rhead_eq(u:Unt):rheadM u=zDb u:=by
 unfold rheadM zDb;rw[Bool.eq_iff_iff];simp only[ya,yn,decide_eq_true_eq,arrGood,flowGood,zAc,List.nodup_append];have h1:=idx_nodup Arr.name u.arrays;have h2:=idx_nodup Flow.name u.flows;have h3:(∀p∈u.arrays.zipIdx,zZ u.flows p.1.name<0)<->∀a∈u.arrays.map Arr.name,∀b∈u.flows.map Flow.name,a≠b:=by
  constructor
  ·intro h a ha b hb e;obtain⟨x,hx,rfl⟩:=yxa.1 ha;have:=(zip_all (p:=fun x=>decide (zZ u.flows x.name<0))).2 (fun q hq=>by simpa using h q hq) x hx;simp[place_neg]at this;subst e;obtain⟨y,hy,e⟩:=yxa.1 hb;exact this y hy e
  ·rintro h ⟨x,i⟩ hq
   rw[yfa]at hq;rw[place_neg];intro hm;exact h x.name (yxa.2 ⟨x,yO hq,rfl⟩) x.name hm rfl
 have h4:=zip_all (l:=u.arrays) (p:=arrOk);have h5:=zip_all (l:=u.flows) (p:=zhb);have h6:∀p∈u.arrays.zipIdx,(arrAt u.arrays p.1.name=p.2<->idx (fun y=>decide (y.name=p.1.name)) u.arrays=p.2):=fun p _=>Iff.rfl
 have h7:∀p∈u.flows.zipIdx,(zZ u.flows p.1.name=p.2<->idx (fun y=>decide (y.name=p.1.name)) u.flows=p.2):=fun p _=>Iff.rfl
 constructor
 ·rintro⟨a,b,c⟩
  exact⟨⟨⟨h4.2 fun q hq=>(a q hq).1,h5.2 fun q hq=>(b q hq).1⟩,h1.1 fun q hq=>(a q hq).2.1,h2.1 fun q hq=>(b q hq).2,h3.1 fun q hq=>(a q hq).2.2⟩,c⟩
 ·rintro⟨⟨⟨a,b⟩,c,d,e⟩,m⟩
  exact⟨fun q hq=>⟨h4.1 a q hq,h1.2 c q hq,h3.2 e q hq⟩,fun q hq=>⟨h5.1 b q hq,h2.2 d q hq⟩,m⟩
def rcheckM(u:Unt):Int×Int:=if rheadM u then(match u.flows.findIdx? (fun f=> !flowR u f)with
 |some i=>(80,(i:Int))
 |none=>(0,0))else(1,0)
structure Rel(ty:List Int)(S:St1)(seen:List Int)(Z:Set1):Prop where
 s:S.length=ty.length
 z:Z.length=ty.length
 set:∀v,0<=v->v<(ty.length:Int)->(atB Z v=true<->at0 S v≠0)
 seen:∀v,0<=v->v<(ty.length:Int)->(v∈seen<->at0 S v=1)
theorem at0_set{S:St1}{v w c:Int}(hv:0<=v)(hv':v<S.length)(hw:0<=w)(hw':w<S.length):at0 (S.set v.toNat c) w=if w=v then c else at0 S w:=by
 unfold at0;rw[List.getElem?_set];by_cases h:w=v
 ·subst h;have:w.toNat<S.length:=by omega
  simp[this]
 ·have:v.toNat≠w.toNat:=by omega
  simp[h,this]
theorem atB_set{S:Set1}{v w:Int}{c:Bool}(hv:0<=v)(hv':v<S.length)(hw:0<=w)(hw':w<S.length):atB (S.set v.toNat c) w=if w=v then c else atB S w:=by
 unfold atB;rw[List.getElem?_set];by_cases h:w=v
 ·subst h;have:w.toNat<S.length:=by omega
  simp[this]
 ·have:v.toNat≠w.toNat:=by omega
  simp[h,this]
theorem eqGo_use{ty:List Int}{S:St1}:∀l,(eqGo (useG ty) S l).1=l.all fun p=>(useG ty S p.1 p.2).1
 | []=>rfl
 |p::r=>by
  simp only[eqGo,List.all_cons];split
  ·rename_i h;rw[h,yBa];exact eqGo_use r
  ·rename_i h;simp only[Bool.not_eq_true]at h;rw[h];rfl
theorem use_rel{ty:List Int}{S:St1}{seen:List Int}{Z:Set1}(h:Rel ty S seen Z)(l ts:List Int):zCa ty S l ts=zL ty seen l ts:=by
 have key:∀v t,(useG ty S v t).1=useR ty seen v t:=by
  intro v t;simp only[useG,useR,valM];by_cases h0:0<=v
  ·by_cases h1:v<(ty.length:Int)
   ·have:=h.seen v h0 h1;have e:seen.contains v=decide (at0 S v=1):=by rw[Bool.eq_iff_iff];simpa using this
    rw[e];simp[h0,h1];grind
   ·simp[h1]
  ·simp[h0]
 unfold zCa eqM zL;by_cases hl:l.length=ts.length
 ·rw[if_pos hl,eqGo_use];simp only[hl,decide_true,yBa];congr 1;funext p;exact key _ _
 ·rw[if_neg hl];simp[hl]
theorem setGo_rel{ty:List Int}:∀(zs:List (Int×Int)) (S:St1) (seen:List Int) (Z:Set1),Rel ty S seen Z→
  (eqGo (setG ty) S zs).1=(eqGo (zHb ty) Z zs).1/\((eqGo (setG ty) S zs).1=true->Rel ty (eqGo (setG ty) S zs).2 (seen++zs.map Prod.fst) (eqGo (zHb ty) Z zs).2/\∀v∈zs.map Prod.fst,0<=v/\v<ty.length/\at0 S v=0)
 | [],S,seen,Z,h=>⟨rfl,fun _=>⟨by simpa[eqGo]using h,fun v hv=>by simp at hv⟩⟩
 |(v,t)::r,S,seen,Z,h=>by
  have hc:(valM ty v t&&decide (at0 S v=0))=(valM ty v t&& !atB Z v):=by
   cases hv:valM ty v t
   ·rfl
   ·obtain⟨h0,h1⟩:=zqa hv;have:=h.set v h0 h1;cases hz:atB Z v<;>simp[hz]at this ⊢ <;>omega
  simp only[eqGo,setG,zHb,hc];by_cases hb:(valM ty v t&& !atB Z v)=true
  ·simp only[hb,if_true];have hb':=hb;rw[<-hc]at hb';simp only[ya,decide_eq_true_eq]at hb';obtain⟨h0,h1⟩:=zqa hb'.1;have hr:Rel ty (S.set v.toNat 1) (seen++[v]) (Z.set v.toNat true):=by
    refine⟨by simp[h.s],by simp[h.z],fun w hw hw'=>?_,fun w hw hw'=>?_⟩
    ·rw[at0_set h0 (by rw[h.s];exact h1) hw (by rw[h.s];exact hw'),atB_set h0 (by rw[h.z];exact h1) hw (by rw[h.z];exact hw')];by_cases e:w=v
     ·simp[e]
     ·simp only[e,if_false];exact h.set w hw hw'
    ·rw[at0_set h0 (by rw[h.s];exact h1) hw (by rw[h.s];exact hw')];by_cases e:w=v
     ·simp[e]
     ·simp only[yx,List.mem_singleton,e,or_false,if_false];exact h.seen w hw hw'
   obtain⟨q1,q2⟩:=setGo_rel r _ _ _ hr;refine⟨q1,fun hok=>?_⟩;obtain⟨q3,q4⟩:=q2 hok;refine⟨by simpa using q3,fun w hw=>?_⟩;simp only[yda,yz]at hw;rcases hw with rfl|hw
   ·exact⟨h0,h1,hb'.2⟩
   ·obtain⟨p1,p2,p3⟩:=q4 w hw;rw[at0_set h0 (by rw[h.s];exact h1) p1 (by rw[h.s];exact p2)]at p3;split at p3
    ·omega
    ·exact⟨p1,p2,p3⟩
  ·simp only[Bool.not_eq_true]at hb;simp[hb]
theorem zip_fst{l ts:List Int}(h:l.length=ts.length):(l.zip ts).map Prod.fst=l:=by
 rw[List.map_fst_zip];omega
def zla(ty:List Int)(seen outs:List Int)(q:Bool×St1)(r:Bool×Set1):Prop:=
 q.1=r.1/\(q.1=true->Rel ty q.2 (seen++outs) r.2/\∀v∈outs,0<=v/\v<(ty.length:Int)/\v ∉ seen)
theorem zwc{ty:List Int}{S:St1}{seen:List Int}{Z:Set1}(h:Rel ty S seen Z)(l ts:List Int):zla ty seen l (setM ty S l ts) (zra ty Z l ts):=by
 unfold setM zra eqM;by_cases hl:l.length=ts.length
 ·rw[if_pos hl,if_pos hl];obtain⟨q1,q2⟩:=setGo_rel (l.zip ts) S seen Z h;refine⟨q1,fun hok=>?_⟩;obtain⟨q3,q4⟩:=q2 hok;rw[zip_fst hl]at q3 q4;refine⟨q3,fun v hv=>?_⟩;obtain⟨p1,p2,p3⟩:=q4 v hv;exact⟨p1,p2,fun hm=>by have:=(h.seen v p1 p2).1 hm;omega⟩
 ·rw[if_neg hl,if_neg hl];exact⟨rfl,fun h=>by cases h⟩
theorem zla.fail{ty:List Int}{seen outs:List Int}{S:St1}{Z:Set1}:zla ty seen outs (false,S) (false,Z):=⟨rfl,fun h=>by cases h⟩
theorem zla.nil{ty:List Int}{seen:List Int}{S:St1}{Z:Set1}{outs:List Int}{b:Bool}(h:Rel ty S seen Z)(ho:b=true->outs=[]):zla ty seen outs (b,S) (b,Z):=
 ⟨rfl,fun hb=>by simp only at hb;rw[ho hb];exact⟨by simpa using h,fun v hv=>by simp at hv⟩⟩
theorem setM_nil(ty:List Int)(S:St1)(l:List Int):setM ty S l []=(decide (l=[]),S):=by
 unfold setM eqM;cases l with
 |nil=>rfl
 |cons x r=>simp
theorem usesM_nil(ty:List Int)(S:St1)(l:List Int):zCa ty S l []=decide (l=[]):=by
 unfold zCa eqM;cases l with
 |nil=>rfl
 |cons x r=>simp
theorem zla.ite{ty:List Int}{seen outs:List Int}{q:Bool×St1}{r:Bool×Set1}{S:St1}{Z:Set1}{b c:Prop}[Decidable b][Decidable c](hbc:b<->c)(h:zla ty seen outs q r):zla ty seen outs (if b then q else(false,S)) (if c then r else(false,Z)):=by
 by_cases hb:b
 ·rw[if_pos hb,if_pos (hbc.1 hb)];exact h
 ·rw[if_neg hb,if_neg (fun hc=>hb (hbc.2 hc))];exact zla.fail
theorem simple_rel{u:Unt}{f:Flow}{S:St1}{seen:List Int}{Z:Set1}(h:Rel f.types S seen Z)(x:Node)(w:Place)(hk:endK x.kind=false):zla f.types seen x.outs (zJa u f S x) (zN u f seen w Z x):=by
 have hu:=use_rel h;have k12:¬x.kind=12:=by rintro e;simp[endK,e]at hk
 have k13:¬x.kind=13:=by rintro e;simp[endK,e]at hk
 have k14:¬x.kind=14:=by rintro e;simp[endK,e]at hk
 have k15:¬x.kind=15:=by rintro e;simp[endK,e]at hk
 unfold zJa zN;simp only[hu,k12,k13,k14,k15,if_false];by_cases k1:x.kind=1
 ·simp only[k1,if_true];exact zla.ite Iff.rfl (zwc h _ _)
 by_cases k2:x.kind=2
 ·simp only[k2,if_true];simp;exact zla.ite Iff.rfl (zwc h _ _)
 by_cases k3:x.kind=3
 ·simp[k3,sumM,hu];refine zla.ite ?_ (zwc h _ _);simp[isOne];grind
 by_cases k4:x.kind=4
 ·simp[k4,sumM,hu];refine zla.ite ?_ (zwc h _ _);simp[isTwo];grind
 by_cases k5:x.kind=5
 ·simp[k5];exact zla.ite Iff.rfl (zwc h _ _)
 by_cases k6:x.kind=6
 ·simp[k6,setM_nil];by_cases hc:zFb u.arrays x.name=true/\zL f.types seen x.args [1,1]=true
  ·rw[if_pos hc];simp[hc.1,hc.2];exact zla.nil h (by simp)
  ·rw[if_neg hc];have:(zFb u.arrays x.name&&(zL f.types seen x.args [1,1]&&decide (x.outs=[])))=false:=by
    cases h1:zFb u.arrays x.name<;>cases h2:zL f.types seen x.args [1,1]<;>simp_all
   rw[this];exact zla.fail
 by_cases k7:x.kind=7
 ·simp[k7];cases hfl:u.flows[(zZ u.flows x.name).toNat]? with
  |none=>exact zla.fail
  |some g=>exact zla.ite Iff.rfl (zwc h _ _)
 by_cases k8:x.kind=8
 ·simp[k8];have:(zL f.types seen x.args []=true)<->x.args=[]:=by rw[<-hu,usesM_nil];simp
  exact zla.ite this (zwc h _ _)
 by_cases k9:x.kind=9
 ·simp[k9,setM_nil];cases hc:zL f.types seen x.args [1]
  ·simp;exact zla.fail
  ·simp;exact zla.nil h (by simp)
 simp[k1,k2,k3,k4,k5,k6,k7,k8,k9];exact zla.fail
theorem end_rel{u:Unt}{f:Flow}{S:St1}{seen:List Int}{Z:Set1}(h:Rel f.types S seen Z)(x:Node)(w:Place)(hk:endK x.kind=true):zla f.types seen x.outs (endM f S x w,S) (zN u f seen w Z x):=by
 have hu:=use_rel h;have e:zN u f seen w Z x=(endM f S x w,Z):=by
  simp only[endK,ya,decide_eq_true_eq]at hk;have:x.kind=12\/x.kind=13\/x.kind=14\/x.kind=15:=by omega
  unfold zN endM;rcases this with k|k|k|k<;>simp[k,hu]<;>grind
 rw[e];refine zla.nil h (fun hb=>?_);simp only[endM,ya,decide_eq_true_eq]at hb;exact hb.1
theorem at0_hide(S:St1)(l:List Int):∀{n:Nat},S.length=n->(∀v∈l,0<=v/\v<(n:Int))->∀w,0<=w->w<(n:Int)->at0 (zCb S l) w=if w∈l then 2 else at0 S w:=by
 induction l generalizing S with
 |nil=>intro n hS hl w h0 h1;simp[zCb]
 |cons v r ih=>
  intro n hS hl w h0 h1;obtain⟨v0,v1⟩:=hl v (by simp);have e:zCb S (v::r)=zCb (S.set v.toNat 2) r:=rfl;rw[e,ih (S.set v.toNat 2) (by simpa using hS) (fun x hx=>hl x (yH _ hx)) w h0 h1];rw[at0_set v0 (by omega) h0 (by omega)];by_cases hw:w=v
  ·subst hw;by_cases hr:w∈r<;>simp[hr]
  ·by_cases hr:w∈r<;>simp[hr,hw]
theorem Rel.hide{ty:List Int}{S:St1}{seen:List Int}{Z:Set1}{l:List Int}(h:Rel ty S (seen++l) Z)(hl:∀v∈l,0<=v/\v<(ty.length:Int)/\v ∉ seen):Rel ty (zCb S l) seen Z:=by
 have hh:=at0_hide S l h.s (fun v hv=>⟨(hl v hv).1,(hl v hv).2.1⟩);refine⟨by rw[zKc];exact h.s,h.z,fun v h0 h1=>?_,fun v h0 h1=>?_⟩
 ·rw[hh v h0 h1,h.set v h0 h1];by_cases hv:v∈l
  ·have:=(h.seen v h0 h1).1 (List.mem_append_right _ hv);simp[hv,this]
  ·simp[hv]
 ·rw[hh v h0 h1];have hs:=h.seen v h0 h1;rw[yx]at hs;by_cases hv:v∈l
  ·simp[hv,(hl v hv).2.2]
  ·simp only[hv,or_false,if_false]at hs ⊢;exact hs
def Same1(ty:List Int)(seen:List Int)(q:Bool×St1)(r:Bool×Set1):Prop:=q.1=r.1/\(q.1=true->Rel ty q.2 seen r.2)
theorem list_rel{ty:List Int}{seen:List Int}{l:List Node}{q:Bool×St1}{r:Bool×Set1}(h:zla ty seen (louts l) q r):Same1 ty seen (listE l q) (zJc l r):=by
 obtain⟨h1,h2⟩:=h;unfold listE zJc;rw[<-h1];cases hq:q.1
 ·exact⟨rfl,fun h=>by cases h⟩
 ·simp only[if_true];refine⟨rfl,fun _=>?_⟩;obtain⟨h3,h4⟩:=h2 hq;exact h3.hide h4
theorem choice_rel{ty:List Int}{seen:List Int}{x:Node}{q:Bool×St1}{r:Bool×Set1}(h:Same1 ty seen q r):zla ty seen x.outs (zfc ty x q) (endR ty x r):=by
 obtain⟨h1,h2⟩:=h;unfold zfc endR;rw[<-h1];cases hq:q.1
 ·simp;exact zla.fail
 ·by_cases hb:(decide (x.outs=[])|| !zi x)=true
  ·simp only[hb,Bool.and_self,if_true];exact zwc (h2 hq) _ _
  ·simp only[hb,yBa];exact zla.fail
theorem loop_rel{ty:List Int}{seen:List Int}{x:Node}{q:Bool×St1}{r:Bool×Set1}(h:Same1 ty (seen++x.params) q r)(hp:∀v∈x.params,0<=v/\v<(ty.length:Int)/\v ∉ seen):zla ty seen x.outs (loopE ty x q) (endR ty x r):=by
 obtain⟨h1,h2⟩:=h;unfold loopE endR;rw[<-h1];cases hq:q.1
 ·simp;exact zla.fail
 ·by_cases hb:(decide (x.outs=[])|| !zi x)=true
  ·simp only[hb,Bool.and_self,if_true];exact zwc ((h2 hq).hide hp) _ _
  ·simp only[hb,yBa,if_true];exact zla.fail
mutual
theorem node_rel(u:Unt)(f:Flow):∀(x:Node) (w:Place) (deep:Int) (S:St1) (seen:List Int) (Z:Set1),Rel f.types S seen Z->zla f.types seen x.outs (nodeM u f x w deep S) (zha u f x seen w deep Z)
 |⟨k,o,n,s,a,us,ps,ks⟩,w,deep,S,seen,Z,h=>by
  have hu:=use_rel h;rw[nodeM,zha];cases hb:zxa ⟨k,o,n,s,a,us,ps,ks⟩
  ·simp;exact zla.fail
  simp only[Bool.not_true,yM,if_false];by_cases k10:k=10
  ·simp only[k10,if_true];refine zla.ite (by rw[hu]) ?_;exact choice_rel (kids_rel u f ks _ _ S seen Z h)
  simp only[k10,if_false];by_cases k11:k=11
  ·simp only[k11,if_true];rw[hu];cases hc:zL f.types seen a (typesM f.types ps)
   ·simp;exact zla.fail
   simp only[if_true];obtain⟨p1,p2⟩:=zwc h ps (zmb ps.length);have e:allM f.types S ps=setM f.types S ps (zmb ps.length):=rfl;rw[e,<-p1];cases hok:(setM f.types S ps (zmb ps.length)).1
   ·simp;exact zla.fail
   simp only[if_true];obtain⟨p3,p4⟩:=p2 hok;exact loop_rel (kids_rel u f ks _ _ _ _ _ p3) p4
  simp only[k11,if_false];cases hk:endK k
  ·simp only[yM,if_false];exact simple_rel h _ w hk
  ·simp only[if_true];exact end_rel h _ w hk
theorem kids_rel(u:Unt)(f:Flow):∀(ks:List (List Node)) (w:Place) (deep:Int) (S:St1) (seen:List Int) (Z:Set1),Rel f.types S seen Z->Same1 f.types seen (zdd u f ks w deep S) (zYb u f ks seen w deep Z)
 | [],w,deep,S,seen,Z,h=>by rw[zdd,zYb];exact⟨rfl,fun _=>h⟩
 |l::r,w,deep,S,seen,Z,h=>by
  rw[zdd,zYb];obtain⟨h1,h2⟩:=list_rel (go_rel u f l w deep S seen Z h);rw[<-h1];cases hq:(listE l (goM u f l w deep S)).1
  ·simp only[yM,if_false];exact⟨rfl,fun h=>by cases h⟩
  ·simp only[if_true];exact kids_rel u f r w deep _ seen _ (h2 hq)
theorem go_rel(u:Unt)(f:Flow):∀(l:List Node) (w:Place) (deep:Int) (S:St1) (seen:List Int) (Z:Set1),Rel f.types S seen Z->zla f.types seen (louts l) (goM u f l w deep S) (goR u f l seen w deep Z)
 | [],w,deep,S,seen,Z,h=>by rw[goM,goR];exact zla.nil h (fun _=>rfl)
 |x::r,w,deep,S,seen,Z,h=>by
  rw[goM,goR];by_cases hd:100<deep
  ·rw[if_pos hd,if_pos hd];exact zla.fail
  rw[if_neg hd,if_neg hd];obtain⟨h1,h2⟩:=node_rel u f x w deep S seen Z h;rw[<-h1];cases hq:(nodeM u f x w deep S).1
  ·simp only[yM,if_false];exact zla.fail
  simp only[if_true];obtain⟨h3,h4⟩:=h2 hq;by_cases hc:zi x=r.isEmpty
  ·rw[if_pos hc,if_pos hc];obtain⟨q1,q2⟩:=go_rel u f r w deep _ _ _ h3;refine⟨q1,fun hok=>?_⟩;obtain⟨q3,q4⟩:=q2 hok;rw[louts_cons];refine⟨by simpa[yV]using q3,fun v hv=>?_⟩;rcases yx.1 hv with hv|hv
   ·exact h4 v hv
   ·obtain⟨p1,p2,p3⟩:=q4 v hv;exact⟨p1,p2,fun hm=>p3 (List.mem_append_left _ hm)⟩
  ·rw[if_neg hc,if_neg hc];exact zla.fail
end
theorem init_rel(f:Flow)(hp:0<=f.params/\f.params<=f.types.length):Rel f.types (initM f f.params.toNat) (zGb f.params.toNat) (initR f f.params.toNat):=by
 have hk:f.params.toNat<=f.types.length:=by omega
 refine⟨initM_len f _ hk,initR_len f _ hk,fun v h0 h1=>?_,fun v h0 h1=>?_⟩
 ·have hv:v.toNat<f.types.length:=by omega
  unfold at0 atB initM initR;rw[List.getElem?_append,List.getElem?_append];by_cases h:v.toNat<f.params.toNat
  ·simp[h]
  ·have:v.toNat-f.params.toNat<f.types.length-f.params.toNat:=by omega
   simp[h,this]
 ·have hv:v.toNat<f.types.length:=by omega
  have hm:v∈zGb f.params.toNat<->v.toNat<f.params.toNat:=by
   simp only[zGb,yxa,yga];constructor
   ·rintro⟨i,hi,rfl⟩;simpa using hi
   ·intro h;exact⟨v.toNat,h,by omega⟩
  rw[hm];unfold at0 initM;rw[List.getElem?_append];by_cases h:v.toNat<f.params.toNat
  ·simp[h]
  ·have:v.toNat-f.params.toNat<f.types.length-f.params.toNat:=by omega
   simp[h,this]
theorem flow_eq(u:Unt)(f:Flow)(hp:0<=f.params/\f.params<=f.types.length):flowM u f=flowR u f:=by
 have h:=list_rel (go_rel u f f.body zEb 1 _ _ _ (init_rel f hp));have h1:¬f.params<0:=by omega
 have h2:¬(f.types.length:Int)<f.params:=by omega
 have h3:(zSa u f f.body zEb 1 (initM f f.params.toNat)).1=(listR u f f.body (zGb f.params.toNat) zEb 1 (initR f f.params.toNat)).1:=h.1;simp only[flowM,flowR,h1,h2,h3,decide_false,yAa,Bool.or_false]
theorem findIdx_congr{α:Type}{p q:α->Bool}:∀{l:List α},(∀x∈l,p x=q x)->l.findIdx? p=l.findIdx? q
 | [],_=>rfl
 |x::r,h=>by
  rw[yna,yna,h x (by simp),findIdx_congr (fun y hy=>h y (yH _ hy))]
theorem check_eq(u:Unt):zAb u=rcheckM u:=by
 unfold zAb rcheckM;rw[rhead_eq];cases hh:zDb u
 ·rfl
 ·have:u.flows.findIdx? (fun f=> !flowM u f)=u.flows.findIdx? (fun f=> !flowR u f):=by
   refine findIdx_congr (fun f hf=>?_);simp only[zDb,ya,yn]at hh;have:=hh.1.1.2 f hf;simp only[zhb,ya,decide_eq_true_eq]at this;rw[flow_eq u f ⟨this.1.2,this.2⟩]
  rw[this]<;>rfl
structure HPl where
 iff:Bool
 loop:Bool
 yield:List Int
 next:List Int
 left:List Int
structure Md(α:Type) where
 n:α
 i:Nat
 ts:List Int
 left:Nat
section
variable (L:List UInt8)
def pk(i n:Nat):Nat:=if L.length<i+1\/150<i+1 then 0 else(L[i]?.getD 0).toNat%n
def some1(ts:List Int)(t:Int):List Int->Bool->Int->Int->Int
 | [],_,_,v=>v
 |x::r,f,k,v=>if atA ts x.toNat=t/\(f=true\/0<k)then some1 ts t r false (k-1) x else some1 ts t r false k v
def some2(ts:List Int)(t:Int):List Int->Int->Int
 | [],v=>v
 |x::r,v=>if atA ts v.toNat=t then v else some2 ts t r (if atA ts x.toNat=t then x else v)
def someV(ts seen:List Int)(t k:Int):Int:=some2 ts t seen (some1 ts t seen true k 0)
def zga(ts seen:List Int):List Int->Nat->List Int
 | [],_=>[]
 |t::r,i=>someV ts seen t (pk L i 8)::zga ts seen r (i+1)
def newV(n:Nat):Nat->List Int
 |0=>[]
 |k+1=>newV n k++[((n+k:Nat):Int)]
def tyV(i:Nat):Nat->List Int
 |0=>[]
 |k+1=>tyV i k++[1+(pk L (i+k) 2:Int)]
def zja(i:Nat):List Int:=tyV L (i+1) (pk L i 3)
def zW(i:Nat):Nat:=i+1+pk L i 3
abbrev nd(kind op n:Int)(name:List UInt8)(args outs:List Int):Node:=⟨kind,op,n,name,args,outs,[],[]⟩
def zu(seen ts:List Int)(i:Nat):Node×Nat×List Int:=
 match pk L i 12 with
 |0=>(nd 1 0 (atA [0,1,2,3,-1,100] (pk L (i+1) 6)) [] [] [ts.length],i+2,[1])
 |1=>(nd 2 0 (pk L (i+1) 2) [] [] [ts.length],i+2,[2])
 |2=>(nd 3 (atA [20,21,23,27] (pk L (i+1) 4)) 0 [] (zga L ts seen [1] (i+2)) [ts.length],i+3,[1])
 |3=>(nd 3 22 0 [] (zga L ts seen [2] (i+1)) [ts.length],i+2,[2])
 |4|5|6=>(nd 4 (1+pk L (i+1) 11) 0 [] (zga L ts seen [1,1] (i+2)) [ts.length],i+4,[1])
 |7|8=>(nd 4 (12+pk L (i+1) 6) 0 [] (zga L ts seen [1,1] (i+2)) [ts.length],i+4,[2])
 |9=>(nd 5 0 0 [97] (zga L ts seen [1] (i+1)) [ts.length],i+2,[1])
 |10=>(nd 6 0 0 [97] (zga L ts seen [1,1] (i+1)) [],i+3,[])
 |_=>match pk L (i+1) 4 with
  |0=>(nd 7 0 0 [102] (zga L ts seen [1,2] (i+2)) [ts.length],i+4,[1])
  |1=>(nd 8 0 0 [] [] [ts.length],i+2,[1])
  |_=>(nd 9 0 0 [] (zga L ts seen [1] (i+2)) [],i+3,[])
def endL(p:HPl)(k:Nat):Int×List Int:=if p.iff=true/\k<4 then(12,p.yield)else if p.loop=true/\k%2=0 then(13,p.next)else if p.loop=true then(14,p.left)else(15,[1])
def endG(seen ts:List Int)(p:HPl)(i:Nat):Node:=nd (endL p (pk L i 6)).1 0 0 [] (zga L ts seen (endL p (pk L i 6)).2 (i+1)) []
def endN(p:HPl)(i:Nat):Nat:=i+1+(endL p (pk L i 6)).2.length
abbrev LG:=List Int->HPl->Nat->List Int->Nat->Md (List Node)
def zxc(n:Node)(i:Nat)(ts:List Int)(left:Nat)(t:List Int):Md Node:=
 if zi n=true then⟨n,i,ts,left⟩else⟨{n with outs:=newV ts.length t.length},i,ts++t,left⟩
def ifG(f:LG)(all:List Int)(p:HPl)(i:Nat)(ts:List Int)(left:Nat):Md Node:=
 let t:=zja L i
 let x:HPl:=⟨true,p.loop,t,p.next,p.left⟩
 let a:=f all x (zW L i+1) ts left
 let b:=f all x a.i a.ts a.left
 zxc ⟨10,0,0,[],zga L ts all [2] (zW L i),[],[],[a.n,b.n]⟩ b.i b.ts b.left t
def loopG(f:LG)(all:List Int)(i:Nat)(ts:List Int)(left:Nat):Md Node:=
 let t:=zja L i
 let o:=zja L (zW L i)
 let j:=zW L (zW L i)
 let ps:=newV ts.length t.length
 let a:=f (all++ps) ⟨false,true,[],t,o⟩ (j+t.length) (ts++t) left
 zxc ⟨11,0,0,[],zga L ts all t j,[],ps,[a.n]⟩ a.i a.ts a.left o
def zZc(rc:Option LG)(all:List Int)(p:HPl)(i:Nat)(ts:List Int)(left:Nat):Md Node:=
 let s:=zu L all ts i
 match rc with
 |none=>⟨s.1,s.2.1+1,ts++s.2.2,left⟩
 |some f=>
  if pk L s.2.1 6=0 then ifG L f all p (s.2.1+1) (ts++s.2.2) left
  else if pk L s.2.1 6=1 then loopG L f all (s.2.1+1) (ts++s.2.2) left
  else⟨s.1,s.2.1+1,ts++s.2.2,left⟩
def finG(p:HPl)(out:List Node)(all:List Int)(i:Nat)(ts:List Int)(left:Nat):Md (List Node):=⟨out++[endG L all ts p i],endN L p i,ts,left⟩
def runG(rc:Option LG)(p:HPl):Nat->List Node->List Int->Nat->List Int->Nat->Md (List Node)
 |0,out,all,i,ts,left=>finG L p out all i ts left
 |c+1,out,all,i,ts,left=>
  if left=0 then finG L p out all i ts left
  else
   let r:=zZc L rc all p i ts (left-1)
   if zi r.n=true then⟨out++[r.n],r.i,r.ts,r.left⟩else runG rc p c (out++[r.n]) (all++r.n.outs) r.i r.ts r.left
def zBb:Nat->LG
 |0=>fun seen p i ts left=>runG L none p (pk L i 6) [] seen (i+1) ts left
 |d+1=>fun seen p i ts left=>runG L (some (zBb d)) p (pk L i 6) [] seen (i+1) ts left
def zzb(name:List UInt8)(params:List Int)(i:Nat):Md Flow:=
 let a:=zBb L 3 (newV 0 params.length++[(params.length:Int),(params.length+1:Nat)]) ⟨false,false,[],[],[]⟩ i (params++[1,2]) 30
 ⟨⟨name,1,params.length,a.ts,nd 1 0 3 [] [] [(params.length:Int)]::nd 2 0 1 [] [] [((params.length+1:Nat):Int)]::a.n⟩,a.i,a.ts,a.left⟩
def zXb:Unt:=⟨[⟨[97],4⟩],[(zzb L zC [] 0).n,(zzb L [102] [1,2] (zzb L zC [] 0).i).n]⟩
end
theorem pk_lt(L:List UInt8)(i n:Nat)(h:0<n):pk L i n<n:=by
 unfold pk;split
 ·exact h
 ·exact Nat.mod_lt _ h
theorem zwa(L:List UInt8)(ts seen:List Int):∀(l:List Int) (i:Nat),(zga L ts seen l i).length=l.length
 | [],_=>rfl
 |t::r,i=>by simp[zga,zwa L ts seen r (i+1)]
theorem zoa(n:Nat):∀k,(newV n k).length=k
 |0=>rfl
 |k+1=>by simp[newV,zoa n k]
theorem zad(n:Nat):∀k,∀x∈newV n k,(n:Int)<=x/\x<(n+k:Nat)
 |0,x,h=>by simp[newV]at h
 |k+1,x,h=>by
  simp only[newV,yx,List.mem_singleton]at h;rcases h with h|h
  ·have:=zad n k x h;omega
  ·omega
theorem tyV_len(L:List UInt8)(i:Nat):∀k,(tyV L i k).length=k
 |0=>rfl
 |k+1=>by simp[tyV,tyV_len L i k]
theorem typesV_len(L:List UInt8)(i:Nat):(zja L i).length=pk L i 3:=tyV_len L _ _
theorem zZa(L:List UInt8)(i:Nat):(zja L i).length<=2:=by have:=pk_lt L i 3 (by omega);rw[typesV_len];omega
theorem zCc(L:List UInt8)(i:Nat):zW L i<=i+3:=by have:=pk_lt L i 3 (by omega);unfold zW;omega
structure PlOk(p:HPl):Prop where
 y:p.yield.length<=2
 n:p.next.length<=2
 l:p.left.length<=2
theorem endL_le{p:HPl}(h:PlOk p)(k:Nat):(endL p k).2.length<=2:=by
 unfold endL;split
 ·exact h.y
 ·split
  ·exact h.n
  ·split
   ·exact h.l
   ·simp
theorem endN_le(L:List UInt8){p:HPl}(h:PlOk p)(i:Nat):endN L p i<=i+3:=by have:=endL_le h (pk L i 6);unfold endN;omega
theorem endG_wt(L:List UInt8)(seen ts:List Int){p:HPl}(h:PlOk p)(i:Nat):wtN (endG L seen ts p i)<=3:=by
 have:=endL_le h (pk L i 6);simp[endG,wtN,wtK,zwa];omega
structure SimOk(s:Node×Nat×List Int)(i n:Nat):Prop where
 i:s.2.1<=i+4
 t:s.2.2.length<=1
 o:∀x∈s.1.outs,0<=x/\x<(n+s.2.2.length:Nat)
 ol:s.1.outs.length<=2
 w:wtN s.1<=6
theorem simple_ok(L:List UInt8)(seen ts:List Int)(i:Nat):SimOk (zu L seen ts i) i ts.length:=by
 unfold zu;split<;>try(refine⟨by simp;try omega,by simp,?_,by simp,by simp[wtN,wtK,zwa]⟩;intro x hx;simp at hx;simp;omega)
 all_goals try(refine⟨by simp,by simp,by simp,by simp,by simp[wtN,wtK,zwa]⟩)
 split<;>try(refine⟨by simp;try omega,by simp,?_,by simp,by simp[wtN,wtK,zwa]⟩;intro x hx;simp at hx;simp;omega)
 all_goals refine⟨by simp,by simp,by simp,by simp,by simp[wtN,wtK,zwa]⟩
structure MdL(k:Nat)(m:Md (List Node))(i:Nat)(ts:List Int)(left w:Nat):Prop where
 i:m.i+100*m.left<=i+100*left+k
 t:∃x,m.ts=ts++x
 tl:m.ts.length+10*m.left<=ts.length+10*left
 w:wtL m.n+100*m.left<=w+100*left+10
structure MdN(m:Md Node)(i:Nat)(ts:List Int)(left:Nat):Prop where
 i:m.i+100*m.left<=i+100*left+60
 t:∃x,m.ts=ts++x
 tl:m.ts.length+10*m.left<=ts.length+10*left+8
 w:wtN m.n+100*m.left<=100*left+60
 o:∀x∈m.n.outs,0<=x/\x<m.ts.length
 ol:m.n.outs.length<=2
def LGok(f:LG):Prop:=∀seen p i ts left,PlOk p->MdL 10 (f seen p i ts left) i ts left 0
theorem outed_ok{n:Node}{i:Nat}{ts:List Int}{left:Nat}{t:List Int}(ht:t.length<=2)(ho:n.outs=[]){i0:Nat}{ts0:List Int}{left0:Nat}(hi:i+100*left<=i0+100*left0+60)(hx:∃x,ts=ts0++x)
  (hl:ts.length+10*left<=ts0.length+10*left0+6) (hw:wtN n+100*left<=100*left0+58):MdN (zxc n i ts left t) i0 ts0 left0:=by
 unfold zxc;split
 ·exact⟨hi,hx,by simp only;omega,by simp only;omega,by simp[ho],by simp[ho]⟩
 ·obtain⟨x,hx⟩:=hx;refine⟨hi,⟨x++t,by simp[hx]⟩,by simp only[yh];omega,?_,?_,by simp only[zoa];exact ht⟩
  ·simp only;rw[zjc]at hw ⊢;simp only[zoa,ho,yN]at hw ⊢;omega
  ·intro y hy;have:=zad _ _ _ hy;simp only[yh];omega
theorem nodeG_ok(L:List UInt8)(rc:Option LG)(hrc:∀f,rc=some f->LGok f)(all:List Int)(p:HPl)(hp:PlOk p)(i:Nat)(ts:List Int)(left:Nat):MdN (zZc L rc all p i ts left) i ts left:=by
 have hs:=simple_ok L all ts i;have key:MdN ⟨(zu L all ts i).1,(zu L all ts i).2.1+1,ts++(zu L all ts i).2.2,left⟩ i ts left:=by
  have h1:=hs.i;have h2:=hs.t;have h3:=hs.w;refine⟨by simp only;omega,⟨_,rfl⟩,by simp only[yh];omega,by simp only;omega,?_,hs.ol⟩;intro x hx;have:=hs.o x hx;simp only[yh];omega
 unfold zZc;cases rc with
 |none=>exact key
 |some f=>
  have hf:=hrc f rfl;generalize zu L all ts i=s at*;have h1:=hs.i;have h2:=hs.t;simp only;split
  ·unfold ifG;have t1:=zCc L (s.2.1+1);have t2:=zZa L (s.2.1+1);have a:=hf all ⟨true,p.loop,zja L (s.2.1+1),p.next,p.left⟩ (zW L (s.2.1+1)+1) (ts++s.2.2) left ⟨t2,hp.n,hp.l⟩;simp only;generalize f all ⟨true,p.loop,zja L (s.2.1+1),p.next,p.left⟩ (zW L (s.2.1+1)+1) (ts++s.2.2) left=A at*;have b:=hf all ⟨true,p.loop,zja L (s.2.1+1),p.next,p.left⟩ A.i A.ts A.left ⟨t2,hp.n,hp.l⟩;generalize f all ⟨true,p.loop,zja L (s.2.1+1),p.next,p.left⟩ A.i A.ts A.left=B at*;obtain⟨a1,⟨x,a2⟩,a3,a4⟩:=a;obtain⟨b1,⟨y,b2⟩,b3,b4⟩:=b;refine outed_ok t2 rfl (by omega) ⟨s.2.2++x++y,by rw[b2,a2];simp⟩ (by simp only[yh]at a3;omega) ?_;simp[wtN,wtK,zwa];omega
  ·split
   ·unfold loopG;have t1:=zCc L (s.2.1+1);have t2:=zZa L (s.2.1+1);have t3:=zCc L (zW L (s.2.1+1));have t4:=zZa L (zW L (s.2.1+1));simp only;have a:=hf (all++newV (ts++s.2.2).length (zja L (s.2.1+1)).length) ⟨false,true,[],zja L (s.2.1+1),zja L (zW L (s.2.1+1))⟩ (zW L (zW L (s.2.1+1))+(zja L (s.2.1+1)).length) (ts++s.2.2++zja L (s.2.1+1)) left ⟨by simp,t2,t4⟩;generalize f (all++newV (ts++s.2.2).length (zja L (s.2.1+1)).length) ⟨false,true,[],zja L (s.2.1+1),zja L (zW L (s.2.1+1))⟩ (zW L (zW L (s.2.1+1))+(zja L (s.2.1+1)).length) (ts++s.2.2++zja L (s.2.1+1)) left=A at*;obtain⟨a1,⟨x,a2⟩,a3,a4⟩:=a;refine outed_ok t4 rfl (by omega) ⟨s.2.2++zja L (s.2.1+1)++x,by rw[a2];simp⟩ (by simp only[yh]at a3;omega) ?_;simp[wtN,wtK,zwa,zoa];omega
   ·exact key
theorem finG_ok(L:List UInt8){p:HPl}(hp:PlOk p)(out:List Node)(all:List Int)(i:Nat)(ts:List Int)(left:Nat):MdL 5 (finG L p out all i ts left) i ts left (wtL out):=by
 have h1:=endN_le L hp i;have h2:=endG_wt L all ts hp i;refine⟨by simp only[finG];omega,⟨[],by simp[finG]⟩,by simp only[finG];omega,?_⟩;simp only[finG,wtL_append,wtL];omega
theorem runG_ok(L:List UInt8)(rc:Option LG)(hrc:∀f,rc=some f->LGok f)(p:HPl)(hp:PlOk p):∀c out all i ts left,MdL 5 (runG L rc p c out all i ts left) i ts left (wtL out):=by
 intro c
 induction c with
 |zero=>intro out all i ts left;exact finG_ok L hp out all i ts left
 |succ c ih=>
  intro out all i ts left;unfold runG;split
  ·exact finG_ok L hp out all i ts left
  ·rename_i h0;have hn:=nodeG_ok L rc hrc all p hp i ts (left-1);simp only;generalize zZc L rc all p i ts (left-1)=r at*;obtain⟨n1,⟨x,n2⟩,n3,n4,n5,n6⟩:=hn;split
   ·refine⟨by simp only;omega,⟨x,n2⟩,by simp only;omega,?_⟩;simp only[wtL_append,wtL];omega
   ·have hr:=ih (out++[r.n]) (all++r.n.outs) r.i r.ts r.left;obtain⟨m1,⟨y,m2⟩,m3,m4⟩:=hr;refine⟨by omega,⟨x++y,by rw[m2,n2];simp⟩,by omega,?_⟩;simp only[wtL_append,wtL]at m4;omega
theorem listG_ok(L:List UInt8):∀d,LGok (zBb L d):=by
 intro d
 induction d with
 |zero=>
  intro seen p i ts left hp;have:=runG_ok L none (by simp) p hp (pk L i 6) [] seen (i+1) ts left;exact⟨by have:=this.i;simp only[zBb];omega,this.t,this.tl,this.w⟩
 |succ d ih=>
  intro seen p i ts left hp;have:=runG_ok L (some (zBb L d)) (by intro f hf;cases hf;exact ih) p hp (pk L i 6) [] seen (i+1) ts left;exact⟨by have:=this.i;simp only[zBb];omega,this.t,this.tl,this.w⟩
def u8s(l:List UInt8):PV:= .slice .plain 1 (l.map fun b=> .int .u8 b.toNat)
theorem remNat(a b:Nat):remK (a:Int) (b:Int)=((a%b:Nat):Int):=by rw[remK_eq];exact Int.ofNat_tmod a b
@[simp] theorem rebuild_agg2(a b:List PV):zF (.agg a) b= .agg b:=rfl
def gst(τ:zb)(L:List UInt8)(i:Nat)(ts:List Int)(left:Nat):zb:= .arr 4 [.agg [u8s L,.int .i64 i,acc 1 (ts.map (PV.int .i64)),.int .i64 left]]::τ
structure SoS where
 d:List Int
 r:List Int
 k:Int
 v:Int
theorem atA_get{l:List Int}{v:Int}(h0:0<=v)(h1:v<l.length):l[v.toNat]? =some (atA l v.toNat):=at0_get h0 h1
section
variable (τ:zb) (L:List UInt8) (hL:L.length<=9223372036854775807)
include hL
theorem zta(i n:Nat)(ts:List Int)(left:Nat)(hn:0<n/\n<=1000)(hi:i<=1000000000000):
  zn E 54 [.ptr 0 0 0,.int .i64 n] (gst τ L i ts left)=some (.ret (.int .i64 (pk L i n)),gst τ L (i+1) ts left):=by
 refine ze rfl rfl rfl (by simp) ?_;have hw:zX .i64 ((i:Int)+1)=(i:Int)+1:=zo (by omega) (by omega);by_cases h1:L.length<i+1
 ·have k1:((L.length:Int)<(i:Int)+1)=True:=eqp (by omega);have h2:pk L i n=0:=by simp[pk,h1]
  clear h1;simp[*,F54,gst,u8s]
 ·have k1:((L.length:Int)<(i:Int)+1)=False:=eqn (by omega);by_cases h3:150<i+1
  ·have k3:((150:Int)<(i:Int)+1)=True:=eqp (by omega);have h2:pk L i n=0:=by simp only[pk,h3,or_true,if_true]
   clear h1 h3;simp[*,F54,gst,u8s]
  ·have k3:((150:Int)<(i:Int)+1)=False:=eqn (by omega);obtain⟨b,hb⟩:∃b,L[i]? =some b:=⟨_,ye (by omega)⟩
   have h2:pk L i n=b.toNat%n:=by simp only[pk,h1,h3,or_self,if_false,hb,yJ]
   have hr:remK (b.toNat:Int) (n:Int)=((b.toNat%n:Nat):Int):=remNat _ _;have hw2:zX .i64 (i:Int)=(i:Int):=zo (by omega) (by omega);have hn0:(n=0)=False:=eqn (by omega);clear h1 h3 hL;simp[*,F54,gst,u8s]
omit hL in
theorem fresh_spec(i:Nat)(ts:List Int)(left:Nat)(t:Int)(ht:ts.length<=1000000):
  zn E 36 [.ptr 0 0 0,.int .i64 t] (gst τ L i ts left)=some (.ret (.int .i64 ts.length),gst τ L i (ts++[t]) left):=by
 refine ze rfl rfl rfl (by simp) ?_;have q4:(ts.length+1)*8<=zl:=by simp only[zl];omega
 have hw:zX .i64 (ts.length:Int)=ts.length:=zo (by omega) (by omega);have hw0:zX .i64 0=0:=zo (by omega) (by omega);cases ts with
 |nil=>simp[zl]at q4;simp[*,F36,gst,zl]
 |cons x r=>
  simp at q4 hw;simp[*,F36,gst]
theorem gsome_spec(i:Nat)(ts:List Int)(left:Nat)(seen:List Int)(t:Int)(hs:seen.length<=1000000)(hi:i<=1000000000000)(ht:ts.length<=1000000)(hr:∀x∈seen,0<=x/\x<ts.length):
  zn E 76 [.ptr 0 0 0,ints seen,.int .i64 t] (gst τ L i ts left)=some (.ret (.int .i64 (someV ts seen t (pk L i 8))),gst τ L (i+1) ts left):=by
 refine ze rfl rfl rfl (by simp) ?_;have hp:=zta τ L hL i 8 ts left (by omega) hi;have hk:=pk_lt L i 8 (by omega);have hsv:someV ts seen t (pk L i 8)=some2 ts t seen (some1 ts t seen true (pk L i 8) 0):=rfl;generalize pk L i 8=k at*;simp at hp;simp[hp,F76,ints];clear hp hL;refine wp_while K76_0 B76_0 (fun c:SoS=>c.r.length) (fun c=>[(7,.int .i64 c.k),(8,.int .i64 c.v),(9,.int .i64 c.d.length)]) (fun _=>[]) (fun _=>gst τ L (i+1) ts left)
  (fun c=>seen=c.d++c.r/\some1 ts t c.r c.d.isEmpty c.k c.v=some1 ts t seen true k 0/\ -(c.d.length:Int)<=c.k/\c.k<=8/\(c.v∈seen\/c.v=0)) ⟨[],seen,k,0⟩ ⟨by simp,by simp,by simp,by simp;omega⟩ ?_
 rintro⟨d,r,k1,v⟩ s1 ⟨hd,hm,hk1,hk2,hv⟩ h1 h2 h3 h4 h5
 simp only at hd hm hk1 hk2 hv h3 h5;simp at h1 h3;clear h2 h4;cases r with
 |nil=>
  simp at hd;subst hd;simp only[some1]at hm;rw[<-hm]at hsv;clear hm;have hw1:zX .i64 (seen.length:Int)=(seen.length:Int):=zo (by omega) (by omega);simp[h1,h3,h5];clear hk1 hk2 hk h1 h3 h5;refine wp_while K76_1 B76_1 (fun c:SoS=>c.r.length) (fun c=>[(8,.int .i64 c.v),(10,.int .i64 c.d.length)]) (fun _=>[]) (fun _=>gst τ L (i+1) ts left)
   (fun c=>seen=c.d++c.r/\some2 ts t c.r c.v=some2 ts t seen v/\(c.v∈seen\/c.v=0)) ⟨[],seen,k,v⟩ ⟨by simp,by simp,by simp,rfl,rfl,hv⟩ ?_
  rintro⟨d,r,k2,v1⟩ s2 ⟨hd,hm,hv1⟩ h1 h2 h3 h4 h5
  simp only at hd hm hv1 h3 h5;simp at h1 h3;clear h2 h4 hv;cases r with
  |nil=>
   simp at hd;subst hd;rw[<-hm]at hsv;simp only[some2]at hsv;simp[h1,h3,h5,hsv,gst]
  |cons x r=>
   have g0:seen[d.length]? =some x:=by rw[hd];simp
   have g1:d.length<seen.length:=by rw[hd];simp
   have hx:=hr x (by rw[hd];simp);have g0':seen[d.length]'g1=x:=(yb.1 g0).2;have g2:=atA_get hx.1 hx.2;have g3:x.toNat<ts.length:=by omega
   have g2':ts[x.toNat]'g3=atA ts x.toNat:=(yb.1 g2).2;have hv2:0<=v1/\v1<ts.length:=by
    rcases hv1 with h|h
    ·exact hr _ h
    ·omega
   have f0:=hv2.1;have f2:=atA_get hv2.1 hv2.2;have f3:v1.toNat<ts.length:=by omega
   have f2':ts[v1.toNat]'f3=atA ts v1.toNat:=(yb.1 f2).2;have hw:zX .i64 ((d.length:Int)+1)=(d.length:Int)+1:=zo (by omega) (by omega);have hx0:=hx.1;have hxm:x∈seen:=by rw[hd];simp
   rw[some2]at hm;by_cases e0:atA ts v1.toNat=t
   ·rw[if_pos e0]at hm;rw[<-hm]at hsv;simp[h1,h3,h5,g0,g0',g1,g2,g2',g3,f0,f2,f2',f3,hx0,e0,hsv,gst]
   ·rw[if_neg e0]at hm;by_cases e1:atA ts x.toNat=t
    ·rw[if_pos e1]at hm;simp[h1,h3,h5,g0,g0',g1,g2,g2',g3,f0,f2,f2',f3,hw,hx0,e0,e1,gst];refine⟨⟨d++[x],r,0,x⟩,by simp,?_⟩;simp[h1,h3,h5,hw,gst]
     and_intros<;>first|exact hd|exact hm|exact .inl hxm
    ·rw[if_neg e1]at hm;simp[h1,h3,h5,g0,g0',g1,g2,g2',g3,f0,f2,f2',f3,hw,hx0,e0,e1,gst];refine⟨⟨d++[x],r,0,v1⟩,by simp,?_⟩;simp[h1,h3,h5,hw,gst]
     and_intros<;>first|exact hd|exact hm|exact hv1
 |cons x r=>
  have g0:seen[d.length]? =some x:=by rw[hd];simp
  have g1:d.length<seen.length:=by rw[hd];simp
  have hx:=hr x (by rw[hd];simp);have g0':seen[d.length]'g1=x:=(yb.1 g0).2;have g2:=atA_get hx.1 hx.2;have g3:x.toNat<ts.length:=by omega
  have g2':ts[x.toNat]'g3=atA ts x.toNat:=(yb.1 g2).2;have hw:zX .i64 ((d.length:Int)+1)=(d.length:Int)+1:=zo (by omega) (by omega);have hw2:zX .i64 (k1-1)=k1-1:=zo (by omega) (by omega);rw[some1]at hm;clear hsv;have hx0:=hx.1;have hxm:x∈seen:=by rw[hd];simp
  have h9:(d.length:Int)+1=((d++[x]).length:Int):=by simp
  have hne:(d++[x]).isEmpty=false:=by simp
  by_cases e1:atA ts x.toNat=t
  ·by_cases e0:d=[]
   ·subst e0;rw[if_pos ⟨e1,.inl rfl⟩]at hm;simp at h3 g0 g0' g1 hk1 hw hne;simp[h1,h3,h5,g0,g0',g1,g2,g2',g3,hw2,hx0,e1,gst];refine⟨⟨[x],r,k1-1,x⟩,by simp,?_⟩;simp[h1,h3,h5,hne,hw,hw2,gst]
    and_intros<;>first|exact hd|exact hm|exact hv|exact .inl hxm|(simp;omega)|omega
   ·by_cases e2:0<k1
    ·rw[if_pos ⟨e1,.inr e2⟩]at hm;simp[h1,h3,h5,g0,g0',g1,g2,g2',g3,hw,hw2,hx0,e1,e2,e0,gst];refine⟨⟨d++[x],r,k1-1,x⟩,by simp,?_⟩;simp[h1,h3,h5,hne,hw,hw2,gst]
     and_intros<;>first|exact hd|exact hm|exact hv|exact .inl hxm|(simp;omega)|omega
    ·rw[if_neg (by simp[e0,e2])]at hm;simp[h1,h3,h5,g0,g0',g1,g2,g2',g3,hw,hw2,hx0,e1,e2,e0,gst];refine⟨⟨d++[x],r,k1,v⟩,by simp,?_⟩;simp[h1,h3,h5,hne,hw,hw2,gst]
     and_intros<;>first|exact hd|exact hm|exact hv|exact .inl hxm|(simp;omega)|omega
  ·rw[if_neg (fun h=>e1 h.1)]at hm;simp[h1,h3,h5,g0,g0',g1,g2,g2',g3,hw,hw2,hx0,e1,gst];refine⟨⟨d++[x],r,k1,v⟩,by simp,?_⟩;simp[h1,h3,h5,hne,hw,hw2,gst]
   and_intros<;>first|exact hd|exact hm|exact hv|exact .inl hxm|(simp;omega)|omega
end
theorem eachV_append(L:List UInt8)(ts seen:List Int)(t:Int):∀(d:List Int) (i:Nat),zga L ts seen (d++[t]) i=zga L ts seen d i++[someV ts seen t (pk L (i+d.length) 8)]
 | [],i=>by simp[zga]
 |x::r,i=>by
  have:=eachV_append L ts seen t r (i+1);simp only[List.cons_append,zga,this,yP];rw[show i+1+r.length=i+(r.length+1) by omega]
def zE(l:List Int):List PV:=l.map (PV.int .i64)
section
variable (τ:zb) (L:List UInt8) (hL:L.length<=9223372036854775807)
include hL
theorem zia(i:Nat)(ts:List Int)(left:Nat)(seen types:List Int)(hs:seen.length<=1000000)(hi:i+types.length<=1000000000000)(ht:ts.length<=1000000)(hr:∀x∈seen,0<=x/\x<ts.length)(hy:types.length<=1000000):
  zn E 57 [.ptr 0 0 0,ints seen,ints types] (gst τ L i ts left)=some (.ret (ints (zga L ts seen types i)),gst τ L (i+types.length) ts left):=by
 refine ze rfl rfl rfl (by simp) ?_;simp[F57,ints];refine zba types K57_0 B57_0 (fun d=>[(7,acc 1 (zE (zga L ts seen d i))),(8,.int .i64 d.length)]) (fun d=>gst τ L (i+d.length) ts left) (fun _=>True) (by omega) (by simp[zga,zE]) ?_ ?_
 ·intros d x r s hl' hlt hget hget' hw hp h1 h2 h3 h4;simp at h1 h3;clear h2;have hsm:=gsome_spec τ L hL (i+d.length) ts left seen x hs (by omega) ht hr;have he:=eachV_append L ts seen x d i;have hi2:i+d.length+1=i+(d.length+1):=by omega
  rw[hi2]at hsm;simp[ints]at hsm;have q4:((zga L ts seen d i).length+1)*8<=zl:=by rw[zwa];simp only[zl];omega
  have q5:(zE (zga L ts seen d i)).length=d.length:=by simp[zE,zwa]
  have q6:(d.length+1)*8<=zl:=by rwa[zwa]at q4
  have q7:zE (zga L ts seen (d++[x]) i)=zE (zga L ts seen d i)++[.int .i64 (someV ts seen x (pk L (i+d.length) 8))]:=by rw[he];simp[zE]
  clear hl' hs hi hr hL he;simp[*]
 ·intro s hp h1 h2 h3 h4;simp at h1 h3;clear h2 hL hr;simp[*,zE]
omit hL in
theorem zPb(i:Nat)(ts:List Int)(left:Nat)(types:List Int)(ht:ts.length+types.length<=1000000):
  zn E 35 [.ptr 0 0 0,ints types] (gst τ L i ts left)=some (.ret (acc 1 (zE (newV ts.length types.length))),gst τ L i (ts++types) left):=by
 refine pcall_wpO 4 rfl rfl rfl (by simp) ?_;simp[F35,ints];refine zba types K35_0 B35_0 (fun d=>[(5,acc 1 (zE (newV ts.length d.length))),(6,.int .i64 d.length)]) (fun d=>gst τ L i (ts++d) left) (fun _=>True) (by omega) (by simp[newV,zE]) ?_ ?_
 ·intros d x r s hl' hlt hget hget' hw hp h1 h2 h3 h4;simp at h1 h3;clear h2;have hf:=fresh_spec τ L i (ts++d) left x (by simp;omega);simp at hf;have q5:(zE (newV ts.length d.length)).length=d.length:=by simp[zE,zoa]
  have q6:(d.length+1)*8<=zl:=by simp only[zl];omega
  have q7:zE (newV ts.length (d.length+1))=zE (newV ts.length d.length)++[.int .i64 ((ts.length:Int)+d.length)]:=by simp[zE,newV]
  clear hl';simp[*]
 ·intro s hp h1 h2 h3 h4;simp at h1 h3;clear h2;simp[*,zE]
structure TyS where
 j:Nat
 m:Nat
theorem gtypes_spec(i:Nat)(ts:List Int)(left:Nat)(hi:i<=100000000000):
  zn E 56 [.ptr 0 0 0] (gst τ L i ts left)=some (.ret (ints (zja L i)),gst τ L (zW L i) ts left):=by
 refine ze rfl rfl rfl (by simp) ?_;have hp:=zta τ L hL i 3 ts left (by omega) (by omega);have hk:=pk_lt L i 3 (by omega);have h0:zja L i=tyV L (i+1) (pk L i 3):=rfl;have h0':zW L i=i+1+pk L i 3:=rfl;generalize pk L i 3=k at*;simp at hp;simp[hp,F56];refine wp_while K56_0 B56_0 (fun c:TyS=>c.m) (fun c=>[(3,acc 1 (zE (tyV L (i+1) c.j))),(4,.int .i64 c.m)]) (fun _=>[]) (fun c=>gst τ L (i+1+c.j) ts left)
  (fun c=>c.j+c.m=k) ⟨0,k⟩ ⟨by simp[tyV,zE],by simp,by simp,by simp⟩ ?_
 rintro⟨j,m⟩ s1 hj h1 h2 h3 h4 h5
 simp only at hj h3 h5;simp at h1 h3;clear h2 h4 hp;cases m with
 |zero=>
  simp at hj h3;subst hj;rw[h0,h0'];simp[h1,h3,h5,ints,zE]
 |succ m=>
  have hq:=zta τ L hL (i+1+j) 2 ts left (by omega) (by omega);have hq2:=pk_lt L (i+1+j) 2 (by omega);have q5:(zE (tyV L (i+1) j)).length=j:=by simp[zE,tyV_len]
  have q6:(j+1)*8<=zl:=by simp only[zl];omega
  have q7:zE (tyV L (i+1) (j+1))=zE (tyV L (i+1) j)++[.int .i64 (1+(pk L (i+1+j) 2:Int))]:=by simp[zE,tyV]
  have hw:zX .i64 (1+(pk L (i+1+j) 2:Int))=1+(pk L (i+1+j) 2:Int):=zo (by omega) (by omega);have hw2:zX .i64 (m:Int)=m:=zo (by omega) (by omega);have e1:((0:Int)<(m:Int)+1)=True:=eqp (by omega);simp at hq h3;simp[h1,h3,h5,hq,q5,q6,hw,hw2,e1];refine⟨⟨j+1,m⟩,by simp,?_⟩;simp[h1,h3,h5,q7,hw,hw2]
  and_intros<;>first|omega|rfl|(congr 1)|skip
end
def zhc(p:HPl):PV:= .agg [.bool p.iff,.bool p.loop,ints p.yield,ints p.next,ints p.left]
theorem newV1(n:Nat):newV n 1=[(n:Int)]:=by simp[newV]
section
variable (τ:zb) (L:List UInt8) (hL:L.length<=9223372036854775807)
include hL
set_option maxHeartbeats 4000000 in
theorem gsimple_spec(i:Nat)(ts:List Int)(left:Nat)(seen:List Int)(hs:seen.length<=1000000)(hi:i<=100000000000)(ht:ts.length<=999990)(hr:∀x∈seen,0<=x/\x<ts.length):
  zn E 55 [.ptr 0 0 0,ints seen] (gst τ L i ts left)=some (.ret (zQ (zu L seen ts i).1),gst τ L (zu L seen ts i).2.1 (ts++(zu L seen ts i).2.2) left):=by
 refine ze rfl rfl rfl (by simp) ?_;have p0:=zta τ L hL i 12 ts left (by omega) (by omega);have p1:=zta τ L hL (i+1) 6 ts left (by omega) (by omega);have p2:=zta τ L hL (i+1) 2 ts left (by omega) (by omega);have p3:=zta τ L hL (i+1) 4 ts left (by omega) (by omega);have p4:=zta τ L hL (i+1) 11 ts left (by omega) (by omega);have a1:=zia τ L hL (i+1) ts left seen [1] hs (by simp;omega) (by omega) hr (by simp);have a2:=zia τ L hL (i+2) ts left seen [1] hs (by simp;omega) (by omega) hr (by simp);have a3:=zia τ L hL (i+1) ts left seen [2] hs (by simp;omega) (by omega) hr (by simp);have a4:=zia τ L hL (i+1) ts left seen [1,1] hs (by simp;omega) (by omega) hr (by simp);have a5:=zia τ L hL (i+2) ts left seen [1,1] hs (by simp;omega) (by omega) hr (by simp);have a6:=zia τ L hL (i+2) ts left seen [1,2] hs (by simp;omega) (by omega) hr (by simp);have o1:=fun i=>zPb τ L i ts left [1] (by simp;omega)
 have o2:=fun i=>zPb τ L i ts left [2] (by simp;omega)
 have h12:=pk_lt L i 12 (by omega);have h6:=pk_lt L (i+1) 6 (by omega);have h4:=pk_lt L (i+1) 4 (by omega);have h11:=pk_lt L (i+1) 11 (by omega);have w1:zX .i64 (1+(pk L (i+1) 11:Int))=1+(pk L (i+1) 11:Int):=zo (by omega) (by omega);have w2:zX .i64 (12+(pk L (i+1) 6:Int))=12+(pk L (i+1) 6:Int):=zo (by omega) (by omega);simp[ints,zE,newV1]at p0 p1 p2 p3 p4 a1 a2 a3 a4 a5 a6 o1 o2;have hc:pk L i 12=0\/pk L i 12=1\/pk L i 12=2\/pk L i 12=3\/pk L i 12=4\/pk L i 12=5\/pk L i 12=6\/pk L i 12=7\/pk L i 12=8\/pk L i 12=9\/pk L i 12=10\/pk L i 12=11:=by omega
 have hc6:pk L (i+1) 6=0\/pk L (i+1) 6=1\/pk L (i+1) 6=2\/pk L (i+1) 6=3\/pk L (i+1) 6=4\/pk L (i+1) 6=5:=by omega
 have hc4:pk L (i+1) 4=0\/pk L (i+1) 4=1\/pk L (i+1) 4=2\/pk L (i+1) 4=3:=by omega
 clear hL hs hi ht hr h12 h6 h4 h11;rcases hc with h|h|h|h|h|h|h|h|h|h|h|h
 ·rcases hc6 with k|k|k|k|k|k<;>simp[h,k]at p0 p1<;>simp[*,zu,F55,za,ints,kids,atA]
 ·simp[h]at p0;simp[*,zu,F55,za,ints,kids,atA]
 ·rcases hc4 with k|k|k|k<;>simp[h,k]at p0 p3<;>simp[*,zu,F55,za,ints,kids,atA]
 ·simp[h]at p0;simp[*,zu,F55,za,ints,kids,atA]
 ·simp[h]at p0;simp[*,zu,F55,za,ints,kids,atA]
 ·simp[h]at p0;simp[*,zu,F55,za,ints,kids,atA]
 ·simp[h]at p0;simp[*,zu,F55,za,ints,kids,atA]
 ·simp[h]at p0;simp[*,zu,F55,za,ints,kids,atA]
 ·simp[h]at p0;simp[*,zu,F55,za,ints,kids,atA]
 ·simp[h]at p0;simp[*,zu,F55,za,ints,kids,atA]
 ·simp[h]at p0;simp[*,zu,F55,za,ints,kids,atA]
 ·rcases hc4 with k|k|k|k<;>simp[h,k]at p0 p3<;>simp[*,zu,F55,za,ints,kids,atA]
theorem gend_spec(i:Nat)(ts:List Int)(left:Nat)(seen:List Int)(p:HPl)(hp:PlOk p)(hs:seen.length<=1000000)(hi:i<=100000000000)(ht:ts.length<=999990)(hr:∀x∈seen,0<=x/\x<ts.length):
  zn E 59 [.ptr 0 0 0,ints seen,zhc p] (gst τ L i ts left)=some (.ret (zQ (endG L seen ts p i)),gst τ L (endN L p i) ts left):=by
 refine ze rfl rfl rfl (by simp[zhc]) ?_;have p0:=zta τ L hL i 6 ts left (by omega) (by omega);have a1:=zia τ L hL (i+1) ts left seen p.yield hs (by have:=hp.y;omega) (by omega) hr (by have:=hp.y;omega);have a2:=zia τ L hL (i+1) ts left seen p.next hs (by have:=hp.n;omega) (by omega) hr (by have:=hp.n;omega);have a3:=zia τ L hL (i+1) ts left seen p.left hs (by have:=hp.l;omega) (by omega) hr (by have:=hp.l;omega);have a4:=zia τ L hL (i+1) ts left seen [1] hs (by simp;omega) (by omega) hr (by simp);have hr2:remK (pk L i 6:Int) 2=((pk L i 6%2:Nat):Int):=by have:=remNat (pk L i 6) 2;simpa using this
 simp[ints]at p0 a1 a2 a3 a4;have e1:endG L seen ts p i=nd (endL p (pk L i 6)).1 0 0 [] (zga L ts seen (endL p (pk L i 6)).2 (i+1)) []:=rfl;have e2:endN L p i=i+1+(endL p (pk L i 6)).2.length:=rfl;rw[e1,e2];generalize pk L i 6=k at*;have hk4:((k:Int)<4)=(k<4):=by apply propext;omega
 have hk2:((k:Int)%2=0)=(k%2=0):=by apply propext;omega
 clear hL hs hi ht hr e1 e2 hp;obtain⟨iff,loop,yield,next,lft⟩:=p;simp only at a1 a2 a3;by_cases c1:k<4<;>by_cases c2:k%2=0<;>cases iff<;>cases loop<;>simp[*,endL,F59,za,ints,kids,zhc]
end
end PE.U
