/-
  Texts joined by program: PfWp, PfOps, Ty81Fnsa, Ty81Fnsb, Ty81Fns, AYX10, AYW1, AYU0, AYU1, AYU1b, AYU2, AYU3, AYU4, AYU5, AYU6, AYU6r, AYU7, AYU8, AYU9, AYU10, AYU11, AYU12, AYU13, AYA1, AYU14, AYU15, AYU16, AYU17, AYU18.
-/
import Derived.Test.YtianoihfjikdgaaC02
import Derived.Test.YtianoihfjikdgaaProg
import Derived.Laws.BitsLemmas
import Derived.Laws.RangeAny
import Derived.Laws.RangeString
set_option linter.unusedVariables false
set_option linter.unusedSectionVars false
set_option linter.unusedSimpArgs false
open BitVec renaming ofInt→yq
open Bool renaming and_eq_true→ya,or_eq_true→yL,true_and→yxa
open Eq renaming trans→yd
open Go.IntKind renaming bits→yta,signed→yya,wrap→yN
open List renaming all_eq_true→yo,findIdx?_eq_none_iff→yfa,getElem?_eq_some_iff→yb,length_nil→yV,map_cons→yaa,map_set→yka,mem_cons→yO,mem_map→yua,mem_of_getElem?→yI,mem_zipIdx_iff_getElem?→yba,range→yU,replicate→yg,set_append_right→yga
open Nat renaming le_refl→yl,zero_add→yF
namespace PE
open Go
def zP(x:Option (Ex×St))(Q:Ex->St->Prop):Prop:=match x with
 |some (e,s)=>Q e s
 |none=>False
@[simp] theorem holds_some(e:Ex)(s:St)(Q:Ex->St->Prop):zP (some (e,s)) Q=Q e s:=yd rfl rfl
theorem holds_iff{x:Option (Ex×St)}{Q:Ex->St->Prop}:zP x Q<->∃e s,x=some (e,s)/\Q e s:=by
 cases x with
 |none=>exact⟨fun h=>h.elim,fun⟨_,_,h,_⟩=>by cases h⟩
 |some q=>obtain⟨e,s⟩:=q;exact⟨fun h=>⟨e,s,rfl,h⟩,fun⟨_,_,h,h'⟩=>by cases h;exact h'⟩
theorem zP.mono{x:Option (Ex×St)}{Q R:Ex->St->Prop}(h:zP x Q)(hq:∀e s,Q e s->R e s):zP x R:=by
 cases x with
 |none=>exact h
 |some q=>obtain⟨e,s⟩:=q;exact hq e s h
def seqQ(k:St->Option (Ex×St))(Q:Ex->St->Prop):Ex->St->Prop
 | .normal,s=>zP (k s) Q
 |e,s=>Q e s
@[simp] theorem seqQ_normal(k:St->Option (Ex×St))(Q:Ex->St->Prop)(s:St):seqQ k Q .normal s=zP (k s) Q:=yd rfl rfl
@[simp] theorem seqQ_exit(k:St->Option (Ex×St))(Q:Ex->St->Prop)(s:St)(i:Nat):seqQ k Q (.exit i) s=Q (.exit i) s:=yd rfl rfl
@[simp] theorem seqQ_ret(k:St->Option (Ex×St))(Q:Ex->St->Prop)(s:St):seqQ k Q .ret s=Q .ret s:=yd rfl rfl
@[simp] theorem seqQ_pan(k:St->Option (Ex×St))(Q:Ex->St->Prop)(s:St)(v:PV):seqQ k Q (.pan v) s=Q (.pan v) s:=yd rfl rfl
@[simp] theorem holds_thenSeq(k:St->Option (Ex×St))(x:Option (Ex×St))(Q:Ex->St->Prop):zP (thenSeq k x) Q=zP x (seqQ k Q):=by
 cases x with
 |none=>rfl
 |some q=>obtain⟨e,s⟩:=q;cases e<;>rfl
def blkQ(id:Nat)(Q:Ex->St->Prop):Ex->St->Prop
 | .exit i,s=>if i=id then Q .normal s else Q (.exit i) s
 |e,s=>Q e s
@[simp] theorem blkQ_normal(id:Nat)(Q:Ex->St->Prop)(s:St):blkQ id Q .normal s=Q .normal s:=yd rfl rfl
@[simp] theorem blkQ_exit(id i:Nat)(Q:Ex->St->Prop)(s:St):blkQ id Q (.exit i) s=if i=id then Q .normal s else Q (.exit i) s:=yd rfl rfl
@[simp] theorem blkQ_ret(id:Nat)(Q:Ex->St->Prop)(s:St):blkQ id Q .ret s=Q .ret s:=yd rfl rfl
@[simp] theorem blkQ_pan(id:Nat)(Q:Ex->St->Prop)(s:St)(v:PV):blkQ id Q (.pan v) s=Q (.pan v) s:=yd rfl rfl
@[simp] theorem holds_leaveBlock(id:Nat)(x:Option (Ex×St))(Q:Ex->St->Prop):zP (leaveBlock id x) Q=zP x (blkQ id Q):=by
 cases x with
 |none=>rfl
 |some q=>
  obtain⟨e,s⟩:=q;cases e<;>try rfl
  rename_i i;by_cases h:i=id<;>simp[leaveBlock,h]
noncomputable def wpS(cf:zr)(s0:St)(ops:List GOp)(s:St)(Q:Ex->St->Prop):Prop:=zP (regionEnd s0 (zhb cf ops s)) Q
def after(cf:zr)(s0:St)(r:List GOp)(Q:Ex->St->Prop):Option SR->Prop
 |some (.ok s')=>wpS cf s0 r s' Q
 |some (.pan v st)=>Q (.pan v) {s0 with st:=st}
 |none=>False
@[simp] theorem after_ok(cf:zr)(s0:St)(r:List GOp)(Q:Ex->St->Prop)(s:St):after cf s0 r Q (some (.ok s))=wpS cf s0 r s Q:=yd rfl rfl
@[simp] theorem after_pan(cf:zr)(s0:St)(r:List GOp)(Q:Ex->St->Prop)(v:PV)(st:zb):after cf s0 r Q (some (.pan v st))=Q (.pan v) {s0 with st:=st}:=yd rfl rfl
@[simp] theorem wpS_nil(cf:zr)(s0 s:St)(Q:Ex->St->Prop):wpS cf s0 [] s Q=Q .normal s:=yd rfl rfl
noncomputable def zI(cf:zr)(w:Bool)(d:Option Nat)(o:IOp)(s:St):PV->Option SR
 | .bool b=>if b=w then zu cf d o s else some (.ok {s with fr:=zla s.fr d (.tup [])})
 | .tup []=>some (.ok {s with fr:=zla s.fr d (.tup [])})
 |_=>none
theorem step_guarded(cf:zr)(g:Nat)(w:Bool)(d:Option Nat)(o:IOp)(s:St):step cf ⟨some (g,w),d,o⟩ s=zI cf w d o s (s.fr g):=by
 simp only[step];generalize s.fr g=v;cases v<;>try rfl
 ·rename_i b;cases b<;>cases w<;>rfl
 ·rename_i l;cases l<;>rfl
@[simp] theorem wpS_free(cf:zr)(s0:St)(d:Option Nat)(o:IOp)(r:List GOp)(s:St)(Q:Ex->St->Prop):wpS cf s0 (⟨none,d,o⟩::r) s Q=after cf s0 r Q (zu cf d o s):=by
 have:step cf ⟨none,d,o⟩ s=zu cf d o s:=rfl;simp only[wpS,zhb,this];cases zu cf d o s with
 |none=>rfl
 |some q=>cases q<;>rfl
@[simp] theorem wpS_guard(cf:zr)(s0:St)(g:Nat)(w:Bool)(d:Option Nat)(o:IOp)(r:List GOp)(s:St)(Q:Ex->St->Prop):wpS cf s0 (⟨some (g,w),d,o⟩::r) s Q=after cf s0 r Q (zI cf w d o s (s.fr g)):=by
 simp only[wpS,zhb,step_guarded];cases zI cf w d o s (s.fr g)with
 |none=>rfl
 |some q=>cases q<;>rfl
@[simp] theorem guarded_tt(cf:zr)(d:Option Nat)(o:IOp)(s:St):zI cf true d o s (.bool true)=zu cf d o s:=yd rfl rfl
@[simp] theorem guarded_ff(cf:zr)(d:Option Nat)(o:IOp)(s:St):zI cf false d o s (.bool false)=zu cf d o s:=yd rfl rfl
@[simp] theorem guarded_tf(cf:zr)(d:Option Nat)(o:IOp)(s:St):zI cf true d o s (.bool false)=some (.ok {s with fr:=zla s.fr d (.tup [])}):=yd rfl rfl
@[simp] theorem guarded_ft(cf:zr)(d:Option Nat)(o:IOp)(s:St):zI cf false d o s (.bool true)=some (.ok {s with fr:=zla s.fr d (.tup [])}):=yd rfl rfl
@[simp] theorem guarded_nil(cf:zr)(w:Bool)(d:Option Nat)(o:IOp)(s:St):zI cf w d o s (.tup [])=some (.ok {s with fr:=zla s.fr d (.tup [])}):=yd rfl rfl
theorem wp_region(cf:zr)(ops:List GOp)(s:St)(Q:Ex->St->Prop):zP (exec cf (.region ops) s) Q=wpS cf s ops s Q:=by
 rw[exec_region];rfl
theorem guard_split{cf:zr}{s0:St}{r:List GOp}{Q:Ex->St->Prop}{w:Bool}{d:Option Nat}{o:IOp}{s:St}(b:Bool)
  (h1:b=true->after cf s0 r Q (zI cf w d o s (.bool true))) (h2:b=false->after cf s0 r Q (zI cf w d o s (.bool false))):after cf s0 r Q (zI cf w d o s (.bool b)):=by
 cases b
 ·exact h2 rfl
 ·exact h1 rfl
theorem guard_splitP{cf:zr}{s0:St}{r:List GOp}{Q:Ex->St->Prop}{w:Bool}{d:Option Nat}{o:IOp}{s:St}(p:Prop)[Decidable p]
  (h1:p->after cf s0 r Q (zI cf w d o s (.bool true))) (h2:¬p->after cf s0 r Q (zI cf w d o s (.bool false))):after cf s0 r Q (zI cf w d o s (.bool (decide p))):=by
 by_cases h:p
 ·simpa[h]using h1 h
 ·simpa[h]using h2 h
noncomputable def condX(cf:zr)(a b:ICode)(s:St):PV->Option (Ex×St)
 | .bool true=>exec cf a s
 | .bool false=>exec cf b s
 |_=>none
@[simp] theorem condX_true(cf:zr)(a b:ICode)(s:St):condX cf a b s (.bool true)=exec cf a s:=yd rfl rfl
@[simp] theorem condX_false(cf:zr)(a b:ICode)(s:St):condX cf a b s (.bool false)=exec cf b s:=yd rfl rfl
@[simp] theorem wp_cond(cf:zr)(c:Arg)(a b:ICode)(s:St):exec cf (.cond c a b) s=condX cf a b s (c.val s.fr):=by
 rw[exec_cond];generalize c.val s.fr=v;cases v with
 |bool x=>cases x<;>rfl
 |_=>rfl
theorem cond_split{cf:zr}{x y:ICode}{s:St}{Q:Ex->St->Prop}(b:Bool)(h1:b=true->zP (exec cf x s) Q)(h2:b=false->zP (exec cf y s) Q):zP (condX cf x y s (.bool b)) Q:=by
 cases b
 ·exact h2 rfl
 ·exact h1 rfl
theorem cond_splitP{cf:zr}{x y:ICode}{s:St}{Q:Ex->St->Prop}(p:Prop)[Decidable p](h1:p->zP (exec cf x s) Q)(h2:¬p->zP (exec cf y s) Q):zP (condX cf x y s (.bool (decide p))) Q:=by
 by_cases h:p
 ·have:decide p=true:=decide_eq_true h;rw[this];exact h1 h
 ·have:decide p=false:=decide_eq_false h;rw[this];exact h2 h
theorem guard_splitN{cf:zr}{s0:St}{r:List GOp}{Q:Ex->St->Prop}{w:Bool}{d:Option Nat}{o:IOp}{s:St}(p:Prop)[Decidable p]
  (h1:¬p->after cf s0 r Q (zI cf w d o s (.bool true))) (h2:p->after cf s0 r Q (zI cf w d o s (.bool false))):after cf s0 r Q (zI cf w d o s (.bool (!decide p))):=by
 by_cases h:p
 ·simpa[h]using h2 h
 ·simpa[h]using h1 h
theorem guard_splitM{cf:zr}{s0:St}{r:List GOp}{Q:Ex->St->Prop}{w:Bool}{d:Option Nat}{o:IOp}{s:St}(b:Bool)
  (h1:b=false->after cf s0 r Q (zI cf w d o s (.bool true))) (h2:b=true->after cf s0 r Q (zI cf w d o s (.bool false))):after cf s0 r Q (zI cf w d o s (.bool (!b))):=by
 cases b
 ·exact h1 rfl
 ·exact h2 rfl
theorem cond_splitN{cf:zr}{x y:ICode}{s:St}{Q:Ex->St->Prop}(p:Prop)[Decidable p](h1:¬p->zP (exec cf x s) Q)(h2:p->zP (exec cf y s) Q):zP (condX cf x y s (.bool (!decide p))) Q:=by
 by_cases h:p
 ·have:decide p=true:=decide_eq_true h;rw[this];exact h2 h
 ·have:decide p=false:=decide_eq_false h;rw[this];exact h1 h
theorem cond_splitM{cf:zr}{x y:ICode}{s:St}{Q:Ex->St->Prop}(b:Bool)(h1:b=false->zP (exec cf x s) Q)(h2:b=true->zP (exec cf y s) Q):zP (condX cf x y s (.bool (!b))) Q:=by
 cases b
 ·exact h1 rfl
 ·exact h2 rfl
theorem sP{cf:zr}{x y:ICode}{s:St}{Q:Ex->St->Prop}(p:Prop)[Decidable p](h1:p->zP (exec cf x s) Q)(h2:¬p->zP (exec cf y s) Q):zP (condX cf x y s (.bool (decide p))) Q:=cond_splitP p h1 h2
theorem gP{cf:zr}{s0:St}{r:List GOp}{Q:Ex->St->Prop}{w:Bool}{d:Option Nat}{o:IOp}{s:St}(p:Prop)[Decidable p]
  (h1:p->after cf s0 r Q (zI cf w d o s (.bool true))) (h2:¬p->after cf s0 r Q (zI cf w d o s (.bool false))):after cf s0 r Q (zI cf w d o s (.bool (decide p))):=guard_splitP p h1 h2
theorem sN{cf:zr}{x y:ICode}{s:St}{Q:Ex->St->Prop}(p:Prop)[Decidable p](h1:¬p->zP (exec cf x s) Q)(h2:p->zP (exec cf y s) Q):zP (condX cf x y s (.bool (!decide p))) Q:=cond_splitN p h1 h2
theorem gN{cf:zr}{s0:St}{r:List GOp}{Q:Ex->St->Prop}{w:Bool}{d:Option Nat}{o:IOp}{s:St}(p:Prop)[Decidable p]
  (h1:¬p->after cf s0 r Q (zI cf w d o s (.bool true))) (h2:p->after cf s0 r Q (zI cf w d o s (.bool false))):after cf s0 r Q (zI cf w d o s (.bool (!decide p))):=guard_splitN p h1 h2
theorem sM{cf:zr}{x y:ICode}{s:St}{Q:Ex->St->Prop}(b:Bool)(h1:b=false->zP (exec cf x s) Q)(h2:b=true->zP (exec cf y s) Q):zP (condX cf x y s (.bool (!b))) Q:=cond_splitM b h1 h2
theorem gM{cf:zr}{s0:St}{r:List GOp}{Q:Ex->St->Prop}{w:Bool}{d:Option Nat}{o:IOp}{s:St}(b:Bool)
  (h1:b=false->after cf s0 r Q (zI cf w d o s (.bool true))) (h2:b=true->after cf s0 r Q (zI cf w d o s (.bool false))):after cf s0 r Q (zI cf w d o s (.bool (!b))):=guard_splitM b h1 h2
theorem sB{cf:zr}{x y:ICode}{s:St}{Q:Ex->St->Prop}(b:Bool)(h1:b=true->zP (exec cf x s) Q)(h2:b=false->zP (exec cf y s) Q):zP (condX cf x y s (.bool b)) Q:=cond_split b h1 h2
theorem gB{cf:zr}{s0:St}{r:List GOp}{Q:Ex->St->Prop}{w:Bool}{d:Option Nat}{o:IOp}{s:St}(b:Bool)
  (h1:b=true->after cf s0 r Q (zI cf w d o s (.bool true))) (h2:b=false->after cf s0 r Q (zI cf w d o s (.bool false))):after cf s0 r Q (zI cf w d o s (.bool b)):=guard_split b h1 h2
theorem eqp{p:Prop}(h:p):p=True:=eq_true h
theorem eqn{p:Prop}(h:¬p):p=False:=eq_false h
def loopQ(I:St->Prop)(Q:Ex->St->Prop):Ex->St->Prop
 | .normal,s=>I s
 |e,s=>Q e s
@[simp] theorem loopQ_normal(I:St->Prop)(Q:Ex->St->Prop)(s:St):loopQ I Q .normal s=I s:=yd rfl rfl
@[simp] theorem loopQ_exit(I:St->Prop)(Q:Ex->St->Prop)(s:St)(i:Nat):loopQ I Q (.exit i) s=Q (.exit i) s:=yd rfl rfl
@[simp] theorem loopQ_ret(I:St->Prop)(Q:Ex->St->Prop)(s:St):loopQ I Q .ret s=Q .ret s:=yd rfl rfl
@[simp] theorem loopQ_pan(I:St->Prop)(Q:Ex->St->Prop)(s:St)(v:PV):loopQ I Q (.pan v) s=Q (.pan v) s:=yd rfl rfl
def round(cf:zr)(keep dead:List Nat)(b:ICode)(s:St)(Q:Ex->St->Prop):Prop:=match havoc keep dead s with
 |some s0=>zP (exec cf b s0) Q
 |none=>False
theorem round_eq(cf:zr)(keep dead:List Nat)(b:ICode)(s:St)(Q:Ex->St->Prop):
  round cf keep dead b s Q=(keep.all (fun t=>avoids dead (s.fr t))=true/\zP (exec cf b {fr:=keepFr s.fr keep,bx:=dropBx s.bx dead,st:=s.st}) Q):=by
 unfold round havoc;generalize keep.all (fun t=>avoids dead (s.fr t))=c;cases c<;>simp
theorem holds_loop(cf:zr)(keep dead:List Nat)(b:ICode)(s:St)(Q:Ex->St->Prop):
  zP (exec cf (.loop keep dead b) s) Q=round cf keep dead b s (seqQ (exec cf (.loop keep dead b)) Q):=by
 rw[exec_loop];unfold round;cases havoc keep dead s with
 |none=>rfl
 |some s0=>exact holds_thenSeq _ _ _
theorem wp_loop{cf:zr}{keep dead:List Nat}{b:ICode}{Q:Ex->St->Prop}(I:Nat->St->Prop)
  (hstep:∀n s,I n s->round cf keep dead b s (loopQ (fun s'=>∃m,m<n/\I m s') Q)):∀n s,I n s->zP (exec cf (.loop keep dead b) s) Q:=by
 intro n
 induction n using Nat.strongRecOn with
 |ind n ih=>
  intro s hI;rw[holds_loop];have h:=hstep n s hI;unfold round at h ⊢;cases hh:havoc keep dead s with
  |none=>rw[hh]at h;exact h
  |some s0=>
   rw[hh]at h;refine zP.mono h ?_;intro e s' h';cases e with
   |normal=>obtain⟨m,hm,hI'⟩:=h';exact ih m hm s' hI'
   |exit i=>exact h'
   |ret=>exact h'
   |pan v=>exact h'
theorem zj{n:Int}(h0: -9223372036854775808<=n)(h1:n<=9223372036854775807):zM .i64 n=n:=by
 rw[zL];simp only[yN,yta,yya,yxa];split
 ·rename_i h;have:=of_decide_eq_true h;omega
 ·rename_i h;have:¬(n%2^64>=2^(64-1)):=fun hh=>h (decide_eq_true hh)
  omega
theorem wp_list{α:Type}{cf:zr}{keep dead:List Nat}{b:ICode}{Q:Ex->St->Prop}{s:St}(l:List α)(I:List α->St->Prop)(hb:l.length<2^62)(h0:I [] s)
  (hstep:∀d x r s,l=d++x::r->(hlt:d.length<l.length)->l[d.length]? =some x->l[d.length]'hlt=x->zM .i64 ((d.length:Int)+1)=(d.length:Int)+1->I d s->round cf keep dead b s (loopQ (I (d++[x])) Q))
  (hend:∀s,I l s->round cf keep dead b s (loopQ (fun _=>False) Q)):zP (exec cf (.loop keep dead b) s) Q:=by
 have key:∀(r d:List α) (s:St),l=d++r->I d s->zP (exec cf (.loop keep dead b) s) Q:=by
  intro r
  induction r with
  |nil=>
   intro d s hl hI;rw[List.append_nil]at hl;subst hl;rw[holds_loop];have h:=hend s hI;unfold round at h ⊢;cases hh:havoc keep dead s with
   |none=>rw[hh]at h;exact h
   |some s0=>
    rw[hh]at h;refine zP.mono h ?_;intro e s' h';cases e with
    |normal=>exact h'.elim
    |exit i=>exact h'
    |ret=>exact h'
    |pan v=>exact h'
  |cons x r ih=>
   intro d s hl hI;rw[holds_loop];have h:=hstep d x r s hl (by rw[hl];simp) (by rw[hl];simp) (by simp[hl]) (zj (by omega) (by have:=congrArg List.length hl;simp at this;omega)) hI;unfold round at h ⊢;cases hh:havoc keep dead s with
   |none=>rw[hh]at h;exact h
   |some s0=>
    rw[hh]at h;refine zP.mono h ?_;intro e s' h';cases e with
    |normal=>exact ih (d++[x]) s' (by simpa using hl) h'
    |exit i=>exact h'
    |ret=>exact h'
    |pan v=>exact h'
 exact key l [] s rfl h0
def Split{α:Type}(l d:List α)(x:α)(r:List α):Prop:=l=d++x::r
def kept(K B:List Nat)(s0 s:St):Prop:=(∀t∈K,s.fr t=s0.fr t)/\(∀k∈B,s.bx k=s0.bx k)
def has(V:List (Nat×PV))(s:St):Prop:=∀p∈V,s.fr p.1=p.2
@[simp] theorem kept_eq(K B:List Nat)(s0 s:St):kept K B s0 s=((∀t∈K,s.fr t=s0.fr t)/\(∀k∈B,s.bx k=s0.bx k)):=yd rfl rfl
@[simp] theorem has_nil(s:St):has [] s=True:=by simp[has]
@[simp] theorem has_cons(t:Nat)(v:PV)(V:List (Nat×PV))(s:St):has ((t,v)::V) s=(s.fr t=v/\has V s):=by simp[has]
def hasB(W:List (Nat×Bx))(s:St):Prop:=∀p∈W,s.bx p.1=p.2
@[simp] theorem hasB_nil(s:St):hasB [] s=True:=by simp[hasB]
@[simp] theorem hasB_cons(t:Nat)(v:Bx)(W:List (Nat×Bx))(s:St):hasB ((t,v)::W) s=(s.bx t=v/\hasB W s):=by simp[hasB]
def Inv(K B:List Nat)(s0:St)(V:List (Nat×PV))(W:List (Nat×Bx))(σ:zb)(P:Prop)(s:St):Prop:=kept K B s0 s/\has V s/\hasB W s/\s.st=σ/\P
@[simp] theorem Inv_eq(K B:List Nat)(s0:St)(V:List (Nat×PV))(W:List (Nat×Bx))(σ:zb)(P:Prop)(s:St):Inv K B s0 V W σ P s=(kept K B s0 s/\has V s/\hasB W s/\s.st=σ/\P):=yd rfl rfl
theorem wp_eachB{α:Type}{cf:zr}{keep dead:List Nat}{b:ICode}{Q:Ex->St->Prop}{s0:St}(l:List α)(K B:List Nat)(V:List α->List (Nat×PV))(W:List α->List (Nat×Bx))(σ:List α->zb)(P:List α->Prop)
  (hb:l.length<2^62) (h0:has (V []) s0/\hasB (W []) s0/\s0.st=σ []/\P [])
  (hstep:∀d x r s,Split l d x r->(hlt:d.length<l.length)->l[d.length]? =some x->l[d.length]'hlt=x->zM .i64 ((d.length:Int)+1)=(d.length:Int)+1->P d→
   (∀t∈K,s.fr t=s0.fr t)->(∀k∈B,s.bx k=s0.bx k)->has (V d) s->hasB (W d) s->s.st=σ d->round cf keep dead b s (loopQ (Inv K B s0 (V (d++[x])) (W (d++[x])) (σ (d++[x])) (P (d++[x]))) Q))
  (hend:∀s,P l->(∀t∈K,s.fr t=s0.fr t)->(∀k∈B,s.bx k=s0.bx k)->has (V l) s->hasB (W l) s->s.st=σ l->round cf keep dead b s (loopQ (fun _=>False) Q)):zP (exec cf (.loop keep dead b) s0) Q:=by
 refine wp_list l (fun d s=>Inv K B s0 (V d) (W d) (σ d) (P d) s) hb ?_ ?_ ?_
 ·exact⟨⟨fun _ _=>rfl,fun _ _=>rfl⟩,h0⟩
 ·rintro d x r s hl hlt hg hg' hw ⟨⟨h1,h2⟩,h3,h3',h4,h5⟩
  exact hstep d x r s hl hlt hg hg' hw h5 h1 h2 h3 h3' h4
 ·rintro s ⟨⟨h1,h2⟩,h3,h3',h4,h5⟩
  exact hend s h5 h1 h2 h3 h3' h4
theorem zaa{α:Type}{cf:zr}{keep dead:List Nat}{b:ICode}{Q:Ex->St->Prop}{s0:St}(l:List α)(K B:List Nat)(V:List α->List (Nat×PV))(σ:List α->zb)(P:List α->Prop)
  (hb:l.length<2^62) (h0:has (V []) s0/\s0.st=σ []/\P [])
  (hstep:∀d x r s,Split l d x r->(hlt:d.length<l.length)->l[d.length]? =some x->l[d.length]'hlt=x->zM .i64 ((d.length:Int)+1)=(d.length:Int)+1->P d→
   (∀t∈K,s.fr t=s0.fr t)->(∀k∈B,s.bx k=s0.bx k)->has (V d) s->s.st=σ d->round cf keep dead b s (loopQ (Inv K B s0 (V (d++[x])) [] (σ (d++[x])) (P (d++[x]))) Q))
  (hend:∀s,P l->(∀t∈K,s.fr t=s0.fr t)->(∀k∈B,s.bx k=s0.bx k)->has (V l) s->s.st=σ l->round cf keep dead b s (loopQ (fun _=>False) Q)):zP (exec cf (.loop keep dead b) s0) Q:=
 wp_eachB l K B V (fun _=>[]) σ P hb ⟨h0.1,by simp,h0.2⟩ (fun d x r s a1 a2 a3 a4 a5 a6 a7 a8 a9 _ a10=>hstep d x r s a1 a2 a3 a4 a5 a6 a7 a8 a9 a10) (fun s a1 a2 a3 a4 _ a5=>hend s a1 a2 a3 a4 a5)
theorem zLc{β:Type}{cf:zr}{keep dead:List Nat}{b:ICode}{Q:Ex->St->Prop}{s0:St}(K B:List Nat)(μ:β->Nat)(V:β->List (Nat×PV))(W:β->List (Nat×Bx))(σ:β->zb)(P:β->Prop)(c0:β)
  (h0:has (V c0) s0/\hasB (W c0) s0/\s0.st=σ c0/\P c0)
  (hstep:∀c s,P c->(∀t∈K,s.fr t=s0.fr t)->(∀k∈B,s.bx k=s0.bx k)->has (V c) s->hasB (W c) s->s.st=σ c→
   round cf keep dead b s (loopQ (fun s'=>∃c',μ c'<μ c/\Inv K B s0 (V c') (W c') (σ c') (P c') s') Q)):zP (exec cf (.loop keep dead b) s0) Q:=by
 refine wp_loop (fun n s=>∃c,μ c=n/\Inv K B s0 (V c) (W c) (σ c) (P c) s) ?_ (μ c0) s0 ⟨c0,rfl,⟨fun _ _=>rfl,fun _ _=>rfl⟩,h0⟩
 rintro n s ⟨c,rfl,⟨h1,h2⟩,h3,h3',h4,h5⟩
 have h:=hstep c s h5 h1 h2 h3 h3' h4;unfold round at h ⊢;cases hh:havoc keep dead s with
 |none=>rw[hh]at h;exact h
 |some s1=>
  rw[hh]at h;refine zP.mono h ?_;intro e s' h';cases e with
  |normal=>obtain⟨c',q1,q2⟩:=h';exact⟨μ c',q1,c',rfl,q2⟩
  |exit i=>exact h'
  |ret=>exact h'
  |pan v=>exact h'
def PC(x:Option (CRes×zb))(R:CRes->zb->Prop):Prop:=match x with
 |some (r,st)=>R r st
 |none=>False
theorem PC_iff{x:Option (CRes×zb)}{R:CRes->zb->Prop}:PC x R<->∃r st,x=some (r,st)/\R r st:=by
 cases x with
 |none=>exact⟨fun h=>h.elim,fun⟨_,_,h,_⟩=>by cases h⟩
 |some q=>obtain⟨e,s⟩:=q;exact⟨fun h=>⟨e,s,rfl,h⟩,fun⟨_,_,h,h'⟩=>by cases h;exact h'⟩
def fin(res:List IRes)(fz:Bool)(n:Nat)(s:St):Option (CRes×zb):=
 match getAll s res with
 |none=>none
 |some vs=>if vs.all zp then
   if fz then
    if zK n (vs.map (zDb n s.st))&&zb.wf n (s.st.take n)&&decide (n<=s.st.length)then some (.ret (zCc (vs.map (zDb n s.st))),s.st.take n)else none
   else some (.ret (zCc vs),s.st)
  else none
def finPan(fz:Bool)(n:Nat)(v:PV)(s:St):Option (CRes×zb):=
 if fz then
  if zo n v&&zb.wf n (s.st.take n)&&decide (n<=s.st.length)then some (.pan v,s.st.take n)else none
 else some (.pan v,s.st)
def leaveQ(res:List IRes)(fz:Bool)(n:Nat)(R:CRes->zb->Prop):Ex->St->Prop
 | .normal,s=>PC (fin res fz n s) R
 | .ret,s=>PC (fin res fz n s) R
 | .pan v,s=>PC (finPan fz n v s) R
 |_,_=>False
section
variable (res:List IRes) (fz:Bool) (n:Nat) (R:CRes->zb->Prop) (s:St)
@[simp] theorem leaveQ_normal:leaveQ res fz n R .normal s=PC (fin res fz n s) R:=yd rfl rfl
@[simp] theorem leaveQ_ret:leaveQ res fz n R .ret s=PC (fin res fz n s) R:=yd rfl rfl
@[simp] theorem leaveQ_pan(v:PV):leaveQ res fz n R (.pan v) s=PC (finPan fz n v s) R:=yd rfl rfl
@[simp] theorem fin_false:fin res false n s=match getAll s res with
 |none=>none
 |some vs=>if vs.all zp then some (.ret (zCc vs),s.st)else none:=yd rfl rfl
@[simp] theorem finPan_false(v:PV):finPan false n v s=some (.pan v,s.st):=yd rfl rfl
@[simp] theorem PC_some(r:CRes)(st:zb):PC (some (r,st)) R=R r st:=yd rfl rfl
end
section
variable (res:List IRes) (n:Nat) (R:CRes->zb->Prop) (s:St)
end
theorem pcall_wpP{E:Env}{f:Nat}{F:IFn}{args:List PV}{st:zb}{R:CRes->zb->Prop}(hx:E.ext f=none)(hf:E.fn f=some F)(hl:args.length=F.nargs)(hv:args.all zp=true)
  (h:zP (exec (zh E) F.body {fr:=frOf args 0,bx:=fun _=> .no,st:=st}) (leaveQ F.res F.freeze st.length R)) (hh:E.hand f=none:=by rfl) (hd:F.deep=false:=by rfl) (ho:F.own=none:=by rfl):PC (zh E f args st) R:=by
 rw[holds_iff]at h;obtain⟨e,s,h1,h2⟩:=h;have h3:PC (leave F st.length (some (e,s))) R:=by
  cases e with
  |normal=>show PC (zoc F st.length s) R;unfold zoc;rw[ho,hd];exact h2
  |ret=>show PC (zoc F st.length s) R;unfold zoc;rw[ho,hd];exact h2
  |pan v=>exact h2
  |exit i=>exact h2.elim
 rw[PC_iff]at h3;obtain⟨r,st',h4,h5⟩:=h3;rw[pcall_body hx hf hl hv hh (by rw[h1];exact h4)];exact h5
def isR(r:CRes×zb):CRes->zb->Prop:=fun r' st'=>r'=r.1/\st'=r.2
theorem zc{E:Env}{f:Nat}{F:IFn}{args:List PV}{st:zb}{r:CRes×zb}(hx:E.ext f=none)(hf:E.fn f=some F)(hl:args.length=F.nargs)(hv:args.all zp=true)
  (h:zP (exec (zh E) F.body {fr:=frOf args 0,bx:=fun _=> .no,st:=st}) (leaveQ F.res F.freeze st.length (isR r))) (hh:E.hand f=none:=by rfl) (hd:F.deep=false:=by rfl) (ho:F.own=none:=by rfl):zh E f args st=some r:=by
 have h1:=pcall_wpP (R:=isR r) hx hf hl hv h hh hd ho;rw[PC_iff]at h1;obtain⟨r',st',e,q1,q2⟩:=h1;rw[e,q1,q2]
def finO(t:Nat)(s:St):Option (CRes×zb):=if zp (s.fr t)then some (.ret (s.fr t),s.st)else none
def leaveO(t:Nat)(R:CRes->zb->Prop):Ex->St->Prop
 | .normal,s=>PC (finO t s) R
 | .ret,s=>PC (finO t s) R
 | .pan v,s=>PC (some (.pan v,s.st)) R
 |_,_=>False
section
variable (t:Nat) (R:CRes->zb->Prop) (s:St)
@[simp] theorem leaveO_ret:leaveO t R .ret s=PC (finO t s) R:=yd rfl rfl
@[simp] theorem finO_eq:finO t s=if zp (s.fr t)then some (.ret (s.fr t),s.st)else none:=yd rfl rfl
end
theorem pcall_wpO{E:Env}{f:Nat}{F:IFn}{args:List PV}{st:zb}{r:CRes×zb}(t:Nat)(hx:E.ext f=none)(hf:E.fn f=some F)(hl:args.length=F.nargs)(hv:args.all zp=true)
  (h:zP (exec (zh E) F.body {fr:=frOf args 0,bx:=fun _=> .no,st:=st}) (leaveO t (isR r))) (hh:E.hand f=none:=by rfl) (hz:F.freeze=false:=by rfl) (ho:F.own=some t:=by rfl):zh E f args st=some r:=by
 rw[holds_iff]at h;obtain⟨e,s,h1,h2⟩:=h;have h3:PC (leave F st.length (some (e,s))) (isR r):=by
  cases e with
  |normal=>show PC (zoc F st.length s) (isR r);unfold zoc;rw[ho];exact h2
  |ret=>show PC (zoc F st.length s) (isR r);unfold zoc;rw[ho];exact h2
  |pan v=>show PC (finishPan F st.length v s) (isR r);unfold finishPan;rw[hz];exact h2
  |exit i=>exact h2.elim
 rw[PC_iff]at h3;obtain⟨r',st',h4,q1,q2⟩:=h3;rw[pcall_body hx hf hl hv hh (by rw[h1];exact h4),q1,q2]
@[simp] theorem isR_mk(r r':CRes)(st st':zb):isR (r,st) r' st'=(r'=r/\st'=st):=yd rfl rfl
attribute [simp] wp_region round_eq exec_sealK
section
variable (n:Nat)
@[simp] theorem below_bool(b:Bool):zo n (.bool b)=true:=yd rfl rfl
@[simp] theorem below_int(k:IntKind)(m:Int):zo n (.int k m)=true:=yd rfl rfl
@[simp] theorem below_str(m:List UInt8):zo n (.str m)=true:=yd rfl rfl
@[simp] theorem below_mslice(l i o z:Nat):zo n (.mslice l i o z)=decide (l<n):=yd rfl rfl
@[simp] theorem below_mp(l:Nat):zo n (.mp l)=decide (l<n):=yd rfl rfl
@[simp] theorem below_slice(k:SK)(z:Nat)(l:List PV):zo n (.slice k z l)=zK n l:=yd rfl rfl
@[simp] theorem below_agg(l:List PV):zo n (.agg l)=zK n l:=yd rfl rfl
@[simp] theorem below_tup(l:List PV):zo n (.tup l)=zK n l:=yd rfl rfl
@[simp] theorem below_iface(t:Nat)(v:PV):zo n (.iface t v)=zo n v:=yd rfl rfl
@[simp] theorem belowL_nil:zK n []=true:=yd rfl rfl
@[simp] theorem belowL_cons(v:PV)(l:List PV):zK n (v::l)=(zo n v&&zK n l):=yd rfl rfl
end
@[simp] theorem zKc{α:Type}(n:Nat)(f:α->PV)(l:List α)(h:∀x,zo n (f x)=true):zK n (l.map f)=true:=by
 induction l with
 |nil=>rfl
 |cons x r ih=>simp[h,ih]
@[simp] theorem belowL_append(n:Nat)(a b:List PV):zK n (a++b)=(zK n a&&zK n b):=by
 induction a with
 |nil=>simp
 |cons x r ih=>simp[ih,Bool.and_assoc]
theorem Split.mem{α:Type}{l d:List α}{x:α}{r:List α}(h:Split l d x r):x∈l:=by
 have h:l=d++x::r:=h;rw[h];simp
theorem Split.eq{α:Type}{l d:List α}{x:α}{r:List α}(h:Split l d x r):l=d++x::r:=h
theorem byte_lt(b:UInt8):(b.toNat:Int)<256:=by
 have:=b.toNat_lt;omega
@[simp] theorem wrapK_byte(k:IntKind)(h:k≠ .i8)(b:UInt8):zM k b.toNat=b.toNat:=by
 have:=byte_lt b;have h0:(0:Int)<=b.toNat:=by omega
 rw[zL];cases k<;>first|exact absurd rfl h|(simp only[yN,yta,yya,yxa,Bool.false_and];split<;>rename_i h<;>first|omega|(have:=of_decide_eq_true h;omega)|(exact absurd h (by simp)))
section
variable (n:Nat) (st:zb)
@[simp] theorem frA_bool(b:Bool):zDb n st (.bool b)=(.bool b):=yd rfl rfl
@[simp] theorem fr1_int(k:IntKind)(m:Int):zwc n st (.int k m)=(.int k m):=yd rfl rfl
@[simp] theorem frA_int(k:IntKind)(m:Int):zDb n st (.int k m)=(.int k m):=yd rfl rfl
@[simp] theorem fr1_slice(k:SK)(z:Nat)(l:List PV):zwc n st (.slice k z l)=(.slice k z l):=yd rfl rfl
@[simp] theorem frA_agg(l:List PV):zDb n st (.agg l)= .agg (l.map (zwc n st)):=yd rfl rfl
theorem frA_mslice(l o k z:Nat):zDb n st (.mslice l o k z)=zwc n st (.mslice l o k z):=yd rfl rfl
theorem fr1_mslice(l o k z:Nat):zwc n st (.mslice l o k z)=if n<=l then
   match st[l]? with
   |some (.arr s es)=>if s=z/\o+k<=es.length then .slice .plain z (((es.drop o).take k).map stripA)else .mslice l o k z
   |_=> .mslice l o k z
  else .mslice l o k z:=yd rfl rfl
end
@[simp] theorem fin_true0(res:List IRes)(s:St):fin res true 0 s=match getAll s res with
 |none=>none
 |some vs=>if vs.all zp then if zK 0 (vs.map (zDb 0 s.st))then some (.ret (zCc (vs.map (zDb 0 s.st))),[])else none else none:=by
 unfold fin;cases getAll s res with
 |none=>rfl
 |some vs=>simp[zb.wf]
def acc(sz:Nat)(l:List PV):PV:=match l with
 | []=> .slice .fit sz []
 |x::r=> .slice .own sz (x::r)
@[simp] theorem acc_nil(sz:Nat):acc sz []= .slice .fit sz []:=yd rfl rfl
@[simp] theorem acc_cons(sz:Nat)(x:PV)(r:List PV):acc sz (x::r)= .slice .own sz (x::r):=yd rfl rfl
theorem acc_ne{sz:Nat}{l:List PV}(h:l≠ []):acc sz l= .slice .own sz l:=by cases l<;>first|exact absurd rfl h|rfl
@[simp] theorem canon1_acc(sz:Nat)(l:List PV):canon1 (acc sz l)= .slice .plain sz l:=by cases l<;>rfl
@[simp] theorem stripA_acc(sz:Nat)(l:List PV):stripA (acc sz l)= .slice .plain sz l:=by cases l<;>rfl
@[simp] theorem isVar_acc(sz:Nat)(l:List PV):zp (acc sz l)=true:=by cases l<;>rfl
@[simp] theorem avoids_acc(dead:List Nat)(sz:Nat)(l:List PV):avoids dead (acc sz l)=true:=by cases l<;>rfl
@[simp] theorem appendS_acc(sz bytes:Nat)(b:Bx)(st:zb)(l l':List PV)(h:(l.length+l'.length)*bytes<=zq):appendS sz bytes b st (some l') (acc sz l)=some (acc sz (l++l'),b,st):=by
 cases l with
 |nil=>
  cases l' with
  |nil=>simp
  |cons y r=>
   simp at h;simp;exact h
 |cons x r=>simp at h;simp;exact h
@[simp high] theorem appendS_nil(sz bytes:Nat)(b:Bx)(st:zb)(l':List PV)(h:l'.length*bytes<=zq):appendS sz bytes b st (some l') (.slice .fit sz [])=some (acc sz l',b,st):=by
 have:=appendS_acc sz bytes b st [] l' (by simpa using h);simpa using this
@[simp] theorem canon1_sacc(sz:Nat)(l:List PV):canon1 (strip (acc sz l))= .slice .plain sz l:=by cases l<;>rfl
@[simp] theorem stripA_sacc(sz:Nat)(l:List PV):stripA (strip (acc sz l))= .slice .plain sz l:=by cases l<;>rfl
@[simp] theorem isVar_sacc(sz:Nat)(l:List PV):zp (strip (acc sz l))=true:=by cases l<;>rfl
@[simp] theorem cellsOf_sacc(sz:Nat)(l:List PV):cellsOf (strip (acc sz l))=[strip (acc sz l)]:=by cases l<;>rfl
@[simp] theorem src_sacc(st:zb)(sz z:Nat)(l:List PV):zLa st sz (strip (acc z l))=if sz=z then some l else none:=by cases l<;>rfl
@[simp] def cI(n:Int):Arg:= .c (.int .i64 n)
@[simp] def oM(a b:Nat):GOp:=⟨none,some a,.mv (.t b)⟩
@[simp] def oC(a:Nat)(v:PV):GOp:=⟨none,some a,.mv (.c v)⟩
@[simp] def oO(a:Nat)(x:IOp):GOp:=⟨none,some a,x⟩
@[simp] def oN(x:IOp):GOp:=⟨none,none,x⟩
@[simp] def oT(g a:Nat)(x:IOp):GOp:=⟨some (g,true),some a,x⟩
@[simp] def oF(g a:Nat)(x:IOp):GOp:=⟨some (g,false),some a,x⟩
@[simp] def oA(a off t:Nat):GOp:=⟨none,some a,.faddr off (.t t)⟩
@[simp] def oX(a t i:Nat):GOp:=⟨none,some a,.ext (.t t) i⟩
@[simp] def oL(a k t:Nat):GOp:=⟨none,some a,.load (.box k) false 1 (.t t)⟩
@[simp] def oLa(a k sz t:Nat):GOp:=⟨none,some a,.load (.box k) true sz (.t t)⟩
@[simp] def oG(a t:Nat):GOp:=⟨none,some a,.load .any false 1 (.t t)⟩
@[simp] def oS(k sz t v:Nat):GOp:=⟨none,none,.store (.box k) sz (.t t) (.t v)⟩
@[simp] def oB(a:Nat)(op:BinOp)(x y:Arg):GOp:=⟨none,some a,.bin 0 [] op x y⟩
@[simp] def bF:PV:= .bool false
@[simp] def bT:PV:= .bool true
@[simp] def sr(o:List GOp)(r:ICode):ICode:= .seq (.region o) r
@[simp] def cP(a f:Nat)(l:List Arg):GOp:=⟨none,some a,.callP false (.c (.fn f [] [])) l⟩
@[simp] def cF(a f:Nat)(l:List Arg):GOp:=⟨none,some a,.call false (.c (.fn f [] [])) l⟩
@[simp] def oK(a t:Nat):GOp:=⟨none,some a,.nilck (.t t)⟩
@[simp] def oI(a z t i:Nat):GOp:=⟨none,some a,.iaddr z (.t t) (.t i)⟩
@[simp] def oE(a t:Nat):GOp:=⟨none,some a,.take t⟩
@[simp] def oZ(a:Nat)(n:Int):GOp:=⟨none,some a,.mv (.c (.int .i64 n))⟩
@[simp] def oY(a t:Nat):GOp:=⟨none,some a,.len 1 (.t t)⟩
@[simp] def oW(a z t:Nat):GOp:=⟨none,some a,.load .any true z (.t t)⟩
@[simp] def oH(a t:Nat):GOp:=⟨none,some a,.load .imm false 1 (.t t)⟩
@[simp] def oU(a t:Nat):GOp:=⟨none,some a,.un .not (.t t)⟩
@[simp] def oV(t v:Nat):GOp:=⟨none,none,.store .any 1 (.t t) (.t v)⟩
@[simp] def oP(a:Nat)(op:BinOp)(x y:Nat):GOp:=⟨none,some a,.bin 0 [] op (.t x) (.t y)⟩
@[simp] def oD(a:Nat)(op:BinOp)(x:Nat)(y:Int):GOp:=⟨none,some a,.bin 0 [] op (.t x) (.c (.int .i64 y))⟩
@[simp] def oTm(g a t:Nat):GOp:=⟨some (g,true),some a,.mv (.t t)⟩
@[simp] def oFm(g a t:Nat):GOp:=⟨some (g,false),some a,.mv (.t t)⟩
@[simp] def pP(n:Nat)(l:List Arg):IOp:= .callP false (.c (.fn n [] [])) l
@[simp] def pF(n:Nat)(l:List Arg):IOp:= .call false (.c (.fn n [] [])) l
end PE

set_option maxRecDepth 100000
namespace PE.U
open Go PE Go.Proofs
def F36:IFn:=⟨21,2,[.tmp 4],false,false,none,(sr [oZ 4 0] (sr [oM 5 0,oM 6 0,oK 7 6,oA 8 2 7,oO 9 (.loadT .any (.t 8)),oM 10 1,oO 11 (.bslice 1 (.int .i64 0) 1 [(0,(.t 10))]),oO 12 (.append 1 8 (.t 9) (.t 11)),oK 13 5,oA 14 2 13,oN (.storeT .any (.t 14) 12)] (sr [oM 15 0,oK 16 15,oA 17 2 16,oG 18 17,oY 19 18,oD 20 .sub 19 1,oM 4 20] .ret)))⟩
theorem ok36:zf Try.prog Try.f36 F36=true:=by kernel_rfl
def L35_0:ICode:= .loop [0,1,5,6] []
 (.seq
 (sr [
 oM 7 6,
 oM 8 1,
 oY 9 8,
 oP 10 .lss 7 9]
 (.cond (.t 10)
 .skip
 (.exit 0)))
 (.seq
 (.block 1
 (.region [
 oE 13 5,
 oM 14 0,
 oM 15 1,
 oM 16 6,
 oI 17 1 15 16,
 oG 18 17,
 cF 19 36 [.t 14,.t 18],
 oO 20 (.bslice 1 (.int .i64 0) 1 [(0,(.t 19))]),
 oO 21 (.append 1 8 (.t 13) (.t 20)),
 oE 5 21]))
 (.region [
 oM 11 6,
 oD 12 .add 11 1,
 oM 6 12])))
abbrev K35_0:List Nat:=[0,1]
abbrev B35_0:List Nat:=[]
def F35:IFn:=⟨23,2,[.tmp 4],false,false,some 4,(sr [oC 4 (.slice .fit 1 [])] (sr [oC 5 (.slice .fit 1 [])] (.seq (sr [oZ 6 0] (.block 0 L35_0)) (sr [oE 22 5,oE 4 22] .ret))))⟩
theorem ok35:zf Try.prog Try.f35 F35=true:=by kernel_rfl
def F54:IFn:=⟨43,2,[.tmp 4],false,false,none,(sr [oZ 4 0] (sr [oM 5 0,oK 6 5,oA 7 1 6,oG 8 7,oD 9 .add 8 1,oK 10 5,oA 11 1 10,oV 11 9] (.seq (sr [oM 12 0,oK 13 12,oA 14 1 13,oG 15 14,oM 16 0,oK 17 16,oA 18 0 17,oG 19 18,oY 20 19,oP 21 .gtr 15 20,oM 22 21,oFm 22 23 0,oF 22 24 (.nilck (.t 23)),oF 22 25 (.faddr 1 (.t 24)),oF 22 26 (.load .any false 1 (.t 25)),oF 22 27 (.bin 0 [] .gtr (.t 26) (cI 150)),oO 28 (.pick (.t 22) (.c bT) (.t 27))] (.cond (.t 28) (sr [oZ 4 0] .ret) .skip)) (sr [oM 29 0,oK 30 29,oA 31 0 30,oG 32 31,oM 33 0,oK 34 33,oA 35 1 34,oG 36 35,oD 37 .sub 36 1,oI 38 1 32 37,oH 39 38,oO 40 (.conv .i64 (.t 39)),oM 41 1,oP 42 .rem 40 41,oM 4 42] .ret))))⟩
theorem ok54:zf Try.prog Try.f54 F54=true:=by kernel_rfl
def L76_0:ICode:= .loop [0,1,2,7,8,9] []
 (.seq
 (sr [
 oM 13 9,
 oM 14 1,
 oY 15 14,
 oP 16 .lss 13 15]
 (.cond (.t 16)
 .skip
 (.exit 0)))
 (.seq
 (.block 1
 (sr [
 oM 19 0,
 oK 20 19,
 oA 21 2 20,
 oG 22 21,
 oM 23 1,
 oM 24 9,
 oI 25 1 23 24,
 oH 26 25,
 oI 27 1 22 26,
 oH 28 27,
 oM 29 2,
 oP 30 .eql 28 29,
 oM 31 30,
 oTm 31 32 9,
 oT 31 33 (.bin 0 [] .eql (.t 32) (cI 0)),
 oTm 31 34 33,
 oFm 34 35 7,
 oF 34 36 (.bin 0 [] .gtr (.t 35) (cI 0)),
 oT 31 37 (.pick (.t 34) (.c bT) (.t 36)),
 oO 38 (.pick (.t 31) (.t 37) (.c bF))]
 (.cond (.t 38)
 (sr [
 oM 39 1,
 oM 40 9,
 oI 41 1 39 40,
 oG 42 41,
 oM 8 42]
 (.region [
 oM 43 7,
 oD 44 .sub 43 1,
 oM 7 44]))
 .skip)))
 (.region [
 oM 17 9,
 oD 18 .add 17 1,
 oM 9 18])))
def L76_1:ICode:= .loop [0,1,2,8,10] []
 (.seq
 (sr [
 oM 45 10,
 oM 46 1,
 oY 47 46,
 oP 48 .lss 45 47,
 oM 49 48,
 oTm 49 50 0,
 oT 49 51 (.nilck (.t 50)),
 oT 49 52 (.faddr 2 (.t 51)),
 oT 49 53 (.load .any false 1 (.t 52)),
 oTm 49 54 8,
 oT 49 55 (.iaddr 1 (.t 53) (.t 54)),
 oT 49 56 (.load .any false 1 (.t 55)),
 oTm 49 57 2,
 oT 49 58 (.bin 0 [] .neq (.t 56) (.t 57)),
 oO 59 (.pick (.t 49) (.t 58) (.c bF))]
 (.cond (.t 59)
 .skip
 (.exit 2)))
 (.seq
 (.block 3
 (sr [
 oM 62 0,
 oK 63 62,
 oA 64 2 63,
 oG 65 64,
 oM 66 1,
 oM 67 10,
 oI 68 1 66 67,
 oH 69 68,
 oI 70 1 65 69,
 oH 71 70,
 oM 72 2,
 oP 73 .eql 71 72]
 (.cond (.t 73)
 (.region [
 oM 74 1,
 oM 75 10,
 oI 76 1 74 75,
 oG 77 76,
 oM 8 77])
 .skip)))
 (.region [
 oM 60 10,
 oD 61 .add 60 1,
 oM 10 61])))
abbrev K76_0:List Nat:=[0,1,2]
abbrev B76_0:List Nat:=[]
abbrev K76_1:List Nat:=[0,1,2]
abbrev B76_1:List Nat:=[]
def F76:IFn:=⟨79,3,[.tmp 6],false,false,none,(sr [oZ 6 0] (sr [oM 11 0,cF 12 54 [.t 11,cI 8],oM 7 12] (sr [oZ 8 0] (.seq (sr [oZ 9 0] (.block 0 L76_0)) (.seq (sr [oZ 10 0] (.block 2 L76_1)) (sr [oM 78 8,oM 6 78] .ret))))))⟩
theorem ok76:zf Try.prog Try.f76 F76=true:=by kernel_rfl
def L57_0:ICode:= .loop [0,1,2,7,8] []
 (.seq
 (sr [
 oM 9 8,
 oM 10 2,
 oY 11 10,
 oP 12 .lss 9 11]
 (.cond (.t 12)
 .skip
 (.exit 0)))
 (.seq
 (.block 1
 (.region [
 oE 15 7,
 oM 16 0,
 oM 17 1,
 oM 18 2,
 oM 19 8,
 oI 20 1 18 19,
 oG 21 20,
 cF 22 76 [.t 16,.t 17,.t 21],
 oO 23 (.bslice 1 (.int .i64 0) 1 [(0,(.t 22))]),
 oO 24 (.append 1 8 (.t 15) (.t 23)),
 oE 7 24]))
 (.region [
 oM 13 8,
 oD 14 .add 13 1,
 oM 8 14])))
abbrev K57_0:List Nat:=[0,1,2]
abbrev B57_0:List Nat:=[]
def F57:IFn:=⟨26,3,[.tmp 6],false,false,none,(sr [oC 6 (.slice .fit 1 [])] (sr [oC 7 (.slice .fit 1 [])] (.seq (sr [oZ 8 0] (.block 0 L57_0)) (sr [oE 25 7,oE 6 25] .ret))))⟩
theorem ok57:zf Try.prog Try.f57 F57=true:=by kernel_rfl
def F55:IFn:=⟨137,2,[.cell 4 true 8],false,false,none,(sr [oO 4 (.boxL 4 (.c (.agg [.int .i64 0,.int .i64 0,.int .i64 0,.str [],.slice .fit 1 [],.slice .fit 1 [],.slice .fit 1 [],.slice .fit 1 []])))] (sr [oZ 5 1] (.seq (sr [oM 6 0,cF 7 54 [.t 6,cI 12]] (.block 0 (sr [oD 9 .eql 7 0,oM 8 9] (.cond (.t 8) (sr [oO 10 (.bslice 1 (.int .i64 0) 6 [(0,(cI 0)),(1,(cI 1)),(2,(cI 2)),(3,(cI 3)),(4,(cI (-1))),(5,(cI 100))]),oM 11 0,cF 12 54 [.t 11,cI 6],oI 13 1 10 12,oH 14 13,oM 15 0,oM 16 5,oO 17 (.bslice 1 (.int .i64 0) 1 [(0,(.t 16))]),cF 18 35 [.t 15,.t 17],oO 19 (.build [.int .i64 0,.int .i64 0,.int .i64 0,.str [],.slice .fit 1 [],.slice .fit 1 [],.slice .fit 1 [],.slice .fit 1 []] [(0,1,(cI 1)),(2,1,(.t 14)),(5,1,(.t 18))]),oS 4 8 4 19] .ret) (sr [oD 21 .eql 7 1,oM 20 21] (.cond (.t 20) (sr [oM 22 0,cF 23 54 [.t 22,cI 2],oM 24 0,oO 25 (.bslice 1 (.int .i64 0) 1 [(0,(cI 2))]),cF 26 35 [.t 24,.t 25],oO 27 (.build [.int .i64 0,.int .i64 0,.int .i64 0,.str [],.slice .fit 1 [],.slice .fit 1 [],.slice .fit 1 [],.slice .fit 1 []] [(0,1,(cI 2)),(2,1,(.t 23)),(5,1,(.t 26))]),oS 4 8 4 27] .ret) (sr [oD 29 .eql 7 2,oM 28 29] (.cond (.t 28) (sr [oO 30 (.bslice 1 (.int .i64 0) 4 [(0,(cI 20)),(1,(cI 21)),(2,(cI 23)),(3,(cI 27))]),oM 31 0,cF 32 54 [.t 31,cI 4],oI 33 1 30 32,oH 34 33,oM 35 0,oE 36 1,oM 37 5,oO 38 (.bslice 1 (.int .i64 0) 1 [(0,(.t 37))]),cF 39 57 [.t 35,.t 36,.t 38],oM 40 0,oM 41 5,oO 42 (.bslice 1 (.int .i64 0) 1 [(0,(.t 41))]),cF 43 35 [.t 40,.t 42],oO 44 (.build [.int .i64 0,.int .i64 0,.int .i64 0,.str [],.slice .fit 1 [],.slice .fit 1 [],.slice .fit 1 [],.slice .fit 1 []] [(0,1,(cI 3)),(1,1,(.t 34)),(4,1,(.t 39)),(5,1,(.t 43))]),oS 4 8 4 44] .ret) (sr [oD 46 .eql 7 3,oM 45 46] (.cond (.t 45) (sr [oM 47 0,oE 48 1,oO 49 (.bslice 1 (.int .i64 0) 1 [(0,(cI 2))]),cF 50 57 [.t 47,.t 48,.t 49],oM 51 0,oO 52 (.bslice 1 (.int .i64 0) 1 [(0,(cI 2))]),cF 53 35 [.t 51,.t 52],oO 54 (.build [.int .i64 0,.int .i64 0,.int .i64 0,.str [],.slice .fit 1 [],.slice .fit 1 [],.slice .fit 1 [],.slice .fit 1 []] [(0,1,(cI 3)),(1,1,(cI 22)),(4,1,(.t 50)),(5,1,(.t 53))]),oS 4 8 4 54] .ret) (.seq (sr [oD 56 .eql 7 4,oM 55 56] (.cond (.t 55) .skip (sr [oD 57 .eql 7 5,oM 55 57] (.cond (.t 55) .skip (.region [oD 58 .eql 7 6,oM 55 58]))))) (.cond (.t 55) (sr [oM 59 0,cF 60 54 [.t 59,cI 11],oB 61 .add (cI 1) (.t 60),oM 62 0,oE 63 1,oM 64 5,oM 65 5,oO 66 (.bslice 1 (.int .i64 0) 2 [(0,(.t 64)),(1,(.t 65))]),cF 67 57 [.t 62,.t 63,.t 66],oM 68 0,oM 69 5,oO 70 (.bslice 1 (.int .i64 0) 1 [(0,(.t 69))]),cF 71 35 [.t 68,.t 70],oO 72 (.build [.int .i64 0,.int .i64 0,.int .i64 0,.str [],.slice .fit 1 [],.slice .fit 1 [],.slice .fit 1 [],.slice .fit 1 []] [(0,1,(cI 4)),(1,1,(.t 61)),(4,1,(.t 67)),(5,1,(.t 71))]),oS 4 8 4 72] .ret) (.seq (sr [oD 74 .eql 7 7,oM 73 74] (.cond (.t 73) .skip (.region [oD 75 .eql 7 8,oM 73 75]))) (.cond (.t 73) (sr [oM 76 0,cF 77 54 [.t 76,cI 6],oB 78 .add (cI 12) (.t 77),oM 79 0,oE 80 1,oM 81 5,oM 82 5,oO 83 (.bslice 1 (.int .i64 0) 2 [(0,(.t 81)),(1,(.t 82))]),cF 84 57 [.t 79,.t 80,.t 83],oM 85 0,oO 86 (.bslice 1 (.int .i64 0) 1 [(0,(cI 2))]),cF 87 35 [.t 85,.t 86],oO 88 (.build [.int .i64 0,.int .i64 0,.int .i64 0,.str [],.slice .fit 1 [],.slice .fit 1 [],.slice .fit 1 [],.slice .fit 1 []] [(0,1,(cI 4)),(1,1,(.t 78)),(4,1,(.t 84)),(5,1,(.t 87))]),oS 4 8 4 88] .ret) (sr [oD 90 .eql 7 9,oM 89 90] (.cond (.t 89) (sr [oM 91 0,oE 92 1,oM 93 5,oO 94 (.bslice 1 (.int .i64 0) 1 [(0,(.t 93))]),cF 95 57 [.t 91,.t 92,.t 94],oM 96 0,oM 97 5,oO 98 (.bslice 1 (.int .i64 0) 1 [(0,(.t 97))]),cF 99 35 [.t 96,.t 98],oO 100 (.build [.int .i64 0,.int .i64 0,.int .i64 0,.str [],.slice .fit 1 [],.slice .fit 1 [],.slice .fit 1 [],.slice .fit 1 []] [(0,1,(cI 5)),(3,1,(.c (.str [97]))),(4,1,(.t 95)),(5,1,(.t 99))]),oS 4 8 4 100] .ret) (sr [oD 102 .eql 7 10,oM 101 102] (.cond (.t 101) (sr [oM 103 0,oE 104 1,oM 105 5,oM 106 5,oO 107 (.bslice 1 (.int .i64 0) 2 [(0,(.t 105)),(1,(.t 106))]),cF 108 57 [.t 103,.t 104,.t 107],oO 109 (.build [.int .i64 0,.int .i64 0,.int .i64 0,.str [],.slice .fit 1 [],.slice .fit 1 [],.slice .fit 1 [],.slice .fit 1 []] [(0,1,(cI 6)),(3,1,(.c (.str [97]))),(4,1,(.t 108))]),oS 4 8 4 109] .ret) .skip)))))))))))))))))) (.seq (sr [oM 110 0,cF 111 54 [.t 110,cI 4]] (.block 1 (sr [oD 113 .eql 111 0,oM 112 113] (.cond (.t 112) (sr [oM 114 0,oE 115 1,oM 116 5,oO 117 (.bslice 1 (.int .i64 0) 2 [(0,(.t 116)),(1,(cI 2))]),cF 118 57 [.t 114,.t 115,.t 117],oM 119 0,oM 120 5,oO 121 (.bslice 1 (.int .i64 0) 1 [(0,(.t 120))]),cF 122 35 [.t 119,.t 121],oO 123 (.build [.int .i64 0,.int .i64 0,.int .i64 0,.str [],.slice .fit 1 [],.slice .fit 1 [],.slice .fit 1 [],.slice .fit 1 []] [(0,1,(cI 7)),(3,1,(.c (.str [102]))),(4,1,(.t 118)),(5,1,(.t 122))]),oS 4 8 4 123] .ret) (sr [oD 125 .eql 111 1,oM 124 125] (.cond (.t 124) (sr [oM 126 0,oM 127 5,oO 128 (.bslice 1 (.int .i64 0) 1 [(0,(.t 127))]),cF 129 35 [.t 126,.t 128],oO 130 (.build [.int .i64 0,.int .i64 0,.int .i64 0,.str [],.slice .fit 1 [],.slice .fit 1 [],.slice .fit 1 [],.slice .fit 1 []] [(0,1,(cI 8)),(5,1,(.t 129))]),oS 4 8 4 130] .ret) .skip)))))) (sr [oM 131 0,oE 132 1,oM 133 5,oO 134 (.bslice 1 (.int .i64 0) 1 [(0,(.t 133))]),cF 135 57 [.t 131,.t 132,.t 134],oO 136 (.build [.int .i64 0,.int .i64 0,.int .i64 0,.str [],.slice .fit 1 [],.slice .fit 1 [],.slice .fit 1 [],.slice .fit 1 []] [(0,1,(cI 9)),(4,1,(.t 135))]),oS 4 8 4 136] .ret)))))⟩
theorem ok55:zf Try.prog Try.f55 F55=true:=by kernel_rfl
def L56_0:ICode:= .loop [0,3,4] []
 (.seq
 (sr [
 oM 7 4,
 oD 8 .gtr 7 0]
 (.cond (.t 8)
 .skip
 (.exit 0)))
 (.seq
 (.block 1
 (.region [
 oE 11 3,
 oM 12 0,
 cF 13 54 [.t 12,cI 2],
 oB 14 .add (cI 1) (.t 13),
 oO 15 (.bslice 1 (.int .i64 0) 1 [(0,(.t 14))]),
 oO 16 (.append 1 8 (.t 11) (.t 15)),
 oE 3 16]))
 (.region [
 oM 9 4,
 oD 10 .sub 9 1,
 oM 4 10])))
abbrev K56_0:List Nat:=[0]
abbrev B56_0:List Nat:=[]
def F56:IFn:=⟨18,1,[.tmp 2],false,false,none,(sr [oC 2 (.slice .fit 1 [])] (sr [oC 3 (.slice .fit 1 [])] (.seq (sr [oM 5 0,cF 6 54 [.t 5,cI 3],oM 4 6] (.block 0 L56_0)) (sr [oE 17 3,oE 2 17] .ret))))⟩
theorem ok56:zf Try.prog Try.f56 F56=true:=by kernel_rfl
def F79:IFn:=⟨11,1,[.tmp 2],false,false,none,(sr [oO 1 (.boxL 1 (.t 0)),oC 2 bF] (sr [oA 3 0 1,oL 4 1 3,oD 5 .geq 4 12,oM 6 5,oT 6 7 (.faddr 0 (.t 1)),oT 6 8 (.load (.box 1) false 1 (.t 7)),oT 6 9 (.bin 0 [] .leq (.t 8) (cI 15)),oO 10 (.pick (.t 6) (.t 9) (.c bF)),oM 2 10] .ret))⟩
theorem ok79:zf Try.prog Try.f79 F79=true:=by kernel_rfl
def F77:IFn:=⟨23,1,[.tmp 2],false,false,none,(sr [oZ 2 0] (.seq (sr [oM 3 0,oY 4 3,oD 5 .eql 4 0,oM 6 5,oFm 6 7 0,oFm 6 8 0,oF 6 9 (.len 1 (.t 8)),oF 6 10 (.bin 0 [] .sub (.t 9) (cI 1)),oF 6 11 (.iaddr 8 (.t 7) (.t 10)),oF 6 12 (.load .any true 8 (.t 11)),oF 6 13 (pP 79 [.t 12]),oF 6 14 (.un .not (.t 13)),oO 15 (.pick (.t 6) (.c bT) (.t 14))] (.cond (.t 15) (sr [oZ 2 0] .ret) .skip)) (sr [oM 16 0,oE 17 0,oY 18 17,oD 19 .sub 18 1,oI 20 8 16 19,oA 21 0 20,oG 22 21,oM 2 22] .ret)))⟩
theorem ok77:zf Try.prog Try.f77 F77=true:=by kernel_rfl
def L78_0:ICode:= .loop [0,3,4] []
 (.seq
 (sr [
 oM 17 4,
 oM 18 0,
 oM 19 3,
 oI 20 8 18 19,
 oA 21 7 20,
 oG 22 21,
 oY 23 22,
 oP 24 .lss 17 23,
 oM 25 24,
 oTm 25 26 0,
 oTm 25 27 3,
 oT 25 28 (.iaddr 8 (.t 26) (.t 27)),
 oT 25 29 (.faddr 0 (.t 28)),
 oT 25 30 (.load .any false 1 (.t 29)),
 oT 25 31 (.bin 0 [] .eql (.t 30) (cI 10)),
 oO 32 (.pick (.t 25) (.t 31) (.c bF))]
 (.cond (.t 32)
 .skip
 (.exit 2)))
 (.seq
 (.block 3
 (sr [
 oM 35 0,
 oM 36 3,
 oI 37 8 35 36,
 oA 38 7 37,
 oG 39 38,
 oM 40 4,
 oI 41 1 39 40,
 oG 42 41,
 cP 43 78 [.t 42]]
 (.cond (.t 43)
 (sr [
 oC 2 bT]
 .ret)
 .skip)))
 (.region [
 oM 33 4,
 oD 34 .add 33 1,
 oM 4 34])))
def L78_1:ICode:= .loop [0,3] []
 (.seq
 (sr [
 oM 5 3,
 oM 6 0,
 oY 7 6,
 oP 8 .lss 5 7]
 (.cond (.t 8)
 .skip
 (.exit 0)))
 (.seq
 (.block 1
 (.seq
 (sr [
 oM 11 0,
 oM 12 3,
 oI 13 8 11 12,
 oA 14 0 13,
 oG 15 14,
 oD 16 .eql 15 14]
 (.cond (.t 16)
 (sr [
 oC 2 bT]
 .ret)
 .skip))
 (sr [
 oZ 4 0]
 (.block 2
 L78_0))))
 (.region [
 oM 9 3,
 oD 10 .add 9 1,
 oM 3 10])))
abbrev K78_0:List Nat:=[0,3]
abbrev B78_0:List Nat:=[]
abbrev K78_1:List Nat:=[0]
abbrev B78_1:List Nat:=[]
def F78:IFn:=⟨44,1,[.tmp 2],false,false,none,(sr [oC 2 bF] (.seq (sr [oZ 3 0] (.block 0 L78_1)) (sr [oC 2 bF] .ret)))⟩
theorem ok78:zf Try.prog Try.f78 F78=true:=by kernel_rfl
def F58:IFn:=⟨45,1,[.tmp 2],false,false,none,(sr [oO 1 (.boxL 1 (.t 0)),oC 2 bF] (.seq (.block 0 (sr [oA 4 0 1,oL 5 1 4,oD 6 .eql 5 10,oM 7 6,oT 7 8 (.faddr 7 (.t 1)),oT 7 9 (.load (.box 1) false 1 (.t 8)),oT 7 10 (.len 1 (.t 9)),oT 7 11 (.bin 0 [] .eql (.t 10) (cI 2)),oO 12 (.pick (.t 7) (.t 11) (.c bF)),oM 3 12] (.cond (.t 3) (sr [oA 13 7 1,oL 14 1 13,oO 15 (.iaddr 1 (.t 14) (cI 0)),oG 16 15,cP 17 77 [.t 16],oD 18 .neq 17 12,oM 19 18,oT 19 20 (.faddr 7 (.t 1)),oT 19 21 (.load (.box 1) false 1 (.t 20)),oT 19 22 (.iaddr 1 (.t 21) (cI 1)),oT 19 23 (.load .any false 1 (.t 22)),oT 19 24 (pP 77 [.t 23]),oT 19 25 (.bin 0 [] .neq (.t 24) (cI 12)),oO 26 (.pick (.t 19) (.t 25) (.c bF)),oM 2 26] .ret) (sr [oA 28 0 1,oL 29 1 28,oD 30 .eql 29 11,oM 31 30,oT 31 32 (.faddr 7 (.t 1)),oT 31 33 (.load (.box 1) false 1 (.t 32)),oT 31 34 (.len 1 (.t 33)),oT 31 35 (.bin 0 [] .eql (.t 34) (cI 1)),oO 36 (.pick (.t 31) (.t 35) (.c bF)),oM 27 36] (.cond (.t 27) (sr [oA 37 7 1,oL 38 1 37,oO 39 (.iaddr 1 (.t 38) (cI 0)),oG 40 39,cP 41 78 [.t 40],oU 42 41,oM 2 42] .ret) .skip))))) (sr [oLa 43 1 8 1,cP 44 79 [.t 43],oM 2 44] .ret)))⟩
theorem ok58:zf Try.prog Try.f58 F58=true:=by kernel_rfl
def F59:IFn:=⟨51,3,[.cell 6 true 8],false,false,none,(sr [oO 5 (.boxL 5 (.t 2)),oO 6 (.boxL 6 (.c (.agg [.int .i64 0,.int .i64 0,.int .i64 0,.str [],.slice .fit 1 [],.slice .fit 1 [],.slice .fit 1 [],.slice .fit 1 []])))] (sr [oM 8 0,cF 9 54 [.t 8,cI 6],oM 7 9] (.seq (.block 0 (sr [oA 11 0 5,oL 12 5 11,oM 13 12,oTm 13 14 7,oT 13 15 (.bin 0 [] .lss (.t 14) (cI 4)),oO 16 (.pick (.t 13) (.t 15) (.c bF)),oM 10 16] (.cond (.t 10) (sr [oM 17 0,oE 18 1,oA 19 2 5,oL 20 5 19,cF 21 57 [.t 17,.t 18,.t 20],oO 22 (.build [.int .i64 0,.int .i64 0,.int .i64 0,.str [],.slice .fit 1 [],.slice .fit 1 [],.slice .fit 1 [],.slice .fit 1 []] [(0,1,(cI 12)),(4,1,(.t 21))]),oS 6 8 6 22] .ret) (sr [oA 24 1 5,oL 25 5 24,oM 26 25,oTm 26 27 7,oT 26 28 (.bin 0 [] .rem (.t 27) (cI 2)),oT 26 29 (.bin 0 [] .eql (.t 28) (cI 0)),oO 30 (.pick (.t 26) (.t 29) (.c bF)),oM 23 30] (.cond (.t 23) (sr [oM 31 0,oE 32 1,oA 33 3 5,oL 34 5 33,cF 35 57 [.t 31,.t 32,.t 34],oO 36 (.build [.int .i64 0,.int .i64 0,.int .i64 0,.str [],.slice .fit 1 [],.slice .fit 1 [],.slice .fit 1 [],.slice .fit 1 []] [(0,1,(cI 13)),(4,1,(.t 35))]),oS 6 8 6 36] .ret) (sr [oA 38 1 5,oL 39 5 38,oM 37 39] (.cond (.t 37) (sr [oM 40 0,oE 41 1,oA 42 4 5,oL 43 5 42,cF 44 57 [.t 40,.t 41,.t 43],oO 45 (.build [.int .i64 0,.int .i64 0,.int .i64 0,.str [],.slice .fit 1 [],.slice .fit 1 [],.slice .fit 1 [],.slice .fit 1 []] [(0,1,(cI 14)),(4,1,(.t 44))]),oS 6 8 6 45] .ret) .skip))))))) (sr [oM 46 0,oE 47 1,oO 48 (.bslice 1 (.int .i64 0) 1 [(0,(cI 1))]),cF 49 57 [.t 46,.t 47,.t 48],oO 50 (.build [.int .i64 0,.int .i64 0,.int .i64 0,.str [],.slice .fit 1 [],.slice .fit 1 [],.slice .fit 1 [],.slice .fit 1 []] [(0,1,(cI 15)),(4,1,(.t 49))]),oS 6 8 6 50] .ret))))⟩
theorem ok59:zf Try.prog Try.f59 F59=true:=by kernel_rfl
def L37_0:ICode:= .loop [0,3,6,9,10,11] [12,15]
 (.seq
 (sr [
 oM 25 11,
 oD 26 .gtr 25 0,
 oM 27 26,
 oTm 27 28 0,
 oT 27 29 (.nilck (.t 28)),
 oT 27 30 (.faddr 3 (.t 29)),
 oT 27 31 (.load .any false 1 (.t 30)),
 oT 27 32 (.bin 0 [] .gtr (.t 31) (cI 0)),
 oO 33 (.pick (.t 27) (.t 32) (.c bF))]
 (.cond (.t 33)
 .skip
 (.exit 0)))
 (.seq
 (.block 1
 (sr [
 oM 36 0,
 oM 37 0,
 oK 38 37,
 oA 39 3 38,
 oG 40 39,
 oD 41 .sub 40 1,
 oK 42 36,
 oA 43 3 42,
 oV 43 41]
 (sr [
 oM 44 0,
 oM 45 10,
 cF 46 55 [.t 44,.t 45],
 oO 12 (.boxL 12 (.c (.agg [.int .i64 0,.int .i64 0,.int .i64 0,.str [],.slice .fit 1 [],.slice .fit 1 [],.slice .fit 1 [],.slice .fit 1 []]))),
 oS 12 8 12 46]
 (sr [
 oM 47 0,
 cF 48 54 [.t 47,cI 6],
 oM 13 48]
 (.seq
 (.block 2
 (sr [
 oM 50 13,
 oD 51 .eql 50 0,
 oM 52 51,
 oTm 52 53 3,
 oT 52 54 (.bin 0 [] .gtr (.t 53) (cI 0)),
 oO 55 (.pick (.t 52) (.t 54) (.c bF)),
 oM 49 55]
 (.cond (.t 49)
 (sr [
 oM 56 0,
 cF 57 56 [.t 56],
 oE 14 57]
 (sr [
 oA 58 1 6,
 oL 59 6 58,
 oM 60 14,
 oA 61 3 6,
 oL 62 6 61,
 oA 63 4 6,
 oL 64 6 63,
 oO 65 (.build [.bool false,.bool false,.slice .fit 1 [],.slice .fit 1 [],.slice .fit 1 []] [(0,1,(.c bT)),(1,1,(.t 59)),(2,1,(.t 60)),(3,1,(.t 62)),(4,1,(.t 64))]),
 oO 15 (.boxL 15 (.c (.agg [.bool false,.bool false,.slice .fit 1 [],.slice .fit 1 [],.slice .fit 1 []]))),
 oS 15 5 15 65]
 (sr [
 oM 66 0,
 oM 67 10,
 oO 68 (.bslice 1 (.int .i64 0) 1 [(0,(cI 2))]),
 cF 69 57 [.t 66,.t 67,.t 68],
 oO 70 (.build [.int .i64 0,.int .i64 0,.int .i64 0,.str [],.slice .fit 1 [],.slice .fit 1 [],.slice .fit 1 [],.slice .fit 1 []] [(0,1,(cI 10)),(4,1,(.t 69))]),
 oS 12 8 12 70]
 (sr [
 oM 71 0,
 oM 72 10,
 oLa 73 15 5 15,
 oM 74 3,
 oD 75 .sub 74 1,
 cF 76 37 [.t 71,.t 72,.t 73,.t 75],
 oE 16 76]
 (sr [
 oE 77 16,
 oM 78 0,
 oM 79 10,
 oLa 80 15 5 15,
 oM 81 3,
 oD 82 .sub 81 1,
 cF 83 37 [.t 78,.t 79,.t 80,.t 82],
 oO 84 (.bslice 1 (.slice .fit 8 []) 2 [(0,(.t 77)),(1,(.t 83))]),
 oA 85 7 12,
 oS 12 1 85 84]
 (sr [
 oLa 86 12 8 12,
 cP 87 58 [.t 86],
 oU 88 87]
 (.cond (.t 88)
 (.region [
 oM 89 0,
 oE 90 14,
 cF 91 35 [.t 89,.t 90],
 oA 92 5 12,
 oS 12 1 92 91])
 .skip)))))))
 (sr [
 oM 94 13,
 oD 95 .eql 94 1,
 oM 96 95,
 oTm 96 97 3,
 oT 96 98 (.bin 0 [] .gtr (.t 97) (cI 0)),
 oO 99 (.pick (.t 96) (.t 98) (.c bF)),
 oM 93 99]
 (.cond (.t 93)
 (sr [
 oM 100 0,
 cF 101 56 [.t 100],
 oM 102 0,
 cF 103 56 [.t 102],
 oE 17 101,
 oE 18 103]
 (sr [
 oM 104 0,
 oM 105 10,
 oM 106 17,
 cF 107 57 [.t 104,.t 105,.t 106],
 oM 108 0,
 oM 109 17,
 cF 110 35 [.t 108,.t 109],
 oO 111 (.build [.int .i64 0,.int .i64 0,.int .i64 0,.str [],.slice .fit 1 [],.slice .fit 1 [],.slice .fit 1 [],.slice .fit 1 []] [(0,1,(cI 11)),(4,1,(.t 107)),(6,1,(.t 110))]),
 oS 12 8 12 111]
 (sr [
 oC 19 (.slice .fit 1 [])]
 (sr [
 oE 112 19,
 oM 113 10,
 oO 114 (.append 1 8 (.t 112) (.t 113)),
 oE 19 114]
 (sr [
 oE 115 19,
 oA 116 6 12,
 oL 117 12 116,
 oO 118 (.append 1 8 (.t 115) (.t 117)),
 oE 19 118]
 (sr [
 oM 119 0,
 oE 120 19,
 oE 121 17,
 oM 122 18,
 oO 123 (.build [.bool false,.bool false,.slice .fit 1 [],.slice .fit 1 [],.slice .fit 1 []] [(1,1,(.c bT)),(3,1,(.t 121)),(4,1,(.t 122))]),
 oM 124 3,
 oD 125 .sub 124 1,
 cF 126 37 [.t 119,.t 120,.t 123,.t 125],
 oO 127 (.bslice 1 (.slice .fit 8 []) 1 [(0,(.t 126))]),
 oA 128 7 12,
 oS 12 1 128 127]
 (sr [
 oLa 129 12 8 12,
 cP 130 58 [.t 129],
 oU 131 130]
 (.cond (.t 131)
 (.region [
 oM 132 0,
 oE 133 18,
 cF 134 35 [.t 132,.t 133],
 oA 135 5 12,
 oS 12 1 135 134])
 .skip))))))))
 .skip)))))
 (sr [
 oE 136 9,
 oLa 137 12 8 12,
 oO 138 (.bslice 8 (.agg [.int .i64 0,.int .i64 0,.int .i64 0,.str [],.slice .fit 1 [],.slice .fit 1 [],.slice .fit 1 [],.slice .fit 1 []]) 1 [(0,(.t 137))]),
 oO 139 (.append 8 136 (.t 136) (.t 138)),
 oE 9 139]
 (.seq
 (sr [
 oLa 140 12 8 12,
 cP 141 58 [.t 140]]
 (.cond (.t 141)
 (sr [
 oE 142 9,
 oE 8 142]
 .ret)
 .skip))
 (.region [
 oE 143 10,
 oA 144 5 12,
 oL 145 12 144,
 oO 146 (.append 1 8 (.t 143) (.t 145)),
 oE 10 146]))))))))
 (.region [
 oM 34 11,
 oD 35 .sub 34 1,
 oM 11 35])))
abbrev K37_0:List Nat:=[0,3,6]
abbrev B37_0:List Nat:=[6]
def F37:IFn:=⟨154,4,[.tmp 8],false,false,none,(sr [oO 6 (.boxL 6 (.t 2)),oC 8 (.slice .fit 8 [])] (sr [oC 9 (.slice .fit 8 [])] (sr [oC 10 (.slice .fit 1 [])] (sr [oE 20 10,oE 21 1,oO 22 (.append 1 8 (.t 20) (.t 21)),oE 10 22] (.seq (sr [oM 23 0,cF 24 54 [.t 23,cI 6],oM 11 24] (.block 0 L37_0)) (sr [oE 147 9,oM 148 0,oE 149 10,oLa 150 6 5 6,cF 151 59 [.t 148,.t 149,.t 150],oO 152 (.bslice 8 (.agg [.int .i64 0,.int .i64 0,.int .i64 0,.str [],.slice .fit 1 [],.slice .fit 1 [],.slice .fit 1 [],.slice .fit 1 []]) 1 [(0,(.t 151))]),oO 153 (.append 8 136 (.t 147) (.t 152)),oE 8 153] .ret))))))⟩
theorem ok37:zf Try.prog Try.f37 F37=true:=by kernel_rfl
def F22:IFn:=⟨51,3,[.cell 6 true 5],false,false,none,(sr [oO 6 (.boxL 6 (.c (.agg [.str [],.int .i64 0,.int .i64 0,.slice .fit 1 [],.slice .fit 8 []])))] (sr [oM 11 0,oM 12 0,oK 13 11,oA 14 2 13,oN (.store .any 1 (.t 14) (.c (.slice .fit 1 []))),oK 15 12,oA 16 3 15,oN (.store .any 1 (.t 16) (cI 30))] (sr [oM 17 0,oM 18 2,cF 19 35 [.t 17,.t 18],oE 7 19] (sr [oM 20 0,cF 21 36 [.t 20,cI 1],oM 22 0,cF 23 36 [.t 22,cI 2],oM 8 21,oM 9 23] (sr [oM 24 8,oO 25 (.bslice 1 (.int .i64 0) 1 [(0,(.t 24))]),oO 26 (.build [.int .i64 0,.int .i64 0,.int .i64 0,.str [],.slice .fit 1 [],.slice .fit 1 [],.slice .fit 1 [],.slice .fit 1 []] [(0,1,(cI 1)),(2,1,(cI 3)),(5,1,(.t 25))]),oM 27 9,oO 28 (.bslice 1 (.int .i64 0) 1 [(0,(.t 27))]),oO 29 (.build [.int .i64 0,.int .i64 0,.int .i64 0,.str [],.slice .fit 1 [],.slice .fit 1 [],.slice .fit 1 [],.slice .fit 1 []] [(0,1,(cI 2)),(2,1,(cI 1)),(5,1,(.t 28))]),oO 30 (.bslice 8 (.agg [.int .i64 0,.int .i64 0,.int .i64 0,.str [],.slice .fit 1 [],.slice .fit 1 [],.slice .fit 1 [],.slice .fit 1 []]) 2 [(0,(.t 26)),(1,(.t 29))]),oE 10 30] (sr [oE 31 7,oM 32 8,oM 33 9,oO 34 (.bslice 1 (.int .i64 0) 2 [(0,(.t 32)),(1,(.t 33))]),oO 35 (.append 1 8 (.t 31) (.t 34)),oE 7 35] (sr [oE 36 10,oM 37 0,oE 38 7,oO 39 (.build [.bool false,.bool false,.slice .fit 1 [],.slice .fit 1 [],.slice .fit 1 []] []),cF 40 37 [.t 37,.t 38,.t 39,cI 3],oO 41 (.append 8 136 (.t 36) (.t 40)),oE 10 41] (sr [oM 42 1,oE 43 2,oY 44 43,oM 45 0,oK 46 45,oA 47 2 46,oG 48 47,oE 49 10,oO 50 (.build [.str [],.int .i64 0,.int .i64 0,.slice .fit 1 [],.slice .fit 8 []] [(0,1,(.t 42)),(1,1,(cI 1)),(2,1,(.t 44)),(3,1,(.t 48)),(4,1,(.t 49))]),oS 6 5 6 50] .ret))))))))⟩
theorem ok22:zf Try.prog Try.f22 F22=true:=by kernel_rfl
def F8:IFn:=⟨27,1,[.cell 2 true 2],true,false,none,(sr [oO 2 (.boxL 2 (.c (.agg [.slice .fit 2 [],.slice .fit 5 []])))] (sr [oE 5 0,oO 6 (.build [.slice .fit 1 [],.int .i64 0,.slice .fit 1 [],.int .i64 0] [(0,1,(.t 5))]),oO 7 (.boxS 4 (.t 6)),oM 3 7] (sr [oO 8 (.build [.str [],.int .i64 0] [(0,1,(.c (.str [97]))),(1,1,(cI 4))]),oO 9 (.bslice 2 (.agg [.str [],.int .i64 0]) 1 [(0,(.t 8))]),oO 10 (.build [.slice .fit 2 [],.slice .fit 5 []] [(0,1,(.t 9))]),oO 4 (.boxL 4 (.c (.agg [.slice .fit 2 [],.slice .fit 5 []]))),oS 4 2 4 10] (sr [oA 11 1 4,oO 12 (.loadT (.box 4) (.t 11)),oM 13 3,cF 14 22 [(.t 13),(.c (.str [109,97,105,110])),(.c (.slice .fit 1 []))],oO 15 (.bslice 5 (.agg [.str [],.int .i64 0,.int .i64 0,.slice .fit 1 [],.slice .fit 8 []]) 1 [(0,(.t 14))]),oO 16 (.append 5 80 (.t 12) (.t 15)),oA 17 1 4,oN (.storeT (.box 4) (.t 17) 16)] (sr [oA 18 1 4,oO 19 (.loadT (.box 4) (.t 18)),oM 20 3,oO 21 (.bslice 1 (.int .i64 0) 2 [(0,(cI 1)),(1,(cI 2))]),cF 22 22 [(.t 20),(.c (.str [102])),(.t 21)],oO 23 (.bslice 5 (.agg [.str [],.int .i64 0,.int .i64 0,.slice .fit 1 [],.slice .fit 8 []]) 1 [(0,(.t 22))]),oO 24 (.append 5 80 (.t 19) (.t 23)),oA 25 1 4,oN (.storeT (.box 4) (.t 25) 24)] (sr [oLa 26 4 2 4,oS 2 2 2 26] .ret))))))⟩
theorem ok8:zf Try.prog Try.f8 F8=true:=by kernel_rfl
def F60:IFn:=⟨21,1,[.tmp 2],false,false,none,(sr [oC 2 bF] (sr [oM 3 0,oB 4 .geq (.t 3) (.c (.int .i32 97)),oM 5 4,oTm 5 6 0,oT 5 7 (.bin 0 [] .leq (.t 6) (.c (.int .i32 122))),oO 8 (.pick (.t 5) (.t 7) (.c bF)),oM 9 8,oFm 9 10 0,oF 9 11 (.bin 0 [] .geq (.t 10) (.c (.int .i32 65))),oFm 9 12 11,oTm 12 13 0,oT 12 14 (.bin 0 [] .leq (.t 13) (.c (.int .i32 90))),oF 9 15 (.pick (.t 12) (.t 14) (.c bF)),oO 16 (.pick (.t 9) (.c bT) (.t 15)),oM 17 16,oFm 17 18 0,oF 17 19 (.bin 0 [] .eql (.t 18) (.c (.int .i32 95))),oO 20 (.pick (.t 17) (.c bT) (.t 19)),oM 2 20] .ret))⟩
theorem ok60:zf Try.prog Try.f60 F60=true:=by kernel_rfl
def F80:IFn:=⟨9,1,[.tmp 2],false,false,none,(sr [oC 2 bF] (sr [oM 3 0,oB 4 .geq (.t 3) (.c (.int .i32 48)),oM 5 4,oTm 5 6 0,oT 5 7 (.bin 0 [] .leq (.t 6) (.c (.int .i32 57))),oO 8 (.pick (.t 5) (.t 7) (.c bF)),oM 2 8] .ret))⟩
theorem ok80:zf Try.prog Try.f80 F80=true:=by kernel_rfl
def L61_0:ICode:= .loop [0,6] []
 (sr [
 oO 7 (.next 6 (.t 6)),
 oX 8 7 0]
 (.seq
 (.cond (.t 8)
 .skip
 (.exit 0))
 (.block 1
 (sr [
 oX 9 7 1,
 oX 10 7 2,
 oM 3 9,
 oM 4 10]
 (sr [
 oM 11 4,
 cP 12 60 [.t 11],
 oU 13 12,
 oM 14 13,
 oTm 14 15 4,
 oT 14 16 (pP 80 [.t 15]),
 oT 14 17 (.un .not (.t 16)),
 oO 18 (.pick (.t 14) (.t 17) (.c bF))]
 (.cond (.t 18)
 (sr [
 oM 19 0,
 oM 20 3,
 oO 21 (.slc true 0 (.t 19) none (some (.t 20)) none),
 oM 2 21]
 .ret)
 .skip))))))
abbrev K61_0:List Nat:=[0,6]
abbrev B61_0:List Nat:=[]
def F61:IFn:=⟨23,1,[.tmp 2],false,false,none,(sr [oC 2 (.str [])] (.seq (sr [oM 5 0,oO 6 (.rng 6 (.t 5))] (.block 0 L61_0)) (sr [oM 22 0,oM 2 22] .ret)))⟩
theorem ok61:zf Try.prog Try.f61 F61=true:=by kernel_rfl
def F62:IFn:=⟨23,1,[.tmp 2],false,false,none,(sr [oC 2 bF] (.seq (sr [oM 3 0] (.block 0 (.seq (sr [oB 5 .eql (.t 3) (.c (.str [105,110,116])),oM 4 5] (.cond (.t 4) .skip (sr [oB 6 .eql (.t 3) (.c (.str [98,111,111,108])),oM 4 6] (.cond (.t 4) .skip (sr [oB 7 .eql (.t 3) (.c (.str [105,102])),oM 4 7] (.cond (.t 4) .skip (sr [oB 8 .eql (.t 3) (.c (.str [101,108,115,101])),oM 4 8] (.cond (.t 4) .skip (sr [oB 9 .eql (.t 3) (.c (.str [119,104,105,108,101])),oM 4 9] (.cond (.t 4) .skip (sr [oB 10 .eql (.t 3) (.c (.str [98,114,101,97,107])),oM 4 10] (.cond (.t 4) .skip (sr [oB 11 .eql (.t 3) (.c (.str [99,111,110,116,105,110,117,101])),oM 4 11] (.cond (.t 4) .skip (sr [oB 12 .eql (.t 3) (.c (.str [114,101,116,117,114,110])),oM 4 12] (.cond (.t 4) .skip (sr [oB 13 .eql (.t 3) (.c (.str [112,114,105,110,116])),oM 4 13] (.cond (.t 4) .skip (sr [oB 14 .eql (.t 3) (.c (.str [114,101,97,100])),oM 4 14] (.cond (.t 4) .skip (sr [oB 15 .eql (.t 3) (.c (.str [116,114,117,101])),oM 4 15] (.cond (.t 4) .skip (sr [oB 16 .eql (.t 3) (.c (.str [102,97,108,115,101])),oM 4 16] (.cond (.t 4) .skip (sr [oB 17 .eql (.t 3) (.c (.str [105,56])),oM 4 17] (.cond (.t 4) .skip (sr [oB 18 .eql (.t 3) (.c (.str [105,49,54])),oM 4 18] (.cond (.t 4) .skip (sr [oB 19 .eql (.t 3) (.c (.str [105,51,50])),oM 4 19] (.cond (.t 4) .skip (sr [oB 20 .eql (.t 3) (.c (.str [117,56])),oM 4 20] (.cond (.t 4) .skip (sr [oB 21 .eql (.t 3) (.c (.str [117,49,54])),oM 4 21] (.cond (.t 4) .skip (.region [oB 22 .eql (.t 3) (.c (.str [117,51,50])),oM 4 22]))))))))))))))))))))))))))))))))))) (.cond (.t 4) (sr [oC 2 bT] .ret) .skip)))) (sr [oC 2 bF] .ret)))⟩
theorem ok62:zf Try.prog Try.f62 F62=true:=by kernel_rfl
def F38:IFn:=⟨27,1,[.tmp 2],false,false,none,(sr [oC 2 bF] (sr [oM 3 0,oB 4 .neq (.t 3) (.c (.str [])),oM 5 4,oTm 5 6 0,oT 5 7 (.idxS (.t 6) (cI 0)),oT 5 8 (.conv .i32 (.t 7)),oT 5 9 (pP 60 [.t 8]),oO 10 (.pick (.t 5) (.t 9) (.c bF)),oM 11 10,oTm 11 12 0,oT 11 13 (pP 61 [.t 12]),oTm 11 14 0,oT 11 15 (.bin 0 [] .eql (.t 13) (.t 14)),oO 16 (.pick (.t 11) (.t 15) (.c bF)),oM 17 16,oTm 17 18 0,oT 17 19 (.len 0 (.t 18)),oT 17 20 (.bin 0 [] .leq (.t 19) (cI 20)),oO 21 (.pick (.t 17) (.t 20) (.c bF)),oM 22 21,oTm 22 23 0,oT 22 24 (pP 62 [.t 23]),oT 22 25 (.un .not (.t 24)),oO 26 (.pick (.t 22) (.t 25) (.c bF)),oM 2 26] .ret))⟩
theorem ok38:zf Try.prog Try.f38 F38=true:=by kernel_rfl
def F39:IFn:=⟨9,1,[.tmp 2],false,false,none,(sr [oC 2 bF] (sr [oM 3 0,oD 4 .eql 3 1,oM 5 4,oFm 5 6 0,oF 5 7 (.bin 0 [] .eql (.t 6) (cI 2)),oO 8 (.pick (.t 5) (.c bT) (.t 7)),oM 2 8] .ret))⟩
theorem ok39:zf Try.prog Try.f39 F39=true:=by kernel_rfl
def L63_0:ICode:= .loop [0,1,7,8] []
 (sr [
 oP 9 .lss 8 7]
 (.seq
 (.cond (.t 9)
 .skip
 (.exit 0))
 (.seq
 (.block 1
 (sr [
 oM 10 8,
 oM 5 10]
 (sr [
 oM 11 1,
 oM 12 0,
 oM 13 5,
 oI 14 5 12 13,
 oW 15 5 14,
 oO 16 (.call false (.t 11) [.t 15])]
 (.cond (.t 16)
 (sr [
 oM 17 5,
 oM 4 17]
 .ret)
 .skip))))
 (.region [
 oD 18 .add 8 1,
 oM 8 18]))))
abbrev K63_0:List Nat:=[0,1,7]
abbrev B63_0:List Nat:=[]
def F63:IFn:=⟨19,2,[.tmp 4],false,false,none,(sr [oZ 4 0] (.seq (sr [oM 6 0,oY 7 6,oZ 8 0] (.block 0 L63_0)) (sr [oO 4 (.mv (cI (-1)))] .ret)))⟩
theorem ok63:zf Try.prog Try.f63 F63=true:=by kernel_rfl
def F64:IFn:=⟨8,2,[.tmp 3],false,false,none,(sr [oO 2 (.boxL 2 (.t 0)),oC 3 bF] (sr [oA 4 0 2,oL 5 2 4,oG 6 1,oP 7 .eql 5 6,oM 3 7] .ret))⟩
theorem ok64:zf Try.prog Try.f64 F64=true:=by kernel_rfl
def F40:IFn:=⟨9,2,[.tmp 4],false,false,none,(sr [oO 2 (.boxL 2 (.t 0)),oO 3 (.boxI (.t 1)),oZ 4 0] (sr [oA 5 1 2,oL 6 2 5,oO 7 (.mkfn 64 [] [.t 3]),cF 8 63 [.t 6,.t 7],oM 4 8] .ret))⟩
theorem ok40:zf Try.prog Try.f40 F40=true:=by kernel_rfl
def L23_0:ICode:= .loop [1,3,11,12,13] [5]
 (sr [
 oP 14 .lss 13 12]
 (.seq
 (.cond (.t 14)
 .skip
 (.exit 0))
 (.seq
 (.block 1
 (sr [
 oI 15 2 11 13,
 oW 16 2 15,
 oO 5 (.boxL 5 (.c (.agg [.str [],.int .i64 0]))),
 oS 5 2 5 16]
 (sr [
 oM 17 3,
 oA 18 0 5,
 oL 19 5 18,
 oO 20 (.lookup true false (.int .i64 0) (.t 17) (.t 19)),
 oD 21 .add 20 1,
 oN (.mapset true (.t 17) (.t 19) (.t 21))]
 (sr [
 oA 22 0 5,
 oL 23 5 22,
 cP 24 38 [.t 23],
 oU 25 24,
 oM 26 25,
 oF 26 27 (.faddr 1 (.t 5)),
 oF 26 28 (.load (.box 5) false 1 (.t 27)),
 oF 26 29 (.bin 0 [] .lss (.t 28) (cI 1)),
 oO 30 (.pick (.t 26) (.c bT) (.t 29)),
 oM 31 30,
 oF 31 32 (.faddr 1 (.t 5)),
 oF 31 33 (.load (.box 5) false 1 (.t 32)),
 oF 31 34 (.bin 0 [] .gtr (.t 33) (cI 1000)),
 oO 35 (.pick (.t 31) (.c bT) (.t 34))]
 (.cond (.t 35)
 (sr [
 oC 2 bF]
 .ret)
 .skip)))))
 (.region [
 oD 36 .add 13 1,
 oM 13 36]))))
def L23_1:ICode:= .loop [1,3,38,39,40] [7]
 (sr [
 oP 41 .lss 40 39]
 (.seq
 (.cond (.t 41)
 .skip
 (.exit 2))
 (.seq
 (.block 3
 (sr [
 oI 42 5 38 40,
 oW 43 5 42,
 oO 7 (.boxL 7 (.c (.agg [.str [],.int .i64 0,.int .i64 0,.slice .fit 1 [],.slice .fit 8 []]))),
 oS 7 5 7 43]
 (sr [
 oM 44 3,
 oA 45 0 7,
 oL 46 7 45,
 oO 47 (.lookup true false (.int .i64 0) (.t 44) (.t 46)),
 oD 48 .add 47 1,
 oN (.mapset true (.t 44) (.t 46) (.t 48))]
 (sr [
 oA 49 0 7,
 oL 50 7 49,
 cP 51 38 [.t 50],
 oU 52 51,
 oM 53 52,
 oF 53 54 (.faddr 1 (.t 7)),
 oF 53 55 (.load (.box 7) false 1 (.t 54)),
 oF 53 56 (pP 39 [.t 55]),
 oF 53 57 (.un .not (.t 56)),
 oO 58 (.pick (.t 53) (.c bT) (.t 57)),
 oM 59 58,
 oF 59 60 (.faddr 2 (.t 7)),
 oF 59 61 (.load (.box 7) false 1 (.t 60)),
 oF 59 62 (.bin 0 [] .lss (.t 61) (cI 0)),
 oO 63 (.pick (.t 59) (.c bT) (.t 62)),
 oM 64 63,
 oF 64 65 (.faddr 2 (.t 7)),
 oF 64 66 (.load (.box 7) false 1 (.t 65)),
 oF 64 67 (.faddr 3 (.t 7)),
 oF 64 68 (.load (.box 7) false 1 (.t 67)),
 oF 64 69 (.len 1 (.t 68)),
 oF 64 70 (.bin 0 [] .gtr (.t 66) (.t 69)),
 oO 71 (.pick (.t 64) (.c bT) (.t 70))]
 (.cond (.t 71)
 (sr [
 oC 2 bF]
 .ret)
 .skip)))))
 (.region [
 oD 72 .add 40 1,
 oM 40 72]))))
abbrev K23_0:List Nat:=[1,3,11,12]
abbrev B23_0:List Nat:=[1]
abbrev K23_1:List Nat:=[1,3,38,39]
abbrev B23_1:List Nat:=[1]
def F23:IFn:=⟨107,1,[.tmp 2],true,false,none,(sr [oO 1 (.boxL 1 (.t 0)),oC 2 bF] (sr [oO 9 (.mkmap),oM 3 9] (.seq (sr [oA 10 0 1,oL 11 1 10,oY 12 11,oZ 13 0] (.block 0 L23_0)) (.seq (sr [oA 37 1 1,oL 38 1 37,oY 39 38,oZ 40 0] (.block 2 L23_1)) (sr [oLa 73 1 2 1,cP 74 40 [(.t 73),(.c (.str [109,97,105,110]))],oM 8 74] (sr [oM 75 3,oO 76 (.len 2 (.t 75)),oA 77 0 1,oL 78 1 77,oY 79 78,oA 80 1 1,oL 81 1 80,oY 82 81,oP 83 .add 79 82,oP 84 .eql 76 83,oM 85 84,oTm 85 86 8,oT 85 87 (.bin 0 [] .geq (.t 86) (cI 0)),oO 88 (.pick (.t 85) (.t 87) (.c bF)),oM 89 88,oT 89 90 (.faddr 1 (.t 1)),oT 89 91 (.load (.box 1) false 1 (.t 90)),oTm 89 92 8,oT 89 93 (.iaddr 5 (.t 91) (.t 92)),oT 89 94 (.faddr 1 (.t 93)),oT 89 95 (.load .any false 1 (.t 94)),oT 89 96 (.bin 0 [] .eql (.t 95) (cI 1)),oO 97 (.pick (.t 89) (.t 96) (.c bF)),oM 98 97,oT 98 99 (.faddr 1 (.t 1)),oT 98 100 (.load (.box 1) false 1 (.t 99)),oTm 98 101 8,oT 98 102 (.iaddr 5 (.t 100) (.t 101)),oT 98 103 (.faddr 2 (.t 102)),oT 98 104 (.load .any false 1 (.t 103)),oT 98 105 (.bin 0 [] .eql (.t 104) (cI 0)),oO 106 (.pick (.t 98) (.t 105) (.c bF)),oM 2 106] .ret))))))⟩
theorem ok23:zf Try.prog Try.f23 F23=true:=by kernel_rfl
def L65_0:ICode:= .loop [0,1,7,8] []
 (sr [
 oP 9 .lss 8 7]
 (.seq
 (.cond (.t 9)
 .skip
 (.exit 0))
 (.seq
 (.block 1
 (sr [
 oM 10 8,
 oM 5 10]
 (sr [
 oM 11 1,
 oM 12 0,
 oM 13 5,
 oI 14 1 12 13,
 oG 15 14,
 oO 16 (.call false (.t 11) [.t 15])]
 (.cond (.t 16)
 (sr [
 oM 17 5,
 oM 4 17]
 .ret)
 .skip))))
 (.region [
 oD 18 .add 8 1,
 oM 8 18]))))
abbrev K65_0:List Nat:=[0,1,7]
abbrev B65_0:List Nat:=[]
def F65:IFn:=⟨19,2,[.tmp 4],false,false,none,(sr [oZ 4 0] (.seq (sr [oM 6 0,oY 7 6,oZ 8 0] (.block 0 L65_0)) (sr [oO 4 (.mv (cI (-1)))] .ret)))⟩
theorem ok65:zf Try.prog Try.f65 F65=true:=by kernel_rfl
def F41:IFn:=⟨9,2,[.tmp 4],false,false,none,(sr [oC 4 bF] (sr [oE 5 0,oM 6 1,cF 7 65 [.t 5,.t 6],oD 8 .geq 7 0,oM 4 8] .ret))⟩
theorem ok41:zf Try.prog Try.f41 F41=true:=by kernel_rfl
def F42:IFn:=⟨6,1,[.tmp 2],false,false,none,(sr [oC 2 bF] (sr [oM 3 0,cP 4 39 [.t 3],oU 5 4,oM 2 5] .ret))⟩
theorem ok42:zf Try.prog Try.f42 F42=true:=by kernel_rfl
def F49:IFn:=⟨16,1,[.tmp 2],false,false,none,(sr [oC 2 bF] (sr [oM 3 0,oY 4 3,oD 5 .gtr 4 0,oM 6 5,oTm 6 7 0,oT 6 8 (.take 0),oT 6 9 (.len 1 (.t 8)),oT 6 10 (.bin 0 [] .sub (.t 9) (cI 1)),oT 6 11 (.iaddr 8 (.t 7) (.t 10)),oT 6 12 (.faddr 0 (.t 11)),oT 6 13 (.load .any false 1 (.t 12)),oT 6 14 (.bin 0 [] .eql (.t 13) (cI 12)),oO 15 (.pick (.t 6) (.t 14) (.c bF)),oM 2 15] .ret))⟩
theorem ok49:zf Try.prog Try.f49 F49=true:=by kernel_rfl
def L91_0:ICode:= .loop [0,1,7,8] []
 (sr [
 oP 9 .lss 8 7]
 (.seq
 (.cond (.t 9)
 .skip
 (.exit 0))
 (.seq
 (.block 1
 (sr [
 oM 10 8,
 oM 5 10]
 (sr [
 oM 11 1,
 oM 12 0,
 oM 13 5,
 oI 14 8 12 13,
 oW 15 8 14,
 oO 16 (.call false (.t 11) [.t 15])]
 (.cond (.t 16)
 (sr [
 oM 17 5,
 oM 4 17]
 .ret)
 .skip))))
 (.region [
 oD 18 .add 8 1,
 oM 8 18]))))
abbrev K91_0:List Nat:=[0,1,7]
abbrev B91_0:List Nat:=[]
def F91:IFn:=⟨19,2,[.tmp 4],false,false,none,(sr [oZ 4 0] (.seq (sr [oM 6 0,oY 7 6,oZ 8 0] (.block 0 L91_0)) (sr [oO 4 (.mv (cI (-1)))] .ret)))⟩
theorem ok91:zf Try.prog Try.f91 F91=true:=by kernel_rfl
def F72:IFn:=⟨9,2,[.tmp 4],false,false,none,(sr [oC 4 bF] (sr [oE 5 0,oM 6 1,cF 7 91 [.t 5,.t 6],oD 8 .geq 7 0,oM 4 8] .ret))⟩
theorem ok72:zf Try.prog Try.f72 F72=true:=by kernel_rfl
def L92_0:ICode:= .loop [0,1,7,8] []
 (sr [
 oP 9 .lss 8 7]
 (.seq
 (.cond (.t 9)
 .skip
 (.exit 0))
 (.seq
 (.block 1
 (sr [
 oM 10 8,
 oM 5 10]
 (sr [
 oM 11 1,
 oM 12 0,
 oM 13 5,
 oI 14 1 12 13,
 oG 15 14,
 oO 16 (.call false (.t 11) [.t 15])]
 (.cond (.t 16)
 (sr [
 oM 17 5,
 oM 4 17]
 .ret)
 .skip))))
 (.region [
 oD 18 .add 8 1,
 oM 8 18]))))
abbrev K92_0:List Nat:=[0,1,7]
abbrev B92_0:List Nat:=[]
def F92:IFn:=⟨19,2,[.tmp 4],false,false,none,(sr [oZ 4 0] (.seq (sr [oM 6 0,oY 7 6,oZ 8 0] (.block 0 L92_0)) (sr [oO 4 (.mv (cI (-1)))] .ret)))⟩
theorem ok92:zf Try.prog Try.f92 F92=true:=by kernel_rfl
def F74:IFn:=⟨9,2,[.tmp 4],false,false,none,(sr [oC 4 bF] (sr [oE 5 0,oM 6 1,cF 7 92 [.t 5,.t 6],oD 8 .geq 7 0,oM 4 8] .ret))⟩
theorem ok74:zf Try.prog Try.f74 F74=true:=by kernel_rfl
def F73:IFn:=⟨16,1,[.tmp 2],false,false,none,(sr [oO 1 (.boxL 1 (.t 0)),oC 2 bF] (sr [oA 3 0 1,oL 4 1 3,oD 5 .eql 4 14,oM 6 5,oF 6 7 (.faddr 0 (.t 1)),oF 6 8 (.load (.box 1) false 1 (.t 7)),oF 6 9 (.bin 0 [] .eql (.t 8) (cI 10)),oFm 6 10 9,oT 10 11 (.faddr 7 (.t 1)),oT 10 12 (.load (.box 1) false 1 (.t 11)),oT 10 13 (pF 74 [(.t 12),(.c (.fn 50 [] []))]),oF 6 14 (.pick (.t 10) (.t 13) (.c bF)),oO 15 (.pick (.t 6) (.c bT) (.t 14)),oM 2 15] .ret))⟩
theorem ok73:zf Try.prog Try.f73 F73=true:=by kernel_rfl
def F50:IFn:=⟨5,1,[.tmp 2],false,false,none,(sr [oC 2 bF] (sr [oE 3 0,cF 4 72 [(.t 3),(.c (.fn 73 [] []))],oM 2 4] .ret))⟩
theorem ok50:zf Try.prog Try.f50 F50=true:=by kernel_rfl
def F51:IFn:=⟨11,1,[.tmp 2],false,false,none,(sr [oO 1 (.boxL 1 (.t 0)),oC 2 bF] (sr [oA 3 0 1,oL 4 1 3,oD 5 .geq 4 12,oM 6 5,oT 6 7 (.faddr 0 (.t 1)),oT 6 8 (.load (.box 1) false 1 (.t 7)),oT 6 9 (.bin 0 [] .leq (.t 8) (cI 15)),oO 10 (.pick (.t 6) (.t 9) (.c bF)),oM 2 10] .ret))⟩
theorem ok51:zf Try.prog Try.f51 F51=true:=by kernel_rfl
def F29:IFn:=⟨45,1,[.tmp 2],false,false,none,(sr [oO 1 (.boxL 1 (.t 0)),oC 2 bF] (.seq (.block 0 (sr [oA 4 0 1,oL 5 1 4,oD 6 .eql 5 10,oM 7 6,oT 7 8 (.faddr 7 (.t 1)),oT 7 9 (.load (.box 1) false 1 (.t 8)),oT 7 10 (.len 1 (.t 9)),oT 7 11 (.bin 0 [] .eql (.t 10) (cI 2)),oO 12 (.pick (.t 7) (.t 11) (.c bF)),oM 3 12] (.cond (.t 3) (sr [oA 13 7 1,oL 14 1 13,oO 15 (.iaddr 1 (.t 14) (cI 0)),oG 16 15,cP 17 49 [.t 16],oU 18 17,oM 19 18,oT 19 20 (.faddr 7 (.t 1)),oT 19 21 (.load (.box 1) false 1 (.t 20)),oT 19 22 (.iaddr 1 (.t 21) (cI 1)),oT 19 23 (.load .any false 1 (.t 22)),oT 19 24 (pP 49 [.t 23]),oT 19 25 (.un .not (.t 24)),oO 26 (.pick (.t 19) (.t 25) (.c bF)),oM 2 26] .ret) (sr [oA 28 0 1,oL 29 1 28,oD 30 .eql 29 11,oM 31 30,oT 31 32 (.faddr 7 (.t 1)),oT 31 33 (.load (.box 1) false 1 (.t 32)),oT 31 34 (.len 1 (.t 33)),oT 31 35 (.bin 0 [] .eql (.t 34) (cI 1)),oO 36 (.pick (.t 31) (.t 35) (.c bF)),oM 27 36] (.cond (.t 27) (sr [oA 37 7 1,oL 38 1 37,oO 39 (.iaddr 1 (.t 38) (cI 0)),oG 40 39,cP 41 50 [.t 40],oU 42 41,oM 2 42] .ret) .skip))))) (sr [oLa 43 1 8 1,cP 44 51 [.t 43],oM 2 44] .ret)))⟩
theorem ok29:zf Try.prog Try.f29 F29=true:=by kernel_rfl
def F81:IFn:=⟨53,1,[.tmp 2],true,false,none,(sr [oO 1 (.boxL 1 (.t 0)),oC 2 bF] (sr [oO 4 (.mkmap),oN (.mapset false (.t 4) (cI 10) (cI 2)),oN (.mapset false (.t 4) (cI 11) (cI 1)),oM 5 4,oA 6 0 1,oL 7 1 6,oO 8 (.lookup false false (.int .i64 0) (.t 5) (.t 7)),oM 3 8] (.seq (sr [oA 9 0 1,oL 10 1 9] (.block 0 (.seq (sr [oD 12 .eql 10 3,oM 11 12] (.cond (.t 11) .skip (.region [oD 13 .eql 10 4,oM 11 13]))) (.cond (.t 11) (.region [oA 14 1 1,oN (.store (.box 1) 1 (.t 14) (cI 0))]) (.seq (sr [oD 16 .eql 10 1,oM 15 16] (.cond (.t 15) .skip (.region [oD 17 .eql 10 2,oM 15 17]))) (.cond (.t 15) (.region [oA 18 2 1,oN (.store (.box 1) 1 (.t 18) (cI 0))]) (.seq (sr [oD 20 .eql 10 5,oM 19 20] (.cond (.t 19) .skip (sr [oD 21 .eql 10 6,oM 19 21] (.cond (.t 19) .skip (.region [oD 22 .eql 10 7,oM 19 22]))))) (.cond (.t 19) (.region [oA 23 3 1,oN (.store (.box 1) 1 (.t 23) (.c (.str [])))]) (sr [oD 25 .eql 10 11,oM 24 25] (.cond (.t 24) (.region [oA 26 6 1,oN (.store (.box 1) 1 (.t 26) (.c (.slice .fit 1 [])))]) .skip)))))))))) (sr [oA 27 1 1,oL 28 1 27,oD 29 .eql 28 0,oM 30 29,oT 30 31 (.faddr 2 (.t 1)),oT 30 32 (.load (.box 1) false 1 (.t 31)),oT 30 33 (.bin 0 [] .eql (.t 32) (cI 0)),oO 34 (.pick (.t 30) (.t 33) (.c bF)),oM 35 34,oT 35 36 (.faddr 3 (.t 1)),oT 35 37 (.load (.box 1) false 1 (.t 36)),oT 35 38 (.bin 0 [] .eql (.t 37) (.c (.str []))),oO 39 (.pick (.t 35) (.t 38) (.c bF)),oM 40 39,oT 40 41 (.faddr 6 (.t 1)),oT 40 42 (.load (.box 1) false 1 (.t 41)),oT 40 43 (.len 1 (.t 42)),oT 40 44 (.bin 0 [] .eql (.t 43) (cI 0)),oO 45 (.pick (.t 40) (.t 44) (.c bF)),oM 46 45,oT 46 47 (.faddr 7 (.t 1)),oT 46 48 (.load (.box 1) false 1 (.t 47)),oT 46 49 (.len 1 (.t 48)),oTm 46 50 3,oT 46 51 (.bin 0 [] .eql (.t 49) (.t 50)),oO 52 (.pick (.t 46) (.t 51) (.c bF)),oM 2 52] .ret))))⟩
theorem ok81:zf Try.prog Try.f81 F81=true:=by kernel_rfl
def F110:IFn:=⟨35,3,[.tmp 6],false,false,none,(sr [oC 6 bF] (sr [oM 7 1,oD 8 .geq 7 0,oM 9 8,oTm 9 10 1,oTm 9 11 0,oT 9 12 (.nilck (.t 11)),oT 9 13 (.faddr 2 (.t 12)),oT 9 14 (.faddr 3 (.t 13)),oT 9 15 (.load .any false 1 (.t 14)),oT 9 16 (.len 1 (.t 15)),oT 9 17 (.bin 0 [] .lss (.t 10) (.t 16)),oO 18 (.pick (.t 9) (.t 17) (.c bF)),oM 19 18,oTm 19 20 2,oT 19 21 (.bin 0 [] .eql (.t 20) (cI 0)),oTm 19 22 21,oFm 22 23 0,oF 22 24 (.nilck (.t 23)),oF 22 25 (.faddr 2 (.t 24)),oF 22 26 (.faddr 3 (.t 25)),oF 22 27 (.load .any false 1 (.t 26)),oFm 22 28 1,oF 22 29 (.iaddr 1 (.t 27) (.t 28)),oF 22 30 (.load .any false 1 (.t 29)),oFm 22 31 2,oF 22 32 (.bin 0 [] .eql (.t 30) (.t 31)),oT 19 33 (.pick (.t 22) (.c bT) (.t 32)),oO 34 (.pick (.t 19) (.t 33) (.c bF)),oM 6 34] .ret))⟩
theorem ok110:zf Try.prog Try.f110 F110=true:=by kernel_rfl
def L94_0:ICode:= .loop [0,4,7,8,9] []
 (sr [
 oP 10 .lss 9 8]
 (.seq
 (.cond (.t 10)
 .skip
 (.exit 0))
 (.seq
 (.block 1
 (sr [
 oI 11 1 7 9,
 oG 12 11,
 oM 6 12]
 (.seq
 (sr [
 oM 13 0,
 oM 14 6,
 cF 15 110 [.t 13,.t 14,cI 0],
 oU 16 15]
 (.cond (.t 16)
 (sr [
 oC 4 (.slice .fit 1 [])]
 .ret)
 .skip))
 (.region [
 oE 17 4,
 oM 18 0,
 oK 19 18,
 oA 20 2 19,
 oA 21 3 20,
 oG 22 21,
 oM 23 6,
 oI 24 1 22 23,
 oG 25 24,
 oO 26 (.bslice 1 (.int .i64 0) 1 [(0,(.t 25))]),
 oO 27 (.append 1 8 (.t 17) (.t 26)),
 oE 4 27]))))
 (.region [
 oD 28 .add 9 1,
 oM 9 28]))))
abbrev K94_0:List Nat:=[0,7,8]
abbrev B94_0:List Nat:=[]
def F94:IFn:=⟨30,2,[.tmp 4],false,false,none,(sr [oC 4 (.slice .fit 1 [])] (.seq (sr [oE 7 1,oY 8 7,oZ 9 0] (.block 0 L94_0)) (sr [oE 29 4,oE 4 29] .ret)))⟩
theorem ok94:zf Try.prog Try.f94 F94=true:=by kernel_rfl
def L111_0:ICode:= .loop [1,2,15,16,17] []
 (sr [
 oP 18 .lss 17 16]
 (.seq
 (.cond (.t 18)
 .skip
 (.exit 0))
 (.seq
 (.block 1
 (sr [
 oM 19 17,
 oI 20 1 15 17,
 oG 21 20,
 oM 7 19,
 oM 8 21]
 (sr [
 oM 22 1,
 oM 23 7,
 oI 24 1 22 23,
 oG 25 24,
 oM 9 25]
 (sr [
 oM 26 2,
 oM 27 8,
 oM 28 9,
 oO 29 (.call false (.t 26) [.t 27,.t 28]),
 oU 30 29]
 (.cond (.t 30)
 (sr [
 oC 6 bF]
 .ret)
 .skip)))))
 (.region [
 oD 31 .add 17 1,
 oM 17 31]))))
abbrev K111_0:List Nat:=[1,2,15,16]
abbrev B111_0:List Nat:=[]
def F111:IFn:=⟨32,3,[.tmp 6],false,false,none,(sr [oC 6 bF] (.seq (sr [oM 10 0,oY 11 10,oM 12 1,oY 13 12,oP 14 .neq 11 13] (.cond (.t 14) (sr [oC 6 bF] .ret) .skip)) (.seq (sr [oE 15 0,oY 16 15,oZ 17 0] (.block 0 L111_0)) (sr [oC 6 bT] .ret))))⟩
theorem ok111:zf Try.prog Try.f111 F111=true:=by kernel_rfl
def F112:IFn:=⟨20,3,[.tmp 5],false,false,none,(sr [oC 5 bF] (sr [oG 6 2,oM 7 0,oM 8 1,cF 9 110 [.t 6,.t 7,.t 8],oM 10 9,oT 10 11 (.load .any false 1 (.t 2)),oT 10 12 (.nilck (.t 11)),oT 10 13 (.faddr 7 (.t 12)),oT 10 14 (.load .any false 1 (.t 13)),oTm 10 15 0,oT 10 16 (.iaddr 1 (.t 14) (.t 15)),oT 10 17 (.load .any false 1 (.t 16)),oT 10 18 (.bin 0 [] .eql (.t 17) (cI 1)),oO 19 (.pick (.t 10) (.t 18) (.c bF)),oM 5 19] .ret))⟩
theorem ok112:zf Try.prog Try.f112 F112=true:=by kernel_rfl
def F95:IFn:=⟨11,3,[.tmp 6],false,false,none,(sr [oO 3 (.boxI (.t 0)),oC 6 bF] (sr [oE 7 1,oE 8 2,oO 9 (.mkfn 112 [] [.t 3]),cF 10 111 [.t 7,.t 8,.t 9],oM 6 10] .ret))⟩
theorem ok95:zf Try.prog Try.f95 F95=true:=by kernel_rfl
def F113:IFn:=⟨27,3,[.tmp 5],false,false,none,(sr [oC 5 bF] (.seq (sr [oG 6 2,oM 7 0,oM 8 1,cF 9 110 [.t 6,.t 7,.t 8],oU 10 9,oM 11 10,oF 11 12 (.load .any false 1 (.t 2)),oF 11 13 (.nilck (.t 12)),oF 11 14 (.faddr 7 (.t 13)),oF 11 15 (.load .any false 1 (.t 14)),oFm 11 16 0,oF 11 17 (.iaddr 1 (.t 15) (.t 16)),oF 11 18 (.load .any false 1 (.t 17)),oF 11 19 (.bin 0 [] .neq (.t 18) (cI 0)),oO 20 (.pick (.t 11) (.c bT) (.t 19))] (.cond (.t 20) (sr [oC 5 bF] .ret) .skip)) (sr [oG 21 2,oK 22 21,oA 23 7 22,oG 24 23,oM 25 0,oI 26 1 24 25,oN (.store .any 1 (.t 26) (cI 1))] (sr [oC 5 bT] .ret))))⟩
theorem ok113:zf Try.prog Try.f113 F113=true:=by kernel_rfl
def F97:IFn:=⟨11,3,[.tmp 6],false,false,none,(sr [oO 3 (.boxI (.t 0)),oC 6 bF] (sr [oE 7 1,oE 8 2,oO 9 (.mkfn 113 [] [.t 3]),cF 10 111 [.t 7,.t 8,.t 9],oM 6 10] .ret))⟩
theorem ok97:zf Try.prog Try.f97 F97=true:=by kernel_rfl
def F96:IFn:=⟨11,2,[.tmp 4],false,false,none,(sr [oC 4 bF] (sr [oM 5 0,oM 6 1,oE 7 1,oY 8 7,oO 9 (.mkslice 1 (.int .i64 0) 8 (.t 8) (.t 8)),cF 10 97 [.t 5,.t 6,.t 9],oM 4 10] .ret))⟩
theorem ok96:zf Try.prog Try.f96 F96=true:=by kernel_rfl
def F82:IFn:=⟨57,4,[.tmp 8],false,false,none,(sr [oO 5 (.boxL 5 (.t 1)),oO 6 (.boxL 6 (.t 2)),oC 8 bF] (sr [oM 9 0,oA 10 5 5,oL 11 5 10,cF 12 94 [.t 9,.t 11],oA 13 0 6,oN (.store (.box 6) 1 (.t 13) (.c bT)),oA 14 2 6,oS 6 1 14 12] (sr [oM 15 0,oA 16 4 5,oL 17 5 16,oO 18 (.bslice 1 (.int .i64 0) 1 [(0,(cI 2))]),cF 19 95 [.t 15,.t 17,.t 18],oM 20 19,oTm 20 21 0,oT 20 22 (.faddr 7 (.t 5)),oT 20 23 (.load (.box 5) false 1 (.t 22)),oT 20 24 (.iaddr 1 (.t 23) (cI 0)),oT 20 25 (.load .imm false 1 (.t 24)),oT 20 26 (.load (.box 6) true 5 (.t 6)),oTm 20 27 3,oT 20 28 (pF 43 [.t 21,.t 25,.t 26,.t 27]),oO 29 (.pick (.t 20) (.t 28) (.c bF)),oM 30 29,oTm 30 31 0,oT 30 32 (.faddr 7 (.t 5)),oT 30 33 (.load (.box 5) false 1 (.t 32)),oT 30 34 (.iaddr 1 (.t 33) (cI 1)),oT 30 35 (.load .imm false 1 (.t 34)),oT 30 36 (.load (.box 6) true 5 (.t 6)),oTm 30 37 3,oT 30 38 (pF 43 [.t 31,.t 35,.t 36,.t 37]),oO 39 (.pick (.t 30) (.t 38) (.c bF)),oM 40 39,oT 40 41 (.faddr 5 (.t 5)),oT 40 42 (.load (.box 5) false 1 (.t 41)),oT 40 43 (.len 1 (.t 42)),oT 40 44 (.bin 0 [] .eql (.t 43) (cI 0)),oTm 40 45 44,oF 45 46 (.load (.box 5) true 8 (.t 5)),oF 45 47 (pP 29 [.t 46]),oF 45 48 (.un .not (.t 47)),oT 40 49 (.pick (.t 45) (.c bT) (.t 48)),oO 50 (.pick (.t 40) (.t 49) (.c bF)),oM 51 50,oTm 51 52 0,oT 51 53 (.faddr 5 (.t 5)),oT 51 54 (.load (.box 5) false 1 (.t 53)),oT 51 55 (pF 96 [.t 52,.t 54]),oO 56 (.pick (.t 51) (.t 55) (.c bF)),oM 8 56] .ret)))⟩
theorem ok82:zf Try.prog Try.f82 F82=true:=by kernel_rfl
def L67_0:ICode:= .loop [0,6,7,8] []
 (sr [
 oP 9 .lss 8 7]
 (.seq
 (.cond (.t 9)
 .skip
 (.exit 0))
 (.seq
 (.block 1
 (sr [
 oI 10 1 6 8,
 oG 11 10,
 oM 5 11]
 (.region [
 oM 12 0,
 oK 13 12,
 oA 14 7 13,
 oG 15 14,
 oM 16 5,
 oI 17 1 15 16,
 oN (.store .any 1 (.t 17) (cI 2))])))
 (.region [
 oD 18 .add 8 1,
 oM 8 18]))))
abbrev K67_0:List Nat:=[0,6,7]
abbrev B67_0:List Nat:=[]
def F67:IFn:=⟨19,2,[],false,false,none,(sr [oE 6 1,oY 7 6,oZ 8 0] (.block 0 L67_0))⟩
theorem ok67:zf Try.prog Try.f67 F67=true:=by kernel_rfl
def F83:IFn:=⟨61,3,[.tmp 6],false,false,none,(sr [oO 4 (.boxL 4 (.t 1)),oC 6 bF] (sr [oM 8 0,oA 9 6 4,oL 10 4 9,cF 11 94 [.t 8,.t 10],oM 12 0,oA 13 5 4,oL 14 4 13,cF 15 94 [.t 12,.t 14],oO 16 (.build [.bool false,.bool false,.slice .fit 1 [],.slice .fit 1 [],.slice .fit 1 []] [(1,1,(.c bT)),(3,1,(.t 11)),(4,1,(.t 15))]),oO 7 (.boxL 7 (.c (.agg [.bool false,.bool false,.slice .fit 1 [],.slice .fit 1 [],.slice .fit 1 []]))),oS 7 5 7 16] (.seq (sr [oM 17 0,oA 18 4 4,oL 19 4 18,oA 20 3 7,oL 21 7 20,cF 22 95 [.t 17,.t 19,.t 21],oU 23 22,oM 24 23,oFm 24 25 0,oF 24 26 (.faddr 6 (.t 4)),oF 24 27 (.load (.box 4) false 1 (.t 26)),oF 24 28 (pF 96 [.t 25,.t 27]),oF 24 29 (.un .not (.t 28)),oO 30 (.pick (.t 24) (.c bT) (.t 29)),oM 31 30,oFm 31 32 0,oF 31 33 (.faddr 7 (.t 4)),oF 31 34 (.load (.box 4) false 1 (.t 33)),oF 31 35 (.iaddr 1 (.t 34) (cI 0)),oF 31 36 (.load .imm false 1 (.t 35)),oF 31 37 (.load (.box 7) true 5 (.t 7)),oFm 31 38 2,oF 31 39 (pF 43 [.t 32,.t 36,.t 37,.t 38]),oF 31 40 (.un .not (.t 39)),oO 41 (.pick (.t 31) (.c bT) (.t 40))] (.cond (.t 41) (sr [oC 6 bF] .ret) .skip)) (sr [oM 42 0,oA 43 6 4,oL 44 4 43,cF 45 67 [.t 42,.t 44]] (sr [oA 46 5 4,oL 47 4 46,oY 48 47,oD 49 .eql 48 0,oM 50 49,oF 50 51 (.load (.box 4) true 8 (.t 4)),oF 50 52 (pP 29 [.t 51]),oF 50 53 (.un .not (.t 52)),oO 54 (.pick (.t 50) (.c bT) (.t 53)),oM 55 54,oTm 55 56 0,oT 55 57 (.faddr 5 (.t 4)),oT 55 58 (.load (.box 4) false 1 (.t 57)),oT 55 59 (pF 96 [.t 56,.t 58]),oO 60 (.pick (.t 55) (.t 59) (.c bF)),oM 6 60] .ret)))))⟩
theorem ok83:zf Try.prog Try.f83 F83=true:=by kernel_rfl
def F84:IFn:=⟨72,3,[.tmp 6],false,false,none,(sr [oO 4 (.boxL 4 (.t 1)),oO 5 (.boxL 5 (.t 2)),oC 6 bF] (sr [oA 8 5 4,oL 9 4 8,oY 10 9,oD 11 .eql 10 0,oM 7 11] (.seq (sr [oA 12 0 4,oL 13 4 12] (.block 0 (sr [oD 15 .eql 13 12,oM 14 15] (.cond (.t 14) (sr [oM 16 7,oM 17 16,oT 17 18 (.faddr 0 (.t 5)),oT 17 19 (.load (.box 5) false 1 (.t 18)),oO 20 (.pick (.t 17) (.t 19) (.c bF)),oM 21 20,oTm 21 22 0,oT 21 23 (.faddr 4 (.t 4)),oT 21 24 (.load (.box 4) false 1 (.t 23)),oT 21 25 (.faddr 2 (.t 5)),oT 21 26 (.load (.box 5) false 1 (.t 25)),oT 21 27 (pF 95 [.t 22,.t 24,.t 26]),oO 28 (.pick (.t 21) (.t 27) (.c bF)),oM 6 28] .ret) (sr [oD 30 .eql 13 13,oM 29 30] (.cond (.t 29) (sr [oM 31 7,oM 32 31,oT 32 33 (.faddr 1 (.t 5)),oT 32 34 (.load (.box 5) false 1 (.t 33)),oO 35 (.pick (.t 32) (.t 34) (.c bF)),oM 36 35,oTm 36 37 0,oT 36 38 (.faddr 4 (.t 4)),oT 36 39 (.load (.box 4) false 1 (.t 38)),oT 36 40 (.faddr 3 (.t 5)),oT 36 41 (.load (.box 5) false 1 (.t 40)),oT 36 42 (pF 95 [.t 37,.t 39,.t 41]),oO 43 (.pick (.t 36) (.t 42) (.c bF)),oM 6 43] .ret) (sr [oD 45 .eql 13 14,oM 44 45] (.cond (.t 44) (sr [oM 46 7,oM 47 46,oT 47 48 (.faddr 1 (.t 5)),oT 47 49 (.load (.box 5) false 1 (.t 48)),oO 50 (.pick (.t 47) (.t 49) (.c bF)),oM 51 50,oTm 51 52 0,oT 51 53 (.faddr 4 (.t 4)),oT 51 54 (.load (.box 4) false 1 (.t 53)),oT 51 55 (.faddr 4 (.t 5)),oT 51 56 (.load (.box 5) false 1 (.t 55)),oT 51 57 (pF 95 [.t 52,.t 54,.t 56]),oO 58 (.pick (.t 51) (.t 57) (.c bF)),oM 6 58] .ret) .skip)))))))) (sr [oM 59 7,oM 60 59,oTm 60 61 0,oT 60 62 (.faddr 4 (.t 4)),oT 60 63 (.load (.box 4) false 1 (.t 62)),oTm 60 64 0,oT 60 65 (.nilck (.t 64)),oT 60 66 (.faddr 2 (.t 65)),oT 60 67 (.faddr 1 (.t 66)),oT 60 68 (.load .imm false 1 (.t 67)),oT 60 69 (.bslice 1 (.int .i64 0) 1 [(0,(.t 68))]),oT 60 70 (pF 95 [.t 61,.t 63,.t 69]),oO 71 (.pick (.t 60) (.t 70) (.c bF)),oM 6 71] .ret))))⟩
theorem ok84:zf Try.prog Try.f84 F84=true:=by kernel_rfl
end PE.U

set_option maxRecDepth 100000
namespace PE.U
open Go PE Go.Proofs
def F114:IFn:=⟨15,1,[.tmp 2,.tmp 3],false,false,none,(sr [oZ 2 0,oZ 3 0] (.seq (sr [oM 4 0] (.block 0 (sr [oD 6 .eql 4 22,oM 5 6] (.cond (.t 5) (sr [oZ 2 2,oZ 3 2] .ret) (.seq (sr [oD 8 .eql 4 16,oM 7 8] (.cond (.t 7) .skip (.region [oD 9 .eql 4 17,oM 7 9]))) (.cond (.t 7) (sr [oZ 2 0,oZ 3 2] .ret) (.seq (sr [oD 11 .eql 4 12,oM 10 11] (.cond (.t 10) .skip (sr [oD 12 .eql 4 13,oM 10 12] (.cond (.t 10) .skip (sr [oD 13 .eql 4 14,oM 10 13] (.cond (.t 10) .skip (.region [oD 14 .eql 4 15,oM 10 14]))))))) (.cond (.t 10) (sr [oZ 2 1,oZ 3 2] .ret) .skip)))))))) (sr [oZ 2 1,oZ 3 1] .ret)))⟩
theorem ok114:zf Try.prog Try.f114 F114=true:=by kernel_rfl
def F122:IFn:=⟨43,1,[.cell 2 true 2],false,false,none,(sr [oO 2 (.boxL 2 (.c (.agg [.str [],.int .i64 0])))] (sr [oO 4 (.build [.str [],.int .i64 0] [(0,1,(.c (.str [43]))),(1,1,(cI 9))]),oO 5 (.build [.str [],.int .i64 0] [(0,1,(.c (.str [45]))),(1,1,(cI 9))]),oO 6 (.build [.str [],.int .i64 0] [(0,1,(.c (.str [42]))),(1,1,(cI 10))]),oO 7 (.build [.str [],.int .i64 0] [(0,1,(.c (.str [47]))),(1,1,(cI 10))]),oO 8 (.build [.str [],.int .i64 0] [(0,1,(.c (.str [37]))),(1,1,(cI 10))]),oO 9 (.build [.str [],.int .i64 0] [(0,1,(.c (.str [38]))),(1,1,(cI 5))]),oO 10 (.build [.str [],.int .i64 0] [(0,1,(.c (.str [124]))),(1,1,(cI 3))]),oO 11 (.build [.str [],.int .i64 0] [(0,1,(.c (.str [94]))),(1,1,(cI 4))]),oO 12 (.build [.str [],.int .i64 0] [(0,1,(.c (.str [60,60]))),(1,1,(cI 8))]),oO 13 (.build [.str [],.int .i64 0] [(0,1,(.c (.str [62,62]))),(1,1,(cI 8))]),oO 14 (.build [.str [],.int .i64 0] [(0,1,(.c (.str [62,62,62]))),(1,1,(cI 8))]),oO 15 (.build [.str [],.int .i64 0] [(0,1,(.c (.str [60]))),(1,1,(cI 7))]),oO 16 (.build [.str [],.int .i64 0] [(0,1,(.c (.str [60,61]))),(1,1,(cI 7))]),oO 17 (.build [.str [],.int .i64 0] [(0,1,(.c (.str [62]))),(1,1,(cI 7))]),oO 18 (.build [.str [],.int .i64 0] [(0,1,(.c (.str [62,61]))),(1,1,(cI 7))]),oO 19 (.build [.str [],.int .i64 0] [(0,1,(.c (.str [61,61]))),(1,1,(cI 6))]),oO 20 (.build [.str [],.int .i64 0] [(0,1,(.c (.str [33,61]))),(1,1,(cI 6))]),oO 21 (.build [.str [],.int .i64 0] [(0,1,(.c (.str [38,38]))),(1,1,(cI 2))]),oO 22 (.build [.str [],.int .i64 0] [(0,1,(.c (.str [124,124]))),(1,1,(cI 1))]),oO 23 (.build [.str [],.int .i64 0] [(0,1,(.c (.str [45]))),(1,1,(cI 0))]),oO 24 (.build [.str [],.int .i64 0] [(0,1,(.c (.str [126]))),(1,1,(cI 0))]),oO 25 (.build [.str [],.int .i64 0] [(0,1,(.c (.str [33]))),(1,1,(cI 0))]),oO 26 (.build [.str [],.int .i64 0] [(0,1,(.c (.str [105,56]))),(1,1,(cI 0))]),oO 27 (.build [.str [],.int .i64 0] [(0,1,(.c (.str [105,49,54]))),(1,1,(cI 0))]),oO 28 (.build [.str [],.int .i64 0] [(0,1,(.c (.str [105,51,50]))),(1,1,(cI 0))]),oO 29 (.build [.str [],.int .i64 0] [(0,1,(.c (.str [117,56]))),(1,1,(cI 0))]),oO 30 (.build [.str [],.int .i64 0] [(0,1,(.c (.str [117,49,54]))),(1,1,(cI 0))]),oO 31 (.build [.str [],.int .i64 0] [(0,1,(.c (.str [117,51,50]))),(1,1,(cI 0))]),oO 32 (.build [.str [],.int .i64 0,.str [],.int .i64 0,.str [],.int .i64 0,.str [],.int .i64 0,.str [],.int .i64 0,.str [],.int .i64 0,.str [],.int .i64 0,.str [],.int .i64 0,.str [],.int .i64 0,.str [],.int .i64 0,.str [],.int .i64 0,.str [],.int .i64 0,.str [],.int .i64 0,.str [],.int .i64 0,.str [],.int .i64 0,.str [],.int .i64 0,.str [],.int .i64 0,.str [],.int .i64 0,.str [],.int .i64 0,.str [],.int .i64 0,.str [],.int .i64 0,.str [],.int .i64 0,.str [],.int .i64 0,.str [],.int .i64 0,.str [],.int .i64 0,.str [],.int .i64 0,.str [],.int .i64 0,.str [],.int .i64 0,.str [],.int .i64 0] [(2,2,(.t 4)),(4,2,(.t 5)),(6,2,(.t 6)),(8,2,(.t 7)),(10,2,(.t 8)),(12,2,(.t 9)),(14,2,(.t 10)),(16,2,(.t 11)),(18,2,(.t 12)),(20,2,(.t 13)),(22,2,(.t 14)),(24,2,(.t 15)),(26,2,(.t 16)),(28,2,(.t 17)),(30,2,(.t 18)),(32,2,(.t 19)),(34,2,(.t 20)),(36,2,(.t 21)),(38,2,(.t 22)),(40,2,(.t 23)),(42,2,(.t 24)),(44,2,(.t 25)),(46,2,(.t 26)),(48,2,(.t 27)),(50,2,(.t 28)),(52,2,(.t 29)),(54,2,(.t 30)),(56,2,(.t 31))]),oO 3 (.boxL 3 (.c (.agg [.str [],.int .i64 0,.str [],.int .i64 0,.str [],.int .i64 0,.str [],.int .i64 0,.str [],.int .i64 0,.str [],.int .i64 0,.str [],.int .i64 0,.str [],.int .i64 0,.str [],.int .i64 0,.str [],.int .i64 0,.str [],.int .i64 0,.str [],.int .i64 0,.str [],.int .i64 0,.str [],.int .i64 0,.str [],.int .i64 0,.str [],.int .i64 0,.str [],.int .i64 0,.str [],.int .i64 0,.str [],.int .i64 0,.str [],.int .i64 0,.str [],.int .i64 0,.str [],.int .i64 0,.str [],.int .i64 0,.str [],.int .i64 0,.str [],.int .i64 0,.str [],.int .i64 0,.str [],.int .i64 0,.str [],.int .i64 0,.str [],.int .i64 0]))),oS 3 58 3 32] (.seq (sr [oM 33 0,oD 34 .lss 33 0,oM 35 34,oFm 35 36 0,oF 35 37 (.bin 0 [] .geq (.t 36) (cI 29)),oO 38 (.pick (.t 35) (.c bT) (.t 37))] (.cond (.t 38) (sr [oO 39 (.build [.str [],.int .i64 0] []),oS 2 2 2 39] .ret) .skip)) (sr [oM 40 0,oO 41 (.iaddrA 29 2 (.t 3) (.t 40)),oLa 42 3 2 41,oS 2 2 2 42] .ret))))⟩
theorem ok122:zf Try.prog Try.f122 F122=true:=by kernel_rfl
def F115:IFn:=⟨6,1,[.tmp 2],false,false,none,(sr [oZ 2 0] (sr [oM 3 0,cP 4 122 [.t 3],oO 5 (.fld false 1 1 (.t 4)),oM 2 5] .ret))⟩
theorem ok115:zf Try.prog Try.f115 F115=true:=by kernel_rfl
def F98:IFn:=⟨93,2,[.tmp 4],false,false,none,(sr [oO 3 (.boxL 3 (.t 1)),oC 4 bF] (sr [oA 9 1 3,oL 10 3 9,cP 11 114 [.t 10],oM 8 11,oX 12 8 0,oX 13 8 1,oM 5 12,oM 6 13] (.seq (sr [oA 14 0 3,oL 15 3 14,oD 16 .eql 15 3] (.cond (.t 16) (sr [oA 17 1 3,oL 18 3 17,oD 19 .geq 18 20,oM 20 19,oT 20 21 (.faddr 1 (.t 3)),oT 20 22 (.load (.box 3) false 1 (.t 21)),oT 20 23 (.bin 0 [] .leq (.t 22) (cI 28)),oO 24 (.pick (.t 20) (.t 23) (.c bF)),oM 25 24,oTm 25 26 0,oT 25 27 (.faddr 4 (.t 3)),oT 25 28 (.load (.box 3) false 1 (.t 27)),oTm 25 29 5,oT 25 30 (.bslice 1 (.int .i64 0) 1 [(0,(.t 29))]),oT 25 31 (pF 95 [.t 26,.t 28,.t 30]),oO 32 (.pick (.t 25) (.t 31) (.c bF)),oM 33 32,oTm 33 34 0,oT 33 35 (.faddr 5 (.t 3)),oT 33 36 (.load (.box 3) false 1 (.t 35)),oTm 33 37 6,oT 33 38 (.bslice 1 (.int .i64 0) 1 [(0,(.t 37))]),oT 33 39 (pF 97 [.t 34,.t 36,.t 38]),oO 40 (.pick (.t 33) (.t 39) (.c bF)),oM 4 40] .ret) .skip)) (sr [oA 41 1 3,oL 42 3 41,cP 43 115 [.t 42],oD 44 .gtr 43 0,oM 45 44,oT 45 46 (.faddr 1 (.t 3)),oT 45 47 (.load (.box 3) false 1 (.t 46)),oT 45 48 (.bin 0 [] .leq (.t 47) (cI 17)),oO 49 (.pick (.t 45) (.t 48) (.c bF)),oM 50 49,oTm 50 51 0,oT 50 52 (.faddr 4 (.t 3)),oT 50 53 (.load (.box 3) false 1 (.t 52)),oTm 50 54 5,oTm 50 55 5,oT 50 56 (.bslice 1 (.int .i64 0) 2 [(0,(.t 54)),(1,(.t 55))]),oT 50 57 (pF 95 [.t 51,.t 53,.t 56]),oO 58 (.pick (.t 50) (.t 57) (.c bF)),oM 7 58] (sr [oM 59 7,oM 60 59,oTm 60 61 0,oT 60 62 (.nilck (.t 61)),oT 60 63 (.faddr 2 (.t 62)),oT 60 64 (.faddr 3 (.t 63)),oT 60 65 (.load .imm false 1 (.t 64)),oT 60 66 (.faddr 4 (.t 3)),oT 60 67 (.load (.box 3) false 1 (.t 66)),oT 60 68 (.iaddr 1 (.t 67) (cI 0)),oT 60 69 (.load .imm false 1 (.t 68)),oT 60 70 (.iaddr 1 (.t 65) (.t 69)),oT 60 71 (.load .imm false 1 (.t 70)),oTm 60 72 0,oT 60 73 (.nilck (.t 72)),oT 60 74 (.faddr 2 (.t 73)),oT 60 75 (.faddr 3 (.t 74)),oT 60 76 (.load .imm false 1 (.t 75)),oT 60 77 (.faddr 4 (.t 3)),oT 60 78 (.load (.box 3) false 1 (.t 77)),oT 60 79 (.iaddr 1 (.t 78) (cI 1)),oT 60 80 (.load .imm false 1 (.t 79)),oT 60 81 (.iaddr 1 (.t 76) (.t 80)),oT 60 82 (.load .imm false 1 (.t 81)),oT 60 83 (.bin 0 [] .eql (.t 71) (.t 82)),oO 84 (.pick (.t 60) (.t 83) (.c bF)),oM 85 84,oTm 85 86 0,oT 85 87 (.faddr 5 (.t 3)),oT 85 88 (.load (.box 3) false 1 (.t 87)),oTm 85 89 6,oT 85 90 (.bslice 1 (.int .i64 0) 1 [(0,(.t 89))]),oT 85 91 (pF 97 [.t 86,.t 88,.t 90]),oO 92 (.pick (.t 85) (.t 91) (.c bF)),oM 4 92] .ret)))))⟩
theorem ok98:zf Try.prog Try.f98 F98=true:=by kernel_rfl
def L123_0:ICode:= .loop [0,1,7,8] []
 (sr [
 oP 9 .lss 8 7]
 (.seq
 (.cond (.t 9)
 .skip
 (.exit 0))
 (.seq
 (.block 1
 (sr [
 oM 10 8,
 oM 5 10]
 (sr [
 oM 11 1,
 oM 12 0,
 oM 13 5,
 oI 14 2 12 13,
 oW 15 2 14,
 oO 16 (.call false (.t 11) [.t 15])]
 (.cond (.t 16)
 (sr [
 oM 17 5,
 oM 4 17]
 .ret)
 .skip))))
 (.region [
 oD 18 .add 8 1,
 oM 8 18]))))
abbrev K123_0:List Nat:=[0,1,7]
abbrev B123_0:List Nat:=[]
def F123:IFn:=⟨19,2,[.tmp 4],false,false,none,(sr [oZ 4 0] (.seq (sr [oM 6 0,oY 7 6,oZ 8 0] (.block 0 L123_0)) (sr [oO 4 (.mv (cI (-1)))] .ret)))⟩
theorem ok123:zf Try.prog Try.f123 F123=true:=by kernel_rfl
def F116:IFn:=⟨9,2,[.tmp 4],false,false,none,(sr [oC 4 bF] (sr [oE 5 0,oM 6 1,cF 7 123 [.t 5,.t 6],oD 8 .geq 7 0,oM 4 8] .ret))⟩
theorem ok116:zf Try.prog Try.f116 F116=true:=by kernel_rfl
def F117:IFn:=⟨8,2,[.tmp 3],false,false,none,(sr [oO 2 (.boxL 2 (.t 0)),oC 3 bF] (sr [oA 4 0 2,oL 5 2 4,oG 6 1,oP 7 .eql 5 6,oM 3 7] .ret))⟩
theorem ok117:zf Try.prog Try.f117 F117=true:=by kernel_rfl
def F99:IFn:=⟨9,2,[.tmp 4],false,false,none,(sr [oO 2 (.boxL 2 (.t 0)),oO 3 (.boxI (.t 1)),oC 4 bF] (sr [oA 5 0 2,oL 6 2 5,oO 7 (.mkfn 117 [] [.t 3]),cF 8 116 [.t 6,.t 7],oM 4 8] .ret))⟩
theorem ok99:zf Try.prog Try.f99 F99=true:=by kernel_rfl
def F85:IFn:=⟨159,2,[.tmp 4],false,false,none,(sr [oO 3 (.boxL 3 (.t 1)),oC 4 bF] (.seq (sr [oA 7 0 3,oL 8 3 7] (.block 0 (sr [oD 10 .eql 8 1,oM 9 10] (.cond (.t 9) (sr [oM 11 0,oA 12 4 3,oL 13 3 12,cF 14 95 [(.t 11),(.t 13),(.c (.slice .fit 1 []))],oM 15 14,oTm 15 16 0,oT 15 17 (.faddr 5 (.t 3)),oT 15 18 (.load (.box 3) false 1 (.t 17)),oT 15 19 (.bslice 1 (.int .i64 0) 1 [(0,(cI 1))]),oT 15 20 (pF 97 [.t 16,.t 18,.t 19]),oO 21 (.pick (.t 15) (.t 20) (.c bF)),oM 4 21] .ret) (sr [oD 23 .eql 8 2,oM 22 23] (.cond (.t 22) (sr [oA 24 2 3,oL 25 3 24,oD 26 .eql 25 0,oM 27 26,oF 27 28 (.faddr 2 (.t 3)),oF 27 29 (.load (.box 3) false 1 (.t 28)),oF 27 30 (.bin 0 [] .eql (.t 29) (cI 1)),oO 31 (.pick (.t 27) (.c bT) (.t 30)),oM 32 31,oTm 32 33 0,oT 32 34 (.faddr 4 (.t 3)),oT 32 35 (.load (.box 3) false 1 (.t 34)),oT 32 36 (pF 95 [(.t 33),(.t 35),(.c (.slice .fit 1 []))]),oO 37 (.pick (.t 32) (.t 36) (.c bF)),oM 38 37,oTm 38 39 0,oT 38 40 (.faddr 5 (.t 3)),oT 38 41 (.load (.box 3) false 1 (.t 40)),oT 38 42 (.bslice 1 (.int .i64 0) 1 [(0,(cI 2))]),oT 38 43 (pF 97 [.t 39,.t 41,.t 42]),oO 44 (.pick (.t 38) (.t 43) (.c bF)),oM 4 44] .ret) (.seq (sr [oD 46 .eql 8 3,oM 45 46] (.cond (.t 45) .skip (.region [oD 47 .eql 8 4,oM 45 47]))) (.cond (.t 45) (sr [oM 48 0,oLa 49 3 8 3,cF 50 98 [.t 48,.t 49],oM 4 50] .ret) (sr [oD 52 .eql 8 5,oM 51 52] (.cond (.t 51) (sr [oM 53 0,oK 54 53,oA 55 0 54,oO 56 (.load .imm true 2 (.t 55)),oA 57 3 3,oL 58 3 57,cP 59 99 [.t 56,.t 58],oM 60 59,oTm 60 61 0,oT 60 62 (.faddr 4 (.t 3)),oT 60 63 (.load (.box 3) false 1 (.t 62)),oT 60 64 (.bslice 1 (.int .i64 0) 1 [(0,(cI 1))]),oT 60 65 (pF 95 [.t 61,.t 63,.t 64]),oO 66 (.pick (.t 60) (.t 65) (.c bF)),oM 67 66,oTm 67 68 0,oT 67 69 (.faddr 5 (.t 3)),oT 67 70 (.load (.box 3) false 1 (.t 69)),oT 67 71 (.bslice 1 (.int .i64 0) 1 [(0,(cI 1))]),oT 67 72 (pF 97 [.t 68,.t 70,.t 71]),oO 73 (.pick (.t 67) (.t 72) (.c bF)),oM 4 73] .ret) (sr [oD 75 .eql 8 6,oM 74 75] (.cond (.t 74) (sr [oM 76 0,oK 77 76,oA 78 0 77,oO 79 (.load .imm true 2 (.t 78)),oA 80 3 3,oL 81 3 80,cP 82 99 [.t 79,.t 81],oM 83 82,oTm 83 84 0,oT 83 85 (.faddr 4 (.t 3)),oT 83 86 (.load (.box 3) false 1 (.t 85)),oT 83 87 (.bslice 1 (.int .i64 0) 2 [(0,(cI 1)),(1,(cI 1))]),oT 83 88 (pF 95 [.t 84,.t 86,.t 87]),oO 89 (.pick (.t 83) (.t 88) (.c bF)),oM 90 89,oTm 90 91 0,oT 90 92 (.faddr 5 (.t 3)),oT 90 93 (.load (.box 3) false 1 (.t 92)),oT 90 94 (pF 97 [(.t 91),(.t 93),(.c (.slice .fit 1 []))]),oO 95 (.pick (.t 90) (.t 94) (.c bF)),oM 4 95] .ret) (sr [oD 97 .eql 8 8,oM 96 97] (.cond (.t 96) (sr [oM 98 0,oA 99 4 3,oL 100 3 99,cF 101 95 [(.t 98),(.t 100),(.c (.slice .fit 1 []))],oM 102 101,oTm 102 103 0,oT 102 104 (.faddr 5 (.t 3)),oT 102 105 (.load (.box 3) false 1 (.t 104)),oT 102 106 (.bslice 1 (.int .i64 0) 1 [(0,(cI 1))]),oT 102 107 (pF 97 [.t 103,.t 105,.t 106]),oO 108 (.pick (.t 102) (.t 107) (.c bF)),oM 4 108] .ret) (sr [oD 110 .eql 8 9,oM 109 110] (.cond (.t 109) (sr [oM 111 0,oA 112 4 3,oL 113 3 112,oO 114 (.bslice 1 (.int .i64 0) 1 [(0,(cI 1))]),cF 115 95 [.t 111,.t 113,.t 114],oM 116 115,oTm 116 117 0,oT 116 118 (.faddr 5 (.t 3)),oT 116 119 (.load (.box 3) false 1 (.t 118)),oT 116 120 (pF 97 [(.t 117),(.t 119),(.c (.slice .fit 1 []))]),oO 121 (.pick (.t 116) (.t 120) (.c bF)),oM 4 121] .ret) (sr [oD 123 .eql 8 7,oM 122 123] (.cond (.t 122) (sr [oM 124 0,oK 125 124,oA 126 0 125,oO 127 (.load .imm true 2 (.t 126)),oA 128 3 3,oL 129 3 128,cP 130 40 [.t 127,.t 129],oM 5 130] (.seq (sr [oM 131 5,oD 132 .lss 131 0] (.cond (.t 132) (sr [oC 4 bF] .ret) .skip)) (sr [oM 133 0,oK 134 133,oA 135 0 134,oA 136 1 135,oG 137 136,oM 138 5,oI 139 5 137 138,oW 140 5 139,oO 6 (.boxL 6 (.c (.agg [.str [],.int .i64 0,.int .i64 0,.slice .fit 1 [],.slice .fit 8 []]))),oS 6 5 6 140] (sr [oM 141 0,oA 142 4 3,oL 143 3 142,oA 144 3 6,oL 145 6 144,oA 146 2 6,oL 147 6 146,oO 148 (.slc false 1 (.t 145) none (some (.t 147)) none),cF 149 95 [.t 141,.t 143,.t 148],oM 150 149,oTm 150 151 0,oT 150 152 (.faddr 5 (.t 3)),oT 150 153 (.load (.box 3) false 1 (.t 152)),oT 150 154 (.faddr 1 (.t 6)),oT 150 155 (.load (.box 6) false 1 (.t 154)),oT 150 156 (.bslice 1 (.int .i64 0) 1 [(0,(.t 155))]),oT 150 157 (pF 97 [.t 151,.t 153,.t 156]),oO 158 (.pick (.t 150) (.t 157) (.c bF)),oM 4 158] .ret)))) .skip)))))))))))))))))) (sr [oC 4 bF] .ret)))⟩
theorem ok85:zf Try.prog Try.f85 F85=true:=by kernel_rfl
def F66:IFn:=⟨42,4,[.tmp 8],false,false,none,(sr [oO 5 (.boxL 5 (.t 1)),oO 6 (.boxL 6 (.t 2)),oC 8 bF] (.seq (.block 0 (sr [oLa 10 5 8 5,cP 11 81 [.t 10],oU 12 11,oM 9 12] (.cond (.t 9) (sr [oC 8 bF] .ret) (sr [oA 14 0 5,oL 15 5 14,oD 16 .eql 15 10,oM 13 16] (.cond (.t 13) (sr [oM 17 0,oLa 18 5 8 5,oLa 19 6 5 6,oM 20 3,oD 21 .add 20 1,cF 22 82 [.t 17,.t 18,.t 19,.t 21],oM 8 22] .ret) (sr [oA 24 0 5,oL 25 5 24,oD 26 .eql 25 11,oM 23 26] (.cond (.t 23) (sr [oM 27 0,oLa 28 5 8 5,oM 29 3,oD 30 .add 29 1,cF 31 83 [.t 27,.t 28,.t 30],oM 8 31] .ret) (sr [oLa 33 5 8 5,cP 34 51 [.t 33],oM 32 34] (.cond (.t 32) (sr [oM 35 0,oLa 36 5 8 5,oLa 37 6 5 6,cF 38 84 [.t 35,.t 36,.t 37],oM 8 38] .ret) .skip))))))))) (sr [oM 39 0,oLa 40 5 8 5,cF 41 85 [.t 39,.t 40],oM 8 41] .ret)))⟩
theorem ok66:zf Try.prog Try.f66 F66=true:=by kernel_rfl
def L43_0:ICode:= .loop [0,1,3,6,13,14,15] [10]
 (sr [
 oP 16 .lss 15 14]
 (.seq
 (.cond (.t 16)
 .skip
 (.exit 0))
 (.seq
 (.block 1
 (sr [
 oM 17 15,
 oI 18 8 13 15,
 oW 19 8 18,
 oO 10 (.boxL 10 (.c (.agg [.int .i64 0,.int .i64 0,.int .i64 0,.str [],.slice .fit 1 [],.slice .fit 1 [],.slice .fit 1 [],.slice .fit 1 []]))),
 oM 9 17,
 oS 10 8 10 19]
 (sr [
 oM 20 3,
 oD 21 .gtr 20 100,
 oM 22 21,
 oFm 22 23 0,
 oF 22 24 (.load (.box 10) true 8 (.t 10)),
 oF 22 25 (.load (.box 6) true 5 (.t 6)),
 oFm 22 26 3,
 oF 22 27 (pF 66 [.t 23,.t 24,.t 25,.t 26]),
 oF 22 28 (.un .not (.t 27)),
 oO 29 (.pick (.t 22) (.c bT) (.t 28)),
 oM 30 29,
 oF 30 31 (.load (.box 10) true 8 (.t 10)),
 oF 30 32 (pP 29 [.t 31]),
 oFm 30 33 9,
 oFm 30 34 1,
 oF 30 35 (.len 1 (.t 34)),
 oF 30 36 (.bin 0 [] .sub (.t 35) (cI 1)),
 oF 30 37 (.bin 0 [] .eql (.t 33) (.t 36)),
 oF 30 38 (.bin 1 [] .neq (.t 32) (.t 37)),
 oO 39 (.pick (.t 30) (.c bT) (.t 38))]
 (.cond (.t 39)
 (sr [
 oC 8 bF]
 .ret)
 .skip))))
 (.region [
 oD 40 .add 15 1,
 oM 15 40]))))
def L43_1:ICode:= .loop [0,1,41,42,43] [12]
 (sr [
 oP 44 .lss 43 42]
 (.seq
 (.cond (.t 44)
 .skip
 (.exit 2))
 (.seq
 (.block 3
 (sr [
 oI 45 8 41 43,
 oW 46 8 45,
 oO 12 (.boxL 12 (.c (.agg [.int .i64 0,.int .i64 0,.int .i64 0,.str [],.slice .fit 1 [],.slice .fit 1 [],.slice .fit 1 [],.slice .fit 1 []]))),
 oS 12 8 12 46]
 (.region [
 oM 47 0,
 oA 48 5 12,
 oL 49 12 48,
 cF 50 67 [.t 47,.t 49]])))
 (.region [
 oD 51 .add 43 1,
 oM 43 51]))))
abbrev K43_0:List Nat:=[0,1,3,6,13,14]
abbrev B43_0:List Nat:=[6]
abbrev K43_1:List Nat:=[0,1,41,42]
abbrev B43_1:List Nat:=[]
def F43:IFn:=⟨55,4,[.tmp 8],false,false,none,(sr [oO 6 (.boxL 6 (.t 2)),oC 8 bF] (.seq (sr [oM 13 1,oY 14 13,oZ 15 0] (.block 0 L43_0)) (.seq (sr [oM 41 1,oY 42 41,oZ 43 0] (.block 2 L43_1)) (sr [oE 52 1,oY 53 52,oD 54 .gtr 53 0,oM 8 54] .ret))))⟩
theorem ok43:zf Try.prog Try.f43 F43=true:=by kernel_rfl
def L24_0:ICode:= .loop [3,5,30,31] []
 (sr [
 oP 32 .lss 31 30]
 (.seq
 (.cond (.t 32)
 .skip
 (.exit 0))
 (.seq
 (.block 1
 (sr [
 oM 33 31,
 oM 6 33]
 (.region [
 oM 34 5,
 oK 35 34,
 oA 36 7 35,
 oG 37 36,
 oM 38 6,
 oI 39 1 37 38,
 oN (.store .any 1 (.t 39) (cI 1))])))
 (.region [
 oD 40 .add 31 1,
 oM 31 40]))))
abbrev K24_0:List Nat:=[3,5,30]
abbrev B24_0:List Nat:=[3]
def F24:IFn:=⟨46,2,[.tmp 4],true,false,none,(sr [oO 2 (.boxL 2 (.t 0)),oO 3 (.boxL 3 (.t 1)),oC 4 bF] (.seq (sr [oA 7 2 3,oL 8 3 7,oD 9 .gtr 8 8,oM 10 9,oF 10 11 (.faddr 3 (.t 3)),oF 10 12 (.load (.box 3) false 1 (.t 11)),oF 10 13 (.len 1 (.t 12)),oF 10 14 (.bin 0 [] .gtr (.t 13) (cI 20000)),oO 15 (.pick (.t 10) (.c bT) (.t 14)),oM 16 15,oF 16 17 (.faddr 3 (.t 3)),oF 16 18 (.load (.box 3) false 1 (.t 17)),oF 16 19 (pF 41 [(.t 18),(.c (.fn 42 [] []))]),oO 20 (.pick (.t 16) (.c bT) (.t 19))] (.cond (.t 20) (sr [oC 4 bF] .ret) .skip)) (sr [oLa 21 2 2 2,oLa 22 3 5 3,oA 23 3 3,oL 24 3 23,oY 25 24,oO 26 (.mksliceS 1 (.int .i64 0) 8 (.t 25) (.t 25)),oO 27 (.build [.slice .fit 2 [],.slice .fit 5 [],.str [],.int .i64 0,.int .i64 0,.slice .fit 1 [],.slice .fit 8 [],.slice .fit 1 []] [(0,2,(.t 21)),(2,5,(.t 22)),(7,1,(.t 26))]),oO 28 (.boxI (.t 27)),oM 5 28] (.seq (sr [oA 29 2 3,oL 30 3 29,oZ 31 0] (.block 0 L24_0)) (sr [oM 41 5,oA 42 4 3,oL 43 3 42,oO 44 (.build [.bool false,.bool false,.slice .fit 1 [],.slice .fit 1 [],.slice .fit 1 []] []),cF 45 43 [.t 41,.t 43,.t 44,cI 1],oM 4 45] .ret)))))⟩
theorem ok24:zf Try.prog Try.f24 F24=true:=by kernel_rfl
def L9_0:ICode:= .loop [1,10,11,12] [5]
 (sr [
 oP 13 .lss 12 11]
 (.seq
 (.cond (.t 13)
 .skip
 (.exit 0))
 (.seq
 (.block 1
 (sr [
 oM 14 12,
 oI 15 5 10 12,
 oW 16 5 15,
 oO 5 (.boxL 5 (.c (.agg [.str [],.int .i64 0,.int .i64 0,.slice .fit 1 [],.slice .fit 8 []]))),
 oM 4 14,
 oS 5 5 5 16]
 (sr [
 oLa 17 1 2 1,
 oLa 18 5 5 5,
 cP 19 24 [.t 17,.t 18],
 oU 20 19]
 (.cond (.t 20)
 (sr [
 oM 21 4,
 oZ 2 80,
 oM 3 21]
 .ret)
 .skip))))
 (.region [
 oD 22 .add 12 1,
 oM 12 22]))))
abbrev K9_0:List Nat:=[1,10,11]
abbrev B9_0:List Nat:=[1]
def F9:IFn:=⟨23,1,[.tmp 2,.tmp 3],false,false,none,(sr [oO 1 (.boxL 1 (.t 0)),oZ 2 0,oZ 3 0] (.seq (sr [oLa 6 1 2 1,cP 7 23 [.t 6],oU 8 7] (.cond (.t 8) (sr [oZ 2 1,oZ 3 0] .ret) .skip)) (.seq (sr [oA 9 1 1,oL 10 1 9,oY 11 10,oZ 12 0] (.block 0 L9_0)) (sr [oZ 2 0,oZ 3 0] .ret))))⟩
theorem ok9:zf Try.prog Try.f9 F9=true:=by kernel_rfl
def F104:IFn:=⟨7,2,[],false,false,none,(.region [oM 4 1,oO 5 (.build [.int .i64 0] [(0,1,(.t 4))]),oO 6 (.mkif 101 (.t 5)),oN (.panic (.t 6))])⟩
theorem ok104:zf Try.prog Try.f104 F104=true:=by kernel_rfl
def L105_0:ICode:= .loop [2,5,11,12,13] []
 (sr [
 oP 14 .lss 13 12]
 (.seq
 (.cond (.t 14)
 .skip
 (.exit 0))
 (.seq
 (.block 1
 (sr [
 oM 15 13,
 oI 16 1 11 13,
 oG 17 16,
 oM 6 15,
 oM 7 17]
 (.region [
 oM 18 5,
 oM 19 6,
 oA 20 1 2,
 oL 21 2 20,
 oM 22 7,
 oI 23 1 21 22,
 oG 24 23,
 oI 25 1 18 19,
 oV 25 24])))
 (.region [
 oD 26 .add 13 1,
 oM 13 26]))))
abbrev K105_0:List Nat:=[2,5,11,12]
abbrev B105_0:List Nat:=[2]
def F105:IFn:=⟨28,2,[.tmp 4],true,false,none,(sr [oO 2 (.boxL 2 (.t 0)),oC 4 (.slice .fit 1 [])] (sr [oM 8 1,oY 9 8,oO 10 (.mksliceS 1 (.int .i64 0) 8 (.t 9) (.t 9)),oE 5 10] (.seq (sr [oE 11 1,oY 12 11,oZ 13 0] (.block 0 L105_0)) (sr [oE 27 5,oE 4 27] .ret))))⟩
theorem ok105:zf Try.prog Try.f105 F105=true:=by kernel_rfl
def L106_0:ICode:= .loop [2,3,8,9,10] []
 (sr [
 oP 11 .lss 10 9]
 (.seq
 (.cond (.t 11)
 .skip
 (.exit 0))
 (.seq
 (.block 1
 (sr [
 oM 12 10,
 oI 13 1 8 10,
 oG 14 13,
 oM 6 12,
 oM 7 14]
 (.region [
 oA 15 1 3,
 oL 16 3 15,
 oM 17 7,
 oM 18 2,
 oM 19 6,
 oI 20 1 18 19,
 oH 21 20,
 oI 22 1 16 17,
 oV 22 21])))
 (.region [
 oD 23 .add 10 1,
 oM 10 23]))))
abbrev K106_0:List Nat:=[2,3,8,9]
abbrev B106_0:List Nat:=[3]
def F106:IFn:=⟨24,3,[],false,false,none,(sr [oO 3 (.boxL 3 (.t 0))] (sr [oE 8 1,oY 9 8,oZ 10 0] (.block 0 L106_0)))⟩
theorem ok106:zf Try.prog Try.f106 F106=true:=by kernel_rfl
def F107:IFn:=⟨33,3,[.cell 6 true 2],false,false,none,(sr [oO 3 (.boxL 3 (.t 0)),oO 4 (.boxL 4 (.t 1)),oO 6 (.boxL 6 (.c (.agg [.int .i64 0,.slice .fit 1 []])))] (sr [oA 9 7 4,oL 10 4 9,oO 11 (.iaddr 1 (.t 10) (cI 0)),oG 12 11,oE 7 12] (.seq (sr [oM 13 2,oD 14 .eql 13 0] (.cond (.t 14) (.region [oA 15 7 4,oL 16 4 15,oO 17 (.iaddr 1 (.t 16) (cI 1)),oG 18 17,oE 7 18]) .skip)) (sr [oLa 19 3 2 3,oE 20 7,oO 21 (.call true (.c (.fn 75 [] [])) [.t 19,.t 20]),oO 8 (.boxL 8 (.c (.agg [.int .i64 0,.slice .fit 1 []]))),oS 8 2 8 21] (.seq (sr [oA 22 0 8,oL 23 8 22,oD 24 .neq 23 12] (.cond (.t 24) (sr [oLa 25 8 2 8,oS 6 2 6 25] .ret) .skip)) (sr [oLa 26 3 2 3,oA 27 5 4,oL 28 4 27,oA 29 1 8,oL 30 8 29,cF 31 106 [.t 26,.t 28,.t 30]] (sr [oO 32 (.build [.int .i64 0,.slice .fit 1 []] []),oS 6 2 6 32] .ret)))))))⟩
theorem ok107:zf Try.prog Try.f107 F107=true:=by kernel_rfl
def L108_0:ICode:= .loop [2,3,4,6] [7]
 (.block 1
 (sr [
 oLa 8 3 2 3,
 oA 9 6 4,
 oL 10 4 9,
 oE 11 2,
 cF 12 106 [.t 8,.t 10,.t 11]]
 (sr [
 oLa 13 3 2 3,
 oA 14 7 4,
 oL 15 4 14,
 oO 16 (.iaddr 1 (.t 15) (cI 0)),
 oH 17 16,
 oO 7 (.boxL 7 (.c (.agg [.int .i64 0,.slice .fit 1 []]))),
 oO 18 (.call true (.c (.fn 75 [] [])) [.t 13,.t 17]),
 oS 7 2 7 18]
 (.seq
 (sr [
 oA 19 0 7,
 oL 20 7 19]
 (.block 2
 (sr [
 oD 22 .eql 20 15,
 oM 21 22]
 (.cond (.t 21)
 (sr [
 oLa 23 7 2 7,
 oS 6 2 6 23]
 .ret)
 (sr [
 oD 25 .eql 20 14,
 oM 24 25]
 (.cond (.t 24)
 (sr [
 oLa 26 3 2 3,
 oA 27 5 4,
 oL 28 4 27,
 oA 29 1 7,
 oL 30 7 29,
 cF 31 106 [.t 26,.t 28,.t 30]]
 (sr [
 oO 32 (.build [.int .i64 0,.slice .fit 1 []] []),
 oS 6 2 6 32]
 .ret))
 .skip))))))
 (.region [
 oA 33 1 7,
 oL 34 7 33,
 oE 2 34])))))
abbrev K108_0:List Nat:=[3,4,6]
abbrev B108_0:List Nat:=[3,4]
def F108:IFn:=⟨35,3,[.cell 6 true 2],false,false,none,(sr [oO 3 (.boxL 3 (.t 0)),oO 4 (.boxL 4 (.t 1)),oO 6 (.boxL 6 (.c (.agg [.int .i64 0,.slice .fit 1 []])))] (.block 0 L108_0))⟩
theorem ok108:zf Try.prog Try.f108 F108=true:=by kernel_rfl
def F124:IFn:=⟨4,1,[.tmp 2],false,false,none,(sr [oZ 2 0] (.seq (sr [oM 3 0] (.cond (.t 3) (sr [oZ 2 1] .ret) .skip)) (sr [oZ 2 0] .ret)))⟩
theorem ok124:zf Try.prog Try.f124 F124=true:=by kernel_rfl
def F118:IFn:=⟨49,2,[.tmp 4],false,false,none,(sr [oZ 4 0] (.seq (sr [oM 5 0] (.block 0 (sr [oD 7 .eql 5 20,oM 6 7] (.cond (.t 6) (sr [oM 8 1,oO 9 (.un .neg (.t 8)),oM 4 9] .ret) (sr [oD 11 .eql 5 21,oM 10 11] (.cond (.t 10) (sr [oM 12 1,oO 13 (.un .xor (.t 12)),oM 4 13] .ret) (sr [oD 15 .eql 5 22,oM 14 15] (.cond (.t 14) (sr [oM 16 1,oD 17 .eql 16 0,cP 18 124 [.t 17],oM 4 18] .ret) (sr [oD 20 .eql 5 23,oM 19 20] (.cond (.t 19) (sr [oM 21 1,oO 22 (.conv .i8 (.t 21)),oO 23 (.conv .i64 (.t 22)),oM 4 23] .ret) (sr [oD 25 .eql 5 24,oM 24 25] (.cond (.t 24) (sr [oM 26 1,oO 27 (.conv .i16 (.t 26)),oO 28 (.conv .i64 (.t 27)),oM 4 28] .ret) (sr [oD 30 .eql 5 25,oM 29 30] (.cond (.t 29) (sr [oM 31 1,oO 32 (.conv .i32 (.t 31)),oO 33 (.conv .i64 (.t 32)),oM 4 33] .ret) (sr [oD 35 .eql 5 26,oM 34 35] (.cond (.t 34) (sr [oM 36 1,oO 37 (.conv .u8 (.t 36)),oO 38 (.conv .i64 (.t 37)),oM 4 38] .ret) (sr [oD 40 .eql 5 27,oM 39 40] (.cond (.t 39) (sr [oM 41 1,oO 42 (.conv .u16 (.t 41)),oO 43 (.conv .i64 (.t 42)),oM 4 43] .ret) (sr [oD 45 .eql 5 28,oM 44 45] (.cond (.t 44) (sr [oM 46 1,oO 47 (.conv .u32 (.t 46)),oO 48 (.conv .i64 (.t 47)),oM 4 48] .ret) .skip)))))))))))))))))))) (sr [oZ 4 0] .ret)))⟩
theorem ok118:zf Try.prog Try.f118 F118=true:=by kernel_rfl
def F126:IFn:=⟨39,3,[.tmp 6,.tmp 7],false,false,none,(sr [oC 6 bF,oC 7 bF] (.seq (sr [oM 8 0] (.block 0 (sr [oD 10 .eql 8 12,oM 9 10] (.cond (.t 9) (sr [oM 11 1,oM 12 2,oP 13 .lss 11 12,oM 6 13,oC 7 bT] .ret) (sr [oD 15 .eql 8 13,oM 14 15] (.cond (.t 14) (sr [oM 16 1,oM 17 2,oP 18 .leq 16 17,oM 6 18,oC 7 bT] .ret) (sr [oD 20 .eql 8 14,oM 19 20] (.cond (.t 19) (sr [oM 21 1,oM 22 2,oP 23 .gtr 21 22,oM 6 23,oC 7 bT] .ret) (sr [oD 25 .eql 8 15,oM 24 25] (.cond (.t 24) (sr [oM 26 1,oM 27 2,oP 28 .geq 26 27,oM 6 28,oC 7 bT] .ret) (sr [oD 30 .eql 8 16,oM 29 30] (.cond (.t 29) (sr [oM 31 1,oM 32 2,oP 33 .eql 31 32,oM 6 33,oC 7 bT] .ret) (sr [oD 35 .eql 8 17,oM 34 35] (.cond (.t 34) (sr [oM 36 1,oM 37 2,oP 38 .neq 36 37,oM 6 38,oC 7 bT] .ret) .skip)))))))))))))) (sr [oC 6 bF,oC 7 bF] .ret)))⟩
theorem ok126:zf Try.prog Try.f126 F126=true:=by kernel_rfl
def F125:IFn:=⟨86,3,[.tmp 6,.tmp 7],false,false,none,(sr [oZ 6 0,oC 7 bF] (.seq (sr [oM 11 0,oM 12 1,oM 13 2,cP 14 126 [.t 11,.t 12,.t 13],oM 10 14,oX 15 10 0,oX 16 10 1,oM 8 15,oM 9 16] (sr [oM 17 9] (.cond (.t 17) (sr [oM 18 8,cP 19 124 [.t 18],oM 6 19,oC 7 bT] .ret) .skip))) (.seq (sr [oM 20 0] (.block 0 (sr [oD 22 .eql 20 1,oM 21 22] (.cond (.t 21) (sr [oM 23 1,oM 24 2,oP 25 .add 23 24,oM 6 25,oC 7 bT] .ret) (sr [oD 27 .eql 20 2,oM 26 27] (.cond (.t 26) (sr [oM 28 1,oM 29 2,oP 30 .sub 28 29,oM 6 30,oC 7 bT] .ret) (sr [oD 32 .eql 20 3,oM 31 32] (.cond (.t 31) (sr [oM 33 1,oM 34 2,oP 35 .mul 33 34,oM 6 35,oC 7 bT] .ret) (sr [oD 37 .eql 20 6,oM 36 37] (.cond (.t 36) (sr [oM 38 1,oM 39 2,oP 40 .and 38 39,oM 6 40,oC 7 bT] .ret) (sr [oD 42 .eql 20 7,oM 41 42] (.cond (.t 41) (sr [oM 43 1,oM 44 2,oP 45 .or 43 44,oM 6 45,oC 7 bT] .ret) (sr [oD 47 .eql 20 8,oM 46 47] (.cond (.t 46) (sr [oM 48 1,oM 49 2,oP 50 .xor 48 49,oM 6 50,oC 7 bT] .ret) (sr [oD 52 .eql 20 9,oM 51 52] (.cond (.t 51) (sr [oM 53 1,oM 54 2,oD 55 .and 54 63,oP 56 .shl 53 55,oM 6 56,oC 7 bT] .ret) (sr [oD 58 .eql 20 10,oM 57 58] (.cond (.t 57) (sr [oM 59 1,oM 60 2,oD 61 .and 60 63,oP 62 .shr 59 61,oM 6 62,oC 7 bT] .ret) (sr [oD 64 .eql 20 11,oM 63 64] (.cond (.t 63) (sr [oM 65 1,oO 66 (.conv .u64 (.t 65)),oM 67 2,oD 68 .and 67 63,oP 69 .shr 66 68,oO 70 (.conv .i64 (.t 69)),oM 6 70,oC 7 bT] .ret) .skip)))))))))))))))))))) (.seq (.block 1 (sr [oM 72 2,oD 73 .eql 72 0,oM 71 73] (.cond (.t 71) (sr [oZ 6 0,oC 7 bF] .ret) (sr [oM 75 0,oD 76 .eql 75 4,oM 74 76] (.cond (.t 74) (sr [oM 77 1,oM 78 2,oP 79 .quo 77 78,oM 6 79,oC 7 bT] .ret) (sr [oM 81 0,oD 82 .eql 81 5,oM 80 82] (.cond (.t 80) (sr [oM 83 1,oM 84 2,oP 85 .rem 83 84,oM 6 85,oC 7 bT] .ret) .skip))))))) (sr [oZ 6 0,oC 7 bF] .ret)))))⟩
theorem ok125:zf Try.prog Try.f125 F125=true:=by kernel_rfl
def F119:IFn:=⟨23,4,[.tmp 8],false,false,none,(sr [oZ 8 0] (sr [oM 12 1,oM 13 2,oM 14 3,cP 15 125 [.t 12,.t 13,.t 14],oM 11 15,oX 16 11 0,oX 17 11 1,oM 9 16,oM 10 17] (.seq (sr [oM 18 10,oU 19 18] (.cond (.t 19) (.region [oM 20 0,oO 21 (.call true (.c (.fn 104 [] [])) [.t 20,cI 2])]) .skip)) (sr [oM 22 9,oM 8 22] .ret))))⟩
theorem ok119:zf Try.prog Try.f119 F119=true:=by kernel_rfl
def F120:IFn:=⟨27,3,[.tmp 6],false,false,none,(sr [oC 6 (.nilp)] (sr [oM 8 0,oK 9 8,oA 10 3 9,oG 11 10,oM 12 1,oO 13 (.lookup true false (.slice .fit 1 []) (.t 11) (.t 12)),oE 7 13] (.seq (sr [oM 14 2,oD 15 .lss 14 0,oM 16 15,oFm 16 17 2,oFm 16 18 7,oF 16 19 (.len 1 (.t 18)),oF 16 20 (.bin 0 [] .geq (.t 17) (.t 19)),oO 21 (.pick (.t 16) (.c bT) (.t 20))] (.cond (.t 21) (.region [oM 22 0,oO 23 (.call true (.c (.fn 104 [] [])) [.t 22,cI 3])]) .skip)) (sr [oE 24 7,oM 25 2,oI 26 1 24 25,oM 6 26] .ret))))⟩
theorem ok120:zf Try.prog Try.f120 F120=true:=by kernel_rfl
def F121:IFn:=⟨27,1,[.tmp 2],false,false,none,(sr [oZ 2 0] (.seq (sr [oM 4 0,oK 5 4,oA 6 2 5,oG 7 6,oY 8 7,oD 9 .eql 8 0] (.cond (.t 9) (.region [oM 10 0,oO 11 (.call true (.c (.fn 104 [] [])) [.t 10,cI 4])]) .skip)) (sr [oM 12 0,oK 13 12,oA 14 2 13,oG 15 14,oO 16 (.iaddr 1 (.t 15) (cI 0)),oG 17 16,oM 3 17] (sr [oM 18 0,oM 19 0,oK 20 19,oA 21 2 20,oG 22 21,oO 23 (.slc false 1 (.t 22) (some (cI 1)) none none),oK 24 18,oA 25 2 24,oV 25 23] (sr [oM 26 3,oM 2 26] .ret)))))⟩
theorem ok121:zf Try.prog Try.f121 F121=true:=by kernel_rfl
def F109:IFn:=⟨121,3,[],false,false,none,(sr [oO 3 (.boxL 3 (.t 0)),oO 4 (.boxL 4 (.t 1))] (sr [oA 6 0 3,oL 7 3 6,oK 8 7,oA 9 4 8,oA 10 3 9,oG 11 10,oD 12 .add 11 1,oK 13 7,oA 14 4 13,oA 15 3 14,oV 15 12] (sr [oA 16 0 4,oL 17 4 16] (.block 0 (sr [oD 19 .eql 17 3,oM 18 19] (.cond (.t 18) (.region [oLa 20 3 2 3,oA 21 5 4,oL 22 4 21,oA 23 1 4,oL 24 4 23,oE 25 2,oO 26 (.iaddr 1 (.t 25) (cI 0)),oH 27 26,cP 28 118 [.t 24,.t 27],oO 29 (.bslice 1 (.int .i64 0) 1 [(0,(.t 28))]),cF 30 106 [.t 20,.t 22,.t 29]]) (sr [oD 32 .eql 17 4,oM 31 32] (.cond (.t 31) (.region [oLa 33 3 2 3,oA 34 5 4,oL 35 4 34,oA 36 0 3,oL 37 3 36,oA 38 1 4,oL 39 4 38,oM 40 2,oO 41 (.iaddr 1 (.t 40) (cI 0)),oH 42 41,oM 43 2,oO 44 (.iaddr 1 (.t 43) (cI 1)),oH 45 44,oO 46 (.call true (.c (.fn 119 [] [])) [.t 37,.t 39,.t 42,.t 45]),oO 47 (.bslice 1 (.int .i64 0) 1 [(0,(.t 46))]),cF 48 106 [.t 33,.t 35,.t 47]]) (sr [oD 50 .eql 17 5,oM 49 50] (.cond (.t 49) (.region [oLa 51 3 2 3,oA 52 5 4,oL 53 4 52,oA 54 0 3,oL 55 3 54,oA 56 3 4,oL 57 4 56,oE 58 2,oO 59 (.iaddr 1 (.t 58) (cI 0)),oH 60 59,oO 61 (.call true (.c (.fn 120 [] [])) [.t 55,.t 57,.t 60]),oK 62 61,oG 63 62,oO 64 (.bslice 1 (.int .i64 0) 1 [(0,(.t 63))]),cF 65 106 [.t 51,.t 53,.t 64]]) (sr [oD 67 .eql 17 6,oM 66 67] (.cond (.t 66) (.region [oA 68 0 3,oL 69 3 68,oA 70 3 4,oL 71 4 70,oM 72 2,oO 73 (.iaddr 1 (.t 72) (cI 0)),oH 74 73,oM 76 2,oO 77 (.iaddr 1 (.t 76) (cI 1)),oH 78 77,oO 75 (.call true (.c (.fn 120 [] [])) [.t 69,.t 71,.t 74]),oK 79 75,oV 79 78]) (sr [oD 81 .eql 17 7,oM 80 81] (.cond (.t 80) (.region [oLa 82 3 2 3,oA 83 5 4,oL 84 4 83,oA 85 0 3,oL 86 3 85,oA 87 3 4,oL 88 4 87,oE 89 2,oO 90 (.call true (.c (.fn 53 [] [])) [.t 86,.t 88,.t 89]),oO 91 (.bslice 1 (.int .i64 0) 1 [(0,(.t 90))]),cF 92 106 [.t 82,.t 84,.t 91]]) (sr [oD 94 .eql 17 8,oM 93 94] (.cond (.t 93) (.region [oLa 95 3 2 3,oA 96 5 4,oL 97 4 96,oA 98 0 3,oL 99 3 98,oO 100 (.call true (.c (.fn 121 [] [])) [.t 99]),oO 101 (.bslice 1 (.int .i64 0) 1 [(0,(.t 100))]),cF 102 106 [.t 95,.t 97,.t 101]]) (sr [oD 104 .eql 17 9,oM 103 104] (.cond (.t 103) (.region [oA 105 0 3,oL 106 3 105,oA 107 0 3,oL 108 3 107,oK 109 108,oA 110 4 109,oA 111 2 110,oO 112 (.loadT .any (.t 111)),oE 113 2,oO 114 (.iaddr 1 (.t 113) (cI 0)),oH 115 114,oO 116 (.bslice 1 (.int .i64 0) 1 [(0,(.t 115))]),oO 117 (.append 1 8 (.t 112) (.t 116)),oK 118 106,oA 119 4 118,oA 120 2 119,oN (.storeT .any (.t 120) 117)]) .skip))))))))))))))))))⟩
theorem ok109:zf Try.prog Try.f109 F109=true:=by kernel_rfl
def F93:IFn:=⟨70,2,[.cell 4 true 2],false,false,none,(sr [oO 2 (.boxL 2 (.t 0)),oO 3 (.boxL 3 (.t 1)),oO 4 (.boxL 4 (.c (.agg [.int .i64 0,.slice .fit 1 []])))] (.seq (sr [oA 6 0 2,oL 7 2 6,oK 8 7,oA 9 4 8,oA 10 4 9,oG 11 10,oD 12 .eql 11 0] (.cond (.t 12) (.region [oA 13 0 2,oL 14 2 13,oO 15 (.call true (.c (.fn 104 [] [])) [.t 14,cI 0])]) .skip)) (sr [oA 16 0 2,oL 17 2 16,oK 18 17,oA 19 4 18,oA 20 4 19,oG 21 20,oD 22 .sub 21 1,oK 23 17,oA 24 4 23,oA 25 4 24,oV 25 22] (sr [oLa 26 2 2 2,oA 27 4 3,oL 28 3 27,cF 29 105 [.t 26,.t 28],oE 5 29] (.seq (sr [oA 30 0 3,oL 31 3 30] (.block 0 (.seq (sr [oD 37 .eql 31 1,oM 36 37] (.cond (.t 36) .skip (.region [oD 38 .eql 31 2,oM 36 38]))) (.cond (.t 36) (.region [oLa 39 2 2 2,oA 40 5 3,oL 41 3 40,oA 42 2 3,oL 43 3 42,oO 44 (.bslice 1 (.int .i64 0) 1 [(0,(.t 43))]),cF 45 106 [.t 39,.t 41,.t 44]]) (.seq (sr [oD 47 .eql 31 12,oM 46 47] (.cond (.t 46) .skip (sr [oD 48 .eql 31 13,oM 46 48] (.cond (.t 46) .skip (sr [oD 49 .eql 31 14,oM 46 49] (.cond (.t 46) .skip (.region [oD 50 .eql 31 15,oM 46 50]))))))) (.cond (.t 46) (sr [oA 51 0 3,oL 52 3 51,oE 53 5,oO 54 (.build [.int .i64 0,.slice .fit 1 []] [(0,1,(.t 52)),(1,1,(.t 53))]),oS 4 2 4 54] .ret) (sr [oD 56 .eql 31 10,oM 55 56] (.cond (.t 55) (sr [oLa 57 2 2 2,oLa 58 3 8 3,oE 59 5,oO 60 (.iaddr 1 (.t 59) (cI 0)),oH 61 60,oO 62 (.call true (.c (.fn 107 [] [])) [.t 57,.t 58,.t 61]),oS 4 2 4 62] .ret) (sr [oD 64 .eql 31 11,oM 63 64] (.cond (.t 63) (sr [oLa 65 2 2 2,oLa 66 3 8 3,oE 67 5,oO 68 (.call true (.c (.fn 108 [] [])) [.t 65,.t 66,.t 67]),oS 4 2 4 68] .ret) (.region [oLa 32 2 2 2,oLa 33 3 8 3,oE 34 5,oO 35 (.call true (.c (.fn 109 [] [])) [.t 32,.t 33,.t 34])]))))))))))) (sr [oO 69 (.build [.int .i64 0,.slice .fit 1 []] []),oS 4 2 4 69] .ret))))))⟩
theorem ok93:zf Try.prog Try.f93 F93=true:=by kernel_rfl
def L75_0:ICode:= .loop [2,4,8,9,10] [6,7]
 (sr [
 oP 11 .lss 10 9]
 (.seq
 (.cond (.t 11)
 .skip
 (.exit 0))
 (.seq
 (.block 1
 (sr [
 oI 12 8 8 10,
 oW 13 8 12,
 oO 6 (.boxL 6 (.c (.agg [.int .i64 0,.int .i64 0,.int .i64 0,.str [],.slice .fit 1 [],.slice .fit 1 [],.slice .fit 1 [],.slice .fit 1 []]))),
 oS 6 8 6 13]
 (sr [
 oLa 14 2 2 2,
 oLa 15 6 8 6,
 oO 16 (.call true (.c (.fn 93 [] [])) [.t 14,.t 15]),
 oO 7 (.boxL 7 (.c (.agg [.int .i64 0,.slice .fit 1 []]))),
 oS 7 2 7 16]
 (sr [
 oA 17 0 7,
 oL 18 7 17,
 oD 19 .neq 18 0]
 (.cond (.t 19)
 (sr [
 oLa 20 7 2 7,
 oS 4 2 4 20]
 .ret)
 .skip)))))
 (.region [
 oD 21 .add 10 1,
 oM 10 21]))))
abbrev K75_0:List Nat:=[2,4,8,9]
abbrev B75_0:List Nat:=[2]
def F75:IFn:=⟨23,2,[.cell 4 true 2],false,false,none,(sr [oO 2 (.boxL 2 (.t 0)),oO 4 (.boxL 4 (.c (.agg [.int .i64 0,.slice .fit 1 []])))] (.seq (sr [oE 8 1,oY 9 8,oZ 10 0] (.block 0 L75_0)) (sr [oO 22 (.build [.int .i64 0,.slice .fit 1 []] []),oS 4 2 4 22] .ret)))⟩
theorem ok75:zf Try.prog Try.f75 F75=true:=by kernel_rfl
def F53:IFn:=⟨39,3,[.tmp 6],true,false,none,(sr [oZ 6 0] (sr [oM 9 0,oK 10 9,oA 11 0 10,oA 12 1 11,oG 13 12,oM 14 0,oK 15 14,oA 16 0 15,oW 17 2 16,oM 18 1,cP 19 40 [.t 17,.t 18],oI 20 5 13 19,oO 21 (.load .imm true 5 (.t 20)),oO 7 (.boxL 7 (.c (.agg [.str [],.int .i64 0,.int .i64 0,.slice .fit 1 [],.slice .fit 8 []]))),oS 7 5 7 21] (sr [oM 22 0,oA 23 3 7,oL 24 7 23,oY 25 24,oO 26 (.mksliceS 1 (.int .i64 0) 8 (.t 25) (.t 25)),oO 27 (.build [.nilp,.slice .fit 1 []] [(0,1,(.t 22)),(1,1,(.t 26))]),oO 8 (.boxL 8 (.c (.agg [.nilp,.slice .fit 1 []]))),oS 8 2 8 27] (sr [oA 28 1 8,oL 29 8 28,oE 30 2,oO 31 (.copyS 1 8 (.t 29) (.t 30))] (sr [oLa 32 8 2 8,oA 33 4 7,oL 34 7 33,oO 35 (.call true (.c (.fn 75 [] [])) [.t 32,.t 34]),oO 36 (.fld false 1 1 (.t 35)),oO 37 (.iaddr 1 (.t 36) (cI 0)),oG 38 37,oM 6 38] .ret)))))⟩
theorem ok53:zf Try.prog Try.f53 F53=true:=by kernel_rfl
def H31:HFn where
 ntmps:=13
 nargs:=1
 d:=2
 k:=52
 caps:=[.t 1]
 r1:=2
 r2:=1
 pre:=
 (.region [
 oO 1 (.boxI (.t 0))])
 rest:=
 (sr [
 oH 3 1,
 oH 4 1,
 oO 5 (.call true (.c (.fn 53 [] [])) [(.t 4),(.c (.str [109,97,105,110])),(.c (.slice .fit 1 []))]),
 oK 6 3,
 oA 7 4 6,
 oA 8 1 7,
 oV 8 5]
 (.region [
 oG 9 1,
 oK 10 9,
 oA 11 4 10,
 oA 12 0 11,
 oN (.store .any 1 (.t 12) (cI 1))]))
 code:=
 (sr [
 oM 3 1,
 oO 4 (.ifnil true (.t 3))]
 (.cond (.t 4)
 (.region [
 oG 5 0,
 oM 6 1,
 oO 7 (.tassert 101 (.t 6)),
 oO 8 (.fld false 0 1 (.t 7)),
 oK 9 5,
 oA 10 4 9,
 oA 11 0 10,
 oV 11 8])
 .skip))
theorem okH31:checkH Try.prog Try.f31 Try.f52 H31=true:=by kernel_rfl
def L16_0:ICode:= .loop [6,9,29,30,31] [11]
 (sr [
 oP 32 .lss 31 30]
 (.seq
 (.cond (.t 32)
 .skip
 (.exit 0))
 (.seq
 (.block 1
 (sr [
 oI 33 2 29 31,
 oW 34 2 33,
 oO 11 (.boxL 11 (.c (.agg [.str [],.int .i64 0]))),
 oS 11 2 11 34]
 (.region [
 oM 35 9,
 oK 36 35,
 oA 37 3 36,
 oG 38 37,
 oA 39 0 11,
 oL 40 11 39,
 oA 41 1 11,
 oL 42 11 41,
 oO 43 (.mksliceS 1 (.int .i64 0) 8 (.t 42) (.t 42)),
 oN (.mapset true (.t 38) (.t 40) (.t 43))])))
 (.region [
 oD 44 .add 31 1,
 oM 31 44]))))
abbrev K16_0:List Nat:=[6,9,29,30]
abbrev B16_0:List Nat:=[6]
def F16:IFn:=⟨51,3,[.cell 6 true 5],true,false,none,(sr [oO 3 (.boxL 3 (.t 0)),oO 6 (.boxL 6 (.c (.agg [.int .i64 0,.int .i64 0,.slice .fit 1 [],.int .i64 0,.int .i64 0])))] (.seq (sr [oLa 13 3 2 3,cP 14 9 [.t 13],oM 12 14,oX 15 12 0,oX 16 12 1,oM 7 15,oM 8 16] (sr [oM 17 7,oD 18 .neq 17 0] (.cond (.t 18) (sr [oO 19 (.build [.int .i64 0,.int .i64 0,.slice .fit 1 [],.int .i64 0,.int .i64 0] []),oS 6 5 6 19] .ret) .skip))) (sr [oLa 20 3 2 3,oE 21 1,oO 22 (.mkmap),oM 23 2,oO 24 (.max2 (.t 23) (cI 0)),oO 25 (.build [.int .i64 0,.int .i64 0,.slice .fit 1 [],.int .i64 0,.int .i64 0] [(4,1,(.t 24))]),oO 26 (.buildF [.slice .fit 2 [],.slice .fit 5 [],.slice .fit 1 [],.nilmap,.int .i64 0,.int .i64 0,.slice .fit 1 [],.int .i64 0,.int .i64 0] [(0,2,(.t 20)),(2,1,(.t 21)),(3,1,(.t 22)),(4,5,(.t 25))]),oO 27 (.boxS 9 (.t 26)),oM 9 27] (.seq (sr [oA 28 0 3,oL 29 3 28,oY 30 29,oZ 31 0] (.block 0 L16_0)) (sr [oM 45 9,cF 46 31 [.t 45]] (sr [oM 47 9,oK 48 47,oA 49 4 48,oW 50 5 49,oS 6 5 6 50] .ret))))))⟩
theorem ok16:zf Try.prog Try.f16 F16=true:=by kernel_rfl
def F15:IFn:=⟨10,2,[.cell 4 true 2],false,false,none,(sr [oO 4 (.boxL 4 (.c (.agg [.slice .fit 2 [],.slice .fit 5 []])))] (sr [oE 5 0,oE 6 1,oO 7 (.build [.str [],.int .i64 0,.int .i64 0,.slice .fit 1 [],.slice .fit 8 []] [(0,1,(.c (.str [109,97,105,110]))),(1,1,(cI 1)),(3,1,(.t 5)),(4,1,(.t 6))]),oO 8 (.bsliceS 5 (.agg [.str [],.int .i64 0,.int .i64 0,.slice .fit 1 [],.slice .fit 8 []]) 1 [(0,(.t 7))]),oO 9 (.build [.slice .fit 2 [],.slice .fit 5 []] [(1,1,(.t 8))]),oS 4 2 4 9] .ret))⟩
theorem ok15:zf Try.prog Try.f15 F15=true:=by kernel_rfl
def F18:IFn:=⟨92,0,[.tmp 0],true,false,none,(sr [oC 0 bF] (sr [oZ 1 1] (sr [oO 6 (.bslice 1 (.int .i64 0) 2 [(0,(cI 0)),(1,(cI 1))]),oO 7 (.bslice 1 (.int .i64 0) 2 [(0,(cI 2)),(1,(cI 3))]),oO 8 (.bslice 1 (.int .i64 0) 1 [(0,(cI 4))]),oO 9 (.bslice 1 (.int .i64 0) 2 [(0,(cI 2)),(1,(cI 3))]),oO 10 (.bslice 1 (.int .i64 0) 1 [(0,(cI 5))]),oO 11 (.build [.int .i64 0,.int .i64 0,.int .i64 0,.str [],.slice .fit 1 [],.slice .fit 1 [],.slice .fit 1 [],.slice .fit 1 []] [(0,1,(cI 4)),(1,1,(cI 14)),(4,1,(.t 9)),(5,1,(.t 10))]),oO 12 (.bslice 1 (.int .i64 0) 1 [(0,(cI 5))]),oO 13 (.bslice 1 (.int .i64 0) 1 [(0,(cI 2))]),oO 14 (.build [.int .i64 0,.int .i64 0,.int .i64 0,.str [],.slice .fit 1 [],.slice .fit 1 [],.slice .fit 1 [],.slice .fit 1 []] [(0,1,(cI 14)),(4,1,(.t 13))]),oO 15 (.bslice 8 (.agg [.int .i64 0,.int .i64 0,.int .i64 0,.str [],.slice .fit 1 [],.slice .fit 1 [],.slice .fit 1 [],.slice .fit 1 []]) 1 [(0,(.t 14))]),oO 16 (.bslice 1 (.int .i64 0) 2 [(0,(cI 2)),(1,(cI 3))]),oO 17 (.bslice 1 (.int .i64 0) 1 [(0,(cI 6))]),oO 18 (.build [.int .i64 0,.int .i64 0,.int .i64 0,.str [],.slice .fit 1 [],.slice .fit 1 [],.slice .fit 1 [],.slice .fit 1 []] [(0,1,(cI 4)),(1,1,(cI 1)),(4,1,(.t 16)),(5,1,(.t 17))]),oO 19 (.bslice 1 (.int .i64 0) 2 [(0,(cI 3)),(1,(cI 6))]),oO 20 (.build [.int .i64 0,.int .i64 0,.int .i64 0,.str [],.slice .fit 1 [],.slice .fit 1 [],.slice .fit 1 [],.slice .fit 1 []] [(0,1,(cI 13)),(4,1,(.t 19))]),oO 21 (.bslice 8 (.agg [.int .i64 0,.int .i64 0,.int .i64 0,.str [],.slice .fit 1 [],.slice .fit 1 [],.slice .fit 1 [],.slice .fit 1 []]) 2 [(0,(.t 18)),(1,(.t 20))]),oO 22 (.bslice 1 (.slice .fit 8 []) 2 [(0,(.t 15)),(1,(.t 21))]),oO 23 (.build [.int .i64 0,.int .i64 0,.int .i64 0,.str [],.slice .fit 1 [],.slice .fit 1 [],.slice .fit 1 [],.slice .fit 1 []] [(0,1,(cI 10)),(4,1,(.t 12)),(7,1,(.t 22))]),oO 24 (.bslice 8 (.agg [.int .i64 0,.int .i64 0,.int .i64 0,.str [],.slice .fit 1 [],.slice .fit 1 [],.slice .fit 1 [],.slice .fit 1 []]) 2 [(0,(.t 11)),(1,(.t 23))]),oO 25 (.bslice 1 (.slice .fit 8 []) 1 [(0,(.t 24))]),oO 26 (.build [.int .i64 0,.int .i64 0,.int .i64 0,.str [],.slice .fit 1 [],.slice .fit 1 [],.slice .fit 1 [],.slice .fit 1 []] [(0,1,(cI 11)),(4,1,(.t 6)),(6,1,(.t 7)),(5,1,(.t 8)),(7,1,(.t 25))]),oO 2 (.boxL 2 (.c (.agg [.int .i64 0,.int .i64 0,.int .i64 0,.str [],.slice .fit 1 [],.slice .fit 1 [],.slice .fit 1 [],.slice .fit 1 []]))),oS 2 8 2 26] (sr [oM 27 1,oM 28 1,oM 29 1,oM 30 1,oM 31 1,oM 32 1,oO 33 (.bslice 1 (.int .i64 0) 7 [(0,(.t 27)),(1,(.t 28)),(2,(.t 29)),(3,(.t 30)),(4,(.t 31)),(5,(cI 2)),(6,(.t 32))]),oO 34 (.bslice 1 (.int .i64 0) 1 [(0,(cI 0))]),oO 35 (.build [.int .i64 0,.int .i64 0,.int .i64 0,.str [],.slice .fit 1 [],.slice .fit 1 [],.slice .fit 1 [],.slice .fit 1 []] [(0,1,(cI 1)),(2,1,(cI 5)),(5,1,(.t 34))]),oO 36 (.bslice 1 (.int .i64 0) 1 [(0,(cI 1))]),oO 37 (.build [.int .i64 0,.int .i64 0,.int .i64 0,.str [],.slice .fit 1 [],.slice .fit 1 [],.slice .fit 1 [],.slice .fit 1 []] [(0,1,(cI 1)),(2,1,(cI 7)),(5,1,(.t 36))]),oLa 38 2 8 2,oO 39 (.bslice 1 (.int .i64 0) 1 [(0,(cI 4))]),oO 40 (.build [.int .i64 0,.int .i64 0,.int .i64 0,.str [],.slice .fit 1 [],.slice .fit 1 [],.slice .fit 1 [],.slice .fit 1 []] [(0,1,(cI 9)),(4,1,(.t 39))]),oO 41 (.bslice 1 (.int .i64 0) 1 [(0,(cI 4))]),oO 42 (.build [.int .i64 0,.int .i64 0,.int .i64 0,.str [],.slice .fit 1 [],.slice .fit 1 [],.slice .fit 1 [],.slice .fit 1 []] [(0,1,(cI 15)),(4,1,(.t 41))]),oO 43 (.bsliceS 8 (.agg [.int .i64 0,.int .i64 0,.int .i64 0,.str [],.slice .fit 1 [],.slice .fit 1 [],.slice .fit 1 [],.slice .fit 1 []]) 5 [(0,(.t 35)),(1,(.t 37)),(2,(.t 38)),(3,(.t 40)),(4,(.t 42))]),cF 44 15 [.t 33,.t 43],oO 3 (.boxL 3 (.c (.agg [.slice .fit 2 [],.slice .fit 5 []]))),oS 3 2 3 44] (sr [oA 45 1 3,oL 46 3 45,oO 47 (.iaddr 5 (.t 46) (cI 0)),oA 48 4 47,oG 49 48,oO 50 (.iaddr 8 (.t 49) (cI 0)),oA 51 2 50,oN (.store .any 1 (.t 51) (cI 8))] (.sealK [3] (sr [oLa 52 3 2 3,cP 53 16 [(.t 52),(.c (.slice .fit 1 [])),(cI 100)],oO 4 (.boxL 4 (.c (.agg [.int .i64 0,.int .i64 0,.slice .fit 1 [],.int .i64 0,.int .i64 0]))),oS 4 5 4 53] (sr [oLa 54 3 2 3,cP 55 16 [(.t 54),(.c (.slice .fit 1 [])),(cI 3)],oO 5 (.boxL 5 (.c (.agg [.int .i64 0,.int .i64 0,.slice .fit 1 [],.int .i64 0,.int .i64 0]))),oS 5 5 5 55] (sr [oA 56 0 4,oL 57 4 56,oD 58 .eql 57 1,oM 59 58,oT 59 60 (.faddr 1 (.t 4)),oT 59 61 (.load (.box 4) false 1 (.t 60)),oT 59 62 (.bin 0 [] .eql (.t 61) (cI 8)),oO 63 (.pick (.t 59) (.t 62) (.c bF)),oM 64 63,oT 64 65 (.faddr 2 (.t 4)),oT 64 66 (.load (.box 4) false 1 (.t 65)),oT 64 67 (.len 1 (.t 66)),oT 64 68 (.bin 0 [] .eql (.t 67) (cI 1)),oO 69 (.pick (.t 64) (.t 68) (.c bF)),oM 70 69,oT 70 71 (.faddr 2 (.t 4)),oT 70 72 (.load (.box 4) false 1 (.t 71)),oT 70 73 (.iaddr 1 (.t 72) (cI 0)),oT 70 74 (.load .any false 1 (.t 73)),oT 70 75 (.bin 0 [] .eql (.t 74) (cI 8)),oO 76 (.pick (.t 70) (.t 75) (.c bF)),oM 77 76,oT 77 78 (.faddr 3 (.t 4)),oT 77 79 (.load (.box 4) false 1 (.t 78)),oT 77 80 (.bin 0 [] .eql (.t 79) (cI 2)),oO 81 (.pick (.t 77) (.t 80) (.c bF)),oM 82 81,oT 82 83 (.faddr 0 (.t 5)),oT 82 84 (.load (.box 5) false 1 (.t 83)),oT 82 85 (.bin 0 [] .eql (.t 84) (cI 0)),oO 86 (.pick (.t 82) (.t 85) (.c bF)),oM 87 86,oT 87 88 (.faddr 4 (.t 5)),oT 87 89 (.load (.box 5) false 1 (.t 88)),oT 87 90 (.bin 0 [] .eql (.t 89) (cI 0)),oO 91 (.pick (.t 87) (.t 90) (.c bF)),oM 0 91] .ret)))))))))⟩
theorem ok18:zf Try.prog Try.f18 F18=true:=by kernel_rfl
def F19:IFn:=⟨9,1,[.tmp 2],false,false,none,(sr [oC 2 (.slice .fit 1 [])] (.seq (sr [oM 3 0,oY 4 3,oD 5 .gtr 4 10] (.cond (.t 5) (sr [oE 6 0,oO 7 (.slc false 1 (.t 6) none (some (cI 10)) none),oE 2 7] .ret) .skip)) (sr [oE 8 0,oE 2 8] .ret)))⟩
theorem ok19:zf Try.prog Try.f19 F19=true:=by kernel_rfl
def L33_0:ICode:= .loop [0,1,5] []
 (.seq
 (sr [
 oM 11 5,
 oM 12 0,
 oY 13 12,
 oP 14 .lss 11 13]
 (.cond (.t 14)
 .skip
 (.exit 0)))
 (.seq
 (.block 1
 (sr [
 oM 17 0,
 oM 18 5,
 oI 19 1 17 18,
 oH 20 19,
 oM 21 1,
 oM 22 5,
 oI 23 1 21 22,
 oH 24 23,
 oP 25 .neq 20 24]
 (.cond (.t 25)
 (sr [
 oC 4 bF]
 .ret)
 .skip)))
 (.region [
 oM 15 5,
 oD 16 .add 15 1,
 oM 5 16])))
abbrev K33_0:List Nat:=[0,1]
abbrev B33_0:List Nat:=[]
def F33:IFn:=⟨26,2,[.tmp 4],false,false,none,(sr [oC 4 bF] (.seq (sr [oM 6 0,oY 7 6,oM 8 1,oY 9 8,oP 10 .neq 7 9] (.cond (.t 10) (sr [oC 4 bF] .ret) .skip)) (.seq (sr [oZ 5 0] (.block 0 L33_0)) (sr [oC 4 bT] .ret))))⟩
theorem ok33:zf Try.prog Try.f33 F33=true:=by kernel_rfl
def F34:IFn:=⟨24,2,[.tmp 4],false,false,none,(sr [oO 2 (.boxL 2 (.t 0)),oO 3 (.boxL 3 (.t 1)),oC 4 bF] (sr [oA 5 0 2,oL 6 2 5,oA 7 0 3,oL 8 3 7,oP 9 .eql 6 8,oM 10 9,oT 10 11 (.faddr 1 (.t 2)),oT 10 12 (.load (.box 2) false 1 (.t 11)),oT 10 13 (.faddr 1 (.t 3)),oT 10 14 (.load (.box 3) false 1 (.t 13)),oT 10 15 (.bin 0 [] .eql (.t 12) (.t 14)),oO 16 (.pick (.t 10) (.t 15) (.c bF)),oM 17 16,oT 17 18 (.faddr 2 (.t 2)),oT 17 19 (.load (.box 2) false 1 (.t 18)),oT 17 20 (.faddr 2 (.t 3)),oT 17 21 (.load (.box 3) false 1 (.t 20)),oT 17 22 (pP 33 [.t 19,.t 21]),oO 23 (.pick (.t 17) (.t 22) (.c bF)),oM 4 23] .ret))⟩
theorem ok34:zf Try.prog Try.f34 F34=true:=by kernel_rfl
def F20:IFn:=⟨29,2,[.tmp 4],false,false,none,(sr [oO 2 (.boxL 2 (.t 0)),oO 3 (.boxL 3 (.t 1)),oC 4 bF] (.seq (sr [oA 5 0 2,oL 6 2 5,oD 7 .eql 6 0] (.cond (.t 7) (sr [oA 8 2 2,oL 9 2 8,oY 10 9,oA 11 2 3,oL 12 3 11,oY 13 12,oP 14 .leq 10 13,oM 15 14,oT 15 16 (.faddr 2 (.t 2)),oT 15 17 (.load (.box 2) false 1 (.t 16)),oT 15 18 (.faddr 2 (.t 3)),oT 15 19 (.load (.box 3) false 1 (.t 18)),oT 15 20 (.faddr 2 (.t 2)),oT 15 21 (.load (.box 2) false 1 (.t 20)),oT 15 22 (.len 1 (.t 21)),oT 15 23 (.slc false 1 (.t 19) none (some (.t 22)) none),oT 15 24 (pP 33 [.t 17,.t 23]),oO 25 (.pick (.t 15) (.t 24) (.c bF)),oM 4 25] .ret) .skip)) (sr [oLa 26 2 5 2,oLa 27 3 5 3,cP 28 34 [.t 26,.t 27],oM 4 28] .ret)))⟩
theorem ok20:zf Try.prog Try.f20 F20=true:=by kernel_rfl
def F21:IFn:=⟨38,2,[.tmp 4],false,false,none,(sr [oO 2 (.boxL 2 (.t 0)),oO 3 (.boxL 3 (.t 1)),oC 4 bF] (sr [oA 5 0 2,oL 6 2 5,oA 7 0 3,oL 8 3 7,oP 9 .eql 6 8,oM 10 9,oT 10 11 (.faddr 1 (.t 2)),oT 10 12 (.load (.box 2) false 1 (.t 11)),oT 10 13 (.faddr 1 (.t 3)),oT 10 14 (.load (.box 3) false 1 (.t 13)),oT 10 15 (.bin 0 [] .eql (.t 12) (.t 14)),oO 16 (.pick (.t 10) (.t 15) (.c bF)),oM 17 16,oT 17 18 (.faddr 2 (.t 2)),oT 17 19 (.load (.box 2) false 1 (.t 18)),oT 17 20 (.faddr 2 (.t 3)),oT 17 21 (.load (.box 3) false 1 (.t 20)),oT 17 22 (pP 33 [.t 19,.t 21]),oO 23 (.pick (.t 17) (.t 22) (.c bF)),oM 24 23,oT 24 25 (.faddr 3 (.t 2)),oT 24 26 (.load (.box 2) false 1 (.t 25)),oT 24 27 (.faddr 3 (.t 3)),oT 24 28 (.load (.box 3) false 1 (.t 27)),oT 24 29 (.bin 0 [] .eql (.t 26) (.t 28)),oO 30 (.pick (.t 24) (.t 29) (.c bF)),oM 31 30,oT 31 32 (.faddr 4 (.t 2)),oT 31 33 (.load (.box 2) false 1 (.t 32)),oT 31 34 (.faddr 4 (.t 3)),oT 31 35 (.load (.box 3) false 1 (.t 34)),oT 31 36 (.bin 0 [] .eql (.t 33) (.t 35)),oO 37 (.pick (.t 31) (.t 36) (.c bF)),oM 4 37] .ret))⟩
theorem ok21:zf Try.prog Try.f21 F21=true:=by kernel_rfl
def F6:IFn:=⟨66,4,[.tmp 8],false,false,none,(sr [oC 8 bF] (sr [cP 13 18 [],oM 9 13] (.seq (sr [oM 14 9,oU 15 14] (.cond (.t 15) (sr [oC 8 bF] .ret) .skip)) (sr [oE 16 0,cP 17 8 [.t 16],oO 10 (.boxL 10 (.c (.agg [.slice .fit 2 [],.slice .fit 5 []]))),oS 10 2 10 17] (sr [oLa 18 10 2 10,oM 19 1,cP 20 19 [.t 19],oM 21 2,oO 22 (.conv .i64 (.t 21)),cP 23 16 [.t 18,.t 20,.t 22],oO 11 (.boxL 11 (.c (.agg [.int .i64 0,.int .i64 0,.slice .fit 1 [],.int .i64 0,.int .i64 0]))),oS 11 5 11 23] (sr [oLa 24 10 2 10,oE 25 1,cP 26 19 [.t 25],oM 27 2,oO 28 (.conv .i64 (.t 27)),oM 29 3,oO 30 (.conv .i64 (.t 29)),oP 31 .add 28 30,cP 32 16 [.t 24,.t 26,.t 31],oO 12 (.boxL 12 (.c (.agg [.int .i64 0,.int .i64 0,.slice .fit 1 [],.int .i64 0,.int .i64 0]))),oS 12 5 12 32] (.seq (sr [oA 33 0 11,oL 34 11 33,oD 35 .eql 34 0] (.cond (.t 35) (sr [oM 36 9,oM 37 36,oT 37 38 (.faddr 4 (.t 11)),oT 37 39 (.load (.box 11) false 1 (.t 38)),oT 37 40 (.bin 0 [] .eql (.t 39) (cI 0)),oO 41 (.pick (.t 37) (.t 40) (.c bF)),oM 42 41,oT 42 43 (.load (.box 11) true 5 (.t 11)),oT 42 44 (.load (.box 12) true 5 (.t 12)),oT 42 45 (pP 20 [.t 43,.t 44]),oO 46 (.pick (.t 42) (.t 45) (.c bF)),oM 47 46,oT 47 48 (.faddr 3 (.t 11)),oT 47 49 (.load (.box 11) false 1 (.t 48)),oT 47 50 (.faddr 3 (.t 12)),oT 47 51 (.load (.box 12) false 1 (.t 50)),oT 47 52 (.bin 0 [] .leq (.t 49) (.t 51)),oO 53 (.pick (.t 47) (.t 52) (.c bF)),oM 8 53] .ret) .skip)) (sr [oA 54 4 11,oL 55 11 54,oM 56 3,oO 57 (.conv .i64 (.t 56)),oP 58 .add 55 57,oA 59 4 11,oS 11 1 59 58] (sr [oM 60 9,oM 61 60,oT 61 62 (.load (.box 11) true 5 (.t 11)),oT 61 63 (.load (.box 12) true 5 (.t 12)),oT 61 64 (pP 21 [.t 62,.t 63]),oO 65 (.pick (.t 61) (.t 64) (.c bF)),oM 8 65] .ret)))))))))⟩
theorem ok6:zf Try.prog Try.f6 F6=true:=by kernel_rfl
def F7:IFn:=⟨49,4,[.tmp 8],false,false,none,(sr [oC 8 bF] (sr [cP 14 18 [],oM 9 14] (.seq (sr [oM 15 9,oU 16 15] (.cond (.t 16) (sr [oC 8 bF] .ret) .skip)) (sr [oE 17 0,cP 18 8 [.t 17],oO 10 (.boxL 10 (.c (.agg [.slice .fit 2 [],.slice .fit 5 []]))),oS 10 2 10 18] (sr [oC 11 (.slice .fit 1 [])] (sr [oE 19 11,oM 20 1,cP 21 19 [.t 20],oO 22 (.append 1 8 (.t 19) (.t 21)),oE 11 22] (sr [oE 23 11,oE 24 2,cP 25 19 [.t 24],oO 26 (.append 1 8 (.t 23) (.t 25)),oE 11 26] (sr [oLa 27 10 2 10,oE 28 1,cP 29 19 [.t 28],oM 30 3,oO 31 (.conv .i64 (.t 30)),cP 32 16 [.t 27,.t 29,.t 31],oO 12 (.boxL 12 (.c (.agg [.int .i64 0,.int .i64 0,.slice .fit 1 [],.int .i64 0,.int .i64 0]))),oS 12 5 12 32] (sr [oLa 33 10 2 10,oE 34 11,oM 35 3,oO 36 (.conv .i64 (.t 35)),cP 37 16 [.t 33,.t 34,.t 36],oO 13 (.boxL 13 (.c (.agg [.int .i64 0,.int .i64 0,.slice .fit 1 [],.int .i64 0,.int .i64 0]))),oS 13 5 13 37] (sr [oM 38 9,oM 39 38,oT 39 40 (.faddr 0 (.t 12)),oT 39 41 (.load (.box 12) false 1 (.t 40)),oT 39 42 (.bin 0 [] .eql (.t 41) (cI 4)),oTm 39 43 42,oF 43 44 (.load (.box 12) true 5 (.t 12)),oF 43 45 (.load (.box 13) true 5 (.t 13)),oF 43 46 (pP 21 [.t 44,.t 45]),oT 39 47 (.pick (.t 43) (.c bT) (.t 46)),oO 48 (.pick (.t 39) (.t 47) (.c bF)),oM 8 48] .ret))))))))))⟩
theorem ok7:zf Try.prog Try.f7 F7=true:=by kernel_rfl
def fns:Nat->Option IFn
 |36=>some F36
 |35=>some F35
 |54=>some F54
 |76=>some F76
 |57=>some F57
 |55=>some F55
 |56=>some F56
 |79=>some F79
 |77=>some F77
 |78=>some F78
 |58=>some F58
 |59=>some F59
 |37=>some F37
 |22=>some F22
 |8=>some F8
 |60=>some F60
 |80=>some F80
 |61=>some F61
 |62=>some F62
 |38=>some F38
 |39=>some F39
 |63=>some F63
 |64=>some F64
 |40=>some F40
 |23=>some F23
 |65=>some F65
 |41=>some F41
 |42=>some F42
 |49=>some F49
 |91=>some F91
 |72=>some F72
 |92=>some F92
 |74=>some F74
 |73=>some F73
 |50=>some F50
 |51=>some F51
 |29=>some F29
 |81=>some F81
 |110=>some F110
 |94=>some F94
 |111=>some F111
 |112=>some F112
 |95=>some F95
 |113=>some F113
 |97=>some F97
 |96=>some F96
 |82=>some F82
 |67=>some F67
 |83=>some F83
 |84=>some F84
 |114=>some F114
 |122=>some F122
 |115=>some F115
 |98=>some F98
 |123=>some F123
 |116=>some F116
 |117=>some F117
 |99=>some F99
 |85=>some F85
 |66=>some F66
 |43=>some F43
 |24=>some F24
 |9=>some F9
 |104=>some F104
 |105=>some F105
 |106=>some F106
 |107=>some F107
 |108=>some F108
 |124=>some F124
 |118=>some F118
 |126=>some F126
 |125=>some F125
 |119=>some F119
 |120=>some F120
 |121=>some F121
 |109=>some F109
 |93=>some F93
 |75=>some F75
 |53=>some F53
 |16=>some F16
 |15=>some F15
 |18=>some F18
 |19=>some F19
 |33=>some F33
 |34=>some F34
 |20=>some F20
 |21=>some F21
 |6=>some F6
 |7=>some F7
 |_=>none
set_option maxRecDepth 100000 in
theorem fnsOk:∀f F,fns f=some F->∃fn,Try.prog.funcs[f]? =some fn/\zf Try.prog fn F=true:=by
 intro f F h;unfold fns at h;split at h
 ·cases h;exact⟨Try.f36,Try.func36,ok36⟩
 ·cases h;exact⟨Try.f35,Try.func35,ok35⟩
 ·cases h;exact⟨Try.f54,Try.func54,ok54⟩
 ·cases h;exact⟨Try.f76,Try.func76,ok76⟩
 ·cases h;exact⟨Try.f57,Try.func57,ok57⟩
 ·cases h;exact⟨Try.f55,Try.func55,ok55⟩
 ·cases h;exact⟨Try.f56,Try.func56,ok56⟩
 ·cases h;exact⟨Try.f79,Try.func79,ok79⟩
 ·cases h;exact⟨Try.f77,Try.func77,ok77⟩
 ·cases h;exact⟨Try.f78,Try.func78,ok78⟩
 ·cases h;exact⟨Try.f58,Try.func58,ok58⟩
 ·cases h;exact⟨Try.f59,Try.func59,ok59⟩
 ·cases h;exact⟨Try.f37,Try.func37,ok37⟩
 ·cases h;exact⟨Try.f22,Try.func22,ok22⟩
 ·cases h;exact⟨Try.f8,Try.func8,ok8⟩
 ·cases h;exact⟨Try.f60,Try.func60,ok60⟩
 ·cases h;exact⟨Try.f80,Try.func80,ok80⟩
 ·cases h;exact⟨Try.f61,Try.func61,ok61⟩
 ·cases h;exact⟨Try.f62,Try.func62,ok62⟩
 ·cases h;exact⟨Try.f38,Try.func38,ok38⟩
 ·cases h;exact⟨Try.f39,Try.func39,ok39⟩
 ·cases h;exact⟨Try.f63,Try.func63,ok63⟩
 ·cases h;exact⟨Try.f64,Try.func64,ok64⟩
 ·cases h;exact⟨Try.f40,Try.func40,ok40⟩
 ·cases h;exact⟨Try.f23,Try.func23,ok23⟩
 ·cases h;exact⟨Try.f65,Try.func65,ok65⟩
 ·cases h;exact⟨Try.f41,Try.func41,ok41⟩
 ·cases h;exact⟨Try.f42,Try.func42,ok42⟩
 ·cases h;exact⟨Try.f49,Try.func49,ok49⟩
 ·cases h;exact⟨Try.f91,Try.func91,ok91⟩
 ·cases h;exact⟨Try.f72,Try.func72,ok72⟩
 ·cases h;exact⟨Try.f92,Try.func92,ok92⟩
 ·cases h;exact⟨Try.f74,Try.func74,ok74⟩
 ·cases h;exact⟨Try.f73,Try.func73,ok73⟩
 ·cases h;exact⟨Try.f50,Try.func50,ok50⟩
 ·cases h;exact⟨Try.f51,Try.func51,ok51⟩
 ·cases h;exact⟨Try.f29,Try.func29,ok29⟩
 ·cases h;exact⟨Try.f81,Try.func81,ok81⟩
 ·cases h;exact⟨Try.f110,Try.func110,ok110⟩
 ·cases h;exact⟨Try.f94,Try.func94,ok94⟩
 ·cases h;exact⟨Try.f111,Try.func111,ok111⟩
 ·cases h;exact⟨Try.f112,Try.func112,ok112⟩
 ·cases h;exact⟨Try.f95,Try.func95,ok95⟩
 ·cases h;exact⟨Try.f113,Try.func113,ok113⟩
 ·cases h;exact⟨Try.f97,Try.func97,ok97⟩
 ·cases h;exact⟨Try.f96,Try.func96,ok96⟩
 ·cases h;exact⟨Try.f82,Try.func82,ok82⟩
 ·cases h;exact⟨Try.f67,Try.func67,ok67⟩
 ·cases h;exact⟨Try.f83,Try.func83,ok83⟩
 ·cases h;exact⟨Try.f84,Try.func84,ok84⟩
 ·cases h;exact⟨Try.f114,Try.func114,ok114⟩
 ·cases h;exact⟨Try.f122,Try.func122,ok122⟩
 ·cases h;exact⟨Try.f115,Try.func115,ok115⟩
 ·cases h;exact⟨Try.f98,Try.func98,ok98⟩
 ·cases h;exact⟨Try.f123,Try.func123,ok123⟩
 ·cases h;exact⟨Try.f116,Try.func116,ok116⟩
 ·cases h;exact⟨Try.f117,Try.func117,ok117⟩
 ·cases h;exact⟨Try.f99,Try.func99,ok99⟩
 ·cases h;exact⟨Try.f85,Try.func85,ok85⟩
 ·cases h;exact⟨Try.f66,Try.func66,ok66⟩
 ·cases h;exact⟨Try.f43,Try.func43,ok43⟩
 ·cases h;exact⟨Try.f24,Try.func24,ok24⟩
 ·cases h;exact⟨Try.f9,Try.func9,ok9⟩
 ·cases h;exact⟨Try.f104,Try.func104,ok104⟩
 ·cases h;exact⟨Try.f105,Try.func105,ok105⟩
 ·cases h;exact⟨Try.f106,Try.func106,ok106⟩
 ·cases h;exact⟨Try.f107,Try.func107,ok107⟩
 ·cases h;exact⟨Try.f108,Try.func108,ok108⟩
 ·cases h;exact⟨Try.f124,Try.func124,ok124⟩
 ·cases h;exact⟨Try.f118,Try.func118,ok118⟩
 ·cases h;exact⟨Try.f126,Try.func126,ok126⟩
 ·cases h;exact⟨Try.f125,Try.func125,ok125⟩
 ·cases h;exact⟨Try.f119,Try.func119,ok119⟩
 ·cases h;exact⟨Try.f120,Try.func120,ok120⟩
 ·cases h;exact⟨Try.f121,Try.func121,ok121⟩
 ·cases h;exact⟨Try.f109,Try.func109,ok109⟩
 ·cases h;exact⟨Try.f93,Try.func93,ok93⟩
 ·cases h;exact⟨Try.f75,Try.func75,ok75⟩
 ·cases h;exact⟨Try.f53,Try.func53,ok53⟩
 ·cases h;exact⟨Try.f16,Try.func16,ok16⟩
 ·cases h;exact⟨Try.f15,Try.func15,ok15⟩
 ·cases h;exact⟨Try.f18,Try.func18,ok18⟩
 ·cases h;exact⟨Try.f19,Try.func19,ok19⟩
 ·cases h;exact⟨Try.f33,Try.func33,ok33⟩
 ·cases h;exact⟨Try.f34,Try.func34,ok34⟩
 ·cases h;exact⟨Try.f20,Try.func20,ok20⟩
 ·cases h;exact⟨Try.f21,Try.func21,ok21⟩
 ·cases h;exact⟨Try.f6,Try.func6,ok6⟩
 ·cases h;exact⟨Try.f7,Try.func7,ok7⟩
 ·cases h
def hand:Nat->Option HFn
 |31=>some H31
 |_=>none
set_option maxRecDepth 100000 in
theorem handOk:∀f H,hand f=some H->∃fn cl,Try.prog.funcs[f]? =some fn/\Try.prog.funcs[H.k]? =some cl/\checkH Try.prog fn cl H=true:=by
 intro f H h;unfold hand at h;split at h
 ·cases h;exact⟨Try.f31,Try.f52,Try.func31,Try.func52,okH31⟩
 ·cases h
noncomputable def E:Env:={fn:=fns,ext:=fun _=>none,hand:=hand}
theorem envOk:EnvOk Try.prog [] E:=⟨fnsOk,fun f g h args st r st' hg=>(nomatch h),handOk⟩
end PE.U

namespace PE.U
open Go PE
theorem zFa(b:Bool)(σ:zb):zh E 124 [.bool b] σ=some (.ret (.int .i64 (if b then 1 else 0)),σ):=by
 refine zc rfl rfl rfl rfl ?_;cases b<;>simp[F124]
noncomputable def one(op a:Int):Int:=
 if op=20 then W (0-a)else if op=21 then xor64 (-1) a else if op=22 then(if a=0 then 1 else 0)
 else if op=23 then W (zM .i8 a)else if op=24 then W (zM .i16 a)else if op=25 then W (zM .i32 a)
 else if op=26 then W (zM .u8 a)else if op=27 then W (zM .u16 a)else if op=28 then W (zM .u32 a)else 0
theorem one_spec(op a:Int)(σ:zb):zh E 118 [.int .i64 op,.int .i64 a] σ=some (.ret (.int .i64 (one op a)),σ):=by
 refine zc rfl rfl rfl rfl ?_;by_cases h1:op=20
 ·subst h1;simp[F118,one]
 by_cases h2:op=21
 ·subst h2;simp[F118,one]
 by_cases h3:op=22
 ·subst h3;simp[F118,one,zFa]
 by_cases h4:op=23
 ·subst h4;simp[F118,one,zFa]
 by_cases h5:op=24
 ·subst h5;simp[F118,one,zFa]
 by_cases h6:op=25
 ·subst h6;simp[F118,one,zFa]
 by_cases h7:op=26
 ·subst h7;simp[F118,one,zFa]
 by_cases h8:op=27
 ·subst h8;simp[F118,one,zFa]
 by_cases h9:op=28
 ·subst h9;simp[F118,one,zFa]
 simp[F118,one,h1,h2,h3,h4,h5,h6,h7,h8,h9]
def cmp(op a b:Int):Bool×Bool:=
 if op=12 then(decide (a<b),true)else if op=13 then(decide (a<=b),true)else if op=14 then(decide (b<a),true)
 else if op=15 then(decide (b<=a),true)else if op=16 then(decide (a=b),true)else if op=17 then(!decide (a=b),true)else(false,false)
theorem zea(op a b:Int)(σ:zb):zh E 126 [.int .i64 op,.int .i64 a,.int .i64 b] σ=some (.ret (.tup [.bool (cmp op a b).1,.bool (cmp op a b).2]),σ):=by
 refine zc rfl rfl rfl rfl ?_;by_cases h1:op=12
 ·subst h1;simp[F126,cmp]
 by_cases h2:op=13
 ·subst h2;simp[F126,cmp]
 by_cases h3:op=14
 ·subst h3;simp[F126,cmp]
 by_cases h4:op=15
 ·subst h4;simp[F126,cmp]
 by_cases h5:op=16
 ·subst h5;simp[F126,cmp]
 by_cases h6:op=17
 ·subst h6;simp[F126,cmp]
 simp[F126,cmp,h1,h2,h3,h4,h5,h6]
noncomputable def two(op a b:Int):Int×Bool:=
 if(cmp op a b).2=true then(if(cmp op a b).1=true then 1 else 0,true)
 else if op=1 then(W (a+b),true)else if op=2 then(W (a-b),true)else if op=3 then(W (a*b),true)
 else if op=6 then(and64 a b,true)else if op=7 then(or64 a b,true)else if op=8 then(xor64 a b,true)
 else if op=9 then(W (a*2^(min (and64 b 63).toNat 64)),true)else if op=10 then(shrK a (min (and64 b 63).toNat 64),true)
 else if op=11 then(W (shrK (zM .u64 a) (min (and64 b 63).toNat 64)),true)
 else if b=0 then(0,false)else if op=4 then(W (a.tdiv b),true)else if op=5 then(remK a b,true)else(0,false)
theorem wrap64(n:Int):W n=(yq 64 n).toInt:=by
 rw[BitVec.toInt_ofInt,W,zL,IntKind.wrap_i64];unfold Int.bmod;simp only;split<;>omega
theorem zMc(z:BitVec 64):W (z.toNat:Int)=z.toInt:=by
 rw[wrap64];simp
theorem and64_eq(a b:Int):and64 a b=(yq 64 a&&&yq 64 b).toInt:=(andK_eq .i64 a b).trans ((zL _ _).symm.trans (zMc (yq 64 a&&&yq 64 b)))
theorem or64_eq(a b:Int):or64 a b=(yq 64 a|||yq 64 b).toInt:=(orK_eq .i64 a b).trans ((zL _ _).symm.trans (zMc (yq 64 a|||yq 64 b)))
theorem xor64_eq(a b:Int):xor64 a b=(yq 64 a^^^yq 64 b).toInt:=(xorK_eq .i64 a b).trans ((zL _ _).symm.trans (zMc (yq 64 a^^^yq 64 b)))
theorem and_mask(a:Int)(m:Nat)(hm:m<63):and64 a (2^m-1)=a%2^m:=by
 rw[and64_eq];have e:(yq 64 (2^m-1)).toNat=2^m-1:=by
  have h1:(2:Nat)^m<2^63:=Nat.pow_lt_pow_right (by decide) hm;have h2:0<(2:Nat)^m:=Nat.pow_pos (by decide);have h3:((2:Int)^m-1)=(((2:Nat)^m-1:Nat):Int):=by
   rw[Int.natCast_sub h2];simp
  rw[h3,BitVec.ofInt_natCast,BitVec.toNat_ofNat];apply Nat.mod_eq_of_lt;omega
 have hN:(yq 64 a&&&yq 64 (2^m-1)).toNat=(yq 64 a).toNat%2^m:=by
  rw[BitVec.toNat_and,e,Nat.and_two_pow_sub_one_eq_mod]
 have hlt:(yq 64 a).toNat%2^m<2^63:=by
  have h1:(2:Nat)^m<2^63:=Nat.pow_lt_pow_right (by decide) hm;have:=Nat.mod_lt (yq 64 a).toNat (Nat.pow_pos (n:=m) (show 0<2 by decide));omega
 rw[BitVec.toInt_eq_toNat_cond,if_pos (by rw[hN];omega),hN,BitVec.toNat_ofInt,Int.natCast_emod,Int.toNat_of_nonneg (Int.emod_nonneg _ (by decide))];have:((2^m:Nat):Int)=(2:Int)^m:=by simp
 rw[this];apply Int.emod_emod_of_dvd;have hd:(2:Nat)^m∣2^64:=Nat.pow_dvd_pow 2 (by omega);have:=Int.natCast_dvd_natCast.2 hd;simpa using this
theorem and63(b:Int):0<=and64 b 63/\and64 b 63<64:=by
 have:=and_mask b 6 (by decide);simp at this;rw[this];omega
theorem and63'(b:Int):¬and64 b 63<0:=by have:=(and63 b).1;omega
theorem two_spec(op a b:Int)(σ:zb):zh E 125 [.int .i64 op,.int .i64 a,.int .i64 b] σ=some (.ret (.tup [.int .i64 (two op a b).1,.bool (two op a b).2]),σ):=by
 refine zc rfl rfl rfl rfl ?_;by_cases hc:(cmp op a b).2=true
 ·simp[F125,two,zea,hc,zFa]
 have hc':(cmp op a b).2=false:=by simpa using hc
 by_cases h1:op=1
 ·subst h1;simp[F125,two,zea,hc']
 by_cases h2:op=2
 ·subst h2;simp[F125,two,zea,hc']
 by_cases h3:op=3
 ·subst h3;simp[F125,two,zea,hc']
 by_cases h4:op=6
 ·subst h4;simp[F125,two,zea,hc']
 by_cases h5:op=7
 ·subst h5;simp[F125,two,zea,hc']
 by_cases h6:op=8
 ·subst h6;simp[F125,two,zea,hc']
 by_cases h7:op=9
 ·subst h7;simp[F125,two,zea,hc',and63',yta]
 by_cases h8:op=10
 ·subst h8;simp[F125,two,zea,hc',and63',yta]
 by_cases h9:op=11
 ·subst h9;simp[F125,two,zea,hc',and63',yta]
 by_cases h10:b=0
 ·subst h10;simp[F125,two,zea,hc',h1,h2,h3,h4,h5,h6,h7,h8,h9]
 by_cases h11:op=4
 ·subst h11;simp[F125,two,zea,hc',h10]
 by_cases h12:op=5
 ·subst h12;simp[F125,two,zea,hc',h10]
 simp[F125,two,zea,hc',h1,h2,h3,h4,h5,h6,h7,h8,h9,h10,h11,h12]
theorem W_id(n:Int)(h: -9223372036854775808<=n)(h':n<=9223372036854775807):W n=n:=by
 rw[W,zL,IntKind.wrap_i64];omega
theorem wrapK_i8(n:Int):zM .i8 n=(n+128)%256-128:=by
 rw[zL];simp[yN,yta,yya];split<;>omega
theorem wrapK_i16(n:Int):zM .i16 n=(n+32768)%65536-32768:=by
 rw[zL];simp[yN,yta,yya];split<;>omega
theorem wrapK_i32(n:Int):zM .i32 n=(n+2147483648)%4294967296-2147483648:=by
 rw[zL,IntKind.wrap_i32]
theorem wrapK_u8(n:Int):zM .u8 n=n%256:=by rw[zL,IntKind.wrap_u8]
theorem wrapK_u16(n:Int):zM .u16 n=n%65536:=by
 rw[zL];simp[yN,yta,yya]
theorem wrapK_u32(n:Int):zM .u32 n=n%4294967296:=by rw[zL,IntKind.wrap_u32]
theorem not64(a:Int):xor64 (-1) a=W (-1-a):=by
 rw[xor64_eq,wrap64];congr 1;have h1:yq 64 (-1)=BitVec.allOnes 64:=by decide
 rw[h1,BitVec.allOnes_xor];have h2:(-1-a)= -a-1:=by omega
 apply BitVec.eq_of_toInt_eq;rw[BitVec.toInt_not,BitVec.toInt_ofInt,BitVec.toNat_ofInt];have:0<=a%((2^64:Nat):Int):=Int.emod_nonneg _ (by decide);simp only[Int.bmod];omega
structure Node where
 kind:Int
 op:Int
 n:Int
 name:List UInt8
 args:List Int
 outs:List Int
 params:List Int
 kids:List (List Node)
structure Flow where
 name:List UInt8
 type:Int
 params:Int
 types:List Int
 body:List Node
structure Arr where
 name:List UInt8
 size:Int
structure Unt where
 arrays:List Arr
 flows:List Flow
abbrev int(n:Int):PV:= .int .i64 n
def ints(l:List Int):PV:= .slice .plain 1 (l.map (PV.int .i64))
mutual
def zJ:Node->PV
 |⟨k,o,n,s,a,u,p,ks⟩=> .agg [.int .i64 k,.int .i64 o,.int .i64 n,.str s,ints a,ints u,ints p,.slice .plain 1 (encK ks)]
def encL:List Node->List PV
 | []=>[]
 |x::r=>zJ x::encL r
def encK:List (List Node)->List PV
 | []=>[]
 |l::r=> .slice .plain 8 (encL l)::encK r
end
theorem encL_eq(l:List Node):encL l=l.map zJ:=by
 induction l with
 |nil=>rfl
 |cons x r ih=>rw[encL,ih];rfl
def zn(l:List Node):PV:= .slice .plain 8 (l.map zJ)
def kids(l:List (List Node)):PV:= .slice .plain 1 (l.map zn)
theorem encK_eq(l:List (List Node)):encK l=l.map zn:=by
 induction l with
 |nil=>rfl
 |cons x r ih=>rw[encK,ih,encL_eq];rfl
theorem za(x:Node):zJ x= .agg [.int .i64 x.kind,.int .i64 x.op,.int .i64 x.n,.str x.name,ints x.args,ints x.outs,ints x.params,kids x.kids]:=by
 cases x;simp[zJ,encK_eq,kids]
mutual
theorem flatN(k:Nat):∀x:Node,zo k (zJ x)=true
 |⟨_,_,_,_,a,u,p,ks⟩=>by simp[zJ,ints,flatK k ks]
theorem flatL(k:Nat):∀l:List Node,zK k (encL l)=true
 | []=>rfl
 |x::r=>by simp[encL,flatN k x,flatL k r]
theorem flatK(k:Nat):∀l:List (List Node),zK k (encK l)=true
 | []=>rfl
 |x::r=>by simp[encK,flatL k x,flatK k r]
end
def zi(f:Flow):PV:= .agg [.str f.name,.int .i64 f.type,.int .i64 f.params,ints f.types,zn f.body]
def zY(a:Arr):PV:= .agg [.str a.name,.int .i64 a.size]
def flows(l:List Flow):PV:= .slice .plain 5 (l.map zi)
def arrs(l:List Arr):PV:= .slice .plain 2 (l.map zY)
def zE(u:Unt):PV:= .agg [arrs u.arrays,flows u.flows]
section
variable (k:Nat)
@[simp] theorem flat_ints(l:List Int):zo k (ints l)=true:=by simp[ints]
@[simp] theorem flat_node(x:Node):zo k (zJ x)=true:=flatN k x
@[simp] theorem flat_nodes(l:List Node):zo k (zn l)=true:=by simp[zn]
@[simp] theorem flat_kids(l:List (List Node)):zo k (kids l)=true:=by simp[kids]
@[simp] theorem flat_flow(f:Flow):zo k (zi f)=true:=by simp[zi]
@[simp] theorem flat_arr(f:Arr):zo k (zY f)=true:=by simp[zY]
@[simp] theorem flat_flows(f:List Flow):zo k (flows f)=true:=by simp[flows]
@[simp] theorem flat_arrs(f:List Arr):zo k (arrs f)=true:=by simp[arrs]
end
section
variable (n:Nat)
@[simp high] theorem bl_int(l:List Int):zK n (l.map (PV.int .i64))=true:=zKc _ _ _ (fun _=>rfl)
@[simp high] theorem bl_node(l:List Node):zK n (l.map zJ)=true:=zKc _ _ _ (flat_node n)
@[simp high] theorem bl_nodes(l:List (List Node)):zK n (l.map zn)=true:=zKc _ _ _ (flat_nodes n)
@[simp high] theorem bl_flow(l:List Flow):zK n (l.map zi)=true:=zKc _ _ _ (flat_flow n)
@[simp high] theorem bl_arr(l:List Arr):zK n (l.map zY)=true:=zKc _ _ _ (flat_arr n)
end
section
@[simp high] theorem isVar_ints(l:List Int):zp (ints l)=true:=yd rfl rfl
@[simp high] theorem canon1_ints(l:List Int):canon1 (ints l)=ints l:=yd rfl rfl
@[simp high] theorem strip_ints(l:List Int):strip (ints l)=ints l:=yd rfl rfl
@[simp high] theorem stripA_ints(l:List Int):stripA (ints l)=ints l:=yd rfl rfl
@[simp high] theorem isVar_nodes(l:List Node):zp (zn l)=true:=yd rfl rfl
@[simp high] theorem canon1_nodes(l:List Node):canon1 (zn l)=zn l:=yd rfl rfl
@[simp high] theorem stripA_nodes(l:List Node):stripA (zn l)=zn l:=yd rfl rfl
@[simp high] theorem cellsOf_nodes(l:List Node):cellsOf (zn l)=[zn l]:=yd rfl rfl
@[simp high] theorem canon1_kids(l:List (List Node)):canon1 (kids l)=kids l:=yd rfl rfl
@[simp high] theorem canon1_flows(l:List Flow):canon1 (flows l)=flows l:=yd rfl rfl
@[simp high] theorem canon1_arrs(l:List Arr):canon1 (arrs l)=arrs l:=yd rfl rfl
end
mutual
def wtN:Node->Nat
 |⟨_,_,_,s,a,u,p,ks⟩=>1+s.length+a.length+u.length+p.length+wtK ks
def wtL:List Node->Nat
 | []=>0
 |x::r=>1+wtN x+wtL r
def wtK:List (List Node)->Nat
 | []=>0
 |l::r=>1+wtL l+wtK r
end
theorem zFb(x:Node):wtN x=1+x.name.length+x.args.length+x.outs.length+x.params.length+wtK x.kids:=by cases x;rfl
theorem wtL_append(a b:List Node):wtL (a++b)=wtL a+wtL b:=by
 induction a with
 |nil=>simp[wtL]
 |cons x r ih=>simp[wtL,ih];omega
theorem len_wtL(l:List Node):l.length<=wtL l:=by
 induction l with
 |nil=>simp
 |cons x r ih=>simp[wtL];omega
theorem len_wtK(l:List (List Node)):l.length<=wtK l:=by
 induction l with
 |nil=>simp
 |cons x r ih=>simp[wtK];omega
theorem wt_kid{x:Node}{l:List Node}(h:l∈x.kids):wtL l+2<=wtN x:=by
 rw[zFb];have:∀ks:List (List Node),l∈ks->wtL l+1<=wtK ks:=by
  intro ks
  induction ks with
  |nil=>intro h;cases h
  |cons y r ih=>
   intro h;simp only[wtK];rcases yO.1 h with rfl|h
   ·omega
   ·have:=ih h;omega
 have:=this _ h;omega
theorem wt_mem{x:Node}{l:List Node}(h:x∈l):wtN x+1<=wtL l:=by
 induction l with
 |nil=>cases h
 |cons y r ih=>
  simp only[wtL];rcases yO.1 h with rfl|h
  ·omega
  ·have:=ih h;omega
def zUc(c:Int):Bool:=(decide (97<=c)&&decide (c<=122))||(decide (65<=c)&&decide (c<=90))||decide (c=95)
def digitN(c:Int):Bool:=decide (48<=c)&&decide (c<=57)
theorem zqb(c:Int)(σ:zb):zh E 60 [.int .i32 c] σ=some (.ret (.bool (zUc c)),σ):=by
 refine zc rfl rfl rfl (by simp) ?_
 (simp[*,F60,zUc])<;>(repeat' ((first|refine sP _ ?_ ?_|refine gP _ ?_ ?_|refine sN _ ?_ ?_|refine gN _ ?_ ?_|refine sM _ ?_ ?_|refine gM _ ?_ ?_|refine sB _ ?_ ?_|refine gB _ ?_ ?_)<;>intro hc<;>simp[*,F60,zUc]))
theorem digit_spec(c:Int)(σ:zb):zh E 80 [.int .i32 c] σ=some (.ret (.bool (digitN c)),σ):=by
 refine zc rfl rfl rfl (by simp) ?_
 (simp[*,F80,digitN])<;>(repeat' ((first|refine sP _ ?_ ?_|refine gP _ ?_ ?_|refine sN _ ?_ ?_|refine gN _ ?_ ?_|refine sM _ ?_ ?_|refine gM _ ?_ ?_|refine sB _ ?_ ?_|refine gB _ ?_ ?_)<;>intro hc<;>simp[*,F80,digitN]))
def words:List (List UInt8):=[[105,110,116],[98,111,111,108],[105,102],[101,108,115,101],[119,104,105,108,101],[98,114,101,97,107],[99,111,110,116,105,110,117,101],[114,101,116,117,114,110],
 [112,114,105,110,116],[114,101,97,100],[116,114,117,101],[102,97,108,115,101],[105,56],[105,49,54],[105,51,50],[117,56],[117,49,54],[117,51,50]]
def wordM(s:List UInt8):Bool:=words.contains s
theorem word_spec(s:List UInt8)(σ:zb):zh E 62 [.str s] σ=some (.ret (.bool (wordM s)),σ):=by
 refine zc rfl rfl rfl (by simp) ?_
 (simp[*,F62,wordM,words])<;>(repeat' ((first|refine sP _ ?_ ?_|refine gP _ ?_ ?_|refine sN _ ?_ ?_|refine gN _ ?_ ?_|refine sM _ ?_ ?_|refine gM _ ?_ ?_|refine sB _ ?_ ?_|refine gB _ ?_ ?_)<;>intro hc<;>simp[*,F62,wordM,words]))
def zyb(b:UInt8):Bool:=zUc b.toNat||digitN b.toNat
def runM(s:List UInt8):List UInt8:=s.takeWhile zyb
def nameM(s:List UInt8):Bool:=decide (s≠ [])&&(zUc ((s.head?.getD 0).toNat)&&(s.all zyb&&(decide (s.length<=20)&& !wordM s)))
theorem nameByte_high{b:UInt8}(h:128<=b.toNat):zyb b=false:=by
 simp[zyb,zUc,digitN];omega
theorem high_not{c:Nat}(h:128<=c):zUc c=false/\digitN c=false:=by
 simp[zUc,digitN];omega
theorem zsc{p:UInt8->Bool}:∀{s:List UInt8},s.takeWhile p=s<->s.all p=true
 | []=>by simp
 |b::r=>by
  rw[List.takeWhile_cons];cases h:p b
  ·simp[h]
  ·simp[h,zsc (s:=r)]
theorem run_spec(s:List UInt8)(σ:zb):zh E 61 [.str s] σ=some (.ret (.str (runM s)),σ):=by
 refine zc rfl rfl rfl (by simp) ?_;simp[F61];refine zLc K61_0 B61_0 (fun d=>s.length-d) (fun d=>[]) (fun d=>[(6,.iter s d)]) (fun _=>σ) (fun d=>d<=s.length/\(s.take d).all zyb=true) 0 (by simp) ?_
 rintro d s1 ⟨hd,ha⟩ h1 h2 h3 h4 h5
 simp at h4;by_cases hlt:d<s.length
 ·have hs:d<(⟨s.toArray⟩:ByteArray).size:=by show d<s.toArray.size;simpa using hlt
  have hget:(⟨s.toArray⟩:ByteArray)[d]'hs=s[d]:=rfl;have htk:s.take (d+1)=s.take d++[s[d]]:=by simp
  by_cases hb:s[d].toNat<128
  ·have hdec:=decode_ascii ⟨s.toArray⟩ d hs (by rw[hget];exact hb);rw[hget]at hdec;cases hn:zyb s[d]
   ·have e:runM s=s.take d:=by
     have:s=s.take d++(s[d]::s.drop (d+1)):=by simp
     unfold runM;rw[this,List.takeWhile_append_of_pos (by simpa using ha),List.takeWhile_cons,hn];simp
    have hn2:=hn;simp only[zyb,Bool.or_eq_false_iff]at hn2;have hmin:min d s.length=d:=by omega
    simp[*,zqb,digit_spec]
   ·have hn2:=hn;simp only[zyb,yL]at hn2;cases hl:zUc s[d].toNat
    ·rw[hl]at hn2;simp at hn2;simp[*,zqb,digit_spec];exact⟨d+1,by omega,rfl,by omega,by rw[<-yo,htk,List.all_append,ha];simp[hn]⟩
    ·simp[*,zqb,digit_spec];exact⟨d+1,by omega,rfl,by omega,by rw[<-yo,htk,List.all_append,ha];simp[hn]⟩
  ·obtain⟨hd1,hd2⟩:=decode_high ⟨s.toArray⟩ d hs (by rw[hget];omega);obtain⟨q1,q2⟩:=high_not hd1;have e:runM s=s.take d:=by
    have:s=s.take d++(s[d]::s.drop (d+1)):=by simp
    unfold runM;rw[this,List.takeWhile_append_of_pos (by simpa using ha),List.takeWhile_cons,nameByte_high (by omega)];simp
   simp[*,zqb,digit_spec]
 ·have hd':d=s.length:=by omega
  subst hd';simp at ha;have e:runM s=s:=by
   unfold runM;exact zsc.2 (by simpa using ha)
  simp[*]
theorem name_spec(s:List UInt8)(σ:zb):zh E 38 [.str s] σ=some (.ret (.bool (nameM s)),σ):=by
 refine zc rfl rfl rfl (by simp) ?_;have hr:decide (runM s=s)=s.all zyb:=by
  unfold runM;simp only[zsc,Bool.decide_eq_true]
 by_cases hne:s=[]
 ·subst hne;simp[F38,nameM]
 obtain⟨b,r,hs⟩:=List.exists_cons_of_ne_nil hne;have hb:s[0]? =some b:=by rw[hs];rfl
 have hd:s.head? =some b:=by rw[hs];rfl
 clear hs;generalize ha:s.all zyb=A at hr
 (simp[*,F38,nameM,zqb,run_spec,word_spec])<;>(repeat' ((first|refine sP _ ?_ ?_|refine gP _ ?_ ?_|refine sN _ ?_ ?_|refine gN _ ?_ ?_|refine sM _ ?_ ?_|refine gM _ ?_ ?_|refine sB _ ?_ ?_|refine gB _ ?_ ?_)<;>intro hc<;>simp[*,F38,nameM,zqb,run_spec,word_spec]))
 all_goals(try grind)
def idx{α:Type}(p:α->Bool)(l:List α):Int:=match l.findIdx? p with
 |some i=>(i:Int)
 |none=> -1
theorem idx_hit{α:Type}{p:α->Bool}{l d:List α}{x:α}{r:List α}(h:Split l d x r)(hd:∀y∈d,p y=false)(hx:p x=true):idx p l=d.length:=by
 have:l.findIdx? p=some d.length:=by
  rw[h.eq,List.findIdx?_append];have:d.findIdx? p=none:=by rw[yfa];exact hd
  rw[this];simp[List.findIdx?_cons,hx]
 simp[idx,this]
theorem idx_none{α:Type}{p:α->Bool}{l:List α}(hd:∀y∈l,p y=false):idx p l= -1:=by
 have:l.findIdx? p=none:=by rw[yfa];exact hd
 simp[idx,this]
theorem idx_ge{α:Type}(p:α->Bool)(l:List α):decide (0<=idx p l)=l.any p:=by
 unfold idx;cases h:l.findIdx? p with
 |none=>
  rw[yfa]at h;simp;exact h
 |some i=>
  have:(l.findIdx? p).isSome=true:=by rw[h];rfl
  rw[List.findIdx?_isSome]at this;simp[this]
theorem indexFuncFlow(l:List (Flow))(p:Flow->Bool)(k:Nat)(first caps:List PV)(σ:zb)(hl:l.length<1099511627776)(hf:∀x∈l,zh E k (first++[zi x]++caps) σ=some (.ret (.bool (p x)),σ)):
  zh E 63 [.slice .plain 5 (l.map (zi)),.fn k first caps] σ=some (.ret (.int .i64 (idx p l)),σ):=by
 refine zc rfl rfl rfl (by simp) ?_;simp[F63];refine zaa l K63_0 B63_0 (fun d=>[(8,.int .i64 d.length)]) (fun _=>σ) (fun d=>∀y∈d,p y=false) (by omega) (by simp) ?_ ?_
 ·intros d x r s hl' hlt hget hget' hw hp h1 h2 h3 h4;have hfx:=hf x hl'.mem;simp[zi]at h1 h3 hfx;clear h2 hf;cases hx:p x
  ·(simp[*,zi])<;>(repeat' ((first|refine sP _ ?_ ?_|refine gP _ ?_ ?_|refine sN _ ?_ ?_|refine gN _ ?_ ?_|refine sM _ ?_ ?_|refine gM _ ?_ ?_|refine sB _ ?_ ?_|refine gB _ ?_ ?_)<;>intro hc<;>simp[*,zi]))
   all_goals(try grind)
  ·have:=idx_hit hl' hp hx
   (simp[*,zi])<;>(repeat' ((first|refine sP _ ?_ ?_|refine gP _ ?_ ?_|refine sN _ ?_ ?_|refine gN _ ?_ ?_|refine sM _ ?_ ?_|refine gM _ ?_ ?_|refine sB _ ?_ ?_|refine gB _ ?_ ?_)<;>intro hc<;>simp[*,zi]))
 ·intros s hp h1 h2 h3 h4;have:=idx_none hp;simp at h1 h3
  (simp[*,zi])<;>(repeat' ((first|refine sP _ ?_ ?_|refine gP _ ?_ ?_|refine sN _ ?_ ?_|refine gN _ ?_ ?_|refine sM _ ?_ ?_|refine gM _ ?_ ?_|refine sB _ ?_ ?_|refine gB _ ?_ ?_)<;>intro hc<;>simp[*,zi]))
theorem indexFuncInt(l:List (Int))(p:Int->Bool)(k:Nat)(first caps:List PV)(σ:zb)(hl:l.length<1099511627776)(hf:∀x∈l,zh E k (first++[PV.int .i64 x]++caps) σ=some (.ret (.bool (p x)),σ)):
  zh E 65 [.slice .plain 1 (l.map (PV.int .i64)),.fn k first caps] σ=some (.ret (.int .i64 (idx p l)),σ):=by
 refine zc rfl rfl rfl (by simp) ?_;simp[F65];refine zaa l K65_0 B65_0 (fun d=>[(8,.int .i64 d.length)]) (fun _=>σ) (fun d=>∀y∈d,p y=false) (by omega) (by simp) ?_ ?_
 ·intros d x r s hl' hlt hget hget' hw hp h1 h2 h3 h4;have hfx:=hf x hl'.mem;simp at h1 h3 hfx;clear h2 hf;cases hx:p x
  ·(simp[*])<;>(repeat' ((first|refine sP _ ?_ ?_|refine gP _ ?_ ?_|refine sN _ ?_ ?_|refine gN _ ?_ ?_|refine sM _ ?_ ?_|refine gM _ ?_ ?_|refine sB _ ?_ ?_|refine gB _ ?_ ?_)<;>intro hc<;>simp[*]))
   all_goals(try grind)
  ·have:=idx_hit hl' hp hx
   (simp[*])<;>(repeat' ((first|refine sP _ ?_ ?_|refine gP _ ?_ ?_|refine sN _ ?_ ?_|refine gN _ ?_ ?_|refine sM _ ?_ ?_|refine gM _ ?_ ?_|refine sB _ ?_ ?_|refine gB _ ?_ ?_)<;>intro hc<;>simp[*]))
 ·intros s hp h1 h2 h3 h4;have:=idx_none hp;simp at h1 h3
  (simp[*])<;>(repeat' ((first|refine sP _ ?_ ?_|refine gP _ ?_ ?_|refine sN _ ?_ ?_|refine gN _ ?_ ?_|refine sM _ ?_ ?_|refine gM _ ?_ ?_|refine sB _ ?_ ?_|refine gB _ ?_ ?_)<;>intro hc<;>simp[*]))
theorem containsFuncInt(l:List (Int))(p:Int->Bool)(k:Nat)(first caps:List PV)(σ:zb)(hl:l.length<1099511627776)(hc:(first.map stripA)=first/\(caps.map stripA)=caps)(hf:∀x∈l,zh E k (first++[PV.int .i64 x]++caps) σ=some (.ret (.bool (p x)),σ)):
  zh E 41 [.slice .plain 1 (l.map (PV.int .i64)),.fn k first caps] σ=some (.ret (.bool (l.any p)),σ):=by
 refine zc rfl rfl rfl (by simp) ?_;have h:=indexFuncInt l p k first caps σ hl hf;have h2:=idx_ge p l;clear hf
 (simp[*,F41])<;>(repeat' ((first|refine sP _ ?_ ?_|refine gP _ ?_ ?_|refine sN _ ?_ ?_|refine gN _ ?_ ?_|refine sM _ ?_ ?_|refine gM _ ?_ ?_|refine sB _ ?_ ?_|refine gB _ ?_ ?_)<;>intro hc<;>simp[*,F41]))
theorem indexFuncNode(l:List (Node))(p:Node->Bool)(k:Nat)(first caps:List PV)(σ:zb)(hl:l.length<1099511627776)(hf:∀x∈l,zh E k (first++[zJ x]++caps) σ=some (.ret (.bool (p x)),σ)):
  zh E 91 [.slice .plain 8 (l.map (zJ)),.fn k first caps] σ=some (.ret (.int .i64 (idx p l)),σ):=by
 refine zc rfl rfl rfl (by simp) ?_;simp[F91];refine zaa l K91_0 B91_0 (fun d=>[(8,.int .i64 d.length)]) (fun _=>σ) (fun d=>∀y∈d,p y=false) (by omega) (by simp) ?_ ?_
 ·intros d x r s hl' hlt hget hget' hw hp h1 h2 h3 h4;have hfx:=hf x hl'.mem;simp[za]at h1 h3 hfx;clear h2 hf;cases hx:p x
  ·(simp[*,za])<;>(repeat' ((first|refine sP _ ?_ ?_|refine gP _ ?_ ?_|refine sN _ ?_ ?_|refine gN _ ?_ ?_|refine sM _ ?_ ?_|refine gM _ ?_ ?_|refine sB _ ?_ ?_|refine gB _ ?_ ?_)<;>intro hc<;>simp[*,za]))
   all_goals(try grind)
  ·have:=idx_hit hl' hp hx
   (simp[*,za])<;>(repeat' ((first|refine sP _ ?_ ?_|refine gP _ ?_ ?_|refine sN _ ?_ ?_|refine gN _ ?_ ?_|refine sM _ ?_ ?_|refine gM _ ?_ ?_|refine sB _ ?_ ?_|refine gB _ ?_ ?_)<;>intro hc<;>simp[*,za]))
 ·intros s hp h1 h2 h3 h4;have:=idx_none hp;simp at h1 h3
  (simp[*,za])<;>(repeat' ((first|refine sP _ ?_ ?_|refine gP _ ?_ ?_|refine sN _ ?_ ?_|refine gN _ ?_ ?_|refine sM _ ?_ ?_|refine gM _ ?_ ?_|refine sB _ ?_ ?_|refine gB _ ?_ ?_)<;>intro hc<;>simp[*,za]))
theorem containsFuncNode(l:List (Node))(p:Node->Bool)(k:Nat)(first caps:List PV)(σ:zb)(hl:l.length<1099511627776)(hc:(first.map stripA)=first/\(caps.map stripA)=caps)(hf:∀x∈l,zh E k (first++[zJ x]++caps) σ=some (.ret (.bool (p x)),σ)):
  zh E 72 [.slice .plain 8 (l.map (zJ)),.fn k first caps] σ=some (.ret (.bool (l.any p)),σ):=by
 refine zc rfl rfl rfl (by simp) ?_;have h:=indexFuncNode l p k first caps σ hl hf;have h2:=idx_ge p l;clear hf
 (simp[*,F72])<;>(repeat' ((first|refine sP _ ?_ ?_|refine gP _ ?_ ?_|refine sN _ ?_ ?_|refine gN _ ?_ ?_|refine sM _ ?_ ?_|refine gM _ ?_ ?_|refine sB _ ?_ ?_|refine gB _ ?_ ?_)<;>intro hc<;>simp[*,F72]))
theorem indexFuncArr(l:List (Arr))(p:Arr->Bool)(k:Nat)(first caps:List PV)(σ:zb)(hl:l.length<1099511627776)(hf:∀x∈l,zh E k (first++[zY x]++caps) σ=some (.ret (.bool (p x)),σ)):
  zh E 123 [.slice .plain 2 (l.map (zY)),.fn k first caps] σ=some (.ret (.int .i64 (idx p l)),σ):=by
 refine zc rfl rfl rfl (by simp) ?_;simp[F123];refine zaa l K123_0 B123_0 (fun d=>[(8,.int .i64 d.length)]) (fun _=>σ) (fun d=>∀y∈d,p y=false) (by omega) (by simp) ?_ ?_
 ·intros d x r s hl' hlt hget hget' hw hp h1 h2 h3 h4;have hfx:=hf x hl'.mem;simp[zY]at h1 h3 hfx;clear h2 hf;cases hx:p x
  ·(simp[*,zY])<;>(repeat' ((first|refine sP _ ?_ ?_|refine gP _ ?_ ?_|refine sN _ ?_ ?_|refine gN _ ?_ ?_|refine sM _ ?_ ?_|refine gM _ ?_ ?_|refine sB _ ?_ ?_|refine gB _ ?_ ?_)<;>intro hc<;>simp[*,zY]))
   all_goals(try grind)
  ·have:=idx_hit hl' hp hx
   (simp[*,zY])<;>(repeat' ((first|refine sP _ ?_ ?_|refine gP _ ?_ ?_|refine sN _ ?_ ?_|refine gN _ ?_ ?_|refine sM _ ?_ ?_|refine gM _ ?_ ?_|refine sB _ ?_ ?_|refine gB _ ?_ ?_)<;>intro hc<;>simp[*,zY]))
 ·intros s hp h1 h2 h3 h4;have:=idx_none hp;simp at h1 h3
  (simp[*,zY])<;>(repeat' ((first|refine sP _ ?_ ?_|refine gP _ ?_ ?_|refine sN _ ?_ ?_|refine gN _ ?_ ?_|refine sM _ ?_ ?_|refine gM _ ?_ ?_|refine sB _ ?_ ?_|refine gB _ ?_ ?_)<;>intro hc<;>simp[*,zY]))
theorem containsFuncArr(l:List (Arr))(p:Arr->Bool)(k:Nat)(first caps:List PV)(σ:zb)(hl:l.length<1099511627776)(hc:(first.map stripA)=first/\(caps.map stripA)=caps)(hf:∀x∈l,zh E k (first++[zY x]++caps) σ=some (.ret (.bool (p x)),σ)):
  zh E 116 [.slice .plain 2 (l.map (zY)),.fn k first caps] σ=some (.ret (.bool (l.any p)),σ):=by
 refine zc rfl rfl rfl (by simp) ?_;have h:=indexFuncArr l p k first caps σ hl hf;have h2:=idx_ge p l;clear hf
 (simp[*,F116])<;>(repeat' ((first|refine sP _ ?_ ?_|refine gP _ ?_ ?_|refine sN _ ?_ ?_|refine gN _ ?_ ?_|refine sM _ ?_ ?_|refine gM _ ?_ ?_|refine sB _ ?_ ?_|refine gB _ ?_ ?_)<;>intro hc<;>simp[*,F116]))
theorem indexFuncList(l:List (List Node))(p:List Node->Bool)(k:Nat)(first caps:List PV)(σ:zb)(hl:l.length<1099511627776)(hf:∀x∈l,zh E k (first++[zn x]++caps) σ=some (.ret (.bool (p x)),σ)):
  zh E 92 [.slice .plain 1 (l.map (zn)),.fn k first caps] σ=some (.ret (.int .i64 (idx p l)),σ):=by
 refine zc rfl rfl rfl (by simp) ?_;simp[F92];refine zaa l K92_0 B92_0 (fun d=>[(8,.int .i64 d.length)]) (fun _=>σ) (fun d=>∀y∈d,p y=false) (by omega) (by simp) ?_ ?_
 ·intros d x r s hl' hlt hget hget' hw hp h1 h2 h3 h4;have hfx:=hf x hl'.mem;simp at h1 h3 hfx;clear h2 hf;cases hx:p x
  ·(simp[*])<;>(repeat' ((first|refine sP _ ?_ ?_|refine gP _ ?_ ?_|refine sN _ ?_ ?_|refine gN _ ?_ ?_|refine sM _ ?_ ?_|refine gM _ ?_ ?_|refine sB _ ?_ ?_|refine gB _ ?_ ?_)<;>intro hc<;>simp[*]))
   all_goals(try grind)
  ·have:=idx_hit hl' hp hx
   (simp[*])<;>(repeat' ((first|refine sP _ ?_ ?_|refine gP _ ?_ ?_|refine sN _ ?_ ?_|refine gN _ ?_ ?_|refine sM _ ?_ ?_|refine gM _ ?_ ?_|refine sB _ ?_ ?_|refine gB _ ?_ ?_)<;>intro hc<;>simp[*]))
 ·intros s hp h1 h2 h3 h4;have:=idx_none hp;simp at h1 h3
  (simp[*])<;>(repeat' ((first|refine sP _ ?_ ?_|refine gP _ ?_ ?_|refine sN _ ?_ ?_|refine gN _ ?_ ?_|refine sM _ ?_ ?_|refine gM _ ?_ ?_|refine sB _ ?_ ?_|refine gB _ ?_ ?_)<;>intro hc<;>simp[*]))
theorem containsFuncList(l:List (List Node))(p:List Node->Bool)(k:Nat)(first caps:List PV)(σ:zb)(hl:l.length<1099511627776)(hc:(first.map stripA)=first/\(caps.map stripA)=caps)(hf:∀x∈l,zh E k (first++[zn x]++caps) σ=some (.ret (.bool (p x)),σ)):
  zh E 74 [.slice .plain 1 (l.map (zn)),.fn k first caps] σ=some (.ret (.bool (l.any p)),σ):=by
 refine zc rfl rfl rfl (by simp) ?_;have h:=indexFuncList l p k first caps σ hl hf;have h2:=idx_ge p l;clear hf
 (simp[*,F74])<;>(repeat' ((first|refine sP _ ?_ ?_|refine gP _ ?_ ?_|refine sN _ ?_ ?_|refine gN _ ?_ ?_|refine sM _ ?_ ?_|refine gM _ ?_ ?_|refine sB _ ?_ ?_|refine gB _ ?_ ?_)<;>intro hc<;>simp[*,F74]))
def zja(l:List Flow)(s:List UInt8):Int:=idx (fun f=>decide (f.name=s)) l
def zGb(l:List Arr)(s:List UInt8):Bool:=l.any fun a=>decide (a.name=s)
def arrAt(l:List Arr)(s:List UInt8):Int:=idx (fun f=>decide (f.name=s)) l
theorem place_spec(u:Unt)(s:List UInt8)(σ:zb)(hl:u.flows.length<1099511627776):zh E 40 [zE u,.str s] σ=some (.ret (.int .i64 (zja u.flows s)),σ):=by
 refine zc rfl rfl rfl (by simp[zE]) ?_;have h:=indexFuncFlow u.flows (fun f=>decide (f.name=s)) 64 [] [.iptr [.str s] 0] σ hl (by
  intro x hx;refine zc rfl rfl rfl (by simp[zi]) ?_
  (simp[*,F64,zi])<;>(repeat' ((first|refine sP _ ?_ ?_|refine gP _ ?_ ?_|refine sN _ ?_ ?_|refine gN _ ?_ ?_|refine sM _ ?_ ?_|refine gM _ ?_ ?_|refine sB _ ?_ ?_|refine gB _ ?_ ?_)<;>intro hc<;>simp[*,F64,zi])))
 (simp[*,F40,zE,zja,flows])<;>(repeat' ((first|refine sP _ ?_ ?_|refine gP _ ?_ ?_|refine sN _ ?_ ?_|refine gN _ ?_ ?_|refine sM _ ?_ ?_|refine gM _ ?_ ?_|refine sB _ ?_ ?_|refine gB _ ?_ ?_)<;>intro hc<;>simp[*,F40,zE,zja,flows]))
theorem hasArray_spec(u:Unt)(s:List UInt8)(σ:zb)(hl:u.arrays.length<1099511627776):zh E 99 [zE u,.str s] σ=some (.ret (.bool (zGb u.arrays s)),σ):=by
 refine zc rfl rfl rfl (by simp[zE]) ?_;have h:=containsFuncArr u.arrays (fun f=>decide (f.name=s)) 117 [] [.iptr [.str s] 0] σ hl (by simp) (by
  intro x hx;refine zc rfl rfl rfl (by simp[zY]) ?_
  (simp[*,F117,zY])<;>(repeat' ((first|refine sP _ ?_ ?_|refine gP _ ?_ ?_|refine sN _ ?_ ?_|refine gN _ ?_ ?_|refine sM _ ?_ ?_|refine gM _ ?_ ?_|refine sB _ ?_ ?_|refine gB _ ?_ ?_)<;>intro hc<;>simp[*,F117,zY])))
 (simp[*,F99,zE,zGb,arrs])<;>(repeat' ((first|refine sP _ ?_ ?_|refine gP _ ?_ ?_|refine sN _ ?_ ?_|refine gN _ ?_ ?_|refine sM _ ?_ ?_|refine gM _ ?_ ?_|refine sB _ ?_ ?_|refine gB _ ?_ ?_)<;>intro hc<;>simp[*,F99,zE,zGb,arrs]))
def Node.ends(n:Node):Bool:=decide (12<=n.kind)&&decide (n.kind<=15)
def zab(l:List Node):Bool:=match l.getLast? with
 |some n=>decide (n.kind=12)
 |none=>false
mutual
def Node.leaves:Node->Bool
 |⟨k,_,_,_,_,_,_,ks⟩=>decide (k=14)||(decide (k=10)&&leavesK ks)
def zBa:List Node->Bool
 | []=>false
 |x::r=>x.leaves||zBa r
def leavesK:List (List Node)->Bool
 | []=>false
 |l::r=>zBa l||leavesK r
end
theorem zrb(l:List Node):zBa l=l.any Node.leaves:=by
 induction l with
 |nil=>rfl
 |cons x r ih=>simp[zBa,ih]
theorem leavesK_eq(l:List (List Node)):leavesK l=l.any zBa:=by
 induction l with
 |nil=>rfl
 |cons x r ih=>simp[leavesK,ih]
theorem leaves_eq(x:Node):x.leaves=(decide (x.kind=14)||(decide (x.kind=10)&&x.kids.any zBa)):=by
 cases x;simp[Node.leaves,leavesK_eq]
def zB(n:Node):Bool:=
 if n.kind=10/\n.kids.length=2 then n.kids.all fun l=> !zab l
 else if n.kind=11/\n.kids.length=1 then n.kids.all fun l=> !zBa l
 else n.ends
def endK(k:Int):Bool:=decide (12<=k)&&decide (k<=15)
theorem ends_raw(k:Int)(a b c d e f g:PV)(σ:zb):zh E 51 [.agg [.int .i64 k,a,b,c,d,e,f,g]] σ=some (.ret (.bool (endK k)),σ):=by
 refine zc rfl rfl rfl (by simp) ?_
 (simp[*,F51,endK])<;>(repeat' ((first|refine sP _ ?_ ?_|refine gP _ ?_ ?_|refine sN _ ?_ ?_|refine gN _ ?_ ?_|refine sM _ ?_ ?_|refine gM _ ?_ ?_|refine sB _ ?_ ?_|refine gB _ ?_ ?_)<;>intro hc<;>simp[*,F51,endK]))
theorem rends_raw(k:Int)(a b c d e f g:PV)(σ:zb):zh E 79 [.agg [.int .i64 k,a,b,c,d,e,f,g]] σ=some (.ret (.bool (endK k)),σ):=by
 refine zc rfl rfl rfl (by simp) ?_
 (simp[*,F79,endK])<;>(repeat' ((first|refine sP _ ?_ ?_|refine gP _ ?_ ?_|refine sN _ ?_ ?_|refine gN _ ?_ ?_|refine sM _ ?_ ?_|refine gM _ ?_ ?_|refine sB _ ?_ ?_|refine gB _ ?_ ?_)<;>intro hc<;>simp[*,F79,endK]))
theorem rends_spec(x:Node)(σ:zb):zh E 79 [zJ x] σ=some (.ret (.bool x.ends),σ):=by
 rw[za,rends_raw];rfl
theorem yields_spec(l:List Node)(σ:zb)(hl:l.length<1099511627776):zh E 49 [zn l] σ=some (.ret (.bool (zab l)),σ):=by
 refine zc rfl rfl rfl (by simp) ?_;rcases List.eq_nil_or_concat l with rfl|⟨d,x,rfl⟩
 ·(simp[*,F49,zn,zab])<;>(repeat' ((first|refine sP _ ?_ ?_|refine gP _ ?_ ?_|refine sN _ ?_ ?_|refine gN _ ?_ ?_|refine sM _ ?_ ?_|refine gM _ ?_ ?_|refine sB _ ?_ ?_|refine gB _ ?_ ?_)<;>intro hc<;>simp[*,F49,zn,zab]))
 ·have hw:zM .i64 (d.length:Int)=d.length:=zj (by omega) (by simp at hl;omega);have hp:(0:Int)<d.length+1:=by omega
  (simp[*,F49,zn,zab,za])<;>(repeat' ((first|refine sP _ ?_ ?_|refine gP _ ?_ ?_|refine sN _ ?_ ?_|refine gN _ ?_ ?_|refine sM _ ?_ ?_|refine gM _ ?_ ?_|refine sB _ ?_ ?_|refine gB _ ?_ ?_)<;>intro hc<;>simp[*,F49,zn,zab,za]))
def lastM(l:List Node):Int:=match l.getLast? with
 |some n=>if n.ends then n.kind else 0
 |none=>0
theorem lastM_eq(l:List Node):decide (lastM l=12)=zab l:=by
 unfold lastM zab;cases l.getLast? with
 |none=>simp
 |some n=>
  simp only[Node.ends];by_cases h:n.kind=12
  ·simp[h]
  ·simp[h];split<;>simp[h]
theorem rlast_spec(l:List Node)(σ:zb)(hl:l.length<1099511627776):zh E 77 [zn l] σ=some (.ret (.int .i64 (lastM l)),σ):=by
 refine zc rfl rfl rfl (by simp) ?_;rcases List.eq_nil_or_concat l with rfl|⟨d,x,rfl⟩
 ·(simp[*,F77,zn,lastM])<;>(repeat' ((first|refine sP _ ?_ ?_|refine gP _ ?_ ?_|refine sN _ ?_ ?_|refine gN _ ?_ ?_|refine sM _ ?_ ?_|refine gM _ ?_ ?_|refine sB _ ?_ ?_|refine gB _ ?_ ?_)<;>intro hc<;>simp[*,F77,zn,lastM]))
 ·have hw:zM .i64 (d.length:Int)=d.length:=zj (by omega) (by simp at hl;omega);have hp:¬(d.length:Int)+1=0:=by omega
  have he:=rends_spec x [];simp[za]at he
  (simp[*,F77,zn,lastM,za])<;>(repeat' ((first|refine sP _ ?_ ?_|refine gP _ ?_ ?_|refine sN _ ?_ ?_|refine gN _ ?_ ?_|refine sM _ ?_ ?_|refine gM _ ?_ ?_|refine sB _ ?_ ?_|refine gB _ ?_ ?_)<;>intro hc<;>simp[*,F77,zn,lastM,za]))
  all_goals(try grind)
theorem leaves_spec:∀(N:Nat) (l:List Node) (σ:zb),wtL l<=N->N<1099511627776->zh E 50 [zn l] σ=some (.ret (.bool (zBa l)),σ):=by
 intro N
 induction N using Nat.strongRecOn with
 |ind N ih=>
  intro l σ hl hN;refine zc rfl rfl rfl (by simp) ?_;have h:=containsFuncNode l Node.leaves 73 [] [] σ (by have:=len_wtL l;omega) (by simp) (by
   intro x hx;refine zc rfl rfl rfl (by simp[za]) ?_;have hw:=wt_mem hx;have hk:=zFb x;have hk2:=len_wtK x.kids;have h:=containsFuncList x.kids zBa 50 [] [] σ (by omega) (by simp) (by
    intro y hy;have:=wt_kid hy;exact ih (wtL y) (by omega) y σ (yl _) (by omega))
   (simp[*,F73,za,leaves_eq,kids])<;>(repeat' ((first|refine sP _ ?_ ?_|refine gP _ ?_ ?_|refine sN _ ?_ ?_|refine gN _ ?_ ?_|refine sM _ ?_ ?_|refine gM _ ?_ ?_|refine sB _ ?_ ?_|refine gB _ ?_ ?_)<;>intro hc<;>simp[*,F73,za,leaves_eq,kids])))
  (simp[*,F50,zrb,zn])<;>(repeat' ((first|refine sP _ ?_ ?_|refine gP _ ?_ ?_|refine sN _ ?_ ?_|refine gN _ ?_ ?_|refine sM _ ?_ ?_|refine gM _ ?_ ?_|refine sB _ ?_ ?_|refine gB _ ?_ ?_)<;>intro hc<;>simp[*,F50,zrb,zn]))
theorem rleaves_spec:∀(N:Nat) (l:List Node) (σ:zb),wtL l<=N->N<1099511627776->zh E 78 [zn l] σ=some (.ret (.bool (zBa l)),σ):=by
 intro N
 induction N using Nat.strongRecOn with
 |ind N ih=>
  intro l σ hl hN;refine zc rfl rfl rfl (by simp) ?_;have hll:=len_wtL l;simp[F78];refine zaa l K78_1 B78_1 (fun d=>[(3,.int .i64 d.length)]) (fun _=>σ) (fun d=>∀y∈d,y.leaves=false) (by omega) (by simp) ?_ ?_
  ·intros d x r s hl' hlt hget hget' hw hp h1 h2 h3 h4;simp at h1 h3;clear h2;have hx:=hl'.mem;have hwx:=wt_mem hx;have hk:=zFb x;have hk2:=len_wtK x.kids;have hex:=leaves_eq x;have hel:zBa l=l.any Node.leaves:=zrb l;by_cases h14:x.kind=14
   ·(simp[*,zn,za])<;>(repeat' ((first|refine sP _ ?_ ?_|refine gP _ ?_ ?_|refine sN _ ?_ ?_|refine gN _ ?_ ?_|refine sM _ ?_ ?_|refine gM _ ?_ ?_|refine sB _ ?_ ?_|refine gB _ ?_ ?_)<;>intro hc<;>simp[*,zn,za]))
    all_goals(try grind)
   ·simp[*,zn,za];refine zaa (if x.kind=10 then x.kids else[]) K78_0 B78_0 (fun d=>[(4,.int .i64 d.length)]) (fun _=>σ) (fun d=>∀y∈d,zBa y=false) (by split<;>simp<;>omega) (by simp) ?_ ?_
    ·intros d' y r' s' hl'' hlt' hget2 hget2' hw' hp' h1' h2' h3' h4';simp at h1' h3';clear h2';by_cases h10:x.kind=10
     ·simp[h10]at hl'' hlt' hget2 hget2';have hy:=hl''.mem;have:=wt_kid hy;have hr:=ih (wtL y) (by omega) y [] (yl _) (by omega);simp[zn]at hr
      (simp[*,zn,za,kids])<;>(repeat' ((first|refine sP _ ?_ ?_|refine gP _ ?_ ?_|refine sN _ ?_ ?_|refine gN _ ?_ ?_|refine sM _ ?_ ?_|refine gM _ ?_ ?_|refine sB _ ?_ ?_|refine gB _ ?_ ?_)<;>intro hc<;>simp[*,zn,za,kids]))
      all_goals(try grind)
     ·exfalso;simp[h10]at hlt'
    ·intros s' hp' h1' h2' h3' h4';simp at h1' h3';clear h2';by_cases h10:x.kind=10
     ·simp[h10]at h3' hp'
      (simp[*,zn,za,kids])<;>(repeat' ((first|refine sP _ ?_ ?_|refine gP _ ?_ ?_|refine sN _ ?_ ?_|refine gN _ ?_ ?_|refine sM _ ?_ ?_|refine gM _ ?_ ?_|refine sB _ ?_ ?_|refine gB _ ?_ ?_)<;>intro hc<;>simp[*,zn,za,kids]))
      all_goals(try grind)
     ·simp[h10]at h3' hp'
      (simp[*,zn,za,kids])<;>(repeat' ((first|refine sP _ ?_ ?_|refine gP _ ?_ ?_|refine sN _ ?_ ?_|refine gN _ ?_ ?_|refine sM _ ?_ ?_|refine gM _ ?_ ?_|refine sB _ ?_ ?_|refine gB _ ?_ ?_)<;>intro hc<;>simp[*,zn,za,kids]))
      all_goals(try grind)
  ·intros s hp h1 h2 h3 h4;simp at h1 h3;have hel:zBa l=l.any Node.leaves:=zrb l
   (simp[*,zn,za])<;>(repeat' ((first|refine sP _ ?_ ?_|refine gP _ ?_ ?_|refine sN _ ?_ ?_|refine gN _ ?_ ?_|refine sM _ ?_ ?_|refine gM _ ?_ ?_|refine sB _ ?_ ?_|refine gB _ ?_ ?_)<;>intro hc<;>simp[*,zn,za]))
   all_goals(try grind)
theorem zZc(x:Node)(σ:zb)(hx:wtN x<1099511627776):zh E 29 [zJ x] σ=some (.ret (.bool (zB x)),σ):=by
 refine zc rfl rfl rfl (by simp[za]) ?_;have he:x.ends=endK x.kind:=rfl;have hk:∀l∈x.kids,wtL l+2<=wtN x:=fun l=>wt_kid
 have hy:∀l∈x.kids,zh E 49 [zn l] []=some (.ret (.bool (zab l)),[]):=fun l hl=>yields_spec l [] (by have:=len_wtL l;have:=hk l hl;omega)
 have hv:∀l∈x.kids,zh E 50 [zn l] []=some (.ret (.bool (zBa l)),[]):=fun l hl=>leaves_spec (wtL l) l [] (yl _) (by have:=hk l hl;omega)
 have hks:zB x=if x.kind=10/\x.kids.length=2 then(x.kids.all fun l=> !zab l)else if x.kind=11/\x.kids.length=1 then(x.kids.all fun l=> !zBa l)else x.ends:=rfl
 rcases hkk:x.kids with _|⟨a,_|⟨b,_|⟨c,t⟩⟩⟩
 all_goals
  rw[hkk]at hy hv;simp at hy hv
  (simp[*,F29,za,kids,ends_raw])<;>(repeat' ((first|refine sP _ ?_ ?_|refine gP _ ?_ ?_|refine sN _ ?_ ?_|refine gN _ ?_ ?_|refine sM _ ?_ ?_|refine gM _ ?_ ?_|refine sB _ ?_ ?_|refine gB _ ?_ ?_)<;>intro hc<;>simp[*,F29,za,kids,ends_raw]))
  all_goals(try grind)
theorem zzb(x:Node)(σ:zb)(hx:wtN x<1099511627776):zh E 58 [zJ x] σ=some (.ret (.bool (zB x)),σ):=by
 refine zc rfl rfl rfl (by simp[za]) ?_;have he:x.ends=endK x.kind:=rfl;have hk:∀l∈x.kids,wtL l+2<=wtN x:=fun l=>wt_kid
 have hy:∀l∈x.kids,zh E 77 [zn l] []=some (.ret (.int .i64 (lastM l)),[]):=fun l hl=>rlast_spec l [] (by have:=len_wtL l;have:=hk l hl;omega)
 have hv:∀l∈x.kids,zh E 78 [zn l] []=some (.ret (.bool (zBa l)),[]):=fun l hl=>rleaves_spec (wtL l) l [] (yl _) (by have:=hk l hl;omega)
 have hks:zB x=if x.kind=10/\x.kids.length=2 then(x.kids.all fun l=> !decide (lastM l=12))else if x.kind=11/\x.kids.length=1 then(x.kids.all fun l=> !zBa l)else x.ends:=by simp only[lastM_eq];rfl
 rcases hkk:x.kids with _|⟨a,_|⟨b,_|⟨c,t⟩⟩⟩
 all_goals
  rw[hkk]at hy hv;simp at hy hv
  (simp[*,F58,za,kids,rends_raw])<;>(repeat' ((first|refine sP _ ?_ ?_|refine gP _ ?_ ?_|refine sN _ ?_ ?_|refine gN _ ?_ ?_|refine sM _ ?_ ?_|refine gM _ ?_ ?_|refine sB _ ?_ ?_|refine gB _ ?_ ?_)<;>intro hc<;>simp[*,F58,za,kids,rends_raw]))
  all_goals(try grind)
abbrev St1:=List Int
def stO(S:List Int):Obj:= .arr 1 (S.map (PV.int .i64))
def chkV(u:Unt)(f:Flow)(n:Nat):PV:= .iptr [arrs u.arrays,flows u.flows,.str f.name,.int .i64 f.type,.int .i64 f.params,ints f.types,zn f.body,.mslice 0 0 n 1] 0
def at0(l:List Int)(v:Int):Int:=(l[v.toNat]?).getD 0
theorem at0_get{l:List Int}{v:Int}(h0:0<=v)(h1:v<l.length):l[v.toNat]? =some (at0 l v):=by
 unfold at0;have:v.toNat<l.length:=by omega
 simp[this]
theorem at0_get'{l:List Int}{v:Int}(h0:0<=v)(h1:v<l.length)(h:v.toNat<l.length):l[v.toNat]'h=at0 l v:=by
 unfold at0;simp[h]
def valM(ty:List Int)(v t:Int):Bool:=decide (0<=v)&&(decide (v<ty.length)&&(decide (t=0)||decide (at0 ty v=t)))
theorem value_spec(u:Unt)(f:Flow)(n:Nat)(v t:Int)(σ:zb):zh E 110 [chkV u f n,.int .i64 v,.int .i64 t] σ=some (.ret (.bool (valM f.types v t)),σ):=by
 refine zc rfl rfl rfl (by simp[chkV]) ?_;by_cases h0:0<=v
 ·by_cases h1:v<f.types.length
  ·have h2:=at0_get h0 h1;have h3:v.toNat<f.types.length:=by omega
   have h4:=at0_get' h0 h1 h3
   (simp[*,F110,chkV,ints,valM])<;>(repeat' ((first|refine sP _ ?_ ?_|refine gP _ ?_ ?_|refine sN _ ?_ ?_|refine gN _ ?_ ?_|refine sM _ ?_ ?_|refine gM _ ?_ ?_|refine sB _ ?_ ?_|refine gB _ ?_ ?_)<;>intro hc<;>simp[*,F110,chkV,ints,valM]))
  ·(simp[*,F110,chkV,ints,valM])<;>(repeat' ((first|refine sP _ ?_ ?_|refine gP _ ?_ ?_|refine sN _ ?_ ?_|refine gN _ ?_ ?_|refine sM _ ?_ ?_|refine gM _ ?_ ?_|refine sB _ ?_ ?_|refine gB _ ?_ ?_)<;>intro hc<;>simp[*,F110,chkV,ints,valM]))
 ·(simp[*,F110,chkV,ints,valM])<;>(repeat' ((first|refine sP _ ?_ ?_|refine gP _ ?_ ?_|refine sN _ ?_ ?_|refine gN _ ?_ ?_|refine sM _ ?_ ?_|refine gM _ ?_ ?_|refine sB _ ?_ ?_|refine gB _ ?_ ?_)<;>intro hc<;>simp[*,F110,chkV,ints,valM]))
def zU(ty l:List Int):List Int:=if l.all (fun v=>valM ty v 0)then l.map (at0 ty)else[]
theorem zKa{ty:List Int}{v t:Int}(h:valM ty v t=true):0<=v/\v<ty.length:=by
 simp[valM]at h;exact⟨h.1,h.2.1⟩
theorem types_spec(u:Unt)(f:Flow)(n:Nat)(l:List Int)(σ:zb)(hl:l.length<1099511627776):zh E 94 [chkV u f n,ints l] σ=some (.ret (ints (zU f.types l)),σ):=by
 refine zc rfl rfl rfl (by simp[chkV]) ?_;simp[F94,ints];refine zaa l K94_0 B94_0 (fun d=>[(9,.int .i64 d.length),(4,acc 1 (d.map fun v=> .int .i64 (at0 f.types v)))]) (fun _=>σ) (fun d=>d.all (fun v=>valM f.types v 0)=true) (by omega) (by simp) ?_ ?_
 ·intros d x r s hl' hlt hget hget' hw hp h1 h2 h3 h4;simp at h1 h3;clear h2;have hv:=value_spec u f n x 0 σ;cases hx:valM f.types x 0
  ·have:zU f.types l=[]:=by
    unfold zU;rw[if_neg];rw[hl'.eq];simp[hx]
   simp[chkV]at hv
   (simp[*,chkV])<;>(repeat' ((first|refine sP _ ?_ ?_|refine gP _ ?_ ?_|refine sN _ ?_ ?_|refine gN _ ?_ ?_|refine sM _ ?_ ?_|refine gM _ ?_ ?_|refine sB _ ?_ ?_|refine gB _ ?_ ?_)<;>intro hc<;>simp[*,chkV]))
  ·obtain⟨r0,r1⟩:=zKa hx;have q1:=at0_get r0 r1;have q2:x.toNat<f.types.length:=by omega
   have q3:=at0_get' r0 r1 q2;have q4:(d.length+1)*8<=zq:=by simp only[zq];omega
   simp[chkV,ints]at hv
   (simp[*,chkV,ints])<;>(repeat' ((first|refine sP _ ?_ ?_|refine gP _ ?_ ?_|refine sN _ ?_ ?_|refine gN _ ?_ ?_|refine sM _ ?_ ?_|refine gM _ ?_ ?_|refine sB _ ?_ ?_|refine gB _ ?_ ?_)<;>intro hc<;>simp[*,chkV,ints]))
 ·intros s hp h1 h2 h3 h4;simp at h1 h3;have:zU f.types l=l.map (at0 f.types):=by
   unfold zU;rw[if_pos hp]
  (simp[*,ints])<;>(repeat' ((first|refine sP _ ?_ ?_|refine gP _ ?_ ?_|refine sN _ ?_ ?_|refine gN _ ?_ ?_|refine sM _ ?_ ?_|refine gM _ ?_ ?_|refine sB _ ?_ ?_|refine gB _ ?_ ?_)<;>intro hc<;>simp[*,ints]))
def eqGo{S:Type}(g:S->Int->Int->Bool×S):S->List (Int×Int)->Bool×S
 |s,[]=>(true,s)
 |s,p::r=>if(g s p.1 p.2).1 then eqGo g (g s p.1 p.2).2 r else(false,(g s p.1 p.2).2)
theorem eqGo_append{S:Type}(g:S->Int->Int->Bool×S):∀(d r:List (Int×Int)) (s:S),eqGo g s (d++r)=if(eqGo g s d).1 then eqGo g (eqGo g s d).2 r else(false,(eqGo g s d).2)
 | [],r,s=>by simp[eqGo]
 |p::d,r,s=>by
  simp only[List.cons_append,eqGo];split
  ·rename_i h;simp[eqGo_append g d r]
  ·simp
def eqM{S:Type}(g:S->Int->Int->Bool×S)(s:S)(l ts:List Int):Bool×S:=if l.length=ts.length then eqGo g s (l.zip ts)else(false,s)
theorem equalFunc_spec{S:Type}(g:S->Int->Int->Bool×S)(e:S->zb)(J:S->Prop)(s0:S)(l ts:List Int)(k:Nat)(first caps:List PV)(hl:l.length<1099511627776)(hJ:J s0)
  (hg:∀s v t,J s->J (g s v t).2/\zh E k (first++[.int .i64 v,.int .i64 t]++caps) (e s)=some (.ret (.bool (g s v t).1),e (g s v t).2)):
  zh E 111 [ints l,ints ts,.fn k first caps] (e s0)=some (.ret (.bool (eqM g s0 l ts).1),e (eqM g s0 l ts).2):=by
 refine zc rfl rfl rfl (by simp) ?_;by_cases hlen:l.length=ts.length
 ·have hm:eqM g s0 l ts=eqGo g s0 (l.zip ts):=by simp[eqM,hlen]
  simp[F111,ints,hlen];refine zaa (l.zip ts) K111_0 B111_0 (fun d=>[(17,.int .i64 d.length)]) (fun d=>e (eqGo g s0 d).2) (fun d=>(eqGo g s0 d).1=true/\J (eqGo g s0 d).2) (by simp;omega) (by simp[eqGo,hJ]) ?_ ?_
  ·rintro d ⟨v,t⟩ r s hl' hlt hget hget' hw ⟨hp,hj⟩ h1 h2 h3 h4
   simp at h1 h3;clear h2;rw[List.getElem?_zip_eq_some]at hget;obtain⟨g1,g2⟩:=hget;have hlt1:d.length<l.length:=by simp at hlt;omega
   have hlt2:d.length<ts.length:=by omega
   have g1':l[d.length]=v:=by simpa[hlt1]using g1
   have g2':ts[d.length]=t:=by simpa[hlt2]using g2
   obtain⟨hj',hc⟩:=hg (eqGo g s0 d).2 v t hj;have e1:eqGo g s0 (d++[(v,t)])=((g (eqGo g s0 d).2 v t).1,(g (eqGo g s0 d).2 v t).2):=by
    rw[eqGo_append,hp];simp only[eqGo,if_true];cases(g (eqGo g s0 d).2 v t).1<;>rfl
   have e2:(g (eqGo g s0 d).2 v t).1=false->eqGo g s0 (l.zip ts)=(false,(g (eqGo g s0 d).2 v t).2):=by
    intro hf;rw[hl'.eq,eqGo_append,hp];simp[eqGo,hf]
   clear hg;simp at hc;rw[hm];cases hb:(g (eqGo g s0 d).2 v t).1
   ·have e3:=e2 hb;clear e2;rw[hb]at hc e1
    (simp[*,ints])<;>(repeat' ((first|refine sP _ ?_ ?_|refine gP _ ?_ ?_|refine sN _ ?_ ?_|refine gN _ ?_ ?_|refine sM _ ?_ ?_|refine gM _ ?_ ?_|refine sB _ ?_ ?_|refine gB _ ?_ ?_)<;>intro hc<;>simp[*,ints]))
   ·clear e2;rw[hb]at hc e1
    (simp[*,ints])<;>(repeat' ((first|refine sP _ ?_ ?_|refine gP _ ?_ ?_|refine sN _ ?_ ?_|refine gN _ ?_ ?_|refine sM _ ?_ ?_|refine gM _ ?_ ?_|refine sB _ ?_ ?_|refine gB _ ?_ ?_)<;>intro hc<;>simp[*,ints]))
  ·rintro s ⟨hp,hj⟩ h1 h2 h3 h4
   have hz:(l.zip ts).length=l.length:=by simp;omega
   rw[hz]at h3;simp at h1 h3;clear hg
   (simp[*,ints])<;>(repeat' ((first|refine sP _ ?_ ?_|refine gP _ ?_ ?_|refine sN _ ?_ ?_|refine gN _ ?_ ?_|refine sM _ ?_ ?_|refine gM _ ?_ ?_|refine sB _ ?_ ?_|refine gB _ ?_ ?_)<;>intro hc<;>simp[*,ints]))
 ·have hm:eqM g s0 l ts=(false,s0):=by simp[eqM,hlen]
  have hlen':¬(l.length:Int)=ts.length:=by omega
  clear hg
  (simp[*,F111,ints])<;>(repeat' ((first|refine sP _ ?_ ?_|refine gP _ ?_ ?_|refine sN _ ?_ ?_|refine gN _ ?_ ?_|refine sM _ ?_ ?_|refine gM _ ?_ ?_|refine sB _ ?_ ?_|refine gB _ ?_ ?_)<;>intro hc<;>simp[*,F111,ints]))
def useG(ty:List Int)(S:St1)(v t:Int):Bool×St1:=(valM ty v t&&decide (at0 S v=1),S)
def zva(ty:List Int)(S:St1)(l ts:List Int):Bool:=(eqM (useG ty) S l ts).1
theorem eqGo_useG(ty:List Int)(S:St1):∀l,(eqGo (useG ty) S l).2=S
 | []=>rfl
 |p::r=>by
  simp only[eqGo];split
  ·exact eqGo_useG ty S r
  ·rfl
theorem eqM_useG(ty:List Int)(S:St1)(l ts:List Int):(eqM (useG ty) S l ts).2=S:=by
 unfold eqM;split
 ·exact eqGo_useG _ _ _
 ·rfl
theorem use1_spec(u:Unt)(f:Flow)(S:St1)(v t:Int)(hS:S.length=f.types.length):
  zh E 112 [.int .i64 v,.int .i64 t,.iptr [chkV u f f.types.length] 0] [stO S]=some (.ret (.bool (useG f.types S v t).1),[stO S]):=by
 refine zc rfl rfl rfl (by simp) ?_;have hv:=value_spec u f f.types.length v t [stO S];simp[chkV,ints,stO]at hv;cases hx:valM f.types v t
 ·(simp[*,F112,useG,chkV,stO,ints])<;>(repeat' ((first|refine sP _ ?_ ?_|refine gP _ ?_ ?_|refine sN _ ?_ ?_|refine gN _ ?_ ?_|refine sM _ ?_ ?_|refine gM _ ?_ ?_|refine sB _ ?_ ?_|refine gB _ ?_ ?_)<;>intro hc<;>simp[*,F112,useG,chkV,stO,ints]))
 ·obtain⟨r0,r1⟩:=zKa hx;have q0:v<S.length:=by omega
  have q1:=at0_get r0 q0;have q2:v.toNat<S.length:=by omega
  have q3:=at0_get' r0 q0 q2;have q4:v.toNat<f.types.length:=by omega
  (simp[*,F112,useG,chkV,stO,ints])<;>(repeat' ((first|refine sP _ ?_ ?_|refine gP _ ?_ ?_|refine sN _ ?_ ?_|refine gN _ ?_ ?_|refine sM _ ?_ ?_|refine gM _ ?_ ?_|refine sB _ ?_ ?_|refine gB _ ?_ ?_)<;>intro hc<;>simp[*,F112,useG,chkV,stO,ints]))
theorem zxa(u:Unt)(f:Flow)(S:St1)(l ts:List Int)(hS:S.length=f.types.length)(hl:l.length<1099511627776):
  zh E 95 [chkV u f f.types.length,ints l,ints ts] [stO S]=some (.ret (.bool (zva f.types S l ts)),[stO S]):=by
 refine zc rfl rfl rfl (by simp[chkV]) ?_;have h:=equalFunc_spec (useG f.types) (fun S=>[stO S]) (fun S=>S.length=f.types.length) S l ts 112 [] [.iptr [chkV u f f.types.length] 0] hl hS (fun s v t hs=>⟨hs,use1_spec u f s v t hs⟩);simp only[eqM_useG]at h;simp[chkV]at h
 (simp[*,F95,chkV,zva])<;>(repeat' ((first|refine sP _ ?_ ?_|refine gP _ ?_ ?_|refine sN _ ?_ ?_|refine gN _ ?_ ?_|refine sM _ ?_ ?_|refine gM _ ?_ ?_|refine sB _ ?_ ?_|refine gB _ ?_ ?_)<;>intro hc<;>simp[*,F95,chkV,zva]))
def setG(ty:List Int)(S:St1)(v t:Int):Bool×St1:=if valM ty v t&&decide (at0 S v=0)then(true,S.set v.toNat 1)else(false,S)
def setM(ty:List Int)(S:St1)(l ts:List Int):Bool×St1:=eqM (setG ty) S l ts
theorem setG_len(ty:List Int)(S:St1)(v t:Int):(setG ty S v t).2.length=S.length:=by
 unfold setG;split<;>simp
theorem eqGo_setG_len(ty:List Int):∀(l:List (Int×Int)) (S:St1),(eqGo (setG ty) S l).2.length=S.length
 | [],S=>rfl
 |p::r,S=>by
  simp only[eqGo];split
  ·rw[eqGo_setG_len ty r,setG_len]
  ·rw[setG_len]
theorem zOc(ty:List Int)(S:St1)(l ts:List Int):(setM ty S l ts).2.length=S.length:=by
 unfold setM eqM;split
 ·exact eqGo_setG_len _ _ _
 ·rfl
theorem set1_spec(u:Unt)(f:Flow)(S:St1)(v t:Int)(hS:S.length=f.types.length):
  zh E 113 [.int .i64 v,.int .i64 t,.iptr [chkV u f f.types.length] 0] [stO S]=some (.ret (.bool (setG f.types S v t).1),[stO (setG f.types S v t).2]):=by
 refine zc rfl rfl rfl (by simp) ?_;have hv:=value_spec u f f.types.length v t [stO S];simp[chkV,ints,stO]at hv;cases hx:valM f.types v t
 ·(simp[*,F113,setG,chkV,stO,ints])<;>(repeat' ((first|refine sP _ ?_ ?_|refine gP _ ?_ ?_|refine sN _ ?_ ?_|refine gN _ ?_ ?_|refine sM _ ?_ ?_|refine gM _ ?_ ?_|refine sB _ ?_ ?_|refine gB _ ?_ ?_)<;>intro hc<;>simp[*,F113,setG,chkV,stO,ints]))
 ·obtain⟨r0,r1⟩:=zKa hx;have q0:v<S.length:=by omega
  have q1:=at0_get r0 q0;have q2:v.toNat<S.length:=by omega
  have q3:=at0_get' r0 q0 q2;have q4:v.toNat<f.types.length:=by omega
  (simp[*,F113,setG,chkV,stO,ints,zO,znc,yka])<;>(repeat' ((first|refine sP _ ?_ ?_|refine gP _ ?_ ?_|refine sN _ ?_ ?_|refine gN _ ?_ ?_|refine sM _ ?_ ?_|refine gM _ ?_ ?_|refine sB _ ?_ ?_|refine gB _ ?_ ?_)<;>intro hc<;>simp[*,F113,setG,chkV,stO,ints,zO,znc,yka]))
theorem set_spec(u:Unt)(f:Flow)(S:St1)(l ts:List Int)(hS:S.length=f.types.length)(hl:l.length<1099511627776):
  zh E 97 [chkV u f f.types.length,ints l,ints ts] [stO S]=some (.ret (.bool (setM f.types S l ts).1),[stO (setM f.types S l ts).2]):=by
 refine zc rfl rfl rfl (by simp[chkV]) ?_;have h:=equalFunc_spec (setG f.types) (fun S=>[stO S]) (fun S=>S.length=f.types.length) S l ts 113 [] [.iptr [chkV u f f.types.length] 0] hl hS (fun s v t hs=>⟨by rw[setG_len];exact hs,set1_spec u f s v t hs⟩);simp[chkV]at h
 (simp[*,F97,chkV,setM])<;>(repeat' ((first|refine sP _ ?_ ?_|refine gP _ ?_ ?_|refine sN _ ?_ ?_|refine gN _ ?_ ?_|refine sM _ ?_ ?_|refine gM _ ?_ ?_|refine sB _ ?_ ?_|refine gB _ ?_ ?_)<;>intro hc<;>simp[*,F97,chkV,setM]))
def zeros(n:Nat):List Int:=yg n 0
def allM(ty:List Int)(S:St1)(l:List Int):Bool×St1:=setM ty S l (zeros l.length)
theorem all_spec(u:Unt)(f:Flow)(S:St1)(l:List Int)(hS:S.length=f.types.length)(hl:l.length<1099511627776):
  zh E 96 [chkV u f f.types.length,ints l] [stO S]=some (.ret (.bool (allM f.types S l).1),[stO (allM f.types S l).2]):=by
 refine zc rfl rfl rfl (by simp[chkV]) ?_;have h:=set_spec u f S l (zeros l.length) hS hl;have h1:(0:Int)<=(l.length:Int):=by omega
 have h2:(l.length:Int)<=9223372036854775807:=by omega
 have h3:8*(l.length:Int)<=281474976710656:=by omega
 simp[chkV,ints,zeros]at h
 (simp[*,F96,chkV,allM,zeros,ints])<;>(repeat' ((first|refine sP _ ?_ ?_|refine gP _ ?_ ?_|refine sN _ ?_ ?_|refine gN _ ?_ ?_|refine sM _ ?_ ?_|refine gM _ ?_ ?_|refine sB _ ?_ ?_|refine gB _ ?_ ?_)<;>intro hc<;>simp[*,F96,chkV,allM,zeros,ints]))
def zCb(S:St1)(l:List Int):St1:=l.foldl (fun S v=>S.set v.toNat 2) S
theorem zGc(l:List Int):∀S:St1,(zCb S l).length=S.length:=by
 induction l with
 |nil=>intro S;rfl
 |cons v r ih=>intro S;simp[zCb]at ih ⊢;rw[ih];simp
theorem hideM_snoc(S:St1)(l:List Int)(v:Int):zCb S (l++[v])=(zCb S l).set v.toNat 2:=by simp[zCb]
theorem hide_spec(u:Unt)(f:Flow)(S:St1)(l:List Int)(hS:S.length=f.types.length)(hl:l.length<1099511627776)(hv:∀v∈l,0<=v/\v<f.types.length):
  zh E 67 [chkV u f f.types.length,ints l] [stO S]=some (.ret (.tup []),[stO (zCb S l)]):=by
 refine zc rfl rfl rfl (by simp[chkV]) ?_;simp[F67,ints];refine zaa l K67_0 B67_0 (fun d=>[(8,.int .i64 d.length)]) (fun d=>[stO (zCb S d)]) (fun d=>True) (by omega) (by simp[zCb]) ?_ ?_
 ·intros d x r s hl' hlt hget hget' hw hp h1 h2 h3 h4;simp at h1 h3;clear h2;obtain⟨r0,r1⟩:=hv x hl'.mem;have hlen:=zGc d S;have q2:x.toNat<S.length:=by omega
  have q4:x.toNat<f.types.length:=by omega
  have hsn:=hideM_snoc S d x;clear hv
  (simp[*,chkV,stO,zO,znc,yka])<;>(repeat' ((first|refine sP _ ?_ ?_|refine gP _ ?_ ?_|refine sN _ ?_ ?_|refine gN _ ?_ ?_|refine sM _ ?_ ?_|refine gM _ ?_ ?_|refine sB _ ?_ ?_|refine gB _ ?_ ?_)<;>intro hc<;>simp[*,chkV,stO,zO,znc,yka]))
 ·intros s hp h1 h2 h3 h4;simp at h1 h3;clear hv
  (simp[*])<;>(repeat' ((first|refine sP _ ?_ ?_|refine gP _ ?_ ?_|refine sN _ ?_ ?_|refine gN _ ?_ ?_|refine sM _ ?_ ?_|refine gM _ ?_ ?_|refine sB _ ?_ ?_|refine gB _ ?_ ?_)<;>intro hc<;>simp[*]))
def kidsN(k:Int):Int:=if k=10 then 2 else if k=11 then 1 else 0
def bareM(n:Node):Bool:=
 (decide (n.kind=3)||decide (n.kind=4)||decide (n.op=0))&&(decide (n.kind=1)||decide (n.kind=2)||decide (n.n=0))&&
 (decide (n.kind=5)||decide (n.kind=6)||decide (n.kind=7)||decide (n.name=[]))&&(decide (n.kind=11)||decide (n.params=[]))&&decide ((n.kids.length:Int)=kidsN n.kind)
theorem bare_spec(x:Node):zh E 81 [zJ x] []=some (.ret (.bool (bareM x)),[]):=by
 refine zc rfl rfl rfl (by simp[za]) ?_;have hp:decide ((x.params.length:Int)=0)=decide (x.params=[]):=by simp
 by_cases h10:x.kind=10
 ·(simp[*,F81,za,ints,kids,bareM,kidsN])<;>(repeat' ((first|refine sP _ ?_ ?_|refine gP _ ?_ ?_|refine sN _ ?_ ?_|refine gN _ ?_ ?_|refine sM _ ?_ ?_|refine gM _ ?_ ?_|refine sB _ ?_ ?_|refine gB _ ?_ ?_)<;>intro hc<;>simp[*,F81,za,ints,kids,bareM,kidsN]))
  all_goals(try grind)
 ·by_cases h11:x.kind=11
  ·(simp[*,F81,za,ints,kids,bareM,kidsN])<;>(repeat' ((first|refine sP _ ?_ ?_|refine gP _ ?_ ?_|refine sN _ ?_ ?_|refine gN _ ?_ ?_|refine sM _ ?_ ?_|refine gM _ ?_ ?_|refine sB _ ?_ ?_|refine gB _ ?_ ?_)<;>intro hc<;>simp[*,F81,za,ints,kids,bareM,kidsN]))
   all_goals(try grind)
  ·(simp[*,F81,za,ints,kids,bareM,kidsN])<;>(repeat' ((first|refine sP _ ?_ ?_|refine gP _ ?_ ?_|refine sN _ ?_ ?_|refine gN _ ?_ ?_|refine sM _ ?_ ?_|refine gM _ ?_ ?_|refine sB _ ?_ ?_|refine gB _ ?_ ?_)<;>intro hc<;>simp[*,F81,za,ints,kids,bareM,kidsN]))
   all_goals(try grind)
def takes(op:Int):Int:=if op=22 then 2 else if op=16\/op=17 then 0 else 1
def makes(op:Int):Int:=if op=22\/(12<=op/\op<=17)then 2 else 1
theorem operand_spec(op:Int):zh E 114 [.int .i64 op] []=some (.ret (.tup [.int .i64 (takes op),.int .i64 (makes op)]),[]):=by
 refine zc rfl rfl rfl (by simp) ?_
 (simp[*,F114,takes,makes])<;>(repeat' ((first|refine sP _ ?_ ?_|refine gP _ ?_ ?_|refine sN _ ?_ ?_|refine gN _ ?_ ?_|refine sM _ ?_ ?_|refine gM _ ?_ ?_|refine sB _ ?_ ?_|refine gB _ ?_ ?_)<;>intro hc<;>simp[*,F114,takes,makes]))
 all_goals(try grind)
def signList:List (List UInt8):=[[],[43],[45],[42],[47],[37],[38],[124],[94],[60,60],[62,62],[62,62,62],[60],[60,61],[62],[62,61],[61,61],[33,61],[38,38],[124,124],[45],[126],[33],[105,56],[105,49,54],[105,51,50],[117,56],[117,49,54],[117,51,50]]
def zFc:List Int:=[0,9,9,10,10,10,5,3,4,8,8,8,7,7,7,7,6,6,2,1,0,0,0,0,0,0,0,0,0]
def sgn(op:Int):List UInt8:=if op<0 then[]else(signList[op.toNat]?).getD []
def lvl(op:Int):Int:=if op<0 then 0 else(zFc[op.toNat]?).getD 0
theorem rowCells:∀n:Nat,n<29->List.take 2 (List.drop (n*2) [.str [],.int .i64 0,.str [43],.int .i64 9,.str [45],.int .i64 9,.str [42],.int .i64 10,.str [47],.int .i64 10,.str [37],.int .i64 10,.str [38],.int .i64 5,.str [124],.int .i64 3,.str [94],.int .i64 4,.str [60,60],.int .i64 8,.str [62,62],.int .i64 8,.str [62,62,62],.int .i64 8,.str [60],.int .i64 7,.str [60,61],.int .i64 7,.str [62],.int .i64 7,.str [62,61],.int .i64 7,.str [61,61],.int .i64 6,.str [33,61],.int .i64 6,.str [38,38],.int .i64 2,.str [124,124],.int .i64 1,.str [45],.int .i64 0,.str [126],.int .i64 0,.str [33],.int .i64 0,.str [105,56],.int .i64 0,.str [105,49,54],.int .i64 0,.str [105,51,50],.int .i64 0,.str [117,56],.int .i64 0,.str [117,49,54],.int .i64 0,.str [117,51,50],.int .i64 0])=[PV.str ((signList[n]?).getD []),PV.int .i64 ((zFc[n]?).getD 0)]
 |0,_=>rfl
 |1,_=>rfl
 |2,_=>rfl
 |3,_=>rfl
 |4,_=>rfl
 |5,_=>rfl
 |6,_=>rfl
 |7,_=>rfl
 |8,_=>rfl
 |9,_=>rfl
 |10,_=>rfl
 |11,_=>rfl
 |12,_=>rfl
 |13,_=>rfl
 |14,_=>rfl
 |15,_=>rfl
 |16,_=>rfl
 |17,_=>rfl
 |18,_=>rfl
 |19,_=>rfl
 |20,_=>rfl
 |21,_=>rfl
 |22,_=>rfl
 |23,_=>rfl
 |24,_=>rfl
 |25,_=>rfl
 |26,_=>rfl
 |27,_=>rfl
 |28,_=>rfl
 |n+29,h=>by omega
set_option maxHeartbeats 4000000 in
theorem rowOf_spec(op:Int)(σ:zb):zh E 122 [.int .i64 op] σ=some (.ret (.agg [.str (sgn op),.int .i64 (lvl op)]),σ):=by
 refine zc rfl rfl rfl (by simp) ?_;by_cases h0:op<0
 ·simp[F122,h0,sgn,lvl]
 by_cases h1:29<=op
 ·have:29<=op.toNat:=by omega
  simp[F122,h0,h1,sgn,lvl,signList,zFc,List.getElem?_eq_none,this]
 have h2:op.toNat<29:=by omega
 have h3:0<=op:=by omega
 have h4:op.toNat*2<=56:=by omega
 have e1:sgn op=((signList[op.toNat]?).getD []):=by simp[sgn,h0]
 have e2:lvl op=((zFc[op.toNat]?).getD 0):=by simp[lvl,h0]
 rw[e1,e2];have e3:=rowCells op.toNat h2;generalize((signList[op.toNat]?).getD [])=s at*;generalize((zFc[op.toNat]?).getD 0)=l at*;simp[F122,h0,h1,h2,h3,h4,e3]
theorem level_spec(op:Int)(σ:zb):zh E 115 [.int .i64 op] σ=some (.ret (.int .i64 (lvl op)),σ):=by
 refine zc rfl rfl rfl (by simp) ?_
 (simp[*,F115,rowOf_spec])<;>(repeat' ((first|refine sP _ ?_ ?_|refine gP _ ?_ ?_|refine sN _ ?_ ?_|refine gN _ ?_ ?_|refine sM _ ?_ ?_|refine gM _ ?_ ?_|refine sB _ ?_ ?_|refine gB _ ?_ ?_)<;>intro hc<;>simp[*,F115,rowOf_spec]))
theorem lvl_pos(op:Int):(0<lvl op/\op<=17)=(1<=op/\op<=17):=by
 apply propext;constructor
 ·rintro⟨h,h'⟩
  refine⟨?_,h'⟩;by_cases h0:op<0
  ·simp[lvl,h0]at h
  ·by_cases h1:op=0
   ·subst h1;simp[lvl,zFc]at h
   ·omega
 ·rintro⟨h,h'⟩
  refine⟨?_,h'⟩;have:op=1\/op=2\/op=3\/op=4\/op=5\/op=6\/op=7\/op=8\/op=9\/op=10\/op=11\/op=12\/op=13\/op=14\/op=15\/op=16\/op=17:=by omega
  rcases this with h|h|h|h|h|h|h|h|h|h|h|h|h|h|h|h|h<;>subst h<;>decide
structure Place where
 inIf:Bool
 inLoop:Bool
 yield:List Int
 next:List Int
 left:List Int
def zl(p:Place):PV:= .agg [.bool p.inIf,.bool p.inLoop,ints p.yield,ints p.next,ints p.left]
structure UOk(u:Unt):Prop where
 arrs:u.arrays.length<1099511627776
 flows:u.flows.length<1099511627776
 pars:∀f∈u.flows,0<=f.params/\f.params<=f.types.length
 types:∀f∈u.flows,f.types.length<1099511627776
def sumM(ty:List Int)(S:St1)(n:Node):Bool×St1:=
 if n.kind=3 then
  if 20<=n.op/\n.op<=28/\zva ty S n.args [takes n.op]=true then setM ty S n.outs [makes n.op]else(false,S)
 else
  if 1<=n.op/\n.op<=17/\zva ty S n.args [takes n.op,takes n.op]=true/\at0 ty (at0 n.args 0)=at0 ty (at0 n.args 1)then setM ty S n.outs [makes n.op]else(false,S)
theorem usesM_two{ty S l:List Int}{t t':Int}(h:zva ty S l [t,t']=true):∃a b,l=[a,b]/\0<=a/\a<ty.length/\0<=b/\b<ty.length:=by
 unfold zva eqM at h
 match l with
 | []=>simp at h
 | [_]=>simp at h
 |a::b::_::_=>simp at h
 | [a,b]=>
  simp[eqGo,useG]at h;split at h
  ·rename_i q;split at h
   ·rename_i q';obtain⟨r0,r1⟩:=zKa q.1;obtain⟨r2,r3⟩:=zKa q'.1;exact⟨a,b,rfl,r0,r1,r2,r3⟩
   ·simp at h
  ·simp at h
theorem sum_spec(u:Unt)(f:Flow)(S:St1)(x:Node)(hS:S.length=f.types.length)(hx:wtN x<1099511627776)(hk:x.kind=3\/x.kind=4):
  zh E 98 [chkV u f f.types.length,zJ x] [stO S]=some (.ret (.bool (sumM f.types S x).1),[stO (sumM f.types S x).2]):=by
 refine zc rfl rfl rfl (by simp[za,chkV]) ?_;have hw:=zFb x;have h1:=zxa u f S x.args [takes x.op] hS (by omega);have h2:=zxa u f S x.args [takes x.op,takes x.op] hS (by omega);have h3:=set_spec u f S x.outs [makes x.op] hS (by omega);have h4:=operand_spec x.op;have h5:=level_spec x.op [];have h6:=lvl_pos x.op;simp[chkV,ints]at h1 h2 h3;rcases hk with hk|hk
 ·have e:sumM f.types S x=if 20<=x.op/\x.op<=28/\zva f.types S x.args [takes x.op]=true then setM f.types S x.outs [makes x.op]else(false,S):=by simp[sumM,hk]
  (simp[*,F98,za,chkV,ints])<;>(repeat' ((first|refine sP _ ?_ ?_|refine gP _ ?_ ?_|refine sN _ ?_ ?_|refine gN _ ?_ ?_|refine sM _ ?_ ?_|refine gM _ ?_ ?_|refine sB _ ?_ ?_|refine gB _ ?_ ?_)<;>intro hc<;>simp[*,F98,za,chkV,ints]))
 ·have e:sumM f.types S x=if 1<=x.op/\x.op<=17/\zva f.types S x.args [takes x.op,takes x.op]=true/\at0 f.types (at0 x.args 0)=at0 f.types (at0 x.args 1)then setM f.types S x.outs [makes x.op]else(false,S):=by simp[sumM,hk]
  by_cases hu:zva f.types S x.args [takes x.op,takes x.op]=true
  ·obtain⟨a,b,e1,r0,r1,r2,r3⟩:=usesM_two hu;have q1:=at0_get r0 r1;have q2:a.toNat<f.types.length:=by omega
   have q3:=at0_get' r0 r1 q2;have q1':=at0_get r2 r3;have q2':b.toNat<f.types.length:=by omega
   have q3':=at0_get' r2 r3 q2';have z0:at0 [a,b] 0=a:=rfl;have z1:at0 [a,b] 1=b:=rfl;rw[e1]at h1 h2 e hu;rw[hu]at h2;clear h1 hw;simp at h2
   (simp[*,F98,za,chkV,ints])<;>(repeat' ((first|refine sP _ ?_ ?_|refine gP _ ?_ ?_|refine sN _ ?_ ?_|refine gN _ ?_ ?_|refine sM _ ?_ ?_|refine gM _ ?_ ?_|refine sB _ ?_ ?_|refine gB _ ?_ ?_)<;>intro hc<;>simp[*,F98,za,chkV,ints]))
   all_goals(try grind)
  ·have hu':zva f.types S x.args [takes x.op,takes x.op]=false:=by simpa using hu
   rw[hu']at h2;clear h1 hw
   (simp[*,F98,za,chkV,ints])<;>(repeat' ((first|refine sP _ ?_ ?_|refine gP _ ?_ ?_|refine sN _ ?_ ?_|refine gN _ ?_ ?_|refine sM _ ?_ ?_|refine gM _ ?_ ?_|refine sB _ ?_ ?_|refine gB _ ?_ ?_)<;>intro hc<;>simp[*,F98,za,chkV,ints]))
   all_goals(try grind)
def endM(f:Flow)(S:St1)(n:Node)(p:Place):Bool:=
 decide (n.outs=[])&&(if n.kind=12 then p.inIf&&zva f.types S n.args p.yield else if n.kind=13 then p.inLoop&&zva f.types S n.args p.next
  else if n.kind=14 then p.inLoop&&zva f.types S n.args p.left else zva f.types S n.args [f.type])
theorem end_spec(u:Unt)(f:Flow)(S:St1)(x:Node)(p:Place)(hS:S.length=f.types.length)(hx:wtN x<1099511627776):
  zh E 84 [chkV u f f.types.length,zJ x,zl p] [stO S]=some (.ret (.bool (endM f S x p)),[stO S]):=by
 refine zc rfl rfl rfl (by simp[za,chkV,zl]) ?_;have hw:=zFb x;have h1:=zxa u f S x.args p.yield hS (by omega);have h2:=zxa u f S x.args p.next hS (by omega);have h3:=zxa u f S x.args p.left hS (by omega);have h4:=zxa u f S x.args [f.type] hS (by omega);have ho:decide ((x.outs.length:Int)=0)=decide (x.outs=[]):=by simp
 simp[chkV,ints]at h1 h2 h3 h4;clear hw;by_cases h0:x.outs=[]
 ·(simp[*,F84,za,chkV,ints,zl,endM])<;>(repeat' ((first|refine sP _ ?_ ?_|refine gP _ ?_ ?_|refine sN _ ?_ ?_|refine gN _ ?_ ?_|refine sM _ ?_ ?_|refine gM _ ?_ ?_|refine sB _ ?_ ?_|refine gB _ ?_ ?_)<;>intro hc<;>simp[*,F84,za,chkV,ints,zl,endM]))
 ·(simp[*,F84,za,chkV,ints,zl,endM])<;>(repeat' ((first|refine sP _ ?_ ?_|refine gP _ ?_ ?_|refine sN _ ?_ ?_|refine gN _ ?_ ?_|refine sM _ ?_ ?_|refine gM _ ?_ ?_|refine sB _ ?_ ?_|refine gB _ ?_ ?_)<;>intro hc<;>simp[*,F84,za,chkV,ints,zl,endM]))
def pars(f:Flow):List Int:=f.types.take f.params.toNat
def zHa(u:Unt)(f:Flow)(S:St1)(n:Node):Bool×St1:=
 let ty:=f.types
 if n.kind=1 then if zva ty S n.args []then setM ty S n.outs [1]else(false,S)
 else if n.kind=2 then if(n.n=0\/n.n=1)/\zva ty S n.args []=true then setM ty S n.outs [2]else(false,S)
 else if n.kind=3\/n.kind=4 then sumM ty S n
 else if n.kind=5 then if zGb u.arrays n.name&&zva ty S n.args [1]then setM ty S n.outs [1]else(false,S)
 else if n.kind=6 then if zGb u.arrays n.name&&zva ty S n.args [1,1]then setM ty S n.outs []else(false,S)
 else if n.kind=8 then if zva ty S n.args []then setM ty S n.outs [1]else(false,S)
 else if n.kind=9 then if zva ty S n.args [1]then setM ty S n.outs []else(false,S)
 else if n.kind=7 then
  match u.flows[(zja u.flows n.name).toNat]? with
  |some g=>if 0<=zja u.flows n.name/\zva ty S n.args (pars g)=true then setM ty S n.outs [g.type]else(false,S)
  |none=>(false,S)
 else(false,S)
theorem place_get{l:List Flow}{s:List UInt8}(h:0<=zja l s):∃g,l[(zja l s).toNat]? =some g/\g∈l/\g.name=s/\(zja l s).toNat<l.length:=by
 unfold zja idx at h ⊢;cases hf:l.findIdx? (fun f=>decide (f.name=s))with
 |none=>rw[hf]at h;simp at h
 |some i=>
  rw[List.findIdx?_eq_some_iff_getElem]at hf;obtain⟨hi,h1,_⟩:=hf;refine⟨l[i],by simp[hi],List.getElem_mem hi,by simpa using h1,by simpa using hi⟩
theorem simple_spec(u:Unt)(f:Flow)(S:St1)(x:Node)(hu:UOk u)(hS:S.length=f.types.length)(hx:wtN x<1099511627776):
  zh E 85 [chkV u f f.types.length,zJ x] [stO S]=some (.ret (.bool (zHa u f S x).1),[stO (zHa u f S x).2]):=by
 refine zc rfl rfl rfl (by simp[za,chkV]) ?_;have hw:=zFb x;have h0:=zxa u f S x.args [] hS (by omega);have h1:=zxa u f S x.args [1] hS (by omega);have h2:=zxa u f S x.args [1,1] hS (by omega);have h3:=set_spec u f S x.outs [] hS (by omega);have h4:=set_spec u f S x.outs [1] hS (by omega);have h5:=set_spec u f S x.outs [2] hS (by omega);have h6:=hasArray_spec u x.name [] hu.arrs;have h7:=place_spec u x.name [] hu.flows;simp[chkV,ints,zE,za]at h0 h1 h2 h3 h4 h5 h6 h7;clear hw;by_cases k34:x.kind=3\/x.kind=4
 ·have h8:=sum_spec u f S x hS hx k34;have e:zHa u f S x=sumM f.types S x:=by rcases k34 with h|h<;>simp[zHa,h]
  simp[chkV,ints,zE,za]at h8
  (simp[*,F85,za,chkV,ints])<;>(repeat' (first|((first|refine sP _ ?_ ?_|refine gP _ ?_ ?_|refine sN _ ?_ ?_|refine gN _ ?_ ?_)<;>intro hc<;>(first|replace hc:=eqn hc|replace hc:=eqp hc)<;>simp[*,F85,za,chkV,ints])|((first|refine sM _ ?_ ?_|refine gM _ ?_ ?_|refine sB _ ?_ ?_|refine gB _ ?_ ?_)<;>intro hc<;>simp[*,F85,za,chkV,ints])))
  all_goals(try grind)
 by_cases k7:x.kind=7
 ·by_cases hp:0<=zja u.flows x.name
  ·obtain⟨g,q1,q2,q3,q4⟩:=place_get hp;obtain⟨p1,p2⟩:=hu.pars g q2;have q5:u.flows[(zja u.flows x.name).toNat]=g:=by simpa[q4]using q1
   have e:zHa u f S x=if 0<=zja u.flows x.name/\zva f.types S x.args (pars g)=true then setM f.types S x.outs [g.type]else(false,S):=by simp[zHa,k7,q1]
   have h8:=zxa u f S x.args (pars g) hS (by have:=zFb x;omega);have h9:=set_spec u f S x.outs [g.type] hS (by have:=zFb x;omega);have p3:g.params.toNat<=g.types.length:=by omega
   have p4:¬zja u.flows x.name<0:=by omega
   simp[chkV,ints,zE,za,k7,flows,pars,List.map_take]at h8 h9 h7;clear h0 h1 h2 h3 h4 h5 h6 hu
   (simp[*,F85,za,chkV,ints,flows,zi,pars,List.map_take])<;>(repeat' ((first|refine sP _ ?_ ?_|refine gP _ ?_ ?_|refine sN _ ?_ ?_|refine gN _ ?_ ?_|refine sM _ ?_ ?_|refine gM _ ?_ ?_|refine sB _ ?_ ?_|refine gB _ ?_ ?_)<;>intro hc<;>simp[*,F85,za,chkV,ints,flows,zi,pars,List.map_take]))
  ·have e:zHa u f S x=(false,S):=by
    simp only[zHa,k7];simp;split<;>simp[hp]
   have p4:zja u.flows x.name<0:=by omega
   (simp[*,F85,za,chkV,ints])<;>(repeat' ((first|refine sP _ ?_ ?_|refine gP _ ?_ ?_|refine sN _ ?_ ?_|refine gN _ ?_ ?_|refine sM _ ?_ ?_|refine gM _ ?_ ?_|refine sB _ ?_ ?_|refine gB _ ?_ ?_)<;>intro hc<;>simp[*,F85,za,chkV,ints]))
 have k3:¬x.kind=3:=fun h=>k34 (.inl h)
 have k4:¬x.kind=4:=fun h=>k34 (.inr h)
 have hs:zHa u f S x=if x.kind=1 then if zva f.types S x.args []then setM f.types S x.outs [1]else(false,S)
  else if x.kind=2 then if(x.n=0\/x.n=1)/\zva f.types S x.args []=true then setM f.types S x.outs [2]else(false,S)
  else if x.kind=5 then if zGb u.arrays x.name&&zva f.types S x.args [1]then setM f.types S x.outs [1]else(false,S)
  else if x.kind=6 then if zGb u.arrays x.name&&zva f.types S x.args [1,1]then setM f.types S x.outs []else(false,S)
  else if x.kind=8 then if zva f.types S x.args []then setM f.types S x.outs [1]else(false,S)
  else if x.kind=9 then if zva f.types S x.args [1]then setM f.types S x.outs []else(false,S)
  else(false,S):=by simp[zHa,k34,k7]
 (simp[*,F85,za,chkV,ints,zE])<;>(repeat' ((first|refine sP _ ?_ ?_|refine gP _ ?_ ?_|refine sN _ ?_ ?_|refine gN _ ?_ ?_|refine sM _ ?_ ?_|refine gM _ ?_ ?_|refine sB _ ?_ ?_|refine gB _ ?_ ?_)<;>intro hc<;>simp[*,F85,za,chkV,ints,zE]))
 all_goals(try grind)
def listE(l:List Node)(q:Bool×St1):Bool×St1:=if q.1 then(!l.isEmpty,zCb q.2 (l.flatMap Node.outs))else(false,q.2)
def zbc(ty:List Int)(x:Node)(q:Bool×St1):Bool×St1:=if q.1&&(decide (x.outs=[])|| !zB x)then allM ty q.2 x.outs else(false,q.2)
def loopE(ty:List Int)(x:Node)(q:Bool×St1):Bool×St1:=if q.1 then(if decide (x.outs=[])|| !zB x then allM ty (zCb q.2 x.params) x.outs else(false,zCb q.2 x.params))else(false,q.2)
mutual
def nodeM(u:Unt)(f:Flow):Node->Place->Int->St1->Bool×St1
 |⟨k,o,n,s,a,us,ps,ks⟩,p,deep,S=>
  if !bareM ⟨k,o,n,s,a,us,ps,ks⟩then(false,S)
  else if k=10 then
   if zva f.types S a [2]then zbc f.types ⟨k,o,n,s,a,us,ps,ks⟩ (zVc u f ks {p with inIf:=true,yield:=zU f.types us} (deep+1) S)else(false,S)
  else if k=11 then
   if zva f.types S a (zU f.types ps)then
    if(allM f.types S ps).1 then loopE f.types ⟨k,o,n,s,a,us,ps,ks⟩ (zVc u f ks ⟨false,true,[],zU f.types ps,zU f.types us⟩ (deep+1) (allM f.types S ps).2)
    else(false,(allM f.types S ps).2)
   else(false,S)
  else if endK k then(endM f S ⟨k,o,n,s,a,us,ps,ks⟩ p,S)
  else zHa u f S ⟨k,o,n,s,a,us,ps,ks⟩
def zVc(u:Unt)(f:Flow):List (List Node)->Place->Int->St1->Bool×St1
 | [],p,deep,S=>(true,S)
 |l::r,p,deep,S=>if(listE l (goM u f l p deep S)).1 then zVc u f r p deep (listE l (goM u f l p deep S)).2 else(false,(listE l (goM u f l p deep S)).2)
def goM(u:Unt)(f:Flow):List Node->Place->Int->St1->Bool×St1
 | [],p,deep,S=>(true,S)
 |x::r,p,deep,S=>if 100<deep then(false,S)else
   if(nodeM u f x p deep S).1 then(if zB x=r.isEmpty then goM u f r p deep (nodeM u f x p deep S).2 else(false,(nodeM u f x p deep S).2))else(false,(nodeM u f x p deep S).2)
end
def zUa(u:Unt)(f:Flow)(l:List Node)(p:Place)(deep:Int)(S:St1):Bool×St1:=listE l (goM u f l p deep S)
theorem nodeM_eq(u:Unt)(f:Flow)(x:Node)(p:Place)(deep:Int)(S:St1):nodeM u f x p deep S=
  if !bareM x then(false,S)
  else if x.kind=10 then
   if zva f.types S x.args [2]then zbc f.types x (zVc u f x.kids {p with inIf:=true,yield:=zU f.types x.outs} (deep+1) S)else(false,S)
  else if x.kind=11 then
   if zva f.types S x.args (zU f.types x.params)then
    if(allM f.types S x.params).1 then loopE f.types x (zVc u f x.kids ⟨false,true,[],zU f.types x.params,zU f.types x.outs⟩ (deep+1) (allM f.types S x.params).2)
    else(false,(allM f.types S x.params).2)
   else(false,S)
  else if endK x.kind then(endM f S x p,S)
  else zHa u f S x:=by
 cases x;rw[nodeM]
theorem sumM_len(ty:List Int)(S:St1)(x:Node):(sumM ty S x).2.length=S.length:=by
 unfold sumM;split<;>split<;>simp[zOc]
theorem simpleM_len(u:Unt)(f:Flow)(S:St1)(x:Node):(zHa u f S x).2.length=S.length:=by
 simp only[zHa]
 repeat' split
 all_goals simp[zOc,sumM_len]
theorem choiceE_len(ty:List Int)(x:Node)(q:Bool×St1):(zbc ty x q).2.length=q.2.length:=by
 unfold zbc;split<;>simp[allM,zOc]
theorem loopE_len(ty:List Int)(x:Node)(q:Bool×St1):(loopE ty x q).2.length=q.2.length:=by
 unfold loopE;split
 ·split<;>simp[allM,zOc,zGc]
 ·rfl
theorem listE_len(l:List Node)(q:Bool×St1):(listE l q).2.length=q.2.length:=by
 unfold listE;split<;>simp[zGc]
mutual
theorem nodeM_len(u:Unt)(f:Flow):∀(x:Node) (p:Place) (deep:Int) (S:St1),(nodeM u f x p deep S).2.length=S.length
 |⟨k,o,n,s,a,us,ps,ks⟩,p,deep,S=>by
  rw[nodeM];split
  ·rfl
  split
  ·split
   ·rw[choiceE_len,kidsM_len u f ks]
   ·rfl
  split
  ·split
   ·split
    ·rw[loopE_len,kidsM_len u f ks];simp[allM,zOc]
    ·simp[allM,zOc]
   ·rfl
  split
  ·rfl
  ·exact simpleM_len _ _ _ _
theorem kidsM_len(u:Unt)(f:Flow):∀(ks:List (List Node)) (p:Place) (deep:Int) (S:St1),(zVc u f ks p deep S).2.length=S.length
 | [],p,deep,S=>rfl
 |l::r,p,deep,S=>by
  rw[zVc];split
  ·rw[kidsM_len u f r,listE_len,goM_len u f l]
  ·simp only;rw[listE_len,goM_len u f l]
theorem goM_len(u:Unt)(f:Flow):∀(l:List Node) (p:Place) (deep:Int) (S:St1),(goM u f l p deep S).2.length=S.length
 | [],p,deep,S=>rfl
 |x::r,p,deep,S=>by
  rw[goM];split
  ·rfl
  split
  ·split
   ·rw[goM_len u f r,nodeM_len u f x]
   ·exact nodeM_len u f x p deep S
  ·exact nodeM_len u f x p deep S
end
theorem listM_len(u:Unt)(f:Flow)(l:List Node)(p:Place)(deep:Int)(S:St1):(zUa u f l p deep S).2.length=S.length:=by
 unfold zUa;rw[listE_len,goM_len]
theorem eqGo_setG_ok{ty:List Int}:∀{l:List (Int×Int)} {S:St1},(eqGo (setG ty) S l).1=true->∀q∈l,0<=q.1/\q.1<ty.length
 | [],S,_,q,hq=>by cases hq
 |p::r,S,h,q,hq=>by
  simp only[eqGo]at h;split at h
  ·rename_i hp;rcases yO.1 hq with rfl|hq
   ·unfold setG at hp;split at hp
    ·rename_i hv;simp only[ya]at hv;exact zKa hv.1
    ·cases hp
   ·exact eqGo_setG_ok h q hq
  ·cases h
theorem setM_ok{ty:List Int}{S:St1}{l ts:List Int}(h:(setM ty S l ts).1=true):∀v∈l,0<=v/\v<ty.length:=by
 unfold setM eqM at h;split at h
 ·rename_i hl;intro v hv;have:=eqGo_setG_ok h;obtain⟨i,hi,rfl⟩:=List.getElem_of_mem hv;exact this (l[i],ts[i]) (List.mem_iff_getElem.2 ⟨i,by simp;omega,by simp⟩)
 ·cases h
theorem nodeM_outs{u:Unt}{f:Flow}{x:Node}{p:Place}{deep:Int}{S:St1}(h:(nodeM u f x p deep S).1=true):∀v∈x.outs,0<=v/\v<f.types.length:=by
 rw[nodeM_eq]at h;split at h
 ·cases h
 split at h
 ·split at h
  ·unfold zbc at h;split at h
   ·exact setM_ok h
   ·cases h
  ·cases h
 split at h
 ·split at h
  ·split at h
   ·unfold loopE at h;split at h
    ·split at h
     ·exact setM_ok h
     ·cases h
    ·cases h
   ·cases h
  ·cases h
 split at h
 ·simp only[endM,ya,decide_eq_true_eq]at h;rw[h.1];simp
 ·simp only[zHa]at h
  repeat' split at h
  all_goals first|(cases h;done)|exact setM_ok h|skip
  all_goals
   simp only[sumM]at h
   repeat' split at h
   all_goals first|(cases h;done)|exact setM_ok h
theorem kidsM_nil(u:Unt)(f:Flow)(p:Place)(deep:Int)(S:St1):zVc u f [] p deep S=(true,S):=by rw[zVc]
theorem kidsM_cons(u:Unt)(f:Flow)(l:List Node)(r:List (List Node))(p:Place)(deep:Int)(S:St1):zVc u f (l::r) p deep S=if(zUa u f l p deep S).1 then zVc u f r p deep (zUa u f l p deep S).2 else(false,(zUa u f l p deep S).2):=by rw[zVc];rfl
def ListOk(u:Unt)(f:Flow)(deep:Int)(l:List Node):Prop:=∀p S,S.length=f.types.length→
 zh E 43 [chkV u f f.types.length,zn l,zl p,.int .i64 deep] [stO S]=some (.ret (.bool (zUa u f l p deep S).1),[stO (zUa u f l p deep S).2])
theorem choice_spec(u:Unt)(f:Flow)(S:St1)(x:Node)(p:Place)(deep:Int)(hS:S.length=f.types.length)(hx:wtN x<1099511627776)(hk:x.kids.length=2)(hl:∀l∈x.kids,ListOk u f deep l):
  zh E 82 [chkV u f f.types.length,zJ x,zl p,.int .i64 deep] [stO S]=
   let q:=if zva f.types S x.args [2]then zbc f.types x (zVc u f x.kids {p with inIf:=true,yield:=zU f.types x.outs} deep S)else(false,S)
   some (.ret (.bool q.1),[stO q.2]):=by
 refine zc rfl rfl rfl (by simp[za,chkV,zl]) ?_;have hw:=zFb x;obtain⟨a,b,hab⟩:∃a b,x.kids=[a,b]:=by
  match hh:x.kids with
  | []=>rw[hh]at hk;cases hk
  | [_]=>rw[hh]at hk;cases hk
  | [a,b]=>exact⟨a,b,rfl⟩
  |_::_::_::_=>rw[hh]at hk;simp at hk
 generalize hp':({p with inIf:=true,yield:=zU f.types x.outs}:Place)=p';have e1:p'.inIf=true:=by rw[<-hp']
 have e2:p'.inLoop=p.inLoop:=by rw[<-hp']
 have e3:p'.yield=zU f.types x.outs:=by rw[<-hp']
 have e4:p'.next=p.next:=by rw[<-hp']
 have e5:p'.left=p.left:=by rw[<-hp']
 have h0:=types_spec u f f.types.length x.outs [stO S] (by omega);have h1:=zxa u f S x.args [2] hS (by omega);have h2:=hl a (by rw[hab];simp) p' S hS;have hS2:(zUa u f a p' deep S).2.length=f.types.length:=by rw[listM_len];exact hS
 have h3:=hl b (by rw[hab];simp) p' _ hS2;have hS3:(zUa u f b p' deep (zUa u f a p' deep S).2).2.length=f.types.length:=by rw[listM_len];exact hS2
 have h4:=all_spec u f _ x.outs hS3 (by omega);have h5:=zZc x [] hx;have ho:decide ((x.outs.length:Int)=0)=decide (x.outs=[]):=by simp
 have ek:zVc u f [a,b] p' deep S=if(zUa u f a p' deep S).1 then if(zUa u f b p' deep (zUa u f a p' deep S).2).1 then(true,(zUa u f b p' deep (zUa u f a p' deep S).2).2)else(false,(zUa u f b p' deep (zUa u f a p' deep S).2).2)else(false,(zUa u f a p' deep S).2):=by
  rw[kidsM_cons,kidsM_cons,kidsM_nil]
 simp[chkV,ints,za,zl,kids,hab,e1,e2,e3,e4,e5]at h0 h1 h2 h3 h4 h5;generalize zUa u f a p' deep S=ra at*;generalize zUa u f b p' deep ra.2=rb at*;clear hw hl;simp only[hab]
 (simp[*,F82,za,chkV,ints,zl,kids,zbc])<;>(repeat' (first|((first|refine sP _ ?_ ?_|refine gP _ ?_ ?_|refine sN _ ?_ ?_|refine gN _ ?_ ?_)<;>intro hc<;>(first|replace hc:=eqn hc|replace hc:=eqp hc)<;>simp[*,F82,za,chkV,ints,zl,kids,zbc])|((first|refine sM _ ?_ ?_|refine gM _ ?_ ?_|refine sB _ ?_ ?_|refine gB _ ?_ ?_)<;>intro hc<;>simp[*,F82,za,chkV,ints,zl,kids,zbc])))
 all_goals(try grind)
theorem loop_spec(u:Unt)(f:Flow)(S:St1)(x:Node)(deep:Int)(hS:S.length=f.types.length)(hx:wtN x<1099511627776)(hk:x.kids.length=1)(hl:∀l∈x.kids,ListOk u f deep l):
  zh E 83 [chkV u f f.types.length,zJ x,.int .i64 deep] [stO S]=
   let q:=if zva f.types S x.args (zU f.types x.params)then
     if(allM f.types S x.params).1 then loopE f.types x (zVc u f x.kids ⟨false,true,[],zU f.types x.params,zU f.types x.outs⟩ deep (allM f.types S x.params).2)
     else(false,(allM f.types S x.params).2)
    else(false,S)
   some (.ret (.bool q.1),[stO q.2]):=by
 refine zc rfl rfl rfl (by simp[za,chkV,zl]) ?_;have hw:=zFb x;obtain⟨a,hab⟩:∃a,x.kids=[a]:=by
  match hh:x.kids with
  | []=>rw[hh]at hk;cases hk
  | [a]=>exact⟨a,rfl⟩
  |_::_::_=>rw[hh]at hk;simp at hk
 generalize hp':(⟨false,true,[],zU f.types x.params,zU f.types x.outs⟩:Place)=p';have e1:p'.inIf=false:=by rw[<-hp']
 have e2:p'.inLoop=true:=by rw[<-hp']
 have e3:p'.yield=[]:=by rw[<-hp']
 have e4:p'.next=zU f.types x.params:=by rw[<-hp']
 have e5:p'.left=zU f.types x.outs:=by rw[<-hp']
 have h0:=types_spec u f f.types.length x.outs [stO S] (by omega);have h0':=types_spec u f f.types.length x.params [stO S] (by omega);have h1:=zxa u f S x.args (zU f.types x.params) hS (by omega);have h6:=all_spec u f S x.params hS (by omega);have hS1:(allM f.types S x.params).2.length=f.types.length:=by simp only[allM,zOc];exact hS
 have h2:=hl a (by rw[hab];simp) p' _ hS1;have hS2:(zUa u f a p' deep (allM f.types S x.params).2).2.length=f.types.length:=by rw[listM_len];exact hS1
 have h5:=zZc x [] hx;have ho:decide ((x.outs.length:Int)=0)=decide (x.outs=[]):=by simp
 have ek:zVc u f [a] p' deep (allM f.types S x.params).2=if(zUa u f a p' deep (allM f.types S x.params).2).1 then(true,(zUa u f a p' deep (allM f.types S x.params).2).2)else(false,(zUa u f a p' deep (allM f.types S x.params).2).2):=by
  rw[kidsM_cons,kidsM_nil]
 cases hok:(allM f.types S x.params).1
 ·simp[chkV,ints,za,zl,kids,hab,e1,e2,e3,e4,e5,hok]at h0 h0' h1 h2 h5 h6;clear hw hl;simp only[hab]
  (simp[*,F83,za,chkV,ints,zl,kids,loopE])<;>(repeat' (first|((first|refine sP _ ?_ ?_|refine gP _ ?_ ?_|refine sN _ ?_ ?_|refine gN _ ?_ ?_)<;>intro hc<;>(first|replace hc:=eqn hc|replace hc:=eqp hc)<;>simp[*,F83,za,chkV,ints,zl,kids,loopE])|((first|refine sM _ ?_ ?_|refine gM _ ?_ ?_|refine sB _ ?_ ?_|refine gB _ ?_ ?_)<;>intro hc<;>simp[*,F83,za,chkV,ints,zl,kids,loopE])))
  all_goals(try grind)
 ·have h7:=hide_spec u f _ x.params hS2 (by omega) (setM_ok hok);have hS3:(zCb (zUa u f a p' deep (allM f.types S x.params).2).2 x.params).length=f.types.length:=by rw[zGc];exact hS2
  have h4:=all_spec u f _ x.outs hS3 (by omega);simp[chkV,ints,za,zl,kids,hab,e1,e2,e3,e4,e5,hok]at h0 h0' h1 h2 h4 h5 h6 h7;generalize zUa u f a p' deep (allM f.types S x.params).2=ra at*;clear hw hl;simp only[hab]
  (simp[*,F83,za,chkV,ints,zl,kids,loopE])<;>(repeat' (first|((first|refine sP _ ?_ ?_|refine gP _ ?_ ?_|refine sN _ ?_ ?_|refine gN _ ?_ ?_)<;>intro hc<;>(first|replace hc:=eqn hc|replace hc:=eqp hc)<;>simp[*,F83,za,chkV,ints,zl,kids,loopE])|((first|refine sM _ ?_ ?_|refine gM _ ?_ ?_|refine sB _ ?_ ?_|refine gB _ ?_ ?_)<;>intro hc<;>simp[*,F83,za,chkV,ints,zl,kids,loopE])))
  all_goals(try grind)
theorem node_spec(u:Unt)(f:Flow)(S:St1)(x:Node)(p:Place)(deep:Int)(hu:UOk u)(hS:S.length=f.types.length)(hx:wtN x<1099511627776)(hd:0<=deep/\deep<=100)(hl:∀l∈x.kids,ListOk u f (deep+1) l):
  zh E 66 [chkV u f f.types.length,zJ x,zl p,.int .i64 deep] [stO S]=some (.ret (.bool (nodeM u f x p deep S).1),[stO (nodeM u f x p deep S).2]):=by
 refine zc rfl rfl rfl (by simp[za,chkV,zl]) ?_;have hw:zM .i64 (deep+1)=deep+1:=zj (by omega) (by omega);have h0:=bare_spec x;have h1:=ends_raw x.kind;have h2:=end_spec u f S x p hS hx;have h3:=simple_spec u f S x hu hS hx;have he:=nodeM_eq u f x p deep S;rw[he];clear he;have hb:bareM x=true->(x.kids.length:Int)=kidsN x.kind:=by
  intro h;simp only[bareM,ya,decide_eq_true_eq]at h;exact h.2
 cases hbx:bareM x
 ·simp[chkV,za,zl,hbx]at h0 h2 h3;clear hl hb
  (simp[*,F66,za,chkV,zl])<;>(repeat' (first|((first|refine sP _ ?_ ?_|refine gP _ ?_ ?_|refine sN _ ?_ ?_|refine gN _ ?_ ?_)<;>intro hc<;>(first|replace hc:=eqn hc|replace hc:=eqp hc)<;>simp[*,F66,za,chkV,zl])|((first|refine sM _ ?_ ?_|refine gM _ ?_ ?_|refine sB _ ?_ ?_|refine gB _ ?_ ?_)<;>intro hc<;>simp[*,F66,za,chkV,zl])))
 have hb:=hb hbx;by_cases h10:x.kind=10
 ·have hk:x.kids.length=2:=by simp[kidsN,h10]at hb;omega
  have h4:=choice_spec u f S x p (deep+1) hS hx hk hl;simp[chkV,za,zl,hbx,h10]at h0 h2 h3 h4;clear hl hb
  (simp[*,F66,za,chkV,zl])<;>(repeat' ((first|refine sP _ ?_ ?_|refine gP _ ?_ ?_|refine sN _ ?_ ?_|refine gN _ ?_ ?_|refine sM _ ?_ ?_|refine gM _ ?_ ?_|refine sB _ ?_ ?_|refine gB _ ?_ ?_)<;>intro hc<;>simp[*,F66,za,chkV,zl]))
 by_cases h11:x.kind=11
 ·have hk:x.kids.length=1:=by simp[kidsN,h11]at hb;omega
  have h4:=loop_spec u f S x (deep+1) hS hx hk hl;simp[chkV,za,zl,hbx,h11]at h0 h2 h3 h4;clear hl hb
  (simp[*,F66,za,chkV,zl])<;>(repeat' ((first|refine sP _ ?_ ?_|refine gP _ ?_ ?_|refine sN _ ?_ ?_|refine gN _ ?_ ?_|refine sM _ ?_ ?_|refine gM _ ?_ ?_|refine sB _ ?_ ?_|refine gB _ ?_ ?_)<;>intro hc<;>simp[*,F66,za,chkV,zl]))
 simp[chkV,za,zl,hbx]at h0 h2 h3;clear hl hb;cases hek:endK x.kind
 ·(simp[*,F66,za,chkV,zl])<;>(repeat' ((first|refine sP _ ?_ ?_|refine gP _ ?_ ?_|refine sN _ ?_ ?_|refine gN _ ?_ ?_|refine sM _ ?_ ?_|refine gM _ ?_ ?_|refine sB _ ?_ ?_|refine gB _ ?_ ?_)<;>intro hc<;>simp[*,F66,za,chkV,zl]))
 ·(simp[*,F66,za,chkV,zl])<;>(repeat' ((first|refine sP _ ?_ ?_|refine gP _ ?_ ?_|refine sN _ ?_ ?_|refine gN _ ?_ ?_|refine sM _ ?_ ?_|refine gM _ ?_ ?_|refine sB _ ?_ ?_|refine gB _ ?_ ?_)<;>intro hc<;>simp[*,F66,za,chkV,zl]))
def sdM(u:Unt)(f:Flow)(p:Place)(deep:Int)(S:St1)(d:List Node):St1:=d.foldl (fun S x=>(nodeM u f x p deep S).2) S
theorem sdM_snoc(u:Unt)(f:Flow)(p:Place)(deep:Int)(S:St1)(d:List Node)(x:Node):sdM u f p deep S (d++[x])=(nodeM u f x p deep (sdM u f p deep S d)).2:=by simp[sdM]
theorem sdM_len(u:Unt)(f:Flow)(p:Place)(deep:Int)(d:List Node):∀S:St1,(sdM u f p deep S d).length=S.length:=by
 induction d with
 |nil=>intro S;rfl
 |cons x r ih=>intro S;simp only[sdM,List.foldl_cons];rw[<-sdM,ih,nodeM_len]
section
variable (u:Unt) (f:Flow) (n:Nat)
@[simp] theorem strip_chk:strip (chkV u f n)=chkV u f n:=yd rfl rfl
@[simp] theorem stripA_chk:stripA (chkV u f n)=chkV u f n:=yd rfl rfl
@[simp] theorem isVar_chk:zp (chkV u f n)=true:=yd rfl rfl
end
@[simp] theorem avoids_chk(dead:List Nat)(u:Unt)(f:Flow)(n:Nat):avoids dead (chkV u f n)=true:=yd rfl rfl
theorem split_of{α:Type}{l d r:List α}{x:α}(h:Split l d x r):∀{r'},l=d++r'->r'=x::r:=by
 intro r' h';have:=h.eq;rw[h']at this;exact List.append_cancel_left this
theorem split_last{α:Type}{l d r:List α}{x:α}(h:Split l d x r):decide ((d.length:Int)=(l.length:Int)-1)=r.isEmpty:=by
 have:=congrArg List.length h.eq;simp at this;cases r with
 |nil=>simp at this ⊢;omega
 |cons y t=>simp at this ⊢;omega
theorem list_spec(u:Unt)(f:Flow)(hu:UOk u):∀(N:Nat) (l:List Node) (deep:Int),wtL l<=N->N<1099511627776->0<=deep->deep<=101->ListOk u f deep l:=by
 intro N
 induction N using Nat.strongRecOn with
 |ind N ih=>
  intro l deep hl hN hd0 hd1 p S hS;refine zc rfl rfl rfl (by simp[chkV,zl]) ?_;have hll:=len_wtL l;simp[F43,zl,zn];refine zaa l K43_0 B43_0 (fun d=>[(15,.int .i64 d.length)]) (fun d=>[stO (sdM u f p deep S d)]) (fun d=>(∃r,l=d++r/\goM u f l p deep S=goM u f r p deep (sdM u f p deep S d))/\∀y∈d,∀v∈y.outs,0<=v/\v<f.types.length) (by omega) (by simp[sdM]) ?_ ?_
  ·rintro d x r s hl' hlt hget hget' hw ⟨⟨r',hr1,hr2⟩,hp⟩ h1 h2 h3 h4
   have:=split_of hl' hr1;subst this;simp at h1 h2 h3;have hwx:=wt_mem hl'.mem;have hS1:(sdM u f p deep S d).length=f.types.length:=by rw[sdM_len];exact hS
   rw[goM]at hr2;have hsn:=sdM_snoc u f p deep S d x;have hlast:=split_last hl';have hw2:zM .i64 ((l.length:Int)-1)=(l.length:Int)-1:=zj (by omega) (by omega);have hc:=zZc x [] (by omega);have hout:=nodeM_outs (u:=u) (f:=f) (x:=x) (p:=p) (deep:=deep) (S:=sdM u f p deep S d);have hlm:zUa u f l p deep S=listE l (goM u f l p deep S):=rfl;by_cases hdeep:100<deep
   ·have e:zUa u f l p deep S=(false,sdM u f p deep S d):=by rw[hlm,hr2,if_pos hdeep];rfl
    clear ih hout hr1 hlm
    (simp[*,za,zn])<;>(repeat' (first|((first|refine sP _ ?_ ?_|refine gP _ ?_ ?_|refine sN _ ?_ ?_|refine gN _ ?_ ?_)<;>intro hc<;>(first|replace hc:=eqn hc|replace hc:=eqp hc)<;>simp[*,za,zn])|((first|refine sM _ ?_ ?_|refine gM _ ?_ ?_|refine sB _ ?_ ?_|refine gB _ ?_ ?_)<;>intro hc<;>simp[*,za,zn])))
   have hn:=node_spec u f (sdM u f p deep S d) x p deep hu hS1 (by omega) (by omega) (fun k hk=>by
    have:=wt_kid hk;exact ih (wtL k) (by omega) k (deep+1) (yl _) (by omega) (by omega) (by omega))
   rw[if_neg hdeep]at hr2;simp[za,zl]at hn hc;generalize hq:nodeM u f x p deep (sdM u f p deep S d)=q at*;cases hq1:q.1
   ·rw[hq1]at hr2 hn;have e:zUa u f l p deep S=(false,q.2):=by rw[hlm,hr2];rfl
    clear ih hout hr1 hlm
    (simp[*,za,zn])<;>(repeat' (first|((first|refine sP _ ?_ ?_|refine gP _ ?_ ?_|refine sN _ ?_ ?_|refine gN _ ?_ ?_)<;>intro hc<;>(first|replace hc:=eqn hc|replace hc:=eqp hc)<;>simp[*,za,zn])|((first|refine sM _ ?_ ?_|refine gM _ ?_ ?_|refine sB _ ?_ ?_|refine gB _ ?_ ?_)<;>intro hc<;>simp[*,za,zn])))
   rw[hq1]at hr2 hn;simp at hr2;by_cases hcl:zB x=r.isEmpty
   ·rw[if_pos hcl]at hr2;have hout':=hout hq1;clear ih hout hc hr1 hlm;have hc:=zZc x [] (by omega);simp[za]at hc;rw[hcl]at hc;have e:∃r',l=d++([x]++r')/\goM u f l p deep S=goM u f r' p deep q.2:=⟨r,by rw[hl'.eq];rfl,hr2⟩
    have e':∃r',l=d++x::r'/\goM u f l p deep S=goM u f r' p deep q.2:=⟨r,by rw[hl'.eq],hr2⟩
    (simp[*,za,zn])<;>(repeat' (first|((first|refine sP _ ?_ ?_|refine gP _ ?_ ?_|refine sN _ ?_ ?_|refine gN _ ?_ ?_)<;>intro hc<;>(first|replace hc:=eqn hc|replace hc:=eqp hc)<;>simp[*,za,zn])|((first|refine sM _ ?_ ?_|refine gM _ ?_ ?_|refine sB _ ?_ ?_|refine gB _ ?_ ?_)<;>intro hc<;>simp[*,za,zn])))
    all_goals(try grind)
   ·rw[if_neg hcl]at hr2;have e:zUa u f l p deep S=(false,q.2):=by rw[hlm,hr2];rfl
    clear ih hout hr1 hlm
    (simp[*,za,zn])<;>(repeat' (first|((first|refine sP _ ?_ ?_|refine gP _ ?_ ?_|refine sN _ ?_ ?_|refine gN _ ?_ ?_)<;>intro hc<;>(first|replace hc:=eqn hc|replace hc:=eqp hc)<;>simp[*,za,zn])|((first|refine sM _ ?_ ?_|refine gM _ ?_ ?_|refine sB _ ?_ ?_|refine gB _ ?_ ?_)<;>intro hc<;>simp[*,za,zn])))
    all_goals exact absurd (of_eq_true (by assumption)) hcl
  ·rintro s ⟨⟨r',hr1,hr2⟩,hp⟩ h1 h2 h3 h4
   have:r'=[]:=by
    have:=congrArg List.length hr1;simp at this;exact this
   subst this;simp at h1 h2 h3;rw[goM]at hr2;have hlm:zUa u f l p deep S=(!l.isEmpty,zCb (sdM u f p deep S l) (l.flatMap Node.outs)):=by
    show listE l (goM u f l p deep S)=_
    rw[hr2];rfl
   clear ih hr1;simp[*,zl,zn];refine zaa l K43_1 B43_1 (fun d=>[(43,.int .i64 d.length)]) (fun d=>[stO (zCb (sdM u f p deep S l) (d.flatMap Node.outs))]) (fun d=>True) (by omega) (by simp[zCb]) ?_ ?_
   ·intros d x r s' hl' hlt hget hget' hw _ h1' h2' h3' h4';have hwx:=wt_mem hl'.mem;have hxe:=zFb x;have hh:=hide_spec u f (zCb (sdM u f p deep S l) (d.flatMap Node.outs)) x.outs (by rw[zGc,sdM_len];exact hS) (by omega) (hp x hl'.mem);have hh2:zCb (zCb (sdM u f p deep S l) (d.flatMap Node.outs)) x.outs=zCb (sdM u f p deep S l) (d.flatMap Node.outs++x.outs):=by simp[zCb]
    rw[hh2]at hh;simp at h1' h3';clear h2' hp h1 h2
    (simp[*,za,zn])<;>(repeat' (first|((first|refine sP _ ?_ ?_|refine gP _ ?_ ?_|refine sN _ ?_ ?_|refine gN _ ?_ ?_)<;>intro hc<;>(first|replace hc:=eqn hc|replace hc:=eqp hc)<;>simp[*,za,zn])|((first|refine sM _ ?_ ?_|refine gM _ ?_ ?_|refine sB _ ?_ ?_|refine gB _ ?_ ?_)<;>intro hc<;>simp[*,za,zn])))
   ·intros s' _ h1' h2' h3' h4';simp at h1' h3';clear h2' hp h1 h2;have hz:decide (0<l.length)= !l.isEmpty:=by cases l<;>simp
    (simp[*,zn])<;>(repeat' (first|((first|refine sP _ ?_ ?_|refine gP _ ?_ ?_|refine sN _ ?_ ?_|refine gN _ ?_ ?_)<;>intro hc<;>(first|replace hc:=eqn hc|replace hc:=eqp hc)<;>simp[*,zn])|((first|refine sM _ ?_ ?_|refine gM _ ?_ ?_|refine sB _ ?_ ?_|refine gB _ ?_ ?_)<;>intro hc<;>simp[*,zn])))
def tyOk(t:Int):Bool:=decide (t=1)||decide (t=2)
theorem isType_spec(t:Int)(σ:zb):zh E 39 [.int .i64 t] σ=some (.ret (.bool (tyOk t)),σ):=by
 refine zc rfl rfl rfl (by simp) ?_
 (simp[*,F39,tyOk])<;>(repeat' ((first|refine sP _ ?_ ?_|refine gP _ ?_ ?_|refine sN _ ?_ ?_|refine gN _ ?_ ?_|refine sM _ ?_ ?_|refine gM _ ?_ ?_|refine sB _ ?_ ?_|refine gB _ ?_ ?_)<;>intro hc<;>simp[*,F39,tyOk]))
theorem notType_spec(t:Int)(σ:zb):zh E 42 [.int .i64 t] σ=some (.ret (.bool (!tyOk t)),σ):=by
 refine zc rfl rfl rfl (by simp) ?_
 (simp[*,F42,isType_spec])<;>(repeat' ((first|refine sP _ ?_ ?_|refine gP _ ?_ ?_|refine sN _ ?_ ?_|refine gN _ ?_ ?_|refine sM _ ?_ ?_|refine gM _ ?_ ?_|refine sB _ ?_ ?_|refine gB _ ?_ ?_)<;>intro hc<;>simp[*,F42,isType_spec]))
def initM(f:Flow)(k:Nat):St1:=yg k 1++yg (f.types.length-k) 0
def place0:Place:=⟨false,false,[],[],[]⟩
def flowM(u:Unt)(f:Flow):Bool:=
 !(decide (8<f.params)||decide (20000<f.types.length)||f.types.any (fun t=> !tyOk t))&&(zUa u f f.body place0 1 (initM f f.params.toNat)).1
theorem initM_len(f:Flow)(k:Nat)(h:k<=f.types.length):(initM f k).length=f.types.length:=by simp[initM];omega
theorem initM_set(f:Flow)(k:Nat)(h:k<f.types.length):(initM f k).set k 1=initM f (k+1):=by
 unfold initM;have:f.types.length-k=(f.types.length-(k+1))+1:=by omega
 rw[this,List.replicate_succ,yga _ _ (by simp)];simp[List.replicate_succ']
theorem flow_spec(u:Unt)(f:Flow)(hu:UOk u)(hp:0<=f.params/\f.params<=f.types.length)(ht:f.types.length<1099511627776)(hb:wtL f.body<1099511627776):
  zh E 24 [zE u,zi f] []=some (.ret (.bool (flowM u f)),[]):=by
 refine zc rfl rfl rfl (by simp[zE,zi]) ?_;have h1:=containsFuncInt f.types (fun t=> !tyOk t) 42 [] [] [] ht (by simp) (fun x _=>notType_spec x []);have h2:=list_spec u f hu (wtL f.body) f.body 1 (yl _) hb (by omega) (by omega) place0 (initM f f.params.toNat) (initM_len f _ (by omega));simp[zl,place0]at h2;have ho:decide ((20000:Int)<f.types.length)=decide (20000<f.types.length):=by simp;omega
 have l1:(0:Int)<=(f.types.length:Int):=by omega
 have l2:(f.types.length:Int)<=9223372036854775807:=by omega
 have l3:8*(f.types.length:Int)<=281474976710656:=by omega
 (simp[*,F24,zE,zi,ints,flowM,place0])<;>(repeat' (first|((first|refine sP _ ?_ ?_|refine gP _ ?_ ?_|refine sN _ ?_ ?_|refine gN _ ?_ ?_)<;>intro hc<;>(first|replace hc:=eqn hc|replace hc:=eqp hc)<;>simp[*,F24,zE,zi,ints,flowM,place0])|((first|refine sM _ ?_ ?_|refine gM _ ?_ ?_|refine sB _ ?_ ?_|refine gB _ ?_ ?_)<;>intro hc<;>simp[*,F24,zE,zi,ints,flowM,place0])))
 all_goals first
  |refine zaa (yU f.params.toNat) K24_0 B24_0 (fun d=>[(31,.int .i64 d.length)]) (fun d=>[stO (initM f d.length)]) (fun _=>True) (by simp;omega) (by simp[initM,stO]) ?_ ?_
  |(try grind)
 ·intros d x r s hl' hlt hget hget' hw _ q1 q2 q3 q4;simp at hlt;have e1:(d.length:Int)<f.params:=by omega
  have e2:d.length<f.types.length:=by omega
  have e3:=initM_set f d.length e2;have e4:=initM_len f d.length (by omega);have e5:(initM f (d.length+1)).map (PV.int .i64)=((initM f d.length).map (PV.int .i64)).set d.length (.int .i64 1):=by rw[<-e3,yka]
  simp at q1 q2 q3 q4;clear h1 h2 hget hget' e3
  (simp[*,zi,ints,zO,znc,stO])<;>(repeat' (first|((first|refine sP _ ?_ ?_|refine gP _ ?_ ?_|refine sN _ ?_ ?_|refine gN _ ?_ ?_)<;>intro hc<;>(first|replace hc:=eqn hc|replace hc:=eqp hc)<;>simp[*,zi,ints,zO,znc,stO])|((first|refine sM _ ?_ ?_|refine gM _ ?_ ?_|refine sB _ ?_ ?_|refine gB _ ?_ ?_)<;>intro hc<;>simp[*,zi,ints,zO,znc,stO])))
 ·intros s _ q1 q2 q3 q4;have e0:(f.params.toNat:Int)=f.params:=by omega
  simp at q1 q2 q3 q4;clear h1;simp[chkV,ints,flowM,place0,stO]at h2
  (simp[*,zi,ints,stO])<;>(repeat' (first|((first|refine sP _ ?_ ?_|refine gP _ ?_ ?_|refine sN _ ?_ ?_|refine gN _ ?_ ?_)<;>intro hc<;>(first|replace hc:=eqn hc|replace hc:=eqp hc)<;>simp[*,zi,ints,stO])|((first|refine sM _ ?_ ?_|refine gM _ ?_ ?_|refine sB _ ?_ ?_|refine gB _ ?_ ?_)<;>intro hc<;>simp[*,zi,ints,stO])))
  all_goals(try grind)
def bump:List (List UInt8×Int)->List UInt8->List (List UInt8×Int)
 | [],s=>[(s,yN .i64 (0+1))]
 |(k,v)::r,s=>if s=k then(s,yN .i64 (v+1))::r else(k,v)::bump r s
def bumps(l:List (List UInt8)):List (List UInt8×Int):=l.foldl bump []
def encM(m:List (List UInt8×Int)):List (PV×PV):=m.map fun p=>(.str p.1,.int .i64 p.2)
def findC(s:List UInt8):List (List UInt8×Int)->Option Int
 | []=>none
 |(k,v)::r=>if s=k then some v else findC s r
theorem mapFind_enc(s:List UInt8):∀m,zZ true (.str s) (encM m)=some ((findC s m).map (PV.int .i64))
 | []=>rfl
 |(k,v)::r=>by
  have ih:=mapFind_enc s r;simp only[encM]at ih;simp only[encM,yaa,zZ,keyEq,findC];by_cases h:s=k
  ·simp[h]
  ·simp[h,ih]
theorem mapSet_enc(s:List UInt8):∀m,zAb true (.str s) (.int .i64 (zM .i64 ((findC s m).getD 0+1))) (encM m)=some (encM (bump m s))
 | []=>by simp[encM,zAb,findC,bump,zL]
 |(k,v)::r=>by
  have ih:=mapSet_enc s r;simp only[encM]at ih;simp only[encM,yaa,zAb,keyEq,findC,bump];by_cases h:s=k
  ·simp[h,zL]
  ·simp[h,ih]
theorem bump_keys(s:List UInt8):∀m,(bump m s).map Prod.fst=if s∈m.map Prod.fst then m.map Prod.fst else m.map Prod.fst++[s]
 | []=>by simp[bump]
 |(k,v)::r=>by
  have ih:=bump_keys s r;simp only[bump];by_cases h:s=k
  ·simp[h]
  ·simp only[h,if_false,yaa,ih,yO,false_or];split<;>simp
def dist(l:List (List UInt8)):List (List UInt8):=l.foldl (fun d s=>if s∈d then d else d++[s]) []
theorem bumps_keys(l:List (List UInt8)):(bumps l).map Prod.fst=dist l:=by
 have:∀(l:List (List UInt8)) m,(l.foldl bump m).map Prod.fst=l.foldl (fun d s=>if s∈d then d else d++[s]) (m.map Prod.fst):=by
  intro l
  induction l with
  |nil=>intro m;rfl
  |cons s r ih=>intro m;simp only[List.foldl_cons,ih,bump_keys]
 exact this l []
theorem dist_nodup(l:List (List UInt8)):decide ((dist l).length=l.length)=decide l.Nodup:=by
 have key:∀(l d:List (List UInt8)),d.Nodup->(l.foldl (fun d s=>if s∈d then d else d++[s]) d).length<=d.length+l.length∧
   ((l.foldl (fun d s=>if s∈d then d else d++[s]) d).length=d.length+l.length<->(d++l).Nodup):=by
  intro l
  induction l with
  |nil=>intro d hd;simp[hd]
  |cons s r ih=>
   intro d hd;simp only[List.foldl_cons];by_cases h:s∈d
   ·rw[if_pos h];obtain⟨h1,h2⟩:=ih d hd;refine⟨by simp;omega,⟨fun e=>by simp at e;omega,fun e=>?_⟩⟩;rw[List.nodup_append]at e;exact absurd rfl (e.2.2 s h s (by simp))
   ·rw[if_neg h];have hd':(d++[s]).Nodup:=by
     rw[List.nodup_append];exact⟨hd,by simp,fun a ha b hb e=>by simp at hb;subst hb;subst e;exact h ha⟩
    obtain⟨h1,h2⟩:=ih (d++[s]) hd';refine⟨by simp at h1 ⊢;omega,?_⟩;rw[show d++s::r=d++[s]++r by simp,<-h2];simp;omega
 have:=(key l [] (by simp)).2;simp only[List.nil_append,yV,yF]at this;unfold dist;simp only[decide_eq_decide];exact this
theorem bumps_snoc(l:List (List UInt8))(s:List UInt8):bumps (l++[s])=bump (bumps l) s:=by simp[bumps]
theorem encM_len(m:List (List UInt8×Int)):(encM m).length=(m.map Prod.fst).length:=by simp[encM]
def unames(u:Unt):List (List UInt8):=u.arrays.map Arr.name++u.flows.map Flow.name
def arrOk(a:Arr):Bool:=nameM a.name&&decide (1<=a.size)&&decide (a.size<=1000)
def zHb(f:Flow):Bool:=nameM f.name&&tyOk f.type&&decide (0<=f.params)&&decide (f.params<=f.types.length)
def zC:List UInt8:=[109,97,105,110]
def mainOk(u:Unt):Bool:=match u.flows[(zja u.flows zC).toNat]? with
 |some g=>decide (0<=zja u.flows zC)&&decide (g.type=1)&&decide (g.params=0)
 |none=>false
def zvc(u:Unt):Bool:=u.arrays.all arrOk&&u.flows.all zHb&&decide (unames u).Nodup&&mainOk u
theorem findC_cases(s:List UInt8)(m:List (List UInt8×Int)):∃o,findC s m=o/\zZ true (.str s) (encM m)=some (o.map (PV.int .i64))/\zAb true (.str s) (.int .i64 (zM .i64 (o.getD 0+1))) (encM m)=some (encM (bump m s)):=
 ⟨_,rfl,mapFind_enc s m,mapSet_enc s m⟩
theorem head_spec(u:Unt)(hu1:u.arrays.length<1099511627776)(hu2:u.flows.length<1099511627776):zh E 23 [zE u] []=some (.ret (.bool (zvc u)),[]):=by
 refine zc rfl rfl rfl (by simp[zE]) ?_;simp[F23,zE,arrs];refine zaa u.arrays K23_0 B23_0 (fun d=>[(13,.int .i64 d.length)]) (fun d=>[.mp (encM (bumps (d.map Arr.name)))]) (fun d=>d.all arrOk=true) (by omega) (by simp[bumps,encM]) ?_ ?_
 ·intros d x r s hl' hlt hget hget' hw hp h1 h2 h3 h4;simp at h1 h2 h3;have hn:=name_spec x.name [];have hall:u.arrays.all arrOk=(d.all arrOk&&(arrOk x&&r.all arrOk)):=by rw[hl'.eq];simp
  have hsn:bumps (List.map Arr.name d++[x.name])=bump (bumps (List.map Arr.name d)) x.name:=bumps_snoc _ _;obtain⟨o,o1,o2,o3⟩:=findC_cases x.name (bumps (d.map Arr.name));clear o1;cases hnm:nameM x.name
  ·have hx:arrOk x=false:=by simp[arrOk,hnm]
   have hh:zvc u=false:=by simp only[zvc,hall,hx];simp
   cases o<;>(simp at o3;(simp[*,zY,arrs])<;>(repeat' (first|((first|refine sP _ ?_ ?_|refine gP _ ?_ ?_|refine sN _ ?_ ?_|refine gN _ ?_ ?_)<;>intro hc<;>(first|replace hc:=eqn hc|replace hc:=eqp hc)<;>simp[*,zY,arrs])|((first|refine sM _ ?_ ?_|refine gM _ ?_ ?_|refine sB _ ?_ ?_|refine gB _ ?_ ?_)<;>intro hc<;>simp[*,zY,arrs]))))
  ·by_cases hs1:x.size<1
   ·have hx:arrOk x=false:=by simp[arrOk];omega
    have hh:zvc u=false:=by simp only[zvc,hall,hx];simp
    cases o<;>(simp at o3;(simp[*,zY,arrs])<;>(repeat' (first|((first|refine sP _ ?_ ?_|refine gP _ ?_ ?_|refine sN _ ?_ ?_|refine gN _ ?_ ?_)<;>intro hc<;>(first|replace hc:=eqn hc|replace hc:=eqp hc)<;>simp[*,zY,arrs])|((first|refine sM _ ?_ ?_|refine gM _ ?_ ?_|refine sB _ ?_ ?_|refine gB _ ?_ ?_)<;>intro hc<;>simp[*,zY,arrs]))))
   ·by_cases hs2:1000<x.size
    ·have hx:arrOk x=false:=by simp[arrOk];omega
     have hh:zvc u=false:=by simp only[zvc,hall,hx];simp
     cases o<;>(simp at o3;(simp[*,zY,arrs])<;>(repeat' (first|((first|refine sP _ ?_ ?_|refine gP _ ?_ ?_|refine sN _ ?_ ?_|refine gN _ ?_ ?_)<;>intro hc<;>(first|replace hc:=eqn hc|replace hc:=eqp hc)<;>simp[*,zY,arrs])|((first|refine sM _ ?_ ?_|refine gM _ ?_ ?_|refine sB _ ?_ ?_|refine gB _ ?_ ?_)<;>intro hc<;>simp[*,zY,arrs]))))
    ·have hx:arrOk x=true:=by simp[arrOk,hnm];omega
     have hpp:∀y∈d,arrOk y=true:=by simpa using hp
     clear hall;cases o<;>(simp at o3;(simp[*,zY,arrs])<;>(repeat' (first|((first|refine sP _ ?_ ?_|refine gP _ ?_ ?_|refine sN _ ?_ ?_|refine gN _ ?_ ?_)<;>intro hc<;>(first|replace hc:=eqn hc|replace hc:=eqp hc)<;>simp[*,zY,arrs])|((first|refine sM _ ?_ ?_|refine gM _ ?_ ?_|refine sB _ ?_ ?_|refine gB _ ?_ ?_)<;>intro hc<;>simp[*,zY,arrs]))))<;>(try grind)
 intros s0 hpa h1 h2 h3 h4;simp at h1 h2 h3;simp[*,arrs,flows];refine zaa u.flows K23_1 B23_1 (fun d=>[(40,.int .i64 d.length)]) (fun d=>[.mp (encM (bumps (u.arrays.map Arr.name++d.map Flow.name)))]) (fun d=>d.all zHb=true) (by omega) (by simp) ?_ ?_
 ·intros d x r s hl' hlt hget hget' hw hp h1' h2' h3' h4';simp at h1' h2' h3';clear h1 h2 h3 h4;have hn:=name_spec x.name [];have ht:=isType_spec x.type [];have hall:u.flows.all zHb=(d.all zHb&&(zHb x&&r.all zHb)):=by rw[hl'.eq];simp
  have hsn:bumps (List.map Arr.name u.arrays++(List.map Flow.name d++[x.name]))=bump (bumps (List.map Arr.name u.arrays++List.map Flow.name d)) x.name:=by rw[<-List.append_assoc];exact bumps_snoc _ _
  obtain⟨o,o1,o2,o3⟩:=findC_cases x.name (bumps (u.arrays.map Arr.name++d.map Flow.name));clear o1;have hh:zHb x=false->zvc u=false:=fun hx=>by simp only[zvc,hall,hx];simp
  have hpp:∀y∈d,zHb y=true:=by simpa using hp
  cases hx:zHb x
  ·have hh:=hh hx;simp only[zHb]at hx;clear hall;cases o<;>(simp at o3;(simp[*,zi,flows,ints])<;>(repeat' (first|((first|refine sP _ ?_ ?_|refine gP _ ?_ ?_|refine sN _ ?_ ?_|refine gN _ ?_ ?_)<;>intro hc<;>(first|replace hc:=eqn hc|replace hc:=eqp hc)<;>simp[*,zi,flows,ints])|((first|refine sM _ ?_ ?_|refine gM _ ?_ ?_|refine sB _ ?_ ?_|refine gB _ ?_ ?_)<;>intro hc<;>simp[*,zi,flows,ints]))))<;>(try grind)
  ·have hx2:=hx;simp only[zHb,ya,decide_eq_true_eq]at hx2;obtain⟨⟨⟨n1,n2⟩,n3⟩,n4⟩:=hx2;have n3':¬x.params<0:=by omega
   have n4':¬(x.types.length:Int)<x.params:=by omega
   clear hall hh;cases o<;>(simp at o3;(simp[*,zi,flows,ints])<;>(repeat' (first|((first|refine sP _ ?_ ?_|refine gP _ ?_ ?_|refine sN _ ?_ ?_|refine gN _ ?_ ?_)<;>intro hc<;>(first|replace hc:=eqn hc|replace hc:=eqp hc)<;>simp[*,zi,flows,ints])|((first|refine sM _ ?_ ?_|refine gM _ ?_ ?_|refine sB _ ?_ ?_|refine gB _ ?_ ?_)<;>intro hc<;>simp[*,zi,flows,ints]))))<;>(try grind)
 ·intros s hp h1' h2' h3' h4';simp at h1' h2' h3';clear h1 h2 h3 h4;have hpl:=place_spec u zC [] hu2;simp[zE,zC,arrs,flows]at hpl;have hk:(encM (bumps (u.arrays.map Arr.name++u.flows.map Flow.name))).length=(dist (unames u)).length:=by rw[encM_len,bumps_keys];rfl
  have hd:=dist_nodup (unames u);have hul:(unames u).length=u.arrays.length+u.flows.length:=by simp[unames]
  have hw:zM .i64 ((u.arrays.length:Int)+u.flows.length)=(u.arrays.length:Int)+u.flows.length:=zj (by omega) (by omega);have hh:zvc u=(decide (unames u).Nodup&&mainOk u):=by simp only[zvc,hpa,hp];simp
  have hz:decide (((dist (unames u)).length:Int)=(u.arrays.length:Int)+u.flows.length)=decide (unames u).Nodup:=by
   rw[<-hd,hul];simp;omega
  by_cases hp0:0<=zja u.flows zC
  ·obtain⟨g,q1,q2,q3,q4⟩:=place_get hp0;have q5:u.flows[(zja u.flows zC).toNat]=g:=by simpa[q4]using q1
   have hm:mainOk u=(decide (g.type=1)&&decide (g.params=0)):=by simp[mainOk,q1,hp0]
   simp[zC]at hp0 q1 q4 q5;clear hd hul hpa hp;cases hnd:decide (unames u).Nodup
   ·rw[hnd]at hz hh
    (simp[*,flows,zi,arrs])<;>(repeat' (first|((first|refine sP _ ?_ ?_|refine gP _ ?_ ?_|refine sN _ ?_ ?_|refine gN _ ?_ ?_)<;>intro hc<;>(first|replace hc:=eqn hc|replace hc:=eqp hc)<;>simp[*,flows,zi,arrs])|((first|refine sM _ ?_ ?_|refine gM _ ?_ ?_|refine sB _ ?_ ?_|refine gB _ ?_ ?_)<;>intro hc<;>simp[*,flows,zi,arrs])))
   ·rw[hnd]at hz hh
    (simp[*,flows,zi,arrs])<;>(repeat' (first|((first|refine sP _ ?_ ?_|refine gP _ ?_ ?_|refine sN _ ?_ ?_|refine gN _ ?_ ?_)<;>intro hc<;>(first|replace hc:=eqn hc|replace hc:=eqp hc)<;>simp[*,flows,zi,arrs])|((first|refine sM _ ?_ ?_|refine gM _ ?_ ?_|refine sB _ ?_ ?_|refine gB _ ?_ ?_)<;>intro hc<;>simp[*,flows,zi,arrs])))
  ·have hm:mainOk u=false:=by
    unfold mainOk;split<;>simp;omega
   simp only[zC]at hp0;clear hd hul hpa hp;cases hnd:decide (unames u).Nodup
   ·rw[hnd]at hz hh
    (simp[*,flows,zi,arrs])<;>(repeat' (first|((first|refine sP _ ?_ ?_|refine gP _ ?_ ?_|refine sN _ ?_ ?_|refine gN _ ?_ ?_)<;>intro hc<;>(first|replace hc:=eqn hc|replace hc:=eqp hc)<;>simp[*,flows,zi,arrs])|((first|refine sM _ ?_ ?_|refine gM _ ?_ ?_|refine sB _ ?_ ?_|refine gB _ ?_ ?_)<;>intro hc<;>simp[*,flows,zi,arrs])))
   ·rw[hnd]at hz hh
    (simp[*,flows,zi,arrs])<;>(repeat' (first|((first|refine sP _ ?_ ?_|refine gP _ ?_ ?_|refine sN _ ?_ ?_|refine gN _ ?_ ?_)<;>intro hc<;>(first|replace hc:=eqn hc|replace hc:=eqp hc)<;>simp[*,flows,zi,arrs])|((first|refine sM _ ?_ ?_|refine gM _ ?_ ?_|refine sB _ ?_ ?_|refine gB _ ?_ ?_)<;>intro hc<;>simp[*,flows,zi,arrs])))
structure USz(u:Unt):Prop where
 arrs:u.arrays.length<1099511627776
 flows:u.flows.length<1099511627776
 types:∀f∈u.flows,f.types.length<1099511627776
 body:∀f∈u.flows,wtL f.body<1099511627776
theorem USz.ok{u:Unt}(h:USz u)(hh:zvc u=true):UOk u:=by
 refine⟨h.arrs,h.flows,fun f hf=>?_,h.types⟩;simp only[zvc,ya,yo]at hh;have:=hh.1.1.2 f hf;simp only[zHb,ya,decide_eq_true_eq]at this;exact⟨this.1.2,this.2⟩
def zcc(u:Unt):Int×Int:=if zvc u then(match u.flows.findIdx? (fun f=> !flowM u f)with
 |some i=>(80,(i:Int))
 |none=>(0,0))else(1,0)
theorem check_spec(u:Unt)(hu:USz u):zh E 9 [zE u] []=some (.ret (.tup [.int .i64 (zcc u).1,.int .i64 (zcc u).2]),[]):=by
 refine zc rfl rfl rfl (by simp[zE]) ?_;have h1:=head_spec u hu.arrs hu.flows;cases hh:zvc u
 ·simp[zE,hh,flows]at h1;have hc:zcc u=(1,0):=by simp[zcc,hh]
  (simp[*,F9,zE,flows])<;>(repeat' (first|((first|refine sP _ ?_ ?_|refine gP _ ?_ ?_|refine sN _ ?_ ?_|refine gN _ ?_ ?_)<;>intro hc<;>(first|replace hc:=eqn hc|replace hc:=eqp hc)<;>simp[*,F9,zE,flows])|((first|refine sM _ ?_ ?_|refine gM _ ?_ ?_|refine sB _ ?_ ?_|refine gB _ ?_ ?_)<;>intro hc<;>simp[*,F9,zE,flows])))
 ·have ho:=hu.ok hh;simp[zE,hh,flows]at h1;have hf:∀f∈u.flows,zh E 24 [zE u,zi f] []=some (.ret (.bool (flowM u f)),[]):=fun f hf=>flow_spec u f ho (ho.pars f hf) (hu.types f hf) (hu.body f hf)
  have hfl:=hu.flows;simp[F9,zE,flows,h1];refine zaa u.flows K9_0 B9_0 (fun d=>[(12,.int .i64 d.length)]) (fun d=>[]) (fun d=>∀f∈d,flowM u f=true) (by omega) (by simp) ?_ ?_
  ·intros d x r s hl' hlt hget hget' hw hp q1 q2 q3 q4;simp at q1 q2 q3;have hfx:=hf x hl'.mem;simp[zE,flows,zi]at hfx;clear hf hu ho h1;cases hx:flowM u x
   ·have hi:=idx_hit (p:=fun f=> !flowM u f) hl' (by simpa using hp) (by simp[hx]);have hcx:zcc u=(80,(d.length:Int)):=by
     unfold idx at hi;simp only[zcc,hh,if_true];cases hfi:u.flows.findIdx? (fun f=> !flowM u f)with
     |none=>rw[hfi]at hi;simp at hi
     |some i=>rw[hfi]at hi;simp at hi;simp[hi]
    (simp[*,zi,flows])<;>(repeat' (first|((first|refine sP _ ?_ ?_|refine gP _ ?_ ?_|refine sN _ ?_ ?_|refine gN _ ?_ ?_)<;>intro hc<;>(first|replace hc:=eqn hc|replace hc:=eqp hc)<;>simp[*,zi,flows])|((first|refine sM _ ?_ ?_|refine gM _ ?_ ?_|refine sB _ ?_ ?_|refine gB _ ?_ ?_)<;>intro hc<;>simp[*,zi,flows])))
   ·(simp[*,zi,flows])<;>(repeat' (first|((first|refine sP _ ?_ ?_|refine gP _ ?_ ?_|refine sN _ ?_ ?_|refine gN _ ?_ ?_)<;>intro hc<;>(first|replace hc:=eqn hc|replace hc:=eqp hc)<;>simp[*,zi,flows])|((first|refine sM _ ?_ ?_|refine gM _ ?_ ?_|refine sB _ ?_ ?_|refine gB _ ?_ ?_)<;>intro hc<;>simp[*,zi,flows])))
    all_goals(try grind)
  ·intros s hp q1 q2 q3 q4;simp at q1 q2 q3;have hcx:zcc u=(0,0):=by
    have:u.flows.findIdx? (fun f=> !flowM u f)=none:=by rw[yfa];simpa using hp
    simp[zcc,hh,this]
   clear hf hu ho hh h1 hp
   (simp[*])<;>(repeat' (first|((first|refine sP _ ?_ ?_|refine gP _ ?_ ?_|refine sN _ ?_ ?_|refine gN _ ?_ ?_)<;>intro hc<;>(first|replace hc:=eqn hc|replace hc:=eqp hc)<;>simp[*])|((first|refine sM _ ?_ ?_|refine gM _ ?_ ?_|refine sB _ ?_ ?_|refine gB _ ?_ ?_)<;>intro hc<;>simp[*])))
structure RS where
 inp:List Int
 arrs:List (List Int)
 out:List Int
 cost:Int
 fuel:Nat
inductive Rt(α:Type) where
 |ok (a:α)
 |stop (k:Int)
structure Wy where
 kind:Int
 l:List Int
abbrev NEv:=Node->List Int->RS->Rt Wy×List Int×RS
def oneC(op a:Int):Int:=
 if op=20 then yN .i64 (0-a)else if op=21 then yN .i64 (-1-a)else if op=22 then(if a=0 then 1 else 0)
 else if op=23 then(a+128)%256-128 else if op=24 then(a+32768)%65536-32768 else if op=25 then(a+2147483648)%4294967296-2147483648
 else if op=26 then a%256 else if op=27 then a%65536 else if op=28 then a%4294967296 else 0
def and64C(a b:Int):Int:=(yq 64 a&&&yq 64 b).toInt
def or64C(a b:Int):Int:=(yq 64 a|||yq 64 b).toInt
def xor64C(a b:Int):Int:=(yq 64 a^^^yq 64 b).toInt
def twoC(op a b:Int):Int×Bool:=
 if(cmp op a b).2=true then(if(cmp op a b).1=true then 1 else 0,true)
 else if op=1 then(yN .i64 (a+b),true)else if op=2 then(yN .i64 (a-b),true)else if op=3 then(yN .i64 (a*b),true)
 else if op=6 then(and64C a b,true)else if op=7 then(or64C a b,true)else if op=8 then(xor64C a b,true)
 else if op=9 then(yN .i64 (a*2^(b%64).toNat),true)else if op=10 then(a.fdiv (2^(b%64).toNat),true)
 else if op=11 then(yN .i64 ((a%18446744073709551616).fdiv (2^(b%64).toNat)),true)
 else if b=0 then(0,false)else if op=4 then(yN .i64 (a.tdiv b),true)else if op=5 then(a.tmod b,true)else(0,false)
theorem one_eqC(op a:Int):one op a=oneC op a:=by
 unfold one oneC;by_cases h1:op=20
 ·subst h1;simp[W,zL]
 by_cases h2:op=21
 ·subst h2;simp[not64,W,zL]
 by_cases h3:op=22
 ·subst h3;simp
 by_cases h4:op=26
 ·subst h4;simp only[wrapK_u8];simp;rw[W_id]<;>omega
 by_cases h5:op=27
 ·subst h5;simp only[wrapK_u16];simp;rw[W_id]<;>omega
 by_cases h6:op=28
 ·subst h6;simp only[wrapK_u32];simp;rw[W_id]<;>omega
 by_cases h7:op=23
 ·subst h7;simp only[wrapK_i8];simp;rw[W_id]<;>omega
 by_cases h8:op=24
 ·subst h8;simp only[wrapK_i16];simp;rw[W_id]<;>omega
 by_cases h9:op=25
 ·subst h9;simp only[wrapK_i32];simp;rw[W_id]<;>omega
 simp[h1,h2,h3,h4,h5,h6,h7,h8,h9]
theorem wrap64u(n:Int):yN .u64 n=n%18446744073709551616:=by simp[yN,yta,yya]
theorem two_eqC(op a b:Int):two op a b=twoC op a b:=by
 have h63:and64 b 63=b%64:=by have:=and_mask b 6 (by decide);simpa using this
 have hm:min (b%64).toNat 64=(b%64).toNat:=by omega
 unfold two twoC;rw[h63,hm];simp only[W,zL,and64_eq,or64_eq,xor64_eq,remK_eq,shrK_eq,and64C,or64C,xor64C,wrap64u]
def zz(S:RS):RS:={S with cost:=yN .i64 (S.cost+1)}
def atA(l:List Int)(i:Nat):Int:=(l[i]?).getD 0
def cellAt(u:Unt)(S:RS)(nm:List UInt8)(n:Int):Option Int:=
 if n<0 then none else(S.arrs[(arrAt u.arrays nm).toNat]?).bind fun l=>l[n.toNat]?
def putAt(u:Unt)(S:RS)(nm:List UInt8)(n m:Int):Option RS:=
 if n<0 then none else(S.arrs[(arrAt u.arrays nm).toNat]?).bind fun l=>if n.toNat<l.length then some {S with arrs:=S.arrs.set (arrAt u.arrays nm).toNat (l.set n.toNat m)}else none
def flowAt(u:Unt)(nm:List UInt8):Option Flow:=u.flows[(zja u.flows nm).toNat]?
def setW:List Int->List Int->List Int->List Int
 |v,o::os,n::ns=>setW (v.set o.toNat n) os ns
 |v,_,_=>v
def ofW(v l:List Int):List Int:=l.map (at0 v)
def kid0(n:Node):List Node:=(n.kids[0]?).getD []
def kid1(n:Node):List Node:=(n.kids[1]?).getD []
section
variable (u:Unt) (ev:NEv)
def zga:List Node->List Int->RS->Rt Wy×List Int×RS
 | [],v,S=>(.ok ⟨0,[]⟩,v,S)
 |n::r,v,S=>match ev n v S with
  |(.ok w,v1,S1)=>if w.kind=0 then zga r v1 S1 else(.ok w,v1,S1)
  |(.stop k,v1,S1)=>(.stop k,v1,S1)
def zIa(f:Flow)(l:List Int)(S:RS):Rt Int×RS:=match zga ev f.body (l++yg (f.types.length-l.length) 0) S with
 |(.ok w,_,S1)=>(.ok (atA w.l 0),S1)
 |(.stop k,_,S1)=>(.stop k,S1)
def zcb(n:Node)(l:List Int)(S:RS):Rt (List Int)×RS:=
 if n.kind=3 then(.ok [oneC n.op (atA l 0)],S)
 else if n.kind=4 then(if(twoC n.op (atA l 0) (atA l 1)).2 then(.ok [(twoC n.op (atA l 0) (atA l 1)).1],S)else(.stop 2,S))
 else if n.kind=5 then(match cellAt u S n.name (atA l 0)with
  |some m=>(.ok [m],S)
  |none=>(.stop 3,S))
 else if n.kind=6 then(match putAt u S n.name (atA l 0) (atA l 1)with
  |some S1=>(.ok [],S1)
  |none=>(.stop 3,S))
 else if n.kind=7 then(match flowAt u n.name with
  |some f=>match zIa ev f l S with
   |(.ok m,S1)=>(.ok [m],S1)
   |(.stop k,S1)=>(.stop k,S1)
  |none=>(.ok [],S))
 else if n.kind=8 then(match S.inp with
  | []=>(.stop 4,S)
  |m::r=>(.ok [m],{S with inp:=r}))
 else if n.kind=9 then(.ok [],{S with out:=S.out++[atA l 0]})
 else(.ok [],S)
def zCa(n:Node)(c:Int)(v:List Int)(S:RS):Rt Wy×List Int×RS:=match zga ev (if c=0 then kid1 n else kid0 n) v S with
 |(.ok w,v1,S1)=>if w.kind=12 then(.ok ⟨0,[]⟩,setW v1 n.outs w.l,S1)else(.ok w,v1,S1)
 |(.stop k,v1,S1)=>(.stop k,v1,S1)
def zec(n:Node):Nat->List Int->List Int->RS->Rt Wy×List Int×RS
 |0,_,v,S=>(.stop 0,v,S)
 |k+1,l,v,S=>match zga ev (kid0 n) (setW v n.params l) S with
  |(.ok w,v1,S1)=>if w.kind=15 then(.ok w,v1,S1)else if w.kind=14 then(.ok ⟨0,[]⟩,setW v1 n.outs w.l,S1)else zec n k w.l v1 S1
  |(.stop j,v1,S1)=>(.stop j,v1,S1)
def nodeW(w:Nat)(n:Node)(v:List Int)(S:RS):Rt Wy×List Int×RS:=
 if n.kind=1\/n.kind=2 then(.ok ⟨0,[]⟩,setW v n.outs [n.n],S)
 else if 12<=n.kind/\n.kind<=15 then(.ok ⟨n.kind,ofW v n.args⟩,v,S)
 else if n.kind=10 then zCa ev n (atA (ofW v n.args) 0) v S
 else if n.kind=11 then zec ev n (w+1) (ofW v n.args) v S
 else match zcb u ev n (ofW v n.args) (zz S)with
  |(.ok m,S1)=>(.ok ⟨0,[]⟩,setW v n.outs m,S1)
  |(.stop k,S1)=>(.stop k,v,S1)
end
def evN(u:Unt):Nat->NEv
 |0=>fun _ v S=>(.stop 0,v,S)
 |w+1=>fun n v S=>match S.fuel with
  |0=>(.stop 0,v,S)
  |k+1=>nodeW u (evN u w) w n v {S with fuel:=k}
structure Rn where
 status:Int
 code:Int
 out:List Int
 cost:Int
 fuel:Nat
def run0(u:Unt)(inp:List Int)(fuel:Int):RS:=⟨inp,u.arrays.map (fun a=>yg a.size.toNat 0),[],0,fuel.toNat⟩
def zBc:Rt Int×RS->Rn
 |(.ok n,S)=>⟨1,n,S.out,S.cost,S.fuel⟩
 |(.stop k,S)=>⟨k,0,S.out,S.cost,S.fuel⟩
def mainW(u:Unt)(S:RS):Rt Int×RS:=match flowAt u zC with
 |some f=>zIa (evN u S.fuel) f [] S
 |none=>(.ok 0,S)
def zTa(u:Unt)(inp:List Int)(fuel:Int):Rn:=
 if(zcc u).1=0 then zBc (mainW u (run0 u inp fuel))else⟨0,0,[],0,0⟩
abbrev Set1:=List Bool
def atB(l:List Bool)(v:Int):Bool:=(l[v.toNat]?).getD false
def useR(ty:List Int)(seen:List Int)(v t:Int):Bool:=decide (0<=v)&&(decide (v<ty.length)&&(seen.contains v&&(decide (t=0)||decide (at0 ty v=t))))
def zEa(ty:List Int)(seen:List Int)(l want:List Int):Bool:=decide (l.length=want.length)&&(l.zip want).all fun p=>useR ty seen p.1 p.2
def setRG(ty:List Int)(Z:Set1)(v t:Int):Bool×Set1:=if valM ty v t&& !atB Z v then(true,Z.set v.toNat true)else(false,Z)
def setsR(ty:List Int)(Z:Set1)(l want:List Int):Bool×Set1:=eqM (setRG ty) Z l want
def isOne(op:Int):Bool:=decide (20<=op)&&decide (op<=28)
def isTwo(op:Int):Bool:=decide (1<=op)&&decide (op<=17)
def simpleR(u:Unt)(f:Flow)(seen:List Int)(w:Place)(Z:Set1)(n:Node):Bool×Set1:=
 let ty:=f.types
 if n.kind=1 then if zEa ty seen n.args []then setsR ty Z n.outs [1]else(false,Z)
 else if n.kind=2 then if(n.n=0\/n.n=1)/\zEa ty seen n.args []=true then setsR ty Z n.outs [2]else(false,Z)
 else if n.kind=3 then if isOne n.op&&zEa ty seen n.args [takes n.op]then setsR ty Z n.outs [makes n.op]else(false,Z)
 else if n.kind=4 then if(isTwo n.op&&zEa ty seen n.args [takes n.op,takes n.op])=true/\at0 ty (at0 n.args 0)=at0 ty (at0 n.args 1)then setsR ty Z n.outs [makes n.op]else(false,Z)
 else if n.kind=5 then if zGb u.arrays n.name&&zEa ty seen n.args [1]then setsR ty Z n.outs [1]else(false,Z)
 else if n.kind=6 then(zGb u.arrays n.name&&(zEa ty seen n.args [1,1]&&decide (n.outs=[])),Z)
 else if n.kind=7 then
  match u.flows[(zja u.flows n.name).toNat]? with
  |some g=>if 0<=zja u.flows n.name/\zEa ty seen n.args (pars g)=true then setsR ty Z n.outs [g.type]else(false,Z)
  |none=>(false,Z)
 else if n.kind=8 then if n.args=[]then setsR ty Z n.outs [1]else(false,Z)
 else if n.kind=9 then(zEa ty seen n.args [1]&&decide (n.outs=[]),Z)
 else if n.kind=12 then(w.inIf&&(zEa ty seen n.args w.yield&&decide (n.outs=[])),Z)
 else if n.kind=13 then(w.inLoop&&(zEa ty seen n.args w.next&&decide (n.outs=[])),Z)
 else if n.kind=14 then(w.inLoop&&(zEa ty seen n.args w.left&&decide (n.outs=[])),Z)
 else if n.kind=15 then(zEa ty seen n.args [f.type]&&decide (n.outs=[]),Z)
 else(false,Z)
theorem arrAt_has(l:List Arr)(s:List UInt8):decide (0<=arrAt l s)=zGb l s:=idx_ge _ _
def lastE(l:List Node)(q:Bool×Set1):Bool×Set1:=if q.1 then(!l.isEmpty,q.2)else(false,q.2)
def endR(ty:List Int)(x:Node)(q:Bool×Set1):Bool×Set1:=if q.1&&(decide (x.outs=[])|| !zB x)then setsR ty q.2 x.outs (zeros x.outs.length)else(false,q.2)
mutual
def nodeR(u:Unt)(f:Flow):Node->List Int->Place->Int->Set1->Bool×Set1
 |⟨k,o,n,s,a,us,ps,ks⟩,seen,w,deep,Z=>
  if !bareM ⟨k,o,n,s,a,us,ps,ks⟩then(false,Z)
  else if k=10 then
   if zEa f.types seen a [2]then endR f.types ⟨k,o,n,s,a,us,ps,ks⟩ (kidsR u f ks seen {w with inIf:=true,yield:=zU f.types us} (deep+1) Z)else(false,Z)
  else if k=11 then
   if zEa f.types seen a (zU f.types ps)then
    if(setsR f.types Z ps (zeros ps.length)).1 then endR f.types ⟨k,o,n,s,a,us,ps,ks⟩ (kidsR u f ks (seen++ps) ⟨false,true,[],zU f.types ps,zU f.types us⟩ (deep+1) (setsR f.types Z ps (zeros ps.length)).2)
    else(false,(setsR f.types Z ps (zeros ps.length)).2)
   else(false,Z)
  else simpleR u f seen w Z ⟨k,o,n,s,a,us,ps,ks⟩
def kidsR(u:Unt)(f:Flow):List (List Node)->List Int->Place->Int->Set1->Bool×Set1
 | [],seen,w,deep,Z=>(true,Z)
 |l::r,seen,w,deep,Z=>if(lastE l (goR u f l seen w deep Z)).1 then kidsR u f r seen w deep (lastE l (goR u f l seen w deep Z)).2 else(false,(lastE l (goR u f l seen w deep Z)).2)
def goR(u:Unt)(f:Flow):List Node->List Int->Place->Int->Set1->Bool×Set1
 | [],seen,w,deep,Z=>(true,Z)
 |x::r,seen,w,deep,Z=>if 100<deep then(false,Z)else
   if(nodeR u f x seen w deep Z).1 then(if zB x=r.isEmpty then goR u f r (seen++x.outs) w deep (nodeR u f x seen w deep Z).2 else(false,(nodeR u f x seen w deep Z).2))else(false,(nodeR u f x seen w deep Z).2)
end
def listR(u:Unt)(f:Flow)(l:List Node)(seen:List Int)(w:Place)(deep:Int)(Z:Set1):Bool×Set1:=lastE l (goR u f l seen w deep Z)
def louts(l:List Node):List Int:=l.flatMap fun x=>x.outs
@[simp] theorem louts_nil:louts []=[]:=rfl
theorem louts_cons(a:List Node)(x:Node):louts (x::a)=x.outs++louts a:=by simp[louts]
def initR(f:Flow)(k:Nat):Set1:=yg k true++yg (f.types.length-k) false
def firsts(k:Nat):List Int:=(yU k).map fun(i:Nat)=>(i:Int)
def flowR(u:Unt)(f:Flow):Bool:=
 !(decide (f.params<0)||decide (8<f.params)||decide ((f.types.length:Int)<f.params)||decide (20000<f.types.length)||f.types.any (fun t=> !tyOk t))&&
  (listR u f f.body (firsts f.params.toNat) place0 1 (initR f f.params.toNat)).1
theorem initR_len(f:Flow)(k:Nat)(h:k<=f.types.length):(initR f k).length=f.types.length:=by simp[initR];omega
def arrGood(u:Unt)(p:Arr×Nat):Bool:=arrOk p.1&&(decide (arrAt u.arrays p.1.name=p.2)&&decide (zja u.flows p.1.name<0))
def flowGood(u:Unt)(p:Flow×Nat):Bool:=zHb p.1&&decide (zja u.flows p.1.name=p.2)
def rheadM(u:Unt):Bool:=u.arrays.zipIdx.all (arrGood u)&&(u.flows.zipIdx.all (flowGood u)&&mainOk u)
theorem idx_first{α:Type}{p:α->Bool}{l:List α}{k:Nat}(h:idx p l=k):∀j (hj:j<l.length),j<k->p l[j]=false:=by
 unfold idx at h;cases hf:l.findIdx? p with
 |none=>rw[hf]at h;simp at h
 |some i=>
  rw[hf]at h;have h:i=k:=by simp at h;omega
  subst h;rw[List.findIdx?_eq_some_iff_getElem]at hf;obtain⟨hi,h1,h2⟩:=hf;intro j hj hji;have:=h2 j hji;simpa using this
theorem idx_nodup{α:Type}(g:α->List UInt8)(l:List α):(∀p∈l.zipIdx,idx (fun y=>decide (g y=g p.1)) l=p.2)<->(l.map g).Nodup:=by
 rw[List.nodup_iff_pairwise_ne,List.pairwise_map,List.pairwise_iff_getElem];constructor
 ·intro h i j hi hj hij e;have h1:=h (l[j],j) (by rw[yba];simp[hj]);have h2:=idx_first h1 i hi hij;simp at h2;exact h2 e
 ·rintro h ⟨x,i⟩ hp
  rw[yba]at hp;simp only at hp;obtain⟨hi,rfl⟩:=yb.1 hp;have hs:Split l (l.take i) l[i] (l.drop (i+1)):=by
   show l=_
   simp
  have:=idx_hit (p:=fun y=>decide (g y=g l[i])) hs (by
   intro y hy;obtain⟨j,hj,rfl⟩:=List.getElem_of_mem hy;simp at hj;rw[List.getElem_take];have:=h j i (by omega) hi (by omega);simpa using this) (by simp)
  simp only;rw[this];simp;omega
theorem place_neg(l:List Flow)(s:List UInt8):zja l s<0<->s ∉ l.map Flow.name:=by
 have h:=idx_ge (fun f=>decide (f.name=s)) l;unfold zja;constructor
 ·intro h0 hm;obtain⟨f,hf,rfl⟩:=yua.1 hm;have:l.any (fun g=>decide (g.name=f.name))=true:=by rw[List.any_eq_true];exact⟨f,hf,by simp⟩
  rw[this]at h;simp at h;omega
 ·intro hm;have:l.any (fun g=>decide (g.name=s))=false:=by
   rw[List.any_eq_false];intro f hf;simp;rintro rfl;exact hm (yua.2 ⟨f,hf,rfl⟩)
  rw[this]at h;simp at h;omega
theorem zip_all{α:Type}{l:List α}{p:α->Bool}:(∀x∈l,p x=true)<->∀q∈l.zipIdx,p q.1=true:=by
 constructor
 ·rintro h ⟨x,i⟩ hq
  rw[yba]at hq;exact h x (yI hq)
 ·intro h x hx;obtain⟨i,hi,rfl⟩:=List.getElem_of_mem hx;exact h (l[i],i) (by rw[yba];simp[hi])
theorem rhead_eq(u:Unt):rheadM u=zvc u:=by
 unfold rheadM zvc;rw[Bool.eq_iff_iff];simp only[ya,yo,decide_eq_true_eq,arrGood,flowGood,unames,List.nodup_append];have h1:=idx_nodup Arr.name u.arrays;have h2:=idx_nodup Flow.name u.flows;have h3:(∀p∈u.arrays.zipIdx,zja u.flows p.1.name<0)<->∀a∈u.arrays.map Arr.name,∀b∈u.flows.map Flow.name,a≠b:=by
  constructor
  ·intro h a ha b hb e;obtain⟨x,hx,rfl⟩:=yua.1 ha;have:=(zip_all (p:=fun x=>decide (zja u.flows x.name<0))).2 (fun q hq=>by simpa using h q hq) x hx;simp[place_neg]at this;subst e;obtain⟨y,hy,e⟩:=yua.1 hb;exact this y hy e
  ·rintro h ⟨x,i⟩ hq
   rw[yba]at hq;rw[place_neg];intro hm;exact h x.name (yua.2 ⟨x,yI hq,rfl⟩) x.name hm rfl
 have h4:=zip_all (l:=u.arrays) (p:=arrOk);have h5:=zip_all (l:=u.flows) (p:=zHb);have h6:∀p∈u.arrays.zipIdx,(arrAt u.arrays p.1.name=p.2<->idx (fun y=>decide (y.name=p.1.name)) u.arrays=p.2):=fun p _=>Iff.rfl
 have h7:∀p∈u.flows.zipIdx,(zja u.flows p.1.name=p.2<->idx (fun y=>decide (y.name=p.1.name)) u.flows=p.2):=fun p _=>Iff.rfl
 constructor
 ·rintro⟨a,b,c⟩
  exact⟨⟨⟨h4.2 fun q hq=>(a q hq).1,h5.2 fun q hq=>(b q hq).1⟩,h1.1 fun q hq=>(a q hq).2.1,h2.1 fun q hq=>(b q hq).2,h3.1 fun q hq=>(a q hq).2.2⟩,c⟩
 ·rintro⟨⟨⟨a,b⟩,c,d,e⟩,m⟩
  exact⟨fun q hq=>⟨h4.1 a q hq,h1.2 c q hq,h3.2 e q hq⟩,fun q hq=>⟨h5.1 b q hq,h2.2 d q hq⟩,m⟩
def rcheckM(u:Unt):Int×Int:=if rheadM u then(match u.flows.findIdx? (fun f=> !flowR u f)with
 |some i=>(80,(i:Int))
 |none=>(0,0))else(1,0)
end PE.U
