/-
  Texts joined by program: PfWp, A4P0, A4U0, PfOps, T04Fnsa, T04Fnsb, T04Fns, PfAtoi, PfPure, A4X4, A4U1, A4U1b, A4P1, A4P2, A4P3, A4P4, A4T14, A4P5, A4P6, A4P7, A4P8, A4P9, A4P10, A4P11.
-/
import Derived.Test.YthkagfbknifmmaaGreatDoorA02
import Derived.Test.YthkagfbknifmmaaGreatDoorProg
import Derived.Lib.Atoi
import Derived.Lib.ConvBytes
import Derived.Lib.Bytealg
import Derived.Lib.Index
import Derived.Lib.IndexMore
import Derived.Lib.Strings
import Derived.Lib.AtoiErrMem
import Derived.Lib.AtoiAll
import Derived.Sort.Grow
import Derived.Lib.ItoaNum
import Derived.Below
import Derived.Deep.Draws
import Derived.Ground.NamesProg
import Derived.Shelf.Strings.Prefix
import Derived.Shelf.Strings.Search3
import Derived.Shelf.Strings.Cut
import Derived.Shelf.Small.Strs
import Derived.Shelf.Strconv.AtoiAll
import Derived.Shelf.Strconv.Itoa3
import Derived.Shelf.Lay
import Derived.Lib.LaidTab
import Derived.Laws.RangeAny
import Derived.Laws.RangeString
set_option linter.unusedVariables false
set_option linter.unusedSectionVars false
set_option linter.unusedSimpArgs false
open Bool renaming and_eq_true→ya,or_eq_false_iff→ywa,or_eq_true→yF,true_and→yca
open Eq renaming trans→yf
open List renaming all_append→yla,all_eq_true→yr,cons_append→yk,exists_cons_of_ne_nil→yoa,find?_append→yDa,find?_cons→yra,find?_eq_none→yO,getElem_range→yqa,isPrefixOf→yga,length_append→ye,length_cons→yd,length_drop→yU,length_nil→yg,mem_append→yw,mem_cons→yia,mem_range→yta,mem_singleton→yJ,nil_append→yp,range→yQ,takeWhile_cons→yT
open Nat renaming le_refl→yh,le_trans→yha,lt_or_ge→yA,lt_succ_self→yK
open Option renaming isSome_iff_exists→yX,map_eq_some_iff→yb
namespace PE
open Go
def zpa(x:Option (Ex×St))(Q:Ex->St->Prop):Prop:=match x with
 |some (e,s)=>Q e s
 |none=>False
@[simp] theorem holds_some(e:Ex)(s:St)(Q:Ex->St->Prop):zpa (some (e,s)) Q=Q e s:=yf rfl rfl
theorem holds_iff{x:Option (Ex×St)}{Q:Ex->St->Prop}:zpa x Q<->∃e s,x=some (e,s)/\Q e s:=by
 cases x with
 |none=>exact⟨fun h=>h.elim,fun⟨_,_,h,_⟩=>by cases h⟩
 |some q=>obtain⟨e,s⟩:=q;exact⟨fun h=>⟨e,s,rfl,h⟩,fun⟨_,_,h,h'⟩=>by cases h;exact h'⟩
theorem zpa.mono{x:Option (Ex×St)}{Q R:Ex->St->Prop}(h:zpa x Q)(hq:∀e s,Q e s->R e s):zpa x R:=by
 cases x with
 |none=>exact h
 |some q=>obtain⟨e,s⟩:=q;exact hq e s h
def seqQ(k:St->Option (Ex×St))(Q:Ex->St->Prop):Ex->St->Prop
 | .normal,s=>zpa (k s) Q
 |e,s=>Q e s
@[simp] theorem seqQ_normal(k:St->Option (Ex×St))(Q:Ex->St->Prop)(s:St):seqQ k Q .normal s=zpa (k s) Q:=yf rfl rfl
@[simp] theorem seqQ_exit(k:St->Option (Ex×St))(Q:Ex->St->Prop)(s:St)(i:Nat):seqQ k Q (.exit i) s=Q (.exit i) s:=yf rfl rfl
@[simp] theorem seqQ_ret(k:St->Option (Ex×St))(Q:Ex->St->Prop)(s:St):seqQ k Q .ret s=Q .ret s:=yf rfl rfl
@[simp] theorem seqQ_pan(k:St->Option (Ex×St))(Q:Ex->St->Prop)(s:St)(v:PV):seqQ k Q (.pan v) s=Q (.pan v) s:=yf rfl rfl
@[simp] theorem holds_thenSeq(k:St->Option (Ex×St))(x:Option (Ex×St))(Q:Ex->St->Prop):zpa (thenSeq k x) Q=zpa x (seqQ k Q):=by
 cases x with
 |none=>rfl
 |some q=>obtain⟨e,s⟩:=q;cases e<;>rfl
def blkQ(id:Nat)(Q:Ex->St->Prop):Ex->St->Prop
 | .exit i,s=>if i=id then Q .normal s else Q (.exit i) s
 |e,s=>Q e s
@[simp] theorem blkQ_normal(id:Nat)(Q:Ex->St->Prop)(s:St):blkQ id Q .normal s=Q .normal s:=yf rfl rfl
@[simp] theorem blkQ_exit(id i:Nat)(Q:Ex->St->Prop)(s:St):blkQ id Q (.exit i) s=if i=id then Q .normal s else Q (.exit i) s:=yf rfl rfl
@[simp] theorem blkQ_ret(id:Nat)(Q:Ex->St->Prop)(s:St):blkQ id Q .ret s=Q .ret s:=yf rfl rfl
@[simp] theorem blkQ_pan(id:Nat)(Q:Ex->St->Prop)(s:St)(v:PV):blkQ id Q (.pan v) s=Q (.pan v) s:=yf rfl rfl
@[simp] theorem holds_leaveBlock(id:Nat)(x:Option (Ex×St))(Q:Ex->St->Prop):zpa (leaveBlock id x) Q=zpa x (blkQ id Q):=by
 cases x with
 |none=>rfl
 |some q=>
  obtain⟨e,s⟩:=q;cases e<;>try rfl
  rename_i i;by_cases h:i=id<;>simp[leaveBlock,h]
noncomputable def wpS(cf:zH)(s0:St)(ops:List GOp)(s:St)(Q:Ex->St->Prop):Prop:=zpa (regionEnd s0 (zVb cf ops s)) Q
def after(cf:zH)(s0:St)(r:List GOp)(Q:Ex->St->Prop):Option SR->Prop
 |some (.ok s')=>wpS cf s0 r s' Q
 |some (.pan v st)=>Q (.pan v) {s0 with st:=st}
 |none=>False
@[simp] theorem after_ok(cf:zH)(s0:St)(r:List GOp)(Q:Ex->St->Prop)(s:St):after cf s0 r Q (some (.ok s))=wpS cf s0 r s Q:=yf rfl rfl
@[simp] theorem after_pan(cf:zH)(s0:St)(r:List GOp)(Q:Ex->St->Prop)(v:PV)(st:ze):after cf s0 r Q (some (.pan v st))=Q (.pan v) {s0 with st:=st}:=yf rfl rfl
@[simp] theorem wpS_nil(cf:zH)(s0 s:St)(Q:Ex->St->Prop):wpS cf s0 [] s Q=Q .normal s:=yf rfl rfl
noncomputable def zja(cf:zH)(w:Bool)(d:Option Nat)(o:IOp)(s:St):PV->Option SR
 | .bool b=>if b=w then zJ cf d o s else some (.ok {s with fr:=zSa s.fr d (.tup [])})
 | .tup []=>some (.ok {s with fr:=zSa s.fr d (.tup [])})
 |_=>none
theorem step_guarded(cf:zH)(g:Nat)(w:Bool)(d:Option Nat)(o:IOp)(s:St):step cf ⟨some (g,w),d,o⟩ s=zja cf w d o s (s.fr g):=by
 simp only[step];generalize s.fr g=v;cases v<;>try rfl
 ·rename_i b;cases b<;>cases w<;>rfl
 ·rename_i l;cases l<;>rfl
@[simp] theorem wpS_free(cf:zH)(s0:St)(d:Option Nat)(o:IOp)(r:List GOp)(s:St)(Q:Ex->St->Prop):wpS cf s0 (⟨none,d,o⟩::r) s Q=after cf s0 r Q (zJ cf d o s):=by
 have:step cf ⟨none,d,o⟩ s=zJ cf d o s:=rfl;simp only[wpS,zVb,this];cases zJ cf d o s with
 |none=>rfl
 |some q=>cases q<;>rfl
@[simp] theorem wpS_guard(cf:zH)(s0:St)(g:Nat)(w:Bool)(d:Option Nat)(o:IOp)(r:List GOp)(s:St)(Q:Ex->St->Prop):wpS cf s0 (⟨some (g,w),d,o⟩::r) s Q=after cf s0 r Q (zja cf w d o s (s.fr g)):=by
 simp only[wpS,zVb,step_guarded];cases zja cf w d o s (s.fr g)with
 |none=>rfl
 |some q=>cases q<;>rfl
@[simp] theorem guarded_tt(cf:zH)(d:Option Nat)(o:IOp)(s:St):zja cf true d o s (.bool true)=zJ cf d o s:=yf rfl rfl
@[simp] theorem guarded_ff(cf:zH)(d:Option Nat)(o:IOp)(s:St):zja cf false d o s (.bool false)=zJ cf d o s:=yf rfl rfl
@[simp] theorem guarded_tf(cf:zH)(d:Option Nat)(o:IOp)(s:St):zja cf true d o s (.bool false)=some (.ok {s with fr:=zSa s.fr d (.tup [])}):=yf rfl rfl
@[simp] theorem guarded_ft(cf:zH)(d:Option Nat)(o:IOp)(s:St):zja cf false d o s (.bool true)=some (.ok {s with fr:=zSa s.fr d (.tup [])}):=yf rfl rfl
@[simp] theorem guarded_nil(cf:zH)(w:Bool)(d:Option Nat)(o:IOp)(s:St):zja cf w d o s (.tup [])=some (.ok {s with fr:=zSa s.fr d (.tup [])}):=yf rfl rfl
theorem wp_region(cf:zH)(ops:List GOp)(s:St)(Q:Ex->St->Prop):zpa (exec cf (.region ops) s) Q=wpS cf s ops s Q:=by
 rw[exec_region];rfl
theorem guard_split{cf:zH}{s0:St}{r:List GOp}{Q:Ex->St->Prop}{w:Bool}{d:Option Nat}{o:IOp}{s:St}(b:Bool)
  (h1:b=true->after cf s0 r Q (zja cf w d o s (.bool true))) (h2:b=false->after cf s0 r Q (zja cf w d o s (.bool false))):after cf s0 r Q (zja cf w d o s (.bool b)):=by
 cases b
 ·exact h2 rfl
 ·exact h1 rfl
theorem guard_splitP{cf:zH}{s0:St}{r:List GOp}{Q:Ex->St->Prop}{w:Bool}{d:Option Nat}{o:IOp}{s:St}(p:Prop)[Decidable p]
  (h1:p->after cf s0 r Q (zja cf w d o s (.bool true))) (h2:¬p->after cf s0 r Q (zja cf w d o s (.bool false))):after cf s0 r Q (zja cf w d o s (.bool (decide p))):=by
 by_cases h:p
 ·simpa[h]using h1 h
 ·simpa[h]using h2 h
noncomputable def condX(cf:zH)(a b:ICode)(s:St):PV->Option (Ex×St)
 | .bool true=>exec cf a s
 | .bool false=>exec cf b s
 |_=>none
@[simp] theorem condX_true(cf:zH)(a b:ICode)(s:St):condX cf a b s (.bool true)=exec cf a s:=yf rfl rfl
@[simp] theorem condX_false(cf:zH)(a b:ICode)(s:St):condX cf a b s (.bool false)=exec cf b s:=yf rfl rfl
@[simp] theorem wp_cond(cf:zH)(c:Arg)(a b:ICode)(s:St):exec cf (.cond c a b) s=condX cf a b s (c.val s.fr):=by
 rw[exec_cond];generalize c.val s.fr=v;cases v with
 |bool x=>cases x<;>rfl
 |_=>rfl
theorem cond_split{cf:zH}{x y:ICode}{s:St}{Q:Ex->St->Prop}(b:Bool)(h1:b=true->zpa (exec cf x s) Q)(h2:b=false->zpa (exec cf y s) Q):zpa (condX cf x y s (.bool b)) Q:=by
 cases b
 ·exact h2 rfl
 ·exact h1 rfl
theorem cond_splitP{cf:zH}{x y:ICode}{s:St}{Q:Ex->St->Prop}(p:Prop)[Decidable p](h1:p->zpa (exec cf x s) Q)(h2:¬p->zpa (exec cf y s) Q):zpa (condX cf x y s (.bool (decide p))) Q:=by
 by_cases h:p
 ·have:decide p=true:=decide_eq_true h;rw[this];exact h1 h
 ·have:decide p=false:=decide_eq_false h;rw[this];exact h2 h
theorem guard_splitN{cf:zH}{s0:St}{r:List GOp}{Q:Ex->St->Prop}{w:Bool}{d:Option Nat}{o:IOp}{s:St}(p:Prop)[Decidable p]
  (h1:¬p->after cf s0 r Q (zja cf w d o s (.bool true))) (h2:p->after cf s0 r Q (zja cf w d o s (.bool false))):after cf s0 r Q (zja cf w d o s (.bool (!decide p))):=by
 by_cases h:p
 ·simpa[h]using h2 h
 ·simpa[h]using h1 h
theorem guard_splitM{cf:zH}{s0:St}{r:List GOp}{Q:Ex->St->Prop}{w:Bool}{d:Option Nat}{o:IOp}{s:St}(b:Bool)
  (h1:b=false->after cf s0 r Q (zja cf w d o s (.bool true))) (h2:b=true->after cf s0 r Q (zja cf w d o s (.bool false))):after cf s0 r Q (zja cf w d o s (.bool (!b))):=by
 cases b
 ·exact h1 rfl
 ·exact h2 rfl
theorem cond_splitN{cf:zH}{x y:ICode}{s:St}{Q:Ex->St->Prop}(p:Prop)[Decidable p](h1:¬p->zpa (exec cf x s) Q)(h2:p->zpa (exec cf y s) Q):zpa (condX cf x y s (.bool (!decide p))) Q:=by
 by_cases h:p
 ·have:decide p=true:=decide_eq_true h;rw[this];exact h2 h
 ·have:decide p=false:=decide_eq_false h;rw[this];exact h1 h
theorem cond_splitM{cf:zH}{x y:ICode}{s:St}{Q:Ex->St->Prop}(b:Bool)(h1:b=false->zpa (exec cf x s) Q)(h2:b=true->zpa (exec cf y s) Q):zpa (condX cf x y s (.bool (!b))) Q:=by
 cases b
 ·exact h1 rfl
 ·exact h2 rfl
theorem sP{cf:zH}{x y:ICode}{s:St}{Q:Ex->St->Prop}(p:Prop)[Decidable p](h1:p->zpa (exec cf x s) Q)(h2:¬p->zpa (exec cf y s) Q):zpa (condX cf x y s (.bool (decide p))) Q:=cond_splitP p h1 h2
theorem gP{cf:zH}{s0:St}{r:List GOp}{Q:Ex->St->Prop}{w:Bool}{d:Option Nat}{o:IOp}{s:St}(p:Prop)[Decidable p]
  (h1:p->after cf s0 r Q (zja cf w d o s (.bool true))) (h2:¬p->after cf s0 r Q (zja cf w d o s (.bool false))):after cf s0 r Q (zja cf w d o s (.bool (decide p))):=guard_splitP p h1 h2
theorem sN{cf:zH}{x y:ICode}{s:St}{Q:Ex->St->Prop}(p:Prop)[Decidable p](h1:¬p->zpa (exec cf x s) Q)(h2:p->zpa (exec cf y s) Q):zpa (condX cf x y s (.bool (!decide p))) Q:=cond_splitN p h1 h2
theorem gN{cf:zH}{s0:St}{r:List GOp}{Q:Ex->St->Prop}{w:Bool}{d:Option Nat}{o:IOp}{s:St}(p:Prop)[Decidable p]
  (h1:¬p->after cf s0 r Q (zja cf w d o s (.bool true))) (h2:p->after cf s0 r Q (zja cf w d o s (.bool false))):after cf s0 r Q (zja cf w d o s (.bool (!decide p))):=guard_splitN p h1 h2
theorem sM{cf:zH}{x y:ICode}{s:St}{Q:Ex->St->Prop}(b:Bool)(h1:b=false->zpa (exec cf x s) Q)(h2:b=true->zpa (exec cf y s) Q):zpa (condX cf x y s (.bool (!b))) Q:=cond_splitM b h1 h2
theorem gM{cf:zH}{s0:St}{r:List GOp}{Q:Ex->St->Prop}{w:Bool}{d:Option Nat}{o:IOp}{s:St}(b:Bool)
  (h1:b=false->after cf s0 r Q (zja cf w d o s (.bool true))) (h2:b=true->after cf s0 r Q (zja cf w d o s (.bool false))):after cf s0 r Q (zja cf w d o s (.bool (!b))):=guard_splitM b h1 h2
theorem sB{cf:zH}{x y:ICode}{s:St}{Q:Ex->St->Prop}(b:Bool)(h1:b=true->zpa (exec cf x s) Q)(h2:b=false->zpa (exec cf y s) Q):zpa (condX cf x y s (.bool b)) Q:=cond_split b h1 h2
theorem gB{cf:zH}{s0:St}{r:List GOp}{Q:Ex->St->Prop}{w:Bool}{d:Option Nat}{o:IOp}{s:St}(b:Bool)
  (h1:b=true->after cf s0 r Q (zja cf w d o s (.bool true))) (h2:b=false->after cf s0 r Q (zja cf w d o s (.bool false))):after cf s0 r Q (zja cf w d o s (.bool b)):=guard_split b h1 h2
theorem eqp{p:Prop}(h:p):p=True:=eq_true h
theorem eqn{p:Prop}(h:¬p):p=False:=eq_false h
def loopQ(I:St->Prop)(Q:Ex->St->Prop):Ex->St->Prop
 | .normal,s=>I s
 |e,s=>Q e s
@[simp] theorem loopQ_normal(I:St->Prop)(Q:Ex->St->Prop)(s:St):loopQ I Q .normal s=I s:=yf rfl rfl
@[simp] theorem loopQ_exit(I:St->Prop)(Q:Ex->St->Prop)(s:St)(i:Nat):loopQ I Q (.exit i) s=Q (.exit i) s:=yf rfl rfl
@[simp] theorem loopQ_ret(I:St->Prop)(Q:Ex->St->Prop)(s:St):loopQ I Q .ret s=Q .ret s:=yf rfl rfl
@[simp] theorem loopQ_pan(I:St->Prop)(Q:Ex->St->Prop)(s:St)(v:PV):loopQ I Q (.pan v) s=Q (.pan v) s:=yf rfl rfl
def round(cf:zH)(keep dead:List Nat)(b:ICode)(s:St)(Q:Ex->St->Prop):Prop:=match havoc keep dead s with
 |some s0=>zpa (exec cf b s0) Q
 |none=>False
theorem round_eq(cf:zH)(keep dead:List Nat)(b:ICode)(s:St)(Q:Ex->St->Prop):
  round cf keep dead b s Q=(keep.all (fun t=>avoids dead (s.fr t))=true/\zpa (exec cf b {fr:=keepFr s.fr keep,bx:=dropBx s.bx dead,st:=s.st}) Q):=by
 unfold round havoc;generalize keep.all (fun t=>avoids dead (s.fr t))=c;cases c<;>simp
theorem holds_loop(cf:zH)(keep dead:List Nat)(b:ICode)(s:St)(Q:Ex->St->Prop):
  zpa (exec cf (.loop keep dead b) s) Q=round cf keep dead b s (seqQ (exec cf (.loop keep dead b)) Q):=by
 rw[exec_loop];unfold round;cases havoc keep dead s with
 |none=>rfl
 |some s0=>exact holds_thenSeq _ _ _
theorem wp_loop{cf:zH}{keep dead:List Nat}{b:ICode}{Q:Ex->St->Prop}(I:Nat->St->Prop)
  (hstep:∀n s,I n s->round cf keep dead b s (loopQ (fun s'=>∃m,m<n/\I m s') Q)):∀n s,I n s->zpa (exec cf (.loop keep dead b) s) Q:=by
 intro n
 induction n using Nat.strongRecOn with
 |ind n ih=>
  intro s hI;rw[holds_loop];have h:=hstep n s hI;unfold round at h ⊢;cases hh:havoc keep dead s with
  |none=>rw[hh]at h;exact h
  |some s0=>
   rw[hh]at h;refine zpa.mono h ?_;intro e s' h';cases e with
   |normal=>obtain⟨m,hm,hI'⟩:=h';exact ih m hm s' hI'
   |exit i=>exact h'
   |ret=>exact h'
   |pan v=>exact h'
theorem zp{n:Int}(h0: -9223372036854775808<=n)(h1:n<=9223372036854775807):zra .i64 n=n:=by
 rw[zRd];simp only[IntKind.wrap,IntKind.bits,IntKind.signed,yca];split
 ·rename_i h;have:=of_decide_eq_true h;omega
 ·rename_i h;have:¬(n%2^64>=2^(64-1)):=fun hh=>h (decide_eq_true hh)
  omega
theorem wp_list{α:Type}{cf:zH}{keep dead:List Nat}{b:ICode}{Q:Ex->St->Prop}{s:St}(l:List α)(I:List α->St->Prop)(hb:l.length<2^62)(h0:I [] s)
  (hstep:∀d x r s,l=d++x::r->(hlt:d.length<l.length)->l[d.length]? =some x->l[d.length]'hlt=x->zra .i64 ((d.length:Int)+1)=(d.length:Int)+1->I d s->round cf keep dead b s (loopQ (I (d++[x])) Q))
  (hend:∀s,I l s->round cf keep dead b s (loopQ (fun _=>False) Q)):zpa (exec cf (.loop keep dead b) s) Q:=by
 have key:∀(r d:List α) (s:St),l=d++r->I d s->zpa (exec cf (.loop keep dead b) s) Q:=by
  intro r
  induction r with
  |nil=>
   intro d s hl hI;rw[List.append_nil]at hl;subst hl;rw[holds_loop];have h:=hend s hI;unfold round at h ⊢;cases hh:havoc keep dead s with
   |none=>rw[hh]at h;exact h
   |some s0=>
    rw[hh]at h;refine zpa.mono h ?_;intro e s' h';cases e with
    |normal=>exact h'.elim
    |exit i=>exact h'
    |ret=>exact h'
    |pan v=>exact h'
  |cons x r ih=>
   intro d s hl hI;rw[holds_loop];have h:=hstep d x r s hl (by rw[hl];simp) (by rw[hl];simp) (by simp[hl]) (zp (by omega) (by have:=congrArg List.length hl;simp at this;omega)) hI;unfold round at h ⊢;cases hh:havoc keep dead s with
   |none=>rw[hh]at h;exact h
   |some s0=>
    rw[hh]at h;refine zpa.mono h ?_;intro e s' h';cases e with
    |normal=>exact ih (d++[x]) s' (by simpa using hl) h'
    |exit i=>exact h'
    |ret=>exact h'
    |pan v=>exact h'
 exact key l [] s rfl h0
def Split{α:Type}(l d:List α)(x:α)(r:List α):Prop:=l=d++x::r
def kept(K B:List Nat)(s0 s:St):Prop:=(∀t∈K,s.fr t=s0.fr t)/\(∀k∈B,s.bx k=s0.bx k)
def has(V:List (Nat×PV))(s:St):Prop:=∀p∈V,s.fr p.1=p.2
@[simp] theorem kept_eq(K B:List Nat)(s0 s:St):kept K B s0 s=((∀t∈K,s.fr t=s0.fr t)/\(∀k∈B,s.bx k=s0.bx k)):=yf rfl rfl
@[simp] theorem has_nil(s:St):has [] s=True:=by simp[has]
@[simp] theorem has_cons(t:Nat)(v:PV)(V:List (Nat×PV))(s:St):has ((t,v)::V) s=(s.fr t=v/\has V s):=by simp[has]
def hasB(W:List (Nat×Bx))(s:St):Prop:=∀p∈W,s.bx p.1=p.2
@[simp] theorem hasB_nil(s:St):hasB [] s=True:=by simp[hasB]
@[simp] theorem hasB_cons(t:Nat)(v:Bx)(W:List (Nat×Bx))(s:St):hasB ((t,v)::W) s=(s.bx t=v/\hasB W s):=by simp[hasB]
def Inv(K B:List Nat)(s0:St)(V:List (Nat×PV))(W:List (Nat×Bx))(σ:ze)(P:Prop)(s:St):Prop:=kept K B s0 s/\has V s/\hasB W s/\s.st=σ/\P
@[simp] theorem Inv_eq(K B:List Nat)(s0:St)(V:List (Nat×PV))(W:List (Nat×Bx))(σ:ze)(P:Prop)(s:St):Inv K B s0 V W σ P s=(kept K B s0 s/\has V s/\hasB W s/\s.st=σ/\P):=yf rfl rfl
theorem wp_eachB{α:Type}{cf:zH}{keep dead:List Nat}{b:ICode}{Q:Ex->St->Prop}{s0:St}(l:List α)(K B:List Nat)(V:List α->List (Nat×PV))(W:List α->List (Nat×Bx))(σ:List α->ze)(P:List α->Prop)
  (hb:l.length<2^62) (h0:has (V []) s0/\hasB (W []) s0/\s0.st=σ []/\P [])
  (hstep:∀d x r s,Split l d x r->(hlt:d.length<l.length)->l[d.length]? =some x->l[d.length]'hlt=x->zra .i64 ((d.length:Int)+1)=(d.length:Int)+1->P d→
   (∀t∈K,s.fr t=s0.fr t)->(∀k∈B,s.bx k=s0.bx k)->has (V d) s->hasB (W d) s->s.st=σ d->round cf keep dead b s (loopQ (Inv K B s0 (V (d++[x])) (W (d++[x])) (σ (d++[x])) (P (d++[x]))) Q))
  (hend:∀s,P l->(∀t∈K,s.fr t=s0.fr t)->(∀k∈B,s.bx k=s0.bx k)->has (V l) s->hasB (W l) s->s.st=σ l->round cf keep dead b s (loopQ (fun _=>False) Q)):zpa (exec cf (.loop keep dead b) s0) Q:=by
 refine wp_list l (fun d s=>Inv K B s0 (V d) (W d) (σ d) (P d) s) hb ?_ ?_ ?_
 ·exact⟨⟨fun _ _=>rfl,fun _ _=>rfl⟩,h0⟩
 ·rintro d x r s hl hlt hg hg' hw ⟨⟨h1,h2⟩,h3,h3',h4,h5⟩
  exact hstep d x r s hl hlt hg hg' hw h5 h1 h2 h3 h3' h4
 ·rintro s ⟨⟨h1,h2⟩,h3,h3',h4,h5⟩
  exact hend s h5 h1 h2 h3 h3' h4
theorem zsa{α:Type}{cf:zH}{keep dead:List Nat}{b:ICode}{Q:Ex->St->Prop}{s0:St}(l:List α)(K B:List Nat)(V:List α->List (Nat×PV))(σ:List α->ze)(P:List α->Prop)
  (hb:l.length<2^62) (h0:has (V []) s0/\s0.st=σ []/\P [])
  (hstep:∀d x r s,Split l d x r->(hlt:d.length<l.length)->l[d.length]? =some x->l[d.length]'hlt=x->zra .i64 ((d.length:Int)+1)=(d.length:Int)+1->P d→
   (∀t∈K,s.fr t=s0.fr t)->(∀k∈B,s.bx k=s0.bx k)->has (V d) s->s.st=σ d->round cf keep dead b s (loopQ (Inv K B s0 (V (d++[x])) [] (σ (d++[x])) (P (d++[x]))) Q))
  (hend:∀s,P l->(∀t∈K,s.fr t=s0.fr t)->(∀k∈B,s.bx k=s0.bx k)->has (V l) s->s.st=σ l->round cf keep dead b s (loopQ (fun _=>False) Q)):zpa (exec cf (.loop keep dead b) s0) Q:=
 wp_eachB l K B V (fun _=>[]) σ P hb ⟨h0.1,by simp,h0.2⟩ (fun d x r s a1 a2 a3 a4 a5 a6 a7 a8 a9 _ a10=>hstep d x r s a1 a2 a3 a4 a5 a6 a7 a8 a9 a10) (fun s a1 a2 a3 a4 _ a5=>hend s a1 a2 a3 a4 a5)
theorem zmb{β:Type}{cf:zH}{keep dead:List Nat}{b:ICode}{Q:Ex->St->Prop}{s0:St}(K B:List Nat)(μ:β->Nat)(V:β->List (Nat×PV))(W:β->List (Nat×Bx))(σ:β->ze)(P:β->Prop)(c0:β)
  (h0:has (V c0) s0/\hasB (W c0) s0/\s0.st=σ c0/\P c0)
  (hstep:∀c s,P c->(∀t∈K,s.fr t=s0.fr t)->(∀k∈B,s.bx k=s0.bx k)->has (V c) s->hasB (W c) s->s.st=σ c→
   round cf keep dead b s (loopQ (fun s'=>∃c',μ c'<μ c/\Inv K B s0 (V c') (W c') (σ c') (P c') s') Q)):zpa (exec cf (.loop keep dead b) s0) Q:=by
 refine wp_loop (fun n s=>∃c,μ c=n/\Inv K B s0 (V c) (W c) (σ c) (P c) s) ?_ (μ c0) s0 ⟨c0,rfl,⟨fun _ _=>rfl,fun _ _=>rfl⟩,h0⟩
 rintro n s ⟨c,rfl,⟨h1,h2⟩,h3,h3',h4,h5⟩
 have h:=hstep c s h5 h1 h2 h3 h3' h4;unfold round at h ⊢;cases hh:havoc keep dead s with
 |none=>rw[hh]at h;exact h
 |some s1=>
  rw[hh]at h;refine zpa.mono h ?_;intro e s' h';cases e with
  |normal=>obtain⟨c',q1,q2⟩:=h';exact⟨μ c',q1,c',rfl,q2⟩
  |exit i=>exact h'
  |ret=>exact h'
  |pan v=>exact h'
def PC(x:Option (CRes×ze))(R:CRes->ze->Prop):Prop:=match x with
 |some (r,st)=>R r st
 |none=>False
theorem PC_iff{x:Option (CRes×ze)}{R:CRes->ze->Prop}:PC x R<->∃r st,x=some (r,st)/\R r st:=by
 cases x with
 |none=>exact⟨fun h=>h.elim,fun⟨_,_,h,_⟩=>by cases h⟩
 |some q=>obtain⟨e,s⟩:=q;exact⟨fun h=>⟨e,s,rfl,h⟩,fun⟨_,_,h,h'⟩=>by cases h;exact h'⟩
def fin(res:List IRes)(fz:Bool)(n:Nat)(s:St):Option (CRes×ze):=
 match getAll s res with
 |none=>none
 |some vs=>if vs.all zG then
   if fz then
    if zZ n (vs.map (zbd n s.st))&&ze.wf n (s.st.take n)&&decide (n<=s.st.length)then some (.ret (zCd (vs.map (zbd n s.st))),s.st.take n)else none
   else some (.ret (zCd vs),s.st)
  else none
def finPan(fz:Bool)(n:Nat)(v:PV)(s:St):Option (CRes×ze):=
 if fz then
  if zD n v&&ze.wf n (s.st.take n)&&decide (n<=s.st.length)then some (.pan v,s.st.take n)else none
 else some (.pan v,s.st)
def leaveQ(res:List IRes)(fz:Bool)(n:Nat)(R:CRes->ze->Prop):Ex->St->Prop
 | .normal,s=>PC (fin res fz n s) R
 | .ret,s=>PC (fin res fz n s) R
 | .pan v,s=>PC (finPan fz n v s) R
 |_,_=>False
section
variable (res:List IRes) (fz:Bool) (n:Nat) (R:CRes->ze->Prop) (s:St)
@[simp] theorem leaveQ_normal:leaveQ res fz n R .normal s=PC (fin res fz n s) R:=yf rfl rfl
@[simp] theorem leaveQ_ret:leaveQ res fz n R .ret s=PC (fin res fz n s) R:=yf rfl rfl
@[simp] theorem leaveQ_pan(v:PV):leaveQ res fz n R (.pan v) s=PC (finPan fz n v s) R:=yf rfl rfl
@[simp] theorem fin_false:fin res false n s=match getAll s res with
 |none=>none
 |some vs=>if vs.all zG then some (.ret (zCd vs),s.st)else none:=yf rfl rfl
@[simp] theorem finPan_false(v:PV):finPan false n v s=some (.pan v,s.st):=yf rfl rfl
@[simp] theorem PC_some(r:CRes)(st:ze):PC (some (r,st)) R=R r st:=yf rfl rfl
end
section
variable (res:List IRes) (n:Nat) (R:CRes->ze->Prop) (s:St)
end
theorem pcall_wpP{E:Env}{f:Nat}{F:IFn}{args:List PV}{st:ze}{R:CRes->ze->Prop}(hx:E.ext f=none)(hf:E.fn f=some F)(hl:args.length=F.nargs)(hv:args.all zG=true)
  (h:zpa (exec (zk E) F.body {fr:=frOf args 0,bx:=fun _=> .no,st:=st}) (leaveQ F.res F.freeze st.length R)) (hh:E.hand f=none:=by rfl) (hd:F.deep=false:=by rfl) (ho:F.own=none:=by rfl):PC (zk E f args st) R:=by
 rw[holds_iff]at h;obtain⟨e,s,h1,h2⟩:=h;have h3:PC (leave F st.length (some (e,s))) R:=by
  cases e with
  |normal=>show PC (finish F st.length s) R;unfold finish;rw[ho,hd];exact h2
  |ret=>show PC (finish F st.length s) R;unfold finish;rw[ho,hd];exact h2
  |pan v=>exact h2
  |exit i=>exact h2.elim
 rw[PC_iff]at h3;obtain⟨r,st',h4,h5⟩:=h3;rw[pcall_body hx hf hl hv hh (by rw[h1];exact h4)];exact h5
def isR(r:CRes×ze):CRes->ze->Prop:=fun r' st'=>r'=r.1/\st'=r.2
theorem zc{E:Env}{f:Nat}{F:IFn}{args:List PV}{st:ze}{r:CRes×ze}(hx:E.ext f=none)(hf:E.fn f=some F)(hl:args.length=F.nargs)(hv:args.all zG=true)
  (h:zpa (exec (zk E) F.body {fr:=frOf args 0,bx:=fun _=> .no,st:=st}) (leaveQ F.res F.freeze st.length (isR r))) (hh:E.hand f=none:=by rfl) (hd:F.deep=false:=by rfl) (ho:F.own=none:=by rfl):zk E f args st=some r:=by
 have h1:=pcall_wpP (R:=isR r) hx hf hl hv h hh hd ho;rw[PC_iff]at h1;obtain⟨r',st',e,q1,q2⟩:=h1;rw[e,q1,q2]
section
variable (t:Nat) (R:CRes->ze->Prop) (s:St)
end
@[simp] theorem isR_mk(r r':CRes)(st st':ze):isR (r,st) r' st'=(r'=r/\st'=st):=yf rfl rfl
attribute [simp] wp_region round_eq exec_sealK
section
variable (n:Nat)
@[simp] theorem below_undef:zD n .undef=true:=yf rfl rfl
@[simp] theorem below_bool(b:Bool):zD n (.bool b)=true:=yf rfl rfl
@[simp] theorem below_int(k:IntKind)(m:Int):zD n (.int k m)=true:=yf rfl rfl
@[simp] theorem below_str(m:List UInt8):zD n (.str m)=true:=yf rfl rfl
@[simp] theorem below_slice(k:SK)(z:Nat)(l:List PV):zD n (.slice k z l)=zZ n l:=yf rfl rfl
@[simp] theorem below_agg(l:List PV):zD n (.agg l)=zZ n l:=yf rfl rfl
@[simp] theorem below_tup(l:List PV):zD n (.tup l)=zZ n l:=yf rfl rfl
@[simp] theorem below_nilif:zD n .nilif=true:=yf rfl rfl
@[simp] theorem below_iface(t:Nat)(v:PV):zD n (.iface t v)=zD n v:=yf rfl rfl
@[simp] theorem belowL_nil:zZ n []=true:=yf rfl rfl
@[simp] theorem belowL_cons(v:PV)(l:List PV):zZ n (v::l)=(zD n v&&zZ n l):=yf rfl rfl
end
@[simp] theorem ztc{α:Type}(n:Nat)(f:α->PV)(l:List α)(h:∀x,zD n (f x)=true):zZ n (l.map f)=true:=by
 induction l with
 |nil=>rfl
 |cons x r ih=>simp[h,ih]
@[simp] theorem belowL_append(n:Nat)(a b:List PV):zZ n (a++b)=(zZ n a&&zZ n b):=by
 induction a with
 |nil=>simp
 |cons x r ih=>simp[ih,Bool.and_assoc]
theorem Split.mem{α:Type}{l d:List α}{x:α}{r:List α}(h:Split l d x r):x∈l:=by
 have h:l=d++x::r:=h;rw[h];simp
theorem Split.eq{α:Type}{l d:List α}{x:α}{r:List α}(h:Split l d x r):l=d++x::r:=h
theorem byte_lt(b:UInt8):(b.toNat:Int)<256:=by
 have:=b.toNat_lt;omega
@[simp] theorem wrapK_byte(k:IntKind)(h:k≠ .i8)(b:UInt8):zra k b.toNat=b.toNat:=by
 have:=byte_lt b;have h0:(0:Int)<=b.toNat:=by omega
 rw[zRd];cases k<;>first|exact absurd rfl h|(simp only[IntKind.wrap,IntKind.bits,IntKind.signed,yca,Bool.false_and];split<;>rename_i h<;>first|omega|(have:=of_decide_eq_true h;omega)|(exact absurd h (by simp)))
section
variable (n:Nat) (st:ze)
@[simp] theorem frA_bool(b:Bool):zbd n st (.bool b)=(.bool b):=yf rfl rfl
@[simp] theorem frA_int(k:IntKind)(m:Int):zbd n st (.int k m)=(.int k m):=yf rfl rfl
@[simp] theorem frA_slice(k:SK)(z:Nat)(l:List PV):zbd n st (.slice k z l)=(.slice k z l):=yf rfl rfl
end
@[simp] theorem fin_true0(res:List IRes)(s:St):fin res true 0 s=match getAll s res with
 |none=>none
 |some vs=>if vs.all zG then if zZ 0 (vs.map (zbd 0 s.st))then some (.ret (zCd (vs.map (zbd 0 s.st))),[])else none else none:=by
 unfold fin;cases getAll s res with
 |none=>rfl
 |some vs=>simp[ze.wf]
def acc(sz:Nat)(l:List PV):PV:=match l with
 | []=> .slice .fit sz []
 |x::r=> .slice .own sz (x::r)
@[simp] theorem acc_nil(sz:Nat):acc sz []= .slice .fit sz []:=yf rfl rfl
@[simp] theorem acc_cons(sz:Nat)(x:PV)(r:List PV):acc sz (x::r)= .slice .own sz (x::r):=yf rfl rfl
theorem acc_ne{sz:Nat}{l:List PV}(h:l≠ []):acc sz l= .slice .own sz l:=by cases l<;>first|exact absurd rfl h|rfl
@[simp] theorem canon1_acc(sz:Nat)(l:List PV):canon1 (acc sz l)= .slice .plain sz l:=by cases l<;>rfl
@[simp] theorem stripA_acc(sz:Nat)(l:List PV):stripA (acc sz l)= .slice .plain sz l:=by cases l<;>rfl
@[simp] theorem avoids_acc(dead:List Nat)(sz:Nat)(l:List PV):avoids dead (acc sz l)=true:=by cases l<;>rfl
@[simp] theorem appendS_acc(sz bytes:Nat)(b:Bx)(st:ze)(l l':List PV)(h:(l.length+l'.length)*bytes<=zU):appendS sz bytes b st (some l') (acc sz l)=some (acc sz (l++l'),b,st):=by
 cases l with
 |nil=>
  cases l' with
  |nil=>simp
  |cons y r=>
   simp at h;simp;exact h
 |cons x r=>simp at h;simp;exact h
@[simp high] theorem appendS_nil(sz bytes:Nat)(b:Bx)(st:ze)(l':List PV)(h:l'.length*bytes<=zU):appendS sz bytes b st (some l') (.slice .fit sz [])=some (acc sz l',b,st):=by
 have:=appendS_acc sz bytes b st [] l' (by simpa using h);simpa using this
end PE

namespace PE.U
open Go PE
structure Tok where
 kind:Int
 text:List UInt8
 line:Int
 deriving DecidableEq
structure Expr where
 kind:Int
 op:Int
 n:Int
 name:List UInt8
 args:List Expr
structure Stmt where
 kind:Int
 type:Int
 name:List UInt8
 args:List Expr
 thn:List Stmt
 els:List Stmt
structure Par where
 name:List UInt8
 type:Int
structure Func where
 name:List UInt8
 type:Int
 params:List Par
 body:List Stmt
structure PArr where
 name:List UInt8
 size:Int
structure Prog where
 arrays:List PArr
 funcs:List Func
def zK(t:Tok):PV:= .agg [.int .i64 t.kind,.str t.text,.int .i64 t.line]
def toks(l:List Tok):PV:= .slice .plain 3 (l.map zK)
mutual
def zA:Expr->PV
 |⟨k,o,n,s,a⟩=> .agg [.int .i64 k,.int .i64 o,.int .i64 n,.str s,.slice .plain 5 (encEs a)]
def encEs:List Expr->List PV
 | []=>[]
 |x::r=>zA x::encEs r
end
theorem encEs_eq(l:List Expr):encEs l=l.map zA:=by
 induction l with
 |nil=>rfl
 |cons x r ih=>rw[encEs,ih];rfl
def zd(l:List Expr):PV:= .slice .plain 5 (l.map zA)
theorem za(x:Expr):zA x= .agg [.int .i64 x.kind,.int .i64 x.op,.int .i64 x.n,.str x.name,zd x.args]:=by
 cases x;simp[zA,encEs_eq,zd]
mutual
def zDa:Stmt->PV
 |⟨k,t,s,a,th,el⟩=> .agg [.int .i64 k,.int .i64 t,.str s,zd a,.slice .plain 6 (encSs th),.slice .plain 6 (encSs el)]
def encSs:List Stmt->List PV
 | []=>[]
 |x::r=>zDa x::encSs r
end
theorem encSs_eq(l:List Stmt):encSs l=l.map zDa:=by
 induction l with
 |nil=>rfl
 |cons x r ih=>rw[encSs,ih];rfl
def zl(l:List Stmt):PV:= .slice .plain 6 (l.map zDa)
theorem zb(x:Stmt):zDa x= .agg [.int .i64 x.kind,.int .i64 x.type,.str x.name,zd x.args,zl x.thn,zl x.els]:=by
 cases x;simp[zDa,encSs_eq,zl]
def encPar(p:Par):PV:= .agg [.str p.name,.int .i64 p.type]
def parsV(l:List Par):PV:= .slice .plain 2 (l.map encPar)
def zQ(f:Func):PV:= .agg [.str f.name,.int .i64 f.type,parsV f.params,zl f.body]
def funcs(l:List Func):PV:= .slice .plain 4 (l.map zQ)
def zxa(a:PArr):PV:= .agg [.str a.name,.int .i64 a.size]
def zHb(l:List PArr):PV:= .slice .plain 2 (l.map zxa)
def zua(p:Prog):PV:= .agg [zHb p.arrays,funcs p.funcs]
mutual
theorem flatE(k:Nat):∀x:Expr,zD k (zA x)=true
 |⟨_,_,_,_,a⟩=>by simp[zA,flatEs k a]
theorem flatEs(k:Nat):∀l:List Expr,zZ k (encEs l)=true
 | []=>rfl
 |x::r=>by simp[encEs,flatE k x,flatEs k r]
end
theorem flat_exprs(k:Nat)(l:List Expr):zD k (zd l)=true:=by
 have:=flatEs k l;rw[encEs_eq]at this;simpa[zd]using this
mutual
theorem flatS(k:Nat):∀x:Stmt,zD k (zDa x)=true
 |⟨_,_,_,a,th,el⟩=>by simp[zDa,flat_exprs,flatSs k th,flatSs k el]
theorem flatSs(k:Nat):∀l:List Stmt,zZ k (encSs l)=true
 | []=>rfl
 |x::r=>by simp[encSs,flatS k x,flatSs k r]
end
section
variable (k:Nat)
@[simp high] theorem pl_tok(l:List Tok):zZ k (l.map zK)=true:=ztc _ _ _ (fun x=>by simp[zK])
@[simp high] theorem pl_expr(l:List Expr):zZ k (l.map zA)=true:=ztc _ _ _ (flatE k)
@[simp high] theorem pl_stmt(l:List Stmt):zZ k (l.map zDa)=true:=ztc _ _ _ (flatS k)
@[simp high] theorem pl_par(l:List Par):zZ k (l.map encPar)=true:=ztc _ _ _ (fun x=>by simp[encPar])
@[simp high] theorem pl_parr(l:List PArr):zZ k (l.map zxa)=true:=ztc _ _ _ (fun x=>by simp[zxa])
@[simp] theorem fl_stmt(x:Stmt):zD k (zDa x)=true:=flatS k x
@[simp] theorem fl_stmts(l:List Stmt):zD k (zl l)=true:=by simp[zl]
@[simp] theorem fl_pars(l:List Par):zD k (parsV l)=true:=by simp[parsV]
@[simp] theorem fl_func(x:Func):zD k (zQ x)=true:=by simp[zQ]
@[simp high] theorem pl_func(l:List Func):zZ k (l.map zQ)=true:=ztc _ _ _ (fl_func k)
end
section
end
section
@[simp high] theorem canon1_exprs(l:List Expr):canon1 (zd l)=zd l:=yf rfl rfl
end
section
@[simp high] theorem isVar_stmts(l:List Stmt):zG (zl l)=true:=yf rfl rfl
@[simp high] theorem canon1_stmts(l:List Stmt):canon1 (zl l)=zl l:=yf rfl rfl
end
section
@[simp high] theorem canon1_parsV(l:List Par):canon1 (parsV l)=parsV l:=yf rfl rfl
end
section
end
section
end
mutual
def wtE:Expr->Nat
 |⟨_,_,_,s,a⟩=>1+s.length+wtEs a
def wtEs:List Expr->Nat
 | []=>0
 |x::r=>1+wtE x+wtEs r
end
mutual
def wtS:Stmt->Nat
 |⟨_,_,s,a,th,el⟩=>1+s.length+wtEs a+wtSs th+wtSs el
def wtSs:List Stmt->Nat
 | []=>0
 |x::r=>1+wtS x+wtSs r
end
theorem wtE_eq(x:Expr):wtE x=1+x.name.length+wtEs x.args:=by cases x;rfl
theorem wtS_eq(x:Stmt):wtS x=1+x.name.length+wtEs x.args+wtSs x.thn+wtSs x.els:=by cases x;rfl
theorem wtEs_append(a b:List Expr):wtEs (a++b)=wtEs a+wtEs b:=by
 induction a with
 |nil=>simp[wtEs]
 |cons x r ih=>simp[wtEs,ih];omega
theorem wtSs_append(a b:List Stmt):wtSs (a++b)=wtSs a+wtSs b:=by
 induction a with
 |nil=>simp[wtSs]
 |cons x r ih=>simp[wtSs,ih];omega
theorem len_wtEs(l:List Expr):l.length<=wtEs l:=by
 induction l with
 |nil=>simp
 |cons x r ih=>simp[wtEs];omega
theorem len_wtSs(l:List Stmt):l.length<=wtSs l:=by
 induction l with
 |nil=>simp
 |cons x r ih=>simp[wtSs];omega
theorem wtE_mem{x:Expr}{l:List Expr}(h:x∈l):wtE x+1<=wtEs l:=by
 induction l with
 |nil=>cases h
 |cons y r ih=>
  simp only[wtEs];rcases yia.1 h with rfl|h
  ·omega
  ·have:=ih h;omega
theorem wtS_mem{x:Stmt}{l:List Stmt}(h:x∈l):wtS x+1<=wtSs l:=by
 induction l with
 |nil=>cases h
 |cons y r ih=>
  simp only[wtSs];rcases yia.1 h with rfl|h
  ·omega
  ·have:=ih h;omega
structure Node where
 kind:Int
 op:Int
 n:Int
 name:List UInt8
 args:List Int
 outs:List Int
 params:List Int
 kids:List (List Node)
structure Flow where
 name:List UInt8
 type:Int
 params:Int
 types:List Int
 body:List Node
structure Arr where
 name:List UInt8
 size:Int
structure Unt where
 arrays:List Arr
 flows:List Flow
abbrev int(n:Int):PV:= .int .i64 n
def ints(l:List Int):PV:= .slice .plain 1 (l.map (PV.int .i64))
mutual
def encNode:Node->PV
 |⟨k,o,n,s,a,u,p,ks⟩=> .agg [.int .i64 k,.int .i64 o,.int .i64 n,.str s,ints a,ints u,ints p,.slice .plain 1 (encK ks)]
def encL:List Node->List PV
 | []=>[]
 |x::r=>encNode x::encL r
def encK:List (List Node)->List PV
 | []=>[]
 |l::r=> .slice .plain 8 (encL l)::encK r
end
def nodes(l:List Node):PV:= .slice .plain 8 (l.map encNode)
def kids(l:List (List Node)):PV:= .slice .plain 1 (l.map nodes)
def encFlow(f:Flow):PV:= .agg [.str f.name,.int .i64 f.type,.int .i64 f.params,ints f.types,nodes f.body]
def flows(l:List Flow):PV:= .slice .plain 5 (l.map encFlow)
section
variable (k:Nat)
end
section
variable (n:Nat)
end
section
end
end PE.U

namespace PE
open Go
@[simp] def cI(n:Int):Arg:= .c (.int .i64 n)
@[simp] def oM(a b:Nat):GOp:=⟨none,some a,.mv (.t b)⟩
@[simp] def oC(a:Nat)(v:PV):GOp:=⟨none,some a,.mv (.c v)⟩
@[simp] def oO(a:Nat)(x:IOp):GOp:=⟨none,some a,x⟩
@[simp] def oN(x:IOp):GOp:=⟨none,none,x⟩
@[simp] def oT(g a:Nat)(x:IOp):GOp:=⟨some (g,true),some a,x⟩
@[simp] def oF(g a:Nat)(x:IOp):GOp:=⟨some (g,false),some a,x⟩
@[simp] def oA(a off t:Nat):GOp:=⟨none,some a,.faddr off (.t t)⟩
@[simp] def oX(a t i:Nat):GOp:=⟨none,some a,.ext (.t t) i⟩
@[simp] def oL(a k t:Nat):GOp:=⟨none,some a,.load (.box k) false 1 (.t t)⟩
@[simp] def oLa(a k sz t:Nat):GOp:=⟨none,some a,.load (.box k) true sz (.t t)⟩
@[simp] def oG(a t:Nat):GOp:=⟨none,some a,.load .any false 1 (.t t)⟩
@[simp] def oS(k sz t v:Nat):GOp:=⟨none,none,.store (.box k) sz (.t t) (.t v)⟩
@[simp] def oB(a:Nat)(op:BinOp)(x y:Arg):GOp:=⟨none,some a,.bin 0 [] op x y⟩
@[simp] def bF:PV:= .bool false
@[simp] def bT:PV:= .bool true
@[simp] def sr(o:List GOp)(r:ICode):ICode:= .seq (.region o) r
@[simp] def cP(a f:Nat)(l:List Arg):GOp:=⟨none,some a,.callP false (.c (.fn f [] [])) l⟩
@[simp] def cF(a f:Nat)(l:List Arg):GOp:=⟨none,some a,.call false (.c (.fn f [] [])) l⟩
@[simp] def oK(a t:Nat):GOp:=⟨none,some a,.nilck (.t t)⟩
@[simp] def oI(a z t i:Nat):GOp:=⟨none,some a,.iaddr z (.t t) (.t i)⟩
@[simp] def oE(a t:Nat):GOp:=⟨none,some a,.take t⟩
@[simp] def oZ(a:Nat)(n:Int):GOp:=⟨none,some a,.mv (.c (.int .i64 n))⟩
@[simp] def oY(a t:Nat):GOp:=⟨none,some a,.len 1 (.t t)⟩
@[simp] def oW(a z t:Nat):GOp:=⟨none,some a,.load .any true z (.t t)⟩
@[simp] def oH(a t:Nat):GOp:=⟨none,some a,.load .imm false 1 (.t t)⟩
@[simp] def oU(a t:Nat):GOp:=⟨none,some a,.un .not (.t t)⟩
@[simp] def oV(t v:Nat):GOp:=⟨none,none,.store .any 1 (.t t) (.t v)⟩
@[simp] def oP(a:Nat)(op:BinOp)(x y:Nat):GOp:=⟨none,some a,.bin 0 [] op (.t x) (.t y)⟩
@[simp] def oD(a:Nat)(op:BinOp)(x:Nat)(y:Int):GOp:=⟨none,some a,.bin 0 [] op (.t x) (.c (.int .i64 y))⟩
@[simp] def oTm(g a t:Nat):GOp:=⟨some (g,true),some a,.mv (.t t)⟩
@[simp] def oFm(g a t:Nat):GOp:=⟨some (g,false),some a,.mv (.t t)⟩
@[simp] def pP(n:Nat)(l:List Arg):IOp:= .callP false (.c (.fn n [] [])) l
@[simp] def pF(n:Nat)(l:List Arg):IOp:= .call false (.c (.fn n [] [])) l
end PE

set_option maxRecDepth 100000
namespace PE.U
open Go PE Go.Proofs
def L27_0:ICode:= .loop [0] []
 (.seq
 (sr [
 oM 5 0,
 oK 6 5,
 oA 7 0 6,
 oG 8 7,
 oB 9 .neq (.t 8) (.c (.str []))]
 (.cond (.t 9)
 .skip
 (.exit 0)))
 (.block 1
 (.block 2
 (sr [
 oM 11 0,
 oK 12 11,
 oA 13 0 12,
 oG 14 13,
 cP 15 48 [(.t 14),(.c (.str [47,47]))],
 oM 10 15]
 (.cond (.t 10)
 (sr [
 oM 17 0,
 oK 18 17,
 oA 19 0 18,
 oG 20 19,
 cP 21 49 [(.t 20),(.c (.str [10]))],
 oM 16 21,
 oX 22 16 0,
 oX 23 16 1,
 oX 24 16 2,
 oM 2 22,
 oM 3 23,
 oM 4 24]
 (.region [
 oM 25 0,
 oM 26 0,
 oK 27 26,
 oA 28 0 27,
 oG 29 28,
 oM 30 2,
 oO 31 (.len 0 (.t 30)),
 oO 32 (.slc true 0 (.t 29) (some (.t 31)) none none),
 oK 33 25,
 oA 34 0 33,
 oV 34 32]))
 (sr [
 oM 36 0,
 oK 37 36,
 oA 38 0 37,
 oG 39 38,
 oO 40 (.idxS (.t 39) (cI 0)),
 oB 41 .eql (.t 40) (.c (.int .u8 10)),
 oM 35 41]
 (.cond (.t 35)
 (sr [
 oM 42 0,
 oK 43 42,
 oA 44 1 43,
 oG 45 44,
 oD 46 .add 45 1,
 oK 47 42,
 oA 48 1 47,
 oV 48 46]
 (.region [
 oM 49 0,
 oM 50 0,
 oK 51 50,
 oA 52 0 51,
 oG 53 52,
 oO 54 (.slc true 0 (.t 53) (some (cI 1)) none none),
 oK 55 49,
 oA 56 0 55,
 oV 56 54]))
 (sr [
 oM 58 0,
 oK 59 58,
 oA 60 0 59,
 oG 61 60,
 oO 62 (.idxS (.t 61) (cI 0)),
 cP 63 50 [(.c (.str [32,9,13])),(.t 62)],
 oD 64 .geq 63 0,
 oM 57 64]
 (.cond (.t 57)
 (.region [
 oM 65 0,
 oM 66 0,
 oK 67 66,
 oA 68 0 67,
 oG 69 68,
 oO 70 (.slc true 0 (.t 69) (some (cI 1)) none none),
 oK 71 65,
 oA 72 0 71,
 oV 72 70])
 .ret)))))))))
abbrev K27_0:List Nat:=[0]
abbrev B27_0:List Nat:=[]
def F27:IFn:=⟨73,1,[],false,false,none,(.block 0 L27_0)⟩
theorem ok27:zh Tryz.prog Tryz.f27 F27=true:=by kernel_rfl
def F54:IFn:=⟨21,1,[.tmp 2],false,false,none,(sr [oC 2 bF] (sr [oM 3 0,oB 4 .geq (.t 3) (.c (.int .i32 97)),oM 5 4,oTm 5 6 0,oT 5 7 (.bin 0 [] .leq (.t 6) (.c (.int .i32 122))),oO 8 (.pick (.t 5) (.t 7) (.c bF)),oM 9 8,oFm 9 10 0,oF 9 11 (.bin 0 [] .geq (.t 10) (.c (.int .i32 65))),oFm 9 12 11,oTm 12 13 0,oT 12 14 (.bin 0 [] .leq (.t 13) (.c (.int .i32 90))),oF 9 15 (.pick (.t 12) (.t 14) (.c bF)),oO 16 (.pick (.t 9) (.c bT) (.t 15)),oM 17 16,oFm 17 18 0,oF 17 19 (.bin 0 [] .eql (.t 18) (.c (.int .i32 95))),oO 20 (.pick (.t 17) (.c bT) (.t 19)),oM 2 20] .ret))⟩
theorem ok54:zh Tryz.prog Tryz.f54 F54=true:=by kernel_rfl
def F88:IFn:=⟨9,1,[.tmp 2],false,false,none,(sr [oC 2 bF] (sr [oM 3 0,oB 4 .geq (.t 3) (.c (.int .i32 48)),oM 5 4,oTm 5 6 0,oT 5 7 (.bin 0 [] .leq (.t 6) (.c (.int .i32 57))),oO 8 (.pick (.t 5) (.t 7) (.c bF)),oM 2 8] .ret))⟩
theorem ok88:zh Tryz.prog Tryz.f88 F88=true:=by kernel_rfl
def L51_0:ICode:= .loop [0,6] []
 (sr [
 oO 7 (.next 6 (.t 6)),
 oX 8 7 0]
 (.seq
 (.cond (.t 8)
 .skip
 (.exit 0))
 (.block 1
 (sr [
 oX 9 7 1,
 oX 10 7 2,
 oM 3 9,
 oM 4 10]
 (sr [
 oM 11 4,
 cP 12 54 [.t 11],
 oU 13 12,
 oM 14 13,
 oTm 14 15 4,
 oT 14 16 (pP 88 [.t 15]),
 oT 14 17 (.un .not (.t 16)),
 oO 18 (.pick (.t 14) (.t 17) (.c bF))]
 (.cond (.t 18)
 (sr [
 oM 19 0,
 oM 20 3,
 oO 21 (.slc true 0 (.t 19) none (some (.t 20)) none),
 oM 2 21]
 .ret)
 .skip))))))
abbrev K51_0:List Nat:=[0,6]
abbrev B51_0:List Nat:=[]
def F51:IFn:=⟨23,1,[.tmp 2],false,false,none,(sr [oC 2 (.str [])] (.seq (sr [oM 5 0,oO 6 (.rng 6 (.t 5))] (.block 0 L51_0)) (sr [oM 22 0,oM 2 22] .ret)))⟩
theorem ok51:zh Tryz.prog Tryz.f51 F51=true:=by kernel_rfl
def F53:IFn:=⟨23,1,[.tmp 2],false,false,none,(sr [oC 2 bF] (.seq (sr [oM 3 0] (.block 0 (.seq (sr [oB 5 .eql (.t 3) (.c (.str [105,110,116])),oM 4 5] (.cond (.t 4) .skip (sr [oB 6 .eql (.t 3) (.c (.str [98,111,111,108])),oM 4 6] (.cond (.t 4) .skip (sr [oB 7 .eql (.t 3) (.c (.str [105,102])),oM 4 7] (.cond (.t 4) .skip (sr [oB 8 .eql (.t 3) (.c (.str [101,108,115,101])),oM 4 8] (.cond (.t 4) .skip (sr [oB 9 .eql (.t 3) (.c (.str [119,104,105,108,101])),oM 4 9] (.cond (.t 4) .skip (sr [oB 10 .eql (.t 3) (.c (.str [98,114,101,97,107])),oM 4 10] (.cond (.t 4) .skip (sr [oB 11 .eql (.t 3) (.c (.str [99,111,110,116,105,110,117,101])),oM 4 11] (.cond (.t 4) .skip (sr [oB 12 .eql (.t 3) (.c (.str [114,101,116,117,114,110])),oM 4 12] (.cond (.t 4) .skip (sr [oB 13 .eql (.t 3) (.c (.str [112,114,105,110,116])),oM 4 13] (.cond (.t 4) .skip (sr [oB 14 .eql (.t 3) (.c (.str [114,101,97,100])),oM 4 14] (.cond (.t 4) .skip (sr [oB 15 .eql (.t 3) (.c (.str [116,114,117,101])),oM 4 15] (.cond (.t 4) .skip (sr [oB 16 .eql (.t 3) (.c (.str [102,97,108,115,101])),oM 4 16] (.cond (.t 4) .skip (sr [oB 17 .eql (.t 3) (.c (.str [105,56])),oM 4 17] (.cond (.t 4) .skip (sr [oB 18 .eql (.t 3) (.c (.str [105,49,54])),oM 4 18] (.cond (.t 4) .skip (sr [oB 19 .eql (.t 3) (.c (.str [105,51,50])),oM 4 19] (.cond (.t 4) .skip (sr [oB 20 .eql (.t 3) (.c (.str [117,56])),oM 4 20] (.cond (.t 4) .skip (sr [oB 21 .eql (.t 3) (.c (.str [117,49,54])),oM 4 21] (.cond (.t 4) .skip (.region [oB 22 .eql (.t 3) (.c (.str [117,51,50])),oM 4 22]))))))))))))))))))))))))))))))))))) (.cond (.t 4) (sr [oC 2 bT] .ret) .skip)))) (sr [oC 2 bF] .ret)))⟩
theorem ok53:zh Tryz.prog Tryz.f53 F53=true:=by kernel_rfl
def F36:IFn:=⟨27,1,[.tmp 2],false,false,none,(sr [oC 2 bF] (sr [oM 3 0,oB 4 .neq (.t 3) (.c (.str [])),oM 5 4,oTm 5 6 0,oT 5 7 (.idxS (.t 6) (cI 0)),oT 5 8 (.conv .i32 (.t 7)),oT 5 9 (pP 54 [.t 8]),oO 10 (.pick (.t 5) (.t 9) (.c bF)),oM 11 10,oTm 11 12 0,oT 11 13 (pP 51 [.t 12]),oTm 11 14 0,oT 11 15 (.bin 0 [] .eql (.t 13) (.t 14)),oO 16 (.pick (.t 11) (.t 15) (.c bF)),oM 17 16,oTm 17 18 0,oT 17 19 (.len 0 (.t 18)),oT 17 20 (.bin 0 [] .leq (.t 19) (cI 20)),oO 21 (.pick (.t 17) (.t 20) (.c bF)),oM 22 21,oTm 22 23 0,oT 22 24 (pP 53 [.t 23]),oT 22 25 (.un .not (.t 24)),oO 26 (.pick (.t 22) (.t 25) (.c bF)),oM 2 26] .ret))⟩
theorem ok36:zh Tryz.prog Tryz.f36 F36=true:=by kernel_rfl
def F52:IFn:=⟨34,1,[.tmp 2],false,false,none,(sr [oC 2 (.str [])] (.seq (.block 0 (sr [oM 4 0,cP 5 48 [(.t 4),(.c (.str [62,62,62]))],oM 3 5] (.cond (.t 3) (sr [oC 2 (.str [62,62,62])] .ret) (sr [oM 7 0,oO 8 (.len 0 (.t 7)),oD 9 .gtr 8 1,oM 10 9,oTm 10 11 0,oT 10 12 (.idxS (.t 11) (cI 0)),oT 10 13 (.bin 0 [] .neq (.t 12) (.c (.int .u8 32))),oO 14 (.pick (.t 10) (.t 13) (.c bF)),oM 15 14,oTm 15 16 0,oT 15 17 (.idxS (.t 16) (cI 1)),oT 15 18 (.bin 0 [] .neq (.t 17) (.c (.int .u8 32))),oO 19 (.pick (.t 15) (.t 18) (.c bF)),oM 20 19,oTm 20 21 0,oT 20 22 (.slc true 0 (.t 21) none (some (cI 2)) none),oT 20 23 (pP 89 [(.c (.str [60,60,32,62,62,32,60,61,32,62,61,32,61,61,32,33,61,32,38,38,32,124,124])),(.t 22)]),oO 24 (.pick (.t 20) (.t 23) (.c bF)),oM 6 24] (.cond (.t 6) (sr [oM 25 0,oO 26 (.slc true 0 (.t 25) none (some (cI 2)) none),oM 2 26] .ret) (sr [oM 28 0,oO 29 (.idxS (.t 28) (cI 0)),cP 30 50 [(.c (.str [40,41,123,125,91,93,44,59,61,60,62,43,45,42,47,37,38,124,94,126,33])),(.t 29)],oD 31 .geq 30 0,oM 27 31] (.cond (.t 27) (sr [oM 32 0,oO 33 (.slc true 0 (.t 32) none (some (cI 1)) none),oM 2 33] .ret) .skip))))))) (sr [oC 2 (.str [])] .ret)))⟩
theorem ok52:zh Tryz.prog Tryz.f52 F52=true:=by kernel_rfl
def F55:IFn:=⟨18,1,[.tmp 2],false,false,none,(sr [oC 2 bF] (sr [oM 6 0,cP 7 58 [.t 6],oM 5 7,oX 8 5 0,oX 9 5 1,oM 3 8,oM 4 9] (sr [oM 10 4,oO 11 (.ifnil false (.t 10)),oM 12 11,oTm 12 13 3,oT 12 14 (pP 90 [.t 13]),oTm 12 15 0,oT 12 16 (.bin 0 [] .eql (.t 14) (.t 15)),oO 17 (.pick (.t 12) (.t 16) (.c bF)),oM 2 17] .ret)))⟩
theorem ok55:zh Tryz.prog Tryz.f55 F55=true:=by kernel_rfl
def F28:IFn:=⟨71,1,[.cell 2 true 3,.tmp 3],false,false,none,(sr [oO 2 (.boxL 2 (.c (.agg [.int .i64 0,.str [],.int .i64 0]))),oC 3 bF] (sr [oM 4 0,oK 5 4,oA 6 1 5,oG 7 6,oA 8 2 2,oS 2 1 8 7] (sr [oM 9 0,oK 10 9,oA 11 0 10,oG 12 11,cP 13 51 [.t 12],oA 14 1 2,oS 2 1 14 13] (.seq (.block 0 (sr [oM 20 0,oK 21 20,oA 22 0 21,oG 23 22,oB 24 .eql (.t 23) (.c (.str [])),oM 19 24] (.cond (.t 19) (sr [oA 25 0 2,oN (.store (.box 2) 1 (.t 25) (cI 3))] (sr [oLa 26 2 3 2,oS 2 3 2 26,oC 3 bT] .ret)) (sr [oA 28 1 2,oL 29 2 28,oB 30 .eql (.t 29) (.c (.str [])),oM 27 30] (.cond (.t 27) (sr [oM 31 0,oK 32 31,oA 33 0 32,oG 34 33,cP 35 52 [.t 34],oA 36 0 2,oN (.store (.box 2) 1 (.t 36) (cI 2)),oA 37 1 2,oS 2 1 37 35] (.region [oA 38 1 2,oL 39 2 38,oB 40 .neq (.t 39) (.c (.str [])),oM 3 40])) (sr [oA 42 1 2,oL 43 2 42,cP 44 53 [.t 43],oM 41 44] (.cond (.t 41) (.region [oA 45 0 2,oN (.store (.box 2) 1 (.t 45) (cI 2)),oC 3 bT]) (sr [oM 47 0,oK 48 47,oA 49 0 48,oG 50 49,oO 51 (.idxS (.t 50) (cI 0)),oO 52 (.conv .i32 (.t 51)),cP 53 54 [.t 52],oM 46 53] (.cond (.t 46) (.region [oA 54 1 2,oL 55 2 54,cP 56 36 [.t 55],oA 57 0 2,oN (.store (.box 2) 1 (.t 57) (cI 1)),oM 3 56]) (.region [oA 15 1 2,oL 16 2 15,cP 17 55 [.t 16],oA 18 0 2,oN (.store (.box 2) 1 (.t 18) (cI 0)),oM 3 17])))))))))) (sr [oM 58 0,oM 59 0,oK 60 59,oA 61 0 60,oG 62 61,oA 63 1 2,oL 64 2 63,oO 65 (.len 0 (.t 64)),oO 66 (.slc true 0 (.t 62) (some (.t 65)) none none),oK 67 58,oA 68 0 67,oV 68 66] (sr [oLa 69 2 3 2,oM 70 3,oS 2 3 2 69,oM 3 70] .ret))))))⟩
theorem ok28:zh Tryz.prog Tryz.f28 F28=true:=by kernel_rfl
def L17_0:ICode:= .loop [2,5] [6]
 (.block 1
 (sr [
 oM 14 5,
 cF 15 27 [.t 14]]
 (sr [
 oM 17 5,
 cF 18 28 [.t 17],
 oM 16 18,
 oX 19 16 0,
 oX 20 16 1,
 oO 6 (.boxL 6 (.c (.agg [.int .i64 0,.str [],.int .i64 0]))),
 oS 6 3 6 19,
 oM 7 20]
 (.seq
 (sr [
 oM 21 7,
 oU 22 21]
 (.cond (.t 22)
 (sr [
 oA 23 2 6,
 oL 24 6 23,
 oC 2 (.slice .fit 3 []),
 oZ 3 20,
 oM 4 24]
 .ret)
 .skip))
 (sr [
 oE 25 2,
 oLa 26 6 3 6,
 oO 27 (.bslice 3 (.agg [.int .i64 0,.str [],.int .i64 0]) 1 [(0,(.t 26))]),
 oO 28 (.append 3 32 (.t 25) (.t 27)),
 oE 2 28]
 (sr [
 oA 29 0 6,
 oL 30 6 29,
 oD 31 .eql 30 3]
 (.cond (.t 31)
 (sr [
 oE 32 2,
 oE 2 32,
 oZ 3 0,
 oZ 4 0]
 .ret)
 .skip)))))))
abbrev K17_0:List Nat:=[5]
abbrev B17_0:List Nat:=[]
def F17:IFn:=⟨33,1,[.tmp 2,.tmp 3,.tmp 4],true,false,none,(sr [oC 2 (.slice .fit 3 []),oZ 3 0,oZ 4 0] (.seq (sr [oM 8 0,oO 9 (.len 0 (.t 8)),oD 10 .gtr 9 100000] (.cond (.t 10) (sr [oC 2 (.slice .fit 3 []),oZ 3 2,oZ 4 0] .ret) .skip)) (sr [oM 11 0,oO 12 (.build [.str [],.int .i64 0] [(0,1,(.t 11)),(1,1,(cI 1))]),oO 13 (.boxS 2 (.t 12)),oM 5 13] (.block 0 L17_0))))⟩
theorem ok17:zh Tryz.prog Tryz.f17 F17=true:=by kernel_rfl
def F57:IFn:=⟨24,2,[.tmp 4],false,false,none,(sr [oC 4 bF] (sr [oM 5 0,oK 6 5,oA 7 0 6,oG 8 7,oO 9 (.iaddr 3 (.t 8) (cI 0)),oA 10 0 9,oG 11 10,oD 12 .eql 11 2,oM 13 12,oTm 13 14 0,oT 13 15 (.nilck (.t 14)),oT 13 16 (.faddr 0 (.t 15)),oT 13 17 (.load .any false 1 (.t 16)),oT 13 18 (.iaddr 3 (.t 17) (cI 0)),oT 13 19 (.faddr 1 (.t 18)),oT 13 20 (.load .any false 1 (.t 19)),oTm 13 21 1,oT 13 22 (.bin 0 [] .eql (.t 20) (.t 21)),oO 23 (.pick (.t 13) (.t 22) (.c bF)),oM 4 23] .ret))⟩
theorem ok57:zh Tryz.prog Tryz.f57 F57=true:=by kernel_rfl
def F31:IFn:=⟨19,2,[.tmp 4],false,false,none,(sr [oC 4 bF] (sr [oM 6 0,oM 7 1,cF 8 57 [.t 6,.t 7],oM 5 8] (.seq (sr [oM 9 5] (.cond (.t 9) (.region [oM 10 0,oM 11 0,oK 12 11,oA 13 0 12,oG 14 13,oO 15 (.slc false 3 (.t 14) (some (cI 1)) none none),oK 16 10,oA 17 0 16,oV 17 15]) .skip)) (sr [oM 18 5,oM 4 18] .ret))))⟩
theorem ok31:zh Tryz.prog Tryz.f31 F31=true:=by kernel_rfl
def F56:IFn:=⟨14,2,[],false,false,none,(.region [oM 4 1,oM 5 0,oK 6 5,oA 7 0 6,oG 8 7,oO 9 (.iaddr 3 (.t 8) (cI 0)),oA 10 2 9,oG 11 10,oO 12 (.build [.int .i64 0,.int .i64 0] [(0,1,(.t 4)),(1,1,(.t 11))]),oO 13 (.mkif 51 (.t 12)),oN (.panic (.t 13))])⟩
theorem ok56:zh Tryz.prog Tryz.f56 F56=true:=by kernel_rfl
def L33_0:ICode:= .loop [0,6,7,8] []
 (sr [
 oP 9 .lss 8 7]
 (.seq
 (.cond (.t 9)
 .skip
 (.exit 0))
 (.seq
 (.block 1
 (sr [
 oI 10 1 6 8,
 oG 11 10,
 oM 5 11]
 (sr [
 oM 12 0,
 oM 13 5,
 cF 14 31 [.t 12,.t 13],
 oU 15 14]
 (.cond (.t 15)
 (.region [
 oM 16 0,
 oO 17 (.call true (.c (.fn 56 [] [])) [.t 16,cI 20])])
 .skip))))
 (.region [
 oD 18 .add 8 1,
 oM 8 18]))))
abbrev K33_0:List Nat:=[0,6,7]
abbrev B33_0:List Nat:=[]
def F33:IFn:=⟨19,2,[],false,false,none,(sr [oE 6 1,oY 7 6,oZ 8 0] (.block 0 L33_0))⟩
theorem ok33:zh Tryz.prog Tryz.f33 F33=true:=by kernel_rfl
def F29:IFn:=⟨8,1,[.tmp 2],false,false,none,(sr [oZ 2 0] (.seq (sr [oM 3 0,cF 4 31 [(.t 3),(.c (.str [105,110,116]))]] (.cond (.t 4) (sr [oZ 2 1] .ret) .skip)) (sr [oM 5 0,oO 6 (.bslice 1 (.str []) 1 [(0,(.c (.str [98,111,111,108])))]),oO 7 (.call true (.c (.fn 33 [] [])) [.t 5,.t 6])] (sr [oZ 2 2] .ret))))⟩
theorem ok29:zh Tryz.prog Tryz.f29 F29=true:=by kernel_rfl
def F30:IFn:=⟨28,2,[.tmp 4],false,false,none,(sr [oC 4 (.str [])] (sr [oM 6 0,oK 7 6,oA 8 0 7,oG 9 8,oO 10 (.iaddr 3 (.t 9) (cI 0)),oW 11 3 10,oO 5 (.boxL 5 (.c (.agg [.int .i64 0,.str [],.int .i64 0]))),oS 5 3 5 11] (.seq (sr [oA 12 0 5,oL 13 5 12,oM 14 1,oP 15 .neq 13 14] (.cond (.t 15) (.region [oM 16 0,oO 17 (.call true (.c (.fn 56 [] [])) [.t 16,cI 20])]) .skip)) (sr [oM 18 0,oM 19 0,oK 20 19,oA 21 0 20,oG 22 21,oO 23 (.slc false 3 (.t 22) (some (cI 1)) none none),oK 24 18,oA 25 0 24,oV 25 23] (sr [oA 26 1 5,oL 27 5 26,oM 4 27] .ret)))))⟩
theorem ok30:zh Tryz.prog Tryz.f30 F30=true:=by kernel_rfl
def F32:IFn:=⟨12,1,[.tmp 2],false,false,none,(sr [oZ 2 0] (sr [oM 6 0,oO 7 (.call true (.c (.fn 30 [] [])) [.t 6,cI 0]),cP 8 58 [.t 7],oM 5 8,oX 9 5 0,oX 10 5 1,oM 3 9,oM 4 10] (sr [oM 11 3,oM 2 11] .ret)))⟩
theorem ok32:zh Tryz.prog Tryz.f32 F32=true:=by kernel_rfl
def L59_0:ICode:= .loop [0,1,4] []
 (.block 1
 (sr [
 oE 7 4,
 oM 8 1,
 oO 9 (.call true (.t 8) []),
 oO 10 (.bslice 2 (.agg [.str [],.int .i64 0]) 1 [(0,(.t 9))]),
 oO 11 (.append 2 24 (.t 7) (.t 10)),
 oE 4 11]
 (sr [
 oM 12 0,
 cF 13 31 [(.t 12),(.c (.str [44]))],
 oU 14 13]
 (.cond (.t 14)
 (sr [
 oM 15 0,
 oO 16 (.bslice 1 (.str []) 1 [(0,(.c (.str [41])))]),
 oO 17 (.call true (.c (.fn 33 [] [])) [.t 15,.t 16])]
 (sr [
 oE 18 4,
 oE 4 18]
 .ret))
 .skip))))
abbrev K59_0:List Nat:=[0,1]
abbrev B59_0:List Nat:=[]
def F59:IFn:=⟨19,2,[.tmp 4],false,false,none,(sr [oC 4 (.slice .fit 2 [])] (.seq (sr [oM 5 0,cF 6 31 [(.t 5),(.c (.str [41]))]] (.cond (.t 6) (sr [oC 4 (.slice .fit 2 [])] .ret) .skip)) (.block 0 L59_0)))⟩
theorem ok59:zh Tryz.prog Tryz.f59 F59=true:=by kernel_rfl
def F60:IFn:=⟨9,1,[.cell 1 true 2],false,false,none,(sr [oO 1 (.boxL 1 (.c (.agg [.str [],.int .i64 0])))] (sr [oG 3 0,oO 4 (.call true (.c (.fn 29 [] [])) [.t 3]),oM 2 4] (sr [oG 5 0,oO 6 (.call true (.c (.fn 30 [] [])) [.t 5,cI 1]),oM 7 2,oO 8 (.build [.str [],.int .i64 0] [(0,1,(.t 6)),(1,1,(.t 7))]),oS 1 2 1 8] .ret)))⟩
theorem ok60:zh Tryz.prog Tryz.f60 F60=true:=by kernel_rfl
def F111:IFn:=⟨8,2,[],false,false,none,(sr [oM 4 1,oD 5 .gtr 4 100] (.cond (.t 5) (.region [oM 6 0,oO 7 (.call true (.c (.fn 56 [] [])) [.t 6,cI 2])]) .skip))⟩
theorem ok111:zh Tryz.prog Tryz.f111 F111=true:=by kernel_rfl
def F159:IFn:=⟨43,1,[.cell 2 true 2],false,false,none,(sr [oO 2 (.boxL 2 (.c (.agg [.str [],.int .i64 0])))] (sr [oO 4 (.build [.str [],.int .i64 0] [(0,1,(.c (.str [43]))),(1,1,(cI 9))]),oO 5 (.build [.str [],.int .i64 0] [(0,1,(.c (.str [45]))),(1,1,(cI 9))]),oO 6 (.build [.str [],.int .i64 0] [(0,1,(.c (.str [42]))),(1,1,(cI 10))]),oO 7 (.build [.str [],.int .i64 0] [(0,1,(.c (.str [47]))),(1,1,(cI 10))]),oO 8 (.build [.str [],.int .i64 0] [(0,1,(.c (.str [37]))),(1,1,(cI 10))]),oO 9 (.build [.str [],.int .i64 0] [(0,1,(.c (.str [38]))),(1,1,(cI 5))]),oO 10 (.build [.str [],.int .i64 0] [(0,1,(.c (.str [124]))),(1,1,(cI 3))]),oO 11 (.build [.str [],.int .i64 0] [(0,1,(.c (.str [94]))),(1,1,(cI 4))]),oO 12 (.build [.str [],.int .i64 0] [(0,1,(.c (.str [60,60]))),(1,1,(cI 8))]),oO 13 (.build [.str [],.int .i64 0] [(0,1,(.c (.str [62,62]))),(1,1,(cI 8))]),oO 14 (.build [.str [],.int .i64 0] [(0,1,(.c (.str [62,62,62]))),(1,1,(cI 8))]),oO 15 (.build [.str [],.int .i64 0] [(0,1,(.c (.str [60]))),(1,1,(cI 7))]),oO 16 (.build [.str [],.int .i64 0] [(0,1,(.c (.str [60,61]))),(1,1,(cI 7))]),oO 17 (.build [.str [],.int .i64 0] [(0,1,(.c (.str [62]))),(1,1,(cI 7))]),oO 18 (.build [.str [],.int .i64 0] [(0,1,(.c (.str [62,61]))),(1,1,(cI 7))]),oO 19 (.build [.str [],.int .i64 0] [(0,1,(.c (.str [61,61]))),(1,1,(cI 6))]),oO 20 (.build [.str [],.int .i64 0] [(0,1,(.c (.str [33,61]))),(1,1,(cI 6))]),oO 21 (.build [.str [],.int .i64 0] [(0,1,(.c (.str [38,38]))),(1,1,(cI 2))]),oO 22 (.build [.str [],.int .i64 0] [(0,1,(.c (.str [124,124]))),(1,1,(cI 1))]),oO 23 (.build [.str [],.int .i64 0] [(0,1,(.c (.str [45]))),(1,1,(cI 0))]),oO 24 (.build [.str [],.int .i64 0] [(0,1,(.c (.str [126]))),(1,1,(cI 0))]),oO 25 (.build [.str [],.int .i64 0] [(0,1,(.c (.str [33]))),(1,1,(cI 0))]),oO 26 (.build [.str [],.int .i64 0] [(0,1,(.c (.str [105,56]))),(1,1,(cI 0))]),oO 27 (.build [.str [],.int .i64 0] [(0,1,(.c (.str [105,49,54]))),(1,1,(cI 0))]),oO 28 (.build [.str [],.int .i64 0] [(0,1,(.c (.str [105,51,50]))),(1,1,(cI 0))]),oO 29 (.build [.str [],.int .i64 0] [(0,1,(.c (.str [117,56]))),(1,1,(cI 0))]),oO 30 (.build [.str [],.int .i64 0] [(0,1,(.c (.str [117,49,54]))),(1,1,(cI 0))]),oO 31 (.build [.str [],.int .i64 0] [(0,1,(.c (.str [117,51,50]))),(1,1,(cI 0))]),oO 32 (.build [.str [],.int .i64 0,.str [],.int .i64 0,.str [],.int .i64 0,.str [],.int .i64 0,.str [],.int .i64 0,.str [],.int .i64 0,.str [],.int .i64 0,.str [],.int .i64 0,.str [],.int .i64 0,.str [],.int .i64 0,.str [],.int .i64 0,.str [],.int .i64 0,.str [],.int .i64 0,.str [],.int .i64 0,.str [],.int .i64 0,.str [],.int .i64 0,.str [],.int .i64 0,.str [],.int .i64 0,.str [],.int .i64 0,.str [],.int .i64 0,.str [],.int .i64 0,.str [],.int .i64 0,.str [],.int .i64 0,.str [],.int .i64 0,.str [],.int .i64 0,.str [],.int .i64 0,.str [],.int .i64 0,.str [],.int .i64 0,.str [],.int .i64 0] [(2,2,(.t 4)),(4,2,(.t 5)),(6,2,(.t 6)),(8,2,(.t 7)),(10,2,(.t 8)),(12,2,(.t 9)),(14,2,(.t 10)),(16,2,(.t 11)),(18,2,(.t 12)),(20,2,(.t 13)),(22,2,(.t 14)),(24,2,(.t 15)),(26,2,(.t 16)),(28,2,(.t 17)),(30,2,(.t 18)),(32,2,(.t 19)),(34,2,(.t 20)),(36,2,(.t 21)),(38,2,(.t 22)),(40,2,(.t 23)),(42,2,(.t 24)),(44,2,(.t 25)),(46,2,(.t 26)),(48,2,(.t 27)),(50,2,(.t 28)),(52,2,(.t 29)),(54,2,(.t 30)),(56,2,(.t 31))]),oO 3 (.boxL 3 (.c (.agg [.str [],.int .i64 0,.str [],.int .i64 0,.str [],.int .i64 0,.str [],.int .i64 0,.str [],.int .i64 0,.str [],.int .i64 0,.str [],.int .i64 0,.str [],.int .i64 0,.str [],.int .i64 0,.str [],.int .i64 0,.str [],.int .i64 0,.str [],.int .i64 0,.str [],.int .i64 0,.str [],.int .i64 0,.str [],.int .i64 0,.str [],.int .i64 0,.str [],.int .i64 0,.str [],.int .i64 0,.str [],.int .i64 0,.str [],.int .i64 0,.str [],.int .i64 0,.str [],.int .i64 0,.str [],.int .i64 0,.str [],.int .i64 0,.str [],.int .i64 0,.str [],.int .i64 0,.str [],.int .i64 0,.str [],.int .i64 0,.str [],.int .i64 0]))),oS 3 58 3 32] (.seq (sr [oM 33 0,oD 34 .lss 33 0,oM 35 34,oFm 35 36 0,oF 35 37 (.bin 0 [] .geq (.t 36) (cI 29)),oO 38 (.pick (.t 35) (.c bT) (.t 37))] (.cond (.t 38) (sr [oO 39 (.build [.str [],.int .i64 0] []),oS 2 2 2 39] .ret) .skip)) (sr [oM 40 0,oO 41 (.iaddrA 29 2 (.t 3) (.t 40)),oLa 42 3 2 41,oS 2 2 2 42] .ret))))⟩
theorem ok159:zh Tryz.prog Tryz.f159 F159=true:=by kernel_rfl
def F163:IFn:=⟨6,1,[.tmp 2],false,false,none,(sr [oC 2 (.str [])] (sr [oM 3 0,cP 4 159 [.t 3],oO 5 (.fld false 0 1 (.t 4)),oM 2 5] .ret))⟩
theorem ok163:zh Tryz.prog Tryz.f163 F163=true:=by kernel_rfl
def L145_0:ICode:= .loop [0,1,4] []
 (.block 1
 (sr [
 oE 7 4,
 oM 8 1,
 oO 9 (.call true (.t 8) []),
 oO 10 (.bslice 5 (.agg [.int .i64 0,.int .i64 0,.int .i64 0,.str [],.slice .fit 5 []]) 1 [(0,(.t 9))]),
 oO 11 (.append 5 64 (.t 7) (.t 10)),
 oE 4 11]
 (sr [
 oM 12 0,
 cF 13 31 [(.t 12),(.c (.str [44]))],
 oU 14 13]
 (.cond (.t 14)
 (sr [
 oM 15 0,
 oO 16 (.bslice 1 (.str []) 1 [(0,(.c (.str [41])))]),
 oO 17 (.call true (.c (.fn 33 [] [])) [.t 15,.t 16])]
 (sr [
 oE 18 4,
 oE 4 18]
 .ret))
 .skip))))
abbrev K145_0:List Nat:=[0,1]
abbrev B145_0:List Nat:=[]
def F145:IFn:=⟨19,2,[.tmp 4],false,false,none,(sr [oC 4 (.slice .fit 5 [])] (.seq (sr [oM 5 0,cF 6 31 [(.t 5),(.c (.str [41]))]] (.cond (.t 6) (sr [oC 4 (.slice .fit 5 [])] .ret) .skip)) (.block 0 L145_0)))⟩
theorem ok145:zh Tryz.prog Tryz.f145 F145=true:=by kernel_rfl
def F146:IFn:=⟨6,2,[.cell 2 true 5],false,false,none,(sr [oO 2 (.boxL 2 (.c (.agg [.int .i64 0,.int .i64 0,.int .i64 0,.str [],.slice .fit 5 []])))] (sr [oG 3 0,oG 4 1,oO 5 (.call true (.c (.fn 144 [] [])) [.t 3,cI 1,.t 4]),oS 2 5 2 5] .ret))⟩
theorem ok146:zh Tryz.prog Tryz.f146 F146=true:=by kernel_rfl
def F129:IFn:=⟨12,3,[.cell 6 true 5],false,false,none,(sr [oO 3 (.boxI (.t 0)),oO 5 (.boxI (.t 2)),oO 6 (.boxL 6 (.c (.agg [.int .i64 0,.int .i64 0,.int .i64 0,.str [],.slice .fit 5 []])))] (sr [oM 7 1,oG 8 3,oO 9 (.mkfn 146 [] [.t 3,.t 5]),oO 10 (.call true (.c (.fn 145 [] [])) [.t 8,.t 9]),oO 11 (.build [.int .i64 0,.int .i64 0,.int .i64 0,.str [],.slice .fit 5 []] [(0,1,(cI 7)),(3,1,(.t 7)),(4,1,(.t 10))]),oS 6 5 6 11] .ret))⟩
theorem ok129:zh Tryz.prog Tryz.f129 F129=true:=by kernel_rfl
def F130:IFn:=⟨13,2,[.cell 4 true 5],false,false,none,(sr [oO 4 (.boxL 4 (.c (.agg [.int .i64 0,.int .i64 0,.int .i64 0,.str [],.slice .fit 5 []])))] (sr [oM 6 0,oM 7 1,oO 8 (.call true (.c (.fn 144 [] [])) [.t 6,cI 1,.t 7]),oO 5 (.boxL 5 (.c (.agg [.int .i64 0,.int .i64 0,.int .i64 0,.str [],.slice .fit 5 []]))),oS 5 5 5 8] (sr [oM 9 0,oO 10 (.bslice 1 (.str []) 1 [(0,(.c (.str [93])))]),oO 11 (.call true (.c (.fn 33 [] [])) [.t 9,.t 10])] (sr [oLa 12 5 5 5,oS 4 5 4 12] .ret))))⟩
theorem ok130:zh Tryz.prog Tryz.f130 F130=true:=by kernel_rfl
def F165:IFn:=⟨28,2,[.cell 4 true 5],false,false,none,(sr [oO 4 (.boxL 4 (.c (.agg [.int .i64 0,.int .i64 0,.int .i64 0,.str [],.slice .fit 5 []])))] (sr [oM 6 0,oO 7 (.call true (.c (.fn 30 [] [])) [.t 6,cI 1]),oM 5 7] (.seq (.block 0 (sr [oM 9 0,cF 10 31 [(.t 9),(.c (.str [40]))],oM 8 10] (.cond (.t 8) (sr [oM 11 0,oM 12 5,oM 13 1,oD 14 .add 13 1,oO 15 (.call true (.c (.fn 129 [] [])) [.t 11,.t 12,.t 14]),oS 4 5 4 15] .ret) (sr [oM 17 0,cF 18 31 [(.t 17),(.c (.str [91]))],oM 16 18] (.cond (.t 16) (sr [oM 19 5,oM 20 0,oM 21 1,oD 22 .add 21 1,oO 23 (.call true (.c (.fn 130 [] [])) [.t 20,.t 22]),oO 24 (.bslice 5 (.agg [.int .i64 0,.int .i64 0,.int .i64 0,.str [],.slice .fit 5 []]) 1 [(0,(.t 23))]),oO 25 (.build [.int .i64 0,.int .i64 0,.int .i64 0,.str [],.slice .fit 5 []] [(0,1,(cI 6)),(3,1,(.t 19)),(4,1,(.t 24))]),oS 4 5 4 25] .ret) .skip))))) (sr [oM 26 5,oO 27 (.build [.int .i64 0,.int .i64 0,.int .i64 0,.str [],.slice .fit 5 []] [(0,1,(cI 3)),(3,1,(.t 26))]),oS 4 5 4 27] .ret))))⟩
theorem ok165:zh Tryz.prog Tryz.f165 F165=true:=by kernel_rfl
def F164:IFn:=⟨47,2,[.cell 4 true 5],false,false,none,(sr [oO 4 (.boxL 4 (.c (.agg [.int .i64 0,.int .i64 0,.int .i64 0,.str [],.slice .fit 5 []])))] (.seq (.block 0 (sr [oM 7 0,cF 8 31 [(.t 7),(.c (.str [40]))],oM 6 8] (.cond (.t 6) (sr [oM 9 0,oM 10 1,oD 11 .add 10 1,oO 12 (.call true (.c (.fn 144 [] [])) [.t 9,cI 1,.t 11]),oO 5 (.boxL 5 (.c (.agg [.int .i64 0,.int .i64 0,.int .i64 0,.str [],.slice .fit 5 []]))),oS 5 5 5 12] (sr [oM 13 0,oO 14 (.bslice 1 (.str []) 1 [(0,(.c (.str [41])))]),oO 15 (.call true (.c (.fn 33 [] [])) [.t 13,.t 14])] (sr [oLa 16 5 5 5,oS 4 5 4 16] .ret))) (sr [oM 18 0,cF 19 31 [(.t 18),(.c (.str [114,101,97,100]))],oM 17 19] (.cond (.t 17) (sr [oM 20 0,oO 21 (.bslice 1 (.str []) 2 [(0,(.c (.str [40]))),(1,(.c (.str [41])))]),oO 22 (.call true (.c (.fn 33 [] [])) [.t 20,.t 21])] (sr [oO 23 (.build [.int .i64 0,.int .i64 0,.int .i64 0,.str [],.slice .fit 5 []] [(0,1,(cI 8))]),oS 4 5 4 23] .ret)) (sr [oM 25 0,cF 26 31 [(.t 25),(.c (.str [116,114,117,101]))],oM 24 26] (.cond (.t 24) (sr [oO 27 (.build [.int .i64 0,.int .i64 0,.int .i64 0,.str [],.slice .fit 5 []] [(0,1,(cI 2)),(2,1,(cI 1))]),oS 4 5 4 27] .ret) (sr [oM 29 0,cF 30 31 [(.t 29),(.c (.str [102,97,108,115,101]))],oM 28 30] (.cond (.t 28) (sr [oO 31 (.build [.int .i64 0,.int .i64 0,.int .i64 0,.str [],.slice .fit 5 []] [(0,1,(cI 2))]),oS 4 5 4 31] .ret) (sr [oM 33 0,oK 34 33,oA 35 0 34,oG 36 35,oO 37 (.iaddr 3 (.t 36) (cI 0)),oA 38 0 37,oG 39 38,oD 40 .eql 39 0,oM 32 40] (.cond (.t 32) (sr [oM 41 0,oO 42 (.call true (.c (.fn 32 [] [])) [.t 41]),oO 43 (.build [.int .i64 0,.int .i64 0,.int .i64 0,.str [],.slice .fit 5 []] [(0,1,(cI 1)),(2,1,(.t 42))]),oS 4 5 4 43] .ret) .skip))))))))))) (sr [oM 44 0,oM 45 1,oO 46 (.call true (.c (.fn 165 [] [])) [.t 44,.t 45]),oS 4 5 4 46] .ret)))⟩
theorem ok164:zh Tryz.prog Tryz.f164 F164=true:=by kernel_rfl
def L157_0:ICode:= .loop [0,1,4,5] [6]
 (.seq
 (sr [
 oM 10 5,
 oD 11 .leq 10 28]
 (.cond (.t 11)
 .skip
 (.exit 0)))
 (.seq
 (.block 1
 (.seq
 (sr [
 oM 14 0,
 oM 15 5,
 cP 16 163 [.t 15],
 cF 17 31 [.t 14,.t 16],
 oU 18 17]
 (.cond (.t 18)
 (.exit 1)
 .skip))
 (sr [
 oM 19 5,
 oO 20 (.build [.int .i64 0,.int .i64 0,.int .i64 0,.str [],.slice .fit 5 []] [(0,1,(cI 4)),(1,1,(.t 19))]),
 oO 6 (.boxL 6 (.c (.agg [.int .i64 0,.int .i64 0,.int .i64 0,.str [],.slice .fit 5 []]))),
 oS 6 5 6 20]
 (.seq
 (sr [
 oM 21 5,
 oD 22 .lss 21 23]
 (.cond (.t 22)
 (sr [
 oM 23 0,
 oM 24 1,
 oD 25 .add 24 1,
 oO 26 (.call true (.c (.fn 157 [] [])) [.t 23,.t 25]),
 oO 27 (.bslice 5 (.agg [.int .i64 0,.int .i64 0,.int .i64 0,.str [],.slice .fit 5 []]) 1 [(0,(.t 26))]),
 oA 28 4 6,
 oS 6 1 28 27]
 (sr [
 oLa 29 6 5 6,
 oS 4 5 4 29]
 .ret))
 .skip))
 (sr [
 oM 30 0,
 oO 31 (.bslice 1 (.str []) 1 [(0,(.c (.str [40])))]),
 oO 32 (.call true (.c (.fn 33 [] [])) [.t 30,.t 31])]
 (sr [
 oM 33 0,
 oM 34 1,
 oD 35 .add 34 1,
 oO 36 (.call true (.c (.fn 144 [] [])) [.t 33,cI 1,.t 35]),
 oO 37 (.bslice 5 (.agg [.int .i64 0,.int .i64 0,.int .i64 0,.str [],.slice .fit 5 []]) 1 [(0,(.t 36))]),
 oA 38 4 6,
 oS 6 1 38 37]
 (sr [
 oM 39 0,
 oO 40 (.bslice 1 (.str []) 1 [(0,(.c (.str [41])))]),
 oO 41 (.call true (.c (.fn 33 [] [])) [.t 39,.t 40])]
 (sr [
 oLa 42 6 5 6,
 oS 4 5 4 42]
 .ret))))))))
 (.region [
 oM 12 5,
 oD 13 .add 12 1,
 oM 5 13])))
abbrev K157_0:List Nat:=[0,1,4]
abbrev B157_0:List Nat:=[]
def F157:IFn:=⟨46,2,[.cell 4 true 5],false,false,none,(sr [oO 4 (.boxL 4 (.c (.agg [.int .i64 0,.int .i64 0,.int .i64 0,.str [],.slice .fit 5 []])))] (sr [oM 7 0,oM 8 1,oO 9 (.call true (.c (.fn 111 [] [])) [.t 7,.t 8])] (.seq (sr [oZ 5 20] (.block 0 L157_0)) (sr [oM 43 0,oM 44 1,oO 45 (.call true (.c (.fn 164 [] [])) [.t 43,.t 44]),oS 4 5 4 45] .ret))))⟩
theorem ok157:zh Tryz.prog Tryz.f157 F157=true:=by kernel_rfl
def F148:IFn:=⟨6,1,[.tmp 2],false,false,none,(sr [oZ 2 0] (sr [oM 3 0,cP 4 159 [.t 3],oO 5 (.fld false 1 1 (.t 4)),oM 2 5] .ret))⟩
theorem ok148:zh Tryz.prog Tryz.f148 F148=true:=by kernel_rfl
def L158_0:ICode:= .loop [0,1,5] []
 (.seq
 (sr [
 oM 6 5,
 oD 7 .leq 6 19]
 (.cond (.t 7)
 .skip
 (.exit 0)))
 (.seq
 (.block 1
 (sr [
 oM 10 5,
 cP 11 148 [.t 10],
 oM 12 1,
 oP 13 .eql 11 12,
 oM 14 13,
 oTm 14 15 0,
 oTm 14 16 5,
 oT 14 17 (pP 163 [.t 16]),
 oT 14 18 (pF 57 [.t 15,.t 17]),
 oO 19 (.pick (.t 14) (.t 18) (.c bF))]
 (.cond (.t 19)
 (sr [
 oM 20 5,
 oM 4 20]
 .ret)
 .skip)))
 (.region [
 oM 8 5,
 oD 9 .add 8 1,
 oM 5 9])))
abbrev K158_0:List Nat:=[0,1]
abbrev B158_0:List Nat:=[]
def F158:IFn:=⟨21,2,[.tmp 4],false,false,none,(sr [oZ 4 0] (.seq (sr [oZ 5 1] (.block 0 L158_0)) (sr [oZ 4 0] .ret)))⟩
theorem ok158:zh Tryz.prog Tryz.f158 F158=true:=by kernel_rfl
def L144_0:ICode:= .loop [0,1,2,6,7,8] []
 (.seq
 (sr [
 oM 22 8,
 oD 23 .neq 22 0]
 (.cond (.t 23)
 .skip
 (.exit 0)))
 (.seq
 (.block 1
 (sr [
 oM 27 0,
 oM 28 0,
 oK 29 28,
 oA 30 0 29,
 oG 31 30,
 oO 32 (.slc false 3 (.t 31) (some (cI 1)) none none),
 oK 33 27,
 oA 34 0 33,
 oV 34 32]
 (.region [
 oM 35 8,
 oLa 36 7 5 7,
 oM 37 0,
 oM 38 1,
 oD 39 .add 38 1,
 oM 40 2,
 oO 41 (.call true (.c (.fn 144 [] [])) [.t 37,.t 39,.t 40]),
 oO 42 (.bslice 5 (.agg [.int .i64 0,.int .i64 0,.int .i64 0,.str [],.slice .fit 5 []]) 2 [(0,(.t 36)),(1,(.t 41))]),
 oO 43 (.build [.int .i64 0,.int .i64 0,.int .i64 0,.str [],.slice .fit 5 []] [(0,1,(cI 5)),(1,1,(.t 35)),(4,1,(.t 42))]),
 oS 7 5 7 43])))
 (.region [
 oM 24 0,
 oM 25 1,
 cF 26 158 [.t 24,.t 25],
 oM 8 26])))
abbrev K144_0:List Nat:=[0,1,2,6,7]
abbrev B144_0:List Nat:=[6]
def F144:IFn:=⟨45,3,[.cell 6 true 5],false,false,none,(sr [oO 6 (.boxL 6 (.c (.agg [.int .i64 0,.int .i64 0,.int .i64 0,.str [],.slice .fit 5 []])))] (.seq (sr [oM 9 1,oD 10 .gtr 9 10] (.cond (.t 10) (sr [oM 11 0,oM 12 2,oO 13 (.call true (.c (.fn 157 [] [])) [.t 11,.t 12]),oS 6 5 6 13] .ret) .skip)) (sr [oM 14 0,oM 15 1,oD 16 .add 15 1,oM 17 2,oO 18 (.call true (.c (.fn 144 [] [])) [.t 14,.t 16,.t 17]),oO 7 (.boxL 7 (.c (.agg [.int .i64 0,.int .i64 0,.int .i64 0,.str [],.slice .fit 5 []]))),oS 7 5 7 18] (.seq (sr [oM 19 0,oM 20 1,cF 21 158 [.t 19,.t 20],oM 8 21] (.block 0 L144_0)) (sr [oLa 44 7 5 7,oS 6 5 6 44] .ret)))))⟩
theorem ok144:zh Tryz.prog Tryz.f144 F144=true:=by kernel_rfl
def F128:IFn:=⟨6,1,[.tmp 2],false,false,none,(sr [oC 2 (.slice .fit 5 [])] (sr [oM 3 0,oO 4 (.call true (.c (.fn 144 [] [])) [.t 3,cI 1,cI 1]),oO 5 (.bslice 5 (.agg [.int .i64 0,.int .i64 0,.int .i64 0,.str [],.slice .fit 5 []]) 1 [(0,(.t 4))]),oE 2 5] .ret))⟩
theorem ok128:zh Tryz.prog Tryz.f128 F128=true:=by kernel_rfl
def F127:IFn:=⟨13,1,[.tmp 2],false,false,none,(sr [oC 2 (.slice .fit 5 [])] (sr [oM 4 0,oO 5 (.bslice 1 (.str []) 1 [(0,(.c (.str [40])))]),oO 6 (.call true (.c (.fn 33 [] [])) [.t 4,.t 5])] (sr [oM 7 0,oO 8 (.call true (.c (.fn 128 [] [])) [.t 7]),oE 3 8] (sr [oM 9 0,oO 10 (.bslice 1 (.str []) 1 [(0,(.c (.str [41])))]),oO 11 (.call true (.c (.fn 33 [] [])) [.t 9,.t 10])] (sr [oE 12 3,oE 2 12] .ret)))))⟩
theorem ok127:zh Tryz.prog Tryz.f127 F127=true:=by kernel_rfl
def F112:IFn:=⟨40,2,[.cell 4 true 6,.tmp 5],false,false,none,(sr [oO 4 (.boxL 4 (.c (.agg [.int .i64 0,.int .i64 0,.str [],.slice .fit 5 [],.slice .fit 6 [],.slice .fit 6 []]))),oC 5 bF] (.seq (.block 0 (sr [oM 7 0,cF 8 31 [(.t 7),(.c (.str [105,102]))],oM 6 8] (.cond (.t 6) (sr [oM 9 0,oO 10 (.call true (.c (.fn 127 [] [])) [.t 9]),oA 11 0 4,oN (.store (.box 4) 1 (.t 11) (cI 4)),oA 12 3 4,oS 4 1 12 10] (sr [oM 13 0,oM 14 1,oD 15 .add 14 1,oO 16 (.call true (.c (.fn 61 [] [])) [.t 13,.t 15]),oA 17 4 4,oS 4 1 17 16] (.seq (sr [oM 18 0,cF 19 31 [(.t 18),(.c (.str [101,108,115,101]))]] (.cond (.t 19) (.region [oM 20 0,oM 21 1,oD 22 .add 21 1,oO 23 (.call true (.c (.fn 61 [] [])) [.t 20,.t 22]),oA 24 5 4,oS 4 1 24 23]) .skip)) (sr [oLa 25 4 6 4,oS 4 6 4 25,oC 5 bT] .ret)))) (sr [oM 27 0,cF 28 31 [(.t 27),(.c (.str [119,104,105,108,101]))],oM 26 28] (.cond (.t 26) (sr [oM 29 0,oO 30 (.call true (.c (.fn 127 [] [])) [.t 29]),oA 31 0 4,oN (.store (.box 4) 1 (.t 31) (cI 5)),oA 32 3 4,oS 4 1 32 30] (sr [oM 33 0,oM 34 1,oD 35 .add 34 1,oO 36 (.call true (.c (.fn 61 [] [])) [.t 33,.t 35]),oA 37 4 4,oS 4 1 37 36] (sr [oLa 38 4 6 4,oS 4 6 4 38,oC 5 bT] .ret))) .skip))))) (sr [oLa 39 4 6 4,oS 4 6 4 39,oC 5 bF] .ret)))⟩
theorem ok112:zh Tryz.prog Tryz.f112 F112=true:=by kernel_rfl
def F113:IFn:=⟨70,1,[.cell 2 true 6],false,false,none,(sr [oO 2 (.boxL 2 (.c (.agg [.int .i64 0,.int .i64 0,.str [],.slice .fit 5 [],.slice .fit 6 [],.slice .fit 6 []])))] (.seq (.block 0 (.seq (sr [oM 6 0,cF 7 57 [(.t 6),(.c (.str [105,110,116]))],oM 5 7] (.cond (.t 5) .skip (.region [oM 8 0,cF 9 57 [(.t 8),(.c (.str [98,111,111,108]))],oM 5 9]))) (.cond (.t 5) (sr [oM 10 0,oO 11 (.call true (.c (.fn 29 [] [])) [.t 10]),oM 12 0,oO 13 (.call true (.c (.fn 30 [] [])) [.t 12,cI 1]),oO 14 (.build [.int .i64 0,.int .i64 0,.str [],.slice .fit 5 [],.slice .fit 6 [],.slice .fit 6 []] [(0,1,(cI 1)),(1,1,(.t 11)),(2,1,(.t 13))]),oO 3 (.boxL 3 (.c (.agg [.int .i64 0,.int .i64 0,.str [],.slice .fit 5 [],.slice .fit 6 [],.slice .fit 6 []]))),oS 3 6 3 14] (sr [oM 15 0,oO 16 (.bslice 1 (.str []) 1 [(0,(.c (.str [61])))]),oO 17 (.call true (.c (.fn 33 [] [])) [.t 15,.t 16])] (sr [oM 18 0,oO 19 (.call true (.c (.fn 128 [] [])) [.t 18]),oA 20 3 3,oS 3 1 20 19] (sr [oLa 21 3 6 3,oS 2 6 2 21] .ret)))) (sr [oM 23 0,cF 24 31 [(.t 23),(.c (.str [98,114,101,97,107]))],oM 22 24] (.cond (.t 22) (sr [oO 25 (.build [.int .i64 0,.int .i64 0,.str [],.slice .fit 5 [],.slice .fit 6 [],.slice .fit 6 []] [(0,1,(cI 6))]),oS 2 6 2 25] .ret) (sr [oM 27 0,cF 28 31 [(.t 27),(.c (.str [99,111,110,116,105,110,117,101]))],oM 26 28] (.cond (.t 26) (sr [oO 29 (.build [.int .i64 0,.int .i64 0,.str [],.slice .fit 5 [],.slice .fit 6 [],.slice .fit 6 []] [(0,1,(cI 7))]),oS 2 6 2 29] .ret) (sr [oM 31 0,cF 32 31 [(.t 31),(.c (.str [114,101,116,117,114,110]))],oM 30 32] (.cond (.t 30) (sr [oM 33 0,oO 34 (.call true (.c (.fn 128 [] [])) [.t 33]),oO 35 (.build [.int .i64 0,.int .i64 0,.str [],.slice .fit 5 [],.slice .fit 6 [],.slice .fit 6 []] [(0,1,(cI 8)),(3,1,(.t 34))]),oS 2 6 2 35] .ret) (sr [oM 37 0,cF 38 31 [(.t 37),(.c (.str [112,114,105,110,116]))],oM 36 38] (.cond (.t 36) (sr [oM 39 0,oO 40 (.call true (.c (.fn 127 [] [])) [.t 39]),oO 41 (.build [.int .i64 0,.int .i64 0,.str [],.slice .fit 5 [],.slice .fit 6 [],.slice .fit 6 []] [(0,1,(cI 9)),(3,1,(.t 40))]),oS 2 6 2 41] .ret) .skip))))))))))) (sr [oM 42 0,oO 43 (.call true (.c (.fn 30 [] [])) [.t 42,cI 1]),oO 44 (.build [.int .i64 0,.int .i64 0,.str [],.slice .fit 5 [],.slice .fit 6 [],.slice .fit 6 []] [(0,1,(cI 2)),(2,1,(.t 43))]),oO 4 (.boxL 4 (.c (.agg [.int .i64 0,.int .i64 0,.str [],.slice .fit 5 [],.slice .fit 6 [],.slice .fit 6 []]))),oS 4 6 4 44] (.seq (sr [oM 45 0,cF 46 31 [(.t 45),(.c (.str [40]))]] (.cond (.t 46) (sr [oM 47 0,oA 48 2 4,oL 49 4 48,oO 50 (.call true (.c (.fn 129 [] [])) [.t 47,.t 49,cI 2]),oO 51 (.bslice 5 (.agg [.int .i64 0,.int .i64 0,.int .i64 0,.str [],.slice .fit 5 []]) 1 [(0,(.t 50))]),oO 52 (.build [.int .i64 0,.int .i64 0,.str [],.slice .fit 5 [],.slice .fit 6 [],.slice .fit 6 []] [(0,1,(cI 10)),(3,1,(.t 51))]),oS 2 6 2 52] .ret) .skip)) (.seq (sr [oM 53 0,cF 54 31 [(.t 53),(.c (.str [91]))]] (.cond (.t 54) (sr [oA 55 0 4,oN (.store (.box 4) 1 (.t 55) (cI 3))] (.region [oM 56 0,oO 57 (.call true (.c (.fn 130 [] [])) [.t 56,cI 1]),oO 58 (.bslice 5 (.agg [.int .i64 0,.int .i64 0,.int .i64 0,.str [],.slice .fit 5 []]) 1 [(0,(.t 57))]),oA 59 3 4,oS 4 1 59 58])) .skip)) (sr [oM 60 0,oO 61 (.bslice 1 (.str []) 1 [(0,(.c (.str [61])))]),oO 62 (.call true (.c (.fn 33 [] [])) [.t 60,.t 61])] (sr [oA 63 3 4,oO 64 (.loadT (.box 4) (.t 63)),oM 65 0,oO 66 (.call true (.c (.fn 128 [] [])) [.t 65]),oO 67 (.append 5 64 (.t 64) (.t 66)),oA 68 3 4,oN (.storeT (.box 4) (.t 68) 67)] (sr [oLa 69 4 6 4,oS 2 6 2 69] .ret))))))))⟩
theorem ok113:zh Tryz.prog Tryz.f113 F113=true:=by kernel_rfl
def F93:IFn:=⟨25,2,[.cell 4 true 6],false,false,none,(sr [oO 4 (.boxL 4 (.c (.agg [.int .i64 0,.int .i64 0,.str [],.slice .fit 5 [],.slice .fit 6 [],.slice .fit 6 []])))] (sr [oM 8 0,oM 9 1,oO 10 (.call true (.c (.fn 111 [] [])) [.t 8,.t 9])] (.seq (sr [oM 12 0,oM 13 1,oO 14 (.call true (.c (.fn 112 [] [])) [.t 12,.t 13]),oM 11 14,oX 15 11 0,oX 16 11 1,oO 5 (.boxL 5 (.c (.agg [.int .i64 0,.int .i64 0,.str [],.slice .fit 5 [],.slice .fit 6 [],.slice .fit 6 []]))),oS 5 6 5 15,oM 6 16] (sr [oM 17 6] (.cond (.t 17) (sr [oLa 18 5 6 5,oS 4 6 4 18] .ret) .skip))) (sr [oM 19 0,oO 20 (.call true (.c (.fn 113 [] [])) [.t 19]),oO 7 (.boxL 7 (.c (.agg [.int .i64 0,.int .i64 0,.str [],.slice .fit 5 [],.slice .fit 6 [],.slice .fit 6 []]))),oS 7 6 7 20] (sr [oM 21 0,oO 22 (.bslice 1 (.str []) 1 [(0,(.c (.str [59])))]),oO 23 (.call true (.c (.fn 33 [] [])) [.t 21,.t 22])] (sr [oLa 24 7 6 7,oS 4 6 4 24] .ret))))))⟩
theorem ok93:zh Tryz.prog Tryz.f93 F93=true:=by kernel_rfl
def L61_0:ICode:= .loop [0,1,4] []
 (.seq
 (sr [
 oM 8 0,
 cF 9 31 [(.t 8),(.c (.str [125]))],
 oU 10 9]
 (.cond (.t 10)
 .skip
 (.exit 0)))
 (.block 1
 (.region [
 oE 11 4,
 oM 12 0,
 oM 13 1,
 oO 14 (.call true (.c (.fn 93 [] [])) [.t 12,.t 13]),
 oO 15 (.bslice 6 (.agg [.int .i64 0,.int .i64 0,.str [],.slice .fit 5 [],.slice .fit 6 [],.slice .fit 6 []]) 1 [(0,(.t 14))]),
 oO 16 (.append 6 104 (.t 11) (.t 15)),
 oE 4 16])))
abbrev K61_0:List Nat:=[0,1]
abbrev B61_0:List Nat:=[]
def F61:IFn:=⟨18,2,[.tmp 4],false,false,none,(sr [oC 4 (.slice .fit 6 [])] (sr [oM 5 0,oO 6 (.bslice 1 (.str []) 1 [(0,(.c (.str [123])))]),oO 7 (.call true (.c (.fn 33 [] [])) [.t 5,.t 6])] (.seq (.block 0 L61_0) (sr [oE 17 4,oE 4 17] .ret))))⟩
theorem ok61:zh Tryz.prog Tryz.f61 F61=true:=by kernel_rfl
def F34:IFn:=⟨21,3,[.cell 6 true 4],false,false,none,(sr [oO 3 (.boxI (.t 0)),oO 6 (.boxL 6 (.c (.agg [.str [],.int .i64 0,.slice .fit 2 [],.slice .fit 6 []])))] (sr [oG 8 3,oO 9 (.bslice 1 (.str []) 1 [(0,(.c (.str [40])))]),oO 10 (.call true (.c (.fn 33 [] [])) [.t 8,.t 9])] (sr [oM 11 2,oM 12 1,oG 13 3,oO 14 (.mkfn 60 [] [.t 3]),oO 15 (.call true (.c (.fn 59 [] [])) [.t 13,.t 14]),oO 16 (.build [.str [],.int .i64 0,.slice .fit 2 [],.slice .fit 6 []] [(0,1,(.t 11)),(1,1,(.t 12)),(2,1,(.t 15))]),oO 7 (.boxL 7 (.c (.agg [.str [],.int .i64 0,.slice .fit 2 [],.slice .fit 6 []]))),oS 7 4 7 16] (sr [oG 17 3,oO 18 (.call true (.c (.fn 61 [] [])) [.t 17,cI 1]),oA 19 3 7,oS 7 1 19 18] (sr [oLa 20 7 4 7,oS 6 4 6 20] .ret)))))⟩
theorem ok34:zh Tryz.prog Tryz.f34 F34=true:=by kernel_rfl
def L19_0:ICode:= .loop [0,2] []
 (.seq
 (sr [
 oM 5 0,
 oK 6 5,
 oA 7 0 6,
 oG 8 7,
 oO 9 (.iaddr 3 (.t 8) (cI 0)),
 oA 10 0 9,
 oG 11 10,
 oD 12 .neq 11 3]
 (.cond (.t 12)
 .skip
 (.exit 0)))
 (.block 1
 (sr [
 oM 13 0,
 oO 14 (.call true (.c (.fn 29 [] [])) [.t 13]),
 oM 3 14]
 (sr [
 oM 15 0,
 oO 16 (.call true (.c (.fn 30 [] [])) [.t 15,cI 1]),
 oM 4 16]
 (.seq
 (sr [
 oM 17 3,
 oD 18 .eql 17 1,
 oM 19 18,
 oT 19 20 (.faddr 1 (.t 2)),
 oT 19 21 (.load (.box 2) false 1 (.t 20)),
 oT 19 22 (.len 1 (.t 21)),
 oT 19 23 (.bin 0 [] .eql (.t 22) (cI 0)),
 oO 24 (.pick (.t 19) (.t 23) (.c bF)),
 oM 25 24,
 oTm 25 26 0,
 oT 25 27 (pF 31 [(.t 26),(.c (.str [91]))]),
 oO 28 (.pick (.t 25) (.t 27) (.c bF))]
 (.cond (.t 28)
 (sr [
 oA 29 0 2,
 oO 30 (.loadT (.box 2) (.t 29)),
 oM 31 4,
 oM 32 0,
 oO 33 (.call true (.c (.fn 32 [] [])) [.t 32]),
 oO 34 (.build [.str [],.int .i64 0] [(0,1,(.t 31)),(1,1,(.t 33))]),
 oO 35 (.bslice 2 (.agg [.str [],.int .i64 0]) 1 [(0,(.t 34))]),
 oO 36 (.append 2 24 (.t 30) (.t 35)),
 oA 37 0 2,
 oN (.storeT (.box 2) (.t 37) 36)]
 (sr [
 oM 38 0,
 oO 39 (.bslice 1 (.str []) 2 [(0,(.c (.str [93]))),(1,(.c (.str [59])))]),
 oO 40 (.call true (.c (.fn 33 [] [])) [.t 38,.t 39])]
 (.exit 1)))
 .skip))
 (.region [
 oA 41 1 2,
 oO 42 (.loadT (.box 2) (.t 41)),
 oM 43 0,
 oM 44 3,
 oM 45 4,
 oO 46 (.call true (.c (.fn 34 [] [])) [.t 43,.t 44,.t 45]),
 oO 47 (.bslice 4 (.agg [.str [],.int .i64 0,.slice .fit 2 [],.slice .fit 6 []]) 1 [(0,(.t 46))]),
 oO 48 (.append 4 72 (.t 42) (.t 47)),
 oA 49 1 2,
 oN (.storeT (.box 2) (.t 49) 48)]))))))
abbrev K19_0:List Nat:=[0,2]
abbrev B19_0:List Nat:=[]
def F19:IFn:=⟨51,1,[.cell 2 true 2],false,false,none,(sr [oO 2 (.boxL 2 (.c (.agg [.slice .fit 2 [],.slice .fit 4 []])))] (.seq (.block 0 L19_0) (sr [oLa 50 2 2 2,oS 2 2 2 50] .ret)))⟩
theorem ok19:zh Tryz.prog Tryz.f19 F19=true:=by kernel_rfl
def F35:IFn:=⟨17,1,[.tmp 2],false,false,none,(sr [oO 1 (.boxL 1 (.t 0)),oC 2 bF] (sr [oA 3 0 1,oL 4 1 3,cP 5 36 [.t 4],oU 6 5,oM 7 6,oF 7 8 (.faddr 1 (.t 1)),oF 7 9 (.load (.box 1) false 1 (.t 8)),oF 7 10 (.bin 0 [] .lss (.t 9) (cI 1)),oO 11 (.pick (.t 7) (.c bT) (.t 10)),oM 12 11,oF 12 13 (.faddr 1 (.t 1)),oF 12 14 (.load (.box 1) false 1 (.t 13)),oF 12 15 (.bin 0 [] .gtr (.t 14) (cI 1000)),oO 16 (.pick (.t 12) (.c bT) (.t 15)),oM 2 16] .ret))⟩
theorem ok35:zh Tryz.prog Tryz.f35 F35=true:=by kernel_rfl
def L62_0:ICode:= .loop [0,1,7,8] []
 (sr [
 oP 9 .lss 8 7]
 (.seq
 (.cond (.t 9)
 .skip
 (.exit 0))
 (.seq
 (.block 1
 (sr [
 oM 10 8,
 oM 5 10]
 (sr [
 oM 11 1,
 oM 12 0,
 oM 13 5,
 oI 14 2 12 13,
 oW 15 2 14,
 oO 16 (.call false (.t 11) [.t 15])]
 (.cond (.t 16)
 (sr [
 oM 17 5,
 oM 4 17]
 .ret)
 .skip))))
 (.region [
 oD 18 .add 8 1,
 oM 8 18]))))
abbrev K62_0:List Nat:=[0,1,7]
abbrev B62_0:List Nat:=[]
def F62:IFn:=⟨19,2,[.tmp 4],false,false,none,(sr [oZ 4 0] (.seq (sr [oM 6 0,oY 7 6,oZ 8 0] (.block 0 L62_0)) (sr [oO 4 (.mv (cI (-1)))] .ret)))⟩
theorem ok62:zh Tryz.prog Tryz.f62 F62=true:=by kernel_rfl
def F37:IFn:=⟨9,2,[.tmp 4],false,false,none,(sr [oC 4 bF] (sr [oE 5 0,oM 6 1,cF 7 62 [.t 5,.t 6],oD 8 .geq 7 0,oM 4 8] .ret))⟩
theorem ok37:zh Tryz.prog Tryz.f37 F37=true:=by kernel_rfl
def L63_0:ICode:= .loop [0,1,7,8] []
 (sr [
 oP 9 .lss 8 7]
 (.seq
 (.cond (.t 9)
 .skip
 (.exit 0))
 (.seq
 (.block 1
 (sr [
 oM 10 8,
 oM 5 10]
 (sr [
 oM 11 1,
 oM 12 0,
 oM 13 5,
 oI 14 4 12 13,
 oW 15 4 14,
 oO 16 (.call false (.t 11) [.t 15])]
 (.cond (.t 16)
 (sr [
 oM 17 5,
 oM 4 17]
 .ret)
 .skip))))
 (.region [
 oD 18 .add 8 1,
 oM 8 18]))))
abbrev K63_0:List Nat:=[0,1,7]
abbrev B63_0:List Nat:=[]
def F63:IFn:=⟨19,2,[.tmp 4],false,false,none,(sr [oZ 4 0] (.seq (sr [oM 6 0,oY 7 6,oZ 8 0] (.block 0 L63_0)) (sr [oO 4 (.mv (cI (-1)))] .ret)))⟩
theorem ok63:zh Tryz.prog Tryz.f63 F63=true:=by kernel_rfl
def F38:IFn:=⟨9,2,[.tmp 4],false,false,none,(sr [oC 4 bF] (sr [oE 5 0,oM 6 1,cF 7 63 [.t 5,.t 6],oD 8 .geq 7 0,oM 4 8] .ret))⟩
theorem ok38:zh Tryz.prog Tryz.f38 F38=true:=by kernel_rfl
def F65:IFn:=⟨9,1,[.tmp 2],false,false,none,(sr [oC 2 bF] (sr [oM 3 0,oD 4 .eql 3 1,oM 5 4,oFm 5 6 0,oF 5 7 (.bin 0 [] .eql (.t 6) (cI 2)),oO 8 (.pick (.t 5) (.c bT) (.t 7)),oM 2 8] .ret))⟩
theorem ok65:zh Tryz.prog Tryz.f65 F65=true:=by kernel_rfl
def F64:IFn:=⟨13,1,[.tmp 2],false,false,none,(sr [oO 1 (.boxL 1 (.t 0)),oC 2 bF] (sr [oA 3 0 1,oL 4 1 3,cP 5 36 [.t 4],oU 6 5,oM 7 6,oF 7 8 (.faddr 1 (.t 1)),oF 7 9 (.load (.box 1) false 1 (.t 8)),oF 7 10 (pP 65 [.t 9]),oF 7 11 (.un .not (.t 10)),oO 12 (.pick (.t 7) (.c bT) (.t 11)),oM 2 12] .ret))⟩
theorem ok64:zh Tryz.prog Tryz.f64 F64=true:=by kernel_rfl
def L94_0:ICode:= .loop [0,1,7,8] []
 (sr [
 oP 9 .lss 8 7]
 (.seq
 (.cond (.t 9)
 .skip
 (.exit 0))
 (.seq
 (.block 1
 (sr [
 oM 10 8,
 oM 5 10]
 (sr [
 oM 11 1,
 oM 12 0,
 oM 13 5,
 oI 14 2 12 13,
 oW 15 2 14,
 oO 16 (.call false (.t 11) [.t 15])]
 (.cond (.t 16)
 (sr [
 oM 17 5,
 oM 4 17]
 .ret)
 .skip))))
 (.region [
 oD 18 .add 8 1,
 oM 8 18]))))
abbrev K94_0:List Nat:=[0,1,7]
abbrev B94_0:List Nat:=[]
def F94:IFn:=⟨19,2,[.tmp 4],false,false,none,(sr [oZ 4 0] (.seq (sr [oM 6 0,oY 7 6,oZ 8 0] (.block 0 L94_0)) (sr [oO 4 (.mv (cI (-1)))] .ret)))⟩
theorem ok94:zh Tryz.prog Tryz.f94 F94=true:=by kernel_rfl
def F66:IFn:=⟨9,2,[.tmp 4],false,false,none,(sr [oC 4 bF] (sr [oE 5 0,oM 6 1,cF 7 94 [.t 5,.t 6],oD 8 .geq 7 0,oM 4 8] .ret))⟩
theorem ok66:zh Tryz.prog Tryz.f66 F66=true:=by kernel_rfl
def L114_0:ICode:= .loop [0,1,7,8] []
 (sr [
 oP 9 .lss 8 7]
 (.seq
 (.cond (.t 9)
 .skip
 (.exit 0))
 (.seq
 (.block 1
 (sr [
 oM 10 8,
 oM 5 10]
 (sr [
 oM 11 1,
 oM 12 0,
 oM 13 5,
 oI 14 6 12 13,
 oW 15 6 14,
 oO 16 (.call false (.t 11) [.t 15])]
 (.cond (.t 16)
 (sr [
 oM 17 5,
 oM 4 17]
 .ret)
 .skip))))
 (.region [
 oD 18 .add 8 1,
 oM 8 18]))))
abbrev K114_0:List Nat:=[0,1,7]
abbrev B114_0:List Nat:=[]
def F114:IFn:=⟨19,2,[.tmp 4],false,false,none,(sr [oZ 4 0] (.seq (sr [oM 6 0,oY 7 6,oZ 8 0] (.block 0 L114_0)) (sr [oO 4 (.mv (cI (-1)))] .ret)))⟩
theorem ok114:zh Tryz.prog Tryz.f114 F114=true:=by kernel_rfl
def F95:IFn:=⟨9,2,[.tmp 4],false,false,none,(sr [oC 4 bF] (sr [oE 5 0,oM 6 1,cF 7 114 [.t 5,.t 6],oD 8 .geq 7 0,oM 4 8] .ret))⟩
theorem ok95:zh Tryz.prog Tryz.f95 F95=true:=by kernel_rfl
def F115:IFn:=⟨15,0,[.tmp 0],false,false,none,(sr [oC 0 (.nilmap)] (sr [oO 2 (.build [.bool false,.bool false,.int .i64 0,.bool false,.bool false] [(2,1,(cI 1))]),oO 1 (.boxL 1 (.c (.agg [.bool false,.bool false,.int .i64 0,.bool false,.bool false]))),oS 1 5 1 2] (sr [oO 3 (.mkmap),oO 4 (.build [.bool false,.bool false,.int .i64 0,.bool false,.bool false] [(0,1,(.c bT)),(1,1,(.c bT)),(2,1,(cI 1))]),oN (.mapset false (.t 3) (cI 1) (.t 4)),oO 5 (.build [.bool false,.bool false,.int .i64 0,.bool false,.bool false] [(1,1,(.c bT)),(2,1,(cI 1))]),oN (.mapset false (.t 3) (cI 2) (.t 5)),oO 6 (.build [.bool false,.bool false,.int .i64 0,.bool false,.bool false] [(1,1,(.c bT)),(2,1,(cI 2))]),oN (.mapset false (.t 3) (cI 3) (.t 6)),oO 7 (.build [.bool false,.bool false,.int .i64 0,.bool false,.bool false] [(2,1,(cI 1)),(3,1,(.c bT)),(4,1,(.c bT))]),oN (.mapset false (.t 3) (cI 4) (.t 7)),oO 8 (.build [.bool false,.bool false,.int .i64 0,.bool false,.bool false] [(2,1,(cI 1)),(3,1,(.c bT))]),oN (.mapset false (.t 3) (cI 5) (.t 8)),oO 9 (.build [.bool false,.bool false,.int .i64 0,.bool false,.bool false] []),oN (.mapset false (.t 3) (cI 6) (.t 9)),oO 10 (.build [.bool false,.bool false,.int .i64 0,.bool false,.bool false] []),oN (.mapset false (.t 3) (cI 7) (.t 10)),oLa 11 1 5 1,oN (.mapset false (.t 3) (cI 8) (.t 11)),oLa 12 1 5 1,oN (.mapset false (.t 3) (cI 9) (.t 12)),oLa 13 1 5 1,oN (.mapset false (.t 3) (cI 10) (.t 13)),oM 14 3,oM 0 14] .ret)))⟩
theorem ok115:zh Tryz.prog Tryz.f115 F115=true:=by kernel_rfl
def L131_0:ICode:= .loop [0,1,7,8] []
 (sr [
 oP 9 .lss 8 7]
 (.seq
 (.cond (.t 9)
 .skip
 (.exit 0))
 (.seq
 (.block 1
 (sr [
 oM 10 8,
 oM 5 10]
 (sr [
 oM 11 1,
 oM 12 0,
 oM 13 5,
 oI 14 5 12 13,
 oW 15 5 14,
 oO 16 (.call false (.t 11) [.t 15])]
 (.cond (.t 16)
 (sr [
 oM 17 5,
 oM 4 17]
 .ret)
 .skip))))
 (.region [
 oD 18 .add 8 1,
 oM 8 18]))))
abbrev K131_0:List Nat:=[0,1,7]
abbrev B131_0:List Nat:=[]
def F131:IFn:=⟨19,2,[.tmp 4],false,false,none,(sr [oZ 4 0] (.seq (sr [oM 6 0,oY 7 6,oZ 8 0] (.block 0 L131_0)) (sr [oO 4 (.mv (cI (-1)))] .ret)))⟩
theorem ok131:zh Tryz.prog Tryz.f131 F131=true:=by kernel_rfl
def F116:IFn:=⟨9,2,[.tmp 4],false,false,none,(sr [oC 4 bF] (sr [oE 5 0,oM 6 1,cF 7 131 [.t 5,.t 6],oD 8 .geq 7 0,oM 4 8] .ret))⟩
theorem ok116:zh Tryz.prog Tryz.f116 F116=true:=by kernel_rfl
def F147:IFn:=⟨22,1,[.tmp 2],false,false,none,(sr [oO 1 (.boxL 1 (.t 0)),oC 2 bF] (sr [oA 3 1 1,oL 4 1 3,oD 5 .eql 4 0,oM 6 5,oT 6 7 (.faddr 2 (.t 1)),oT 6 8 (.load (.box 1) false 1 (.t 7)),oT 6 9 (.bin 0 [] .eql (.t 8) (cI 0)),oO 10 (.pick (.t 6) (.t 9) (.c bF)),oM 11 10,oT 11 12 (.faddr 3 (.t 1)),oT 11 13 (.load (.box 1) false 1 (.t 12)),oT 11 14 (.bin 0 [] .eql (.t 13) (.c (.str []))),oO 15 (.pick (.t 11) (.t 14) (.c bF)),oM 16 15,oT 16 17 (.faddr 4 (.t 1)),oT 16 18 (.load (.box 1) false 1 (.t 17)),oT 16 19 (.len 1 (.t 18)),oT 16 20 (.bin 0 [] .eql (.t 19) (cI 0)),oO 21 (.pick (.t 16) (.t 20) (.c bF)),oM 2 21] .ret))⟩
theorem ok147:zh Tryz.prog Tryz.f147 F147=true:=by kernel_rfl
def F132:IFn:=⟨92,1,[.tmp 2,.tmp 3],false,false,none,(sr [oO 1 (.boxL 1 (.t 0)),oZ 2 0,oC 3 bF] (sr [oLa 5 1 5 1,oO 4 (.boxL 4 (.c (.agg [.int .i64 0,.int .i64 0,.int .i64 0,.str [],.slice .fit 5 []]))),oS 4 5 4 5] (sr [oA 6 4 4,oN (.store (.box 4) 1 (.t 6) (.c (.slice .fit 5 [])))] (.seq (sr [oA 7 0 1,oL 8 1 7] (.block 0 (sr [oD 10 .eql 8 1,oM 9 10] (.cond (.t 9) (sr [oA 11 2 4,oN (.store (.box 4) 1 (.t 11) (cI 0))] (sr [oA 12 2 1,oL 13 1 12,oD 14 .geq 13 0,oM 15 14,oT 15 16 (.load (.box 4) true 5 (.t 4)),oT 15 17 (pP 147 [.t 16]),oO 18 (.pick (.t 15) (.t 17) (.c bF)),oZ 2 0,oM 3 18] .ret)) (sr [oD 20 .eql 8 2,oM 19 20] (.cond (.t 19) (sr [oA 21 2 4,oN (.store (.box 4) 1 (.t 21) (cI 0))] (sr [oA 22 2 1,oL 23 1 22,oD 24 .eql 23 0,oM 25 24,oF 25 26 (.faddr 2 (.t 1)),oF 25 27 (.load (.box 1) false 1 (.t 26)),oF 25 28 (.bin 0 [] .eql (.t 27) (cI 1)),oO 29 (.pick (.t 25) (.c bT) (.t 28)),oM 30 29,oT 30 31 (.load (.box 4) true 5 (.t 4)),oT 30 32 (pP 147 [.t 31]),oO 33 (.pick (.t 30) (.t 32) (.c bF)),oZ 2 0,oM 3 33] .ret)) (sr [oD 35 .eql 8 4,oM 34 35] (.cond (.t 34) (sr [oA 36 1 4,oN (.store (.box 4) 1 (.t 36) (cI 0))] (sr [oA 37 1 1,oL 38 1 37,oD 39 .geq 38 20,oM 40 39,oT 40 41 (.faddr 1 (.t 1)),oT 40 42 (.load (.box 1) false 1 (.t 41)),oT 40 43 (.bin 0 [] .leq (.t 42) (cI 28)),oO 44 (.pick (.t 40) (.t 43) (.c bF)),oM 45 44,oT 45 46 (.load (.box 4) true 5 (.t 4)),oT 45 47 (pP 147 [.t 46]),oO 48 (.pick (.t 45) (.t 47) (.c bF)),oZ 2 1,oM 3 48] .ret)) (sr [oD 50 .eql 8 5,oM 49 50] (.cond (.t 49) (sr [oA 51 1 4,oN (.store (.box 4) 1 (.t 51) (cI 0))] (sr [oA 52 1 1,oL 53 1 52,cP 54 148 [.t 53],oD 55 .gtr 54 0,oM 56 55,oT 56 57 (.load (.box 4) true 5 (.t 4)),oT 56 58 (pP 147 [.t 57]),oO 59 (.pick (.t 56) (.t 58) (.c bF)),oZ 2 2,oM 3 59] .ret)) (sr [oD 61 .eql 8 8,oM 60 61] (.cond (.t 60) (sr [oLa 62 4 5 4,cP 63 147 [.t 62],oZ 2 0,oM 3 63] .ret) .skip)))))))))))) (sr [oA 64 3 4,oN (.store (.box 4) 1 (.t 64) (.c (.str [])))] (sr [oA 65 3 1,oL 66 1 65,cP 67 36 [.t 66],oM 68 67,oT 68 69 (.load (.box 4) true 5 (.t 4)),oT 68 70 (pP 147 [.t 69]),oO 71 (.pick (.t 68) (.t 70) (.c bF)),oM 3 71] (.seq (sr [oA 72 0 1,oL 73 1 72] (.block 1 (sr [oD 75 .eql 73 3,oM 74 75] (.cond (.t 74) (sr [oM 76 3,oZ 2 0,oM 3 76] .ret) (sr [oD 78 .eql 73 6,oM 77 78] (.cond (.t 77) (sr [oM 79 3,oZ 2 1,oM 3 79] .ret) (sr [oD 81 .eql 73 7,oM 80 81] (.cond (.t 80) (sr [oA 82 4 1,oL 83 1 82,oY 84 83,oM 85 3,oM 86 85,oT 86 87 (.faddr 4 (.t 1)),oT 86 88 (.load (.box 1) false 1 (.t 87)),oT 86 89 (.len 1 (.t 88)),oT 86 90 (.bin 0 [] .leq (.t 89) (cI 8)),oO 91 (.pick (.t 86) (.t 90) (.c bF)),oM 2 84,oM 3 91] .ret) .skip)))))))) (sr [oZ 2 0,oC 3 bF] .ret))))))))⟩
theorem ok132:zh Tryz.prog Tryz.f132 F132=true:=by kernel_rfl
def F133:IFn:=⟨9,2,[.tmp 3],false,false,none,(sr [oO 2 (.boxL 2 (.t 0)),oC 3 bF] (sr [oLa 4 2 5 2,oG 5 1,oD 6 .sub 5 1,cP 7 118 [.t 4,.t 6],oU 8 7,oM 3 8] .ret))⟩
theorem ok133:zh Tryz.prog Tryz.f133 F133=true:=by kernel_rfl
def F118:IFn:=⟨31,2,[.tmp 4],false,false,none,(sr [oO 2 (.boxL 2 (.t 0)),oO 3 (.boxI (.t 1)),oC 4 bF] (sr [oLa 8 2 5 2,cP 9 132 [.t 8],oM 7 9,oX 10 7 0,oX 11 7 1,oM 5 10,oM 6 11] (sr [oM 12 6,oM 13 12,oT 13 14 (.load .any false 1 (.t 3)),oT 13 15 (.bin 0 [] .gtr (.t 14) (cI 0)),oO 16 (.pick (.t 13) (.t 15) (.c bF)),oM 17 16,oT 17 18 (.faddr 4 (.t 2)),oT 17 19 (.load (.box 2) false 1 (.t 18)),oT 17 20 (.len 1 (.t 19)),oTm 17 21 5,oT 17 22 (.bin 0 [] .eql (.t 20) (.t 21)),oO 23 (.pick (.t 17) (.t 22) (.c bF)),oM 24 23,oT 24 25 (.faddr 4 (.t 2)),oT 24 26 (.load (.box 2) false 1 (.t 25)),oT 24 27 (.mkfn 133 [] [.t 3]),oT 24 28 (pF 116 [.t 26,.t 27]),oT 24 29 (.un .not (.t 28)),oO 30 (.pick (.t 24) (.t 29) (.c bF)),oM 4 30] .ret)))⟩
theorem ok118:zh Tryz.prog Tryz.f118 F118=true:=by kernel_rfl
def F117:IFn:=⟨6,1,[.tmp 2],false,false,none,(sr [oO 1 (.boxL 1 (.t 0)),oC 2 bF] (sr [oLa 3 1 5 1,cP 4 118 [.t 3,cI 100],oU 5 4,oM 2 5] .ret))⟩
theorem ok117:zh Tryz.prog Tryz.f117 F117=true:=by kernel_rfl
def F97:IFn:=⟨118,2,[.tmp 4],true,false,none,(sr [oO 2 (.boxL 2 (.t 0)),oC 4 bF] (sr [cF 8 115 [],oA 9 0 2,oL 10 2 9,oO 11 (.lookup false true (.agg [.bool false,.bool false,.int .i64 0,.bool false,.bool false]) (.t 8) (.t 10)),oM 7 11,oX 12 7 0,oX 13 7 1,oO 5 (.boxL 5 (.c (.agg [.bool false,.bool false,.int .i64 0,.bool false,.bool false]))),oS 5 5 5 12,oM 6 13] (.seq (.block 0 (sr [oM 15 6,oU 16 15,oM 17 16,oFm 17 18 1,oF 17 19 (.bin 0 [] .lss (.t 18) (cI 1)),oO 20 (.pick (.t 17) (.c bT) (.t 19)),oM 21 20,oF 21 22 (.faddr 3 (.t 2)),oF 21 23 (.load (.box 2) false 1 (.t 22)),oF 21 24 (.len 1 (.t 23)),oF 21 25 (.faddr 2 (.t 5)),oF 21 26 (.load (.box 5) false 1 (.t 25)),oF 21 27 (.bin 0 [] .neq (.t 24) (.t 26)),oO 28 (.pick (.t 21) (.c bT) (.t 27)),oM 14 28] (.cond (.t 14) (sr [oC 4 bF] .ret) (sr [oA 30 0 5,oL 31 5 30,oM 32 31,oT 32 33 (.faddr 1 (.t 2)),oT 32 34 (.load (.box 2) false 1 (.t 33)),oT 32 35 (pP 65 [.t 34]),oT 32 36 (.un .not (.t 35)),oO 37 (.pick (.t 32) (.t 36) (.c bF)),oM 38 37,oF 38 39 (.faddr 0 (.t 5)),oF 38 40 (.load (.box 5) false 1 (.t 39)),oF 38 41 (.un .not (.t 40)),oFm 38 42 41,oT 42 43 (.faddr 1 (.t 2)),oT 42 44 (.load (.box 2) false 1 (.t 43)),oT 42 45 (.bin 0 [] .neq (.t 44) (cI 0)),oF 38 46 (.pick (.t 42) (.t 45) (.c bF)),oO 47 (.pick (.t 38) (.c bT) (.t 46)),oM 29 47] (.cond (.t 29) (sr [oC 4 bF] .ret) (sr [oA 49 1 5,oL 50 5 49,oM 51 50,oT 51 52 (.faddr 2 (.t 2)),oT 51 53 (.load (.box 2) false 1 (.t 52)),oT 51 54 (pP 36 [.t 53]),oT 51 55 (.un .not (.t 54)),oO 56 (.pick (.t 51) (.t 55) (.c bF)),oM 57 56,oF 57 58 (.faddr 1 (.t 5)),oF 57 59 (.load (.box 5) false 1 (.t 58)),oF 57 60 (.un .not (.t 59)),oFm 57 61 60,oT 61 62 (.faddr 2 (.t 2)),oT 61 63 (.load (.box 2) false 1 (.t 62)),oT 61 64 (.bin 0 [] .neq (.t 63) (.c (.str []))),oF 57 65 (.pick (.t 61) (.t 64) (.c bF)),oO 66 (.pick (.t 57) (.c bT) (.t 65)),oM 48 66] (.cond (.t 48) (sr [oC 4 bF] .ret) (sr [oA 68 3 5,oL 69 5 68,oU 70 69,oM 71 70,oT 71 72 (.faddr 4 (.t 2)),oT 71 73 (.load (.box 2) false 1 (.t 72)),oT 71 74 (.len 1 (.t 73)),oT 71 75 (.bin 0 [] .gtr (.t 74) (cI 0)),oO 76 (.pick (.t 71) (.t 75) (.c bF)),oM 77 76,oF 77 78 (.faddr 4 (.t 5)),oF 77 79 (.load (.box 5) false 1 (.t 78)),oF 77 80 (.un .not (.t 79)),oFm 77 81 80,oT 81 82 (.faddr 5 (.t 2)),oT 81 83 (.load (.box 2) false 1 (.t 82)),oT 81 84 (.len 1 (.t 83)),oT 81 85 (.bin 0 [] .gtr (.t 84) (cI 0)),oF 77 86 (.pick (.t 81) (.t 85) (.c bF)),oO 87 (.pick (.t 77) (.c bT) (.t 86)),oM 67 87] (.cond (.t 67) (sr [oC 4 bF] .ret) (sr [oA 89 0 2,oL 90 2 89,oD 91 .eql 90 10,oM 92 91,oT 92 93 (.faddr 3 (.t 2)),oT 92 94 (.load (.box 2) false 1 (.t 93)),oT 92 95 (.iaddr 5 (.t 94) (cI 0)),oT 92 96 (.faddr 0 (.t 95)),oT 92 97 (.load .any false 1 (.t 96)),oT 92 98 (.bin 0 [] .neq (.t 97) (cI 7)),oO 99 (.pick (.t 92) (.t 98) (.c bF)),oM 88 99] (.cond (.t 88) (sr [oC 4 bF] .ret) .skip))))))))))) (sr [oA 100 3 2,oL 101 2 100,cF 102 116 [(.t 101),(.c (.fn 117 [] []))],oU 103 102,oM 104 103,oT 104 105 (.faddr 4 (.t 2)),oT 104 106 (.load (.box 2) false 1 (.t 105)),oTm 104 107 1,oT 104 108 (.bin 0 [] .sub (.t 107) (cI 1)),oT 104 109 (pP 67 [.t 106,.t 108]),oO 110 (.pick (.t 104) (.t 109) (.c bF)),oM 111 110,oT 111 112 (.faddr 5 (.t 2)),oT 111 113 (.load (.box 2) false 1 (.t 112)),oTm 111 114 1,oT 111 115 (.bin 0 [] .sub (.t 114) (cI 1)),oT 111 116 (pP 67 [.t 113,.t 115]),oO 117 (.pick (.t 111) (.t 116) (.c bF)),oM 4 117] .ret))))⟩
theorem ok97:zh Tryz.prog Tryz.f97 F97=true:=by kernel_rfl
def F96:IFn:=⟨8,2,[.tmp 3],false,false,none,(sr [oO 2 (.boxL 2 (.t 0)),oC 3 bF] (sr [oLa 4 2 6 2,oG 5 1,cP 6 97 [.t 4,.t 5],oU 7 6,oM 3 7] .ret))⟩
theorem ok96:zh Tryz.prog Tryz.f96 F96=true:=by kernel_rfl
def F67:IFn:=⟨9,2,[.tmp 4],false,false,none,(sr [oO 3 (.boxI (.t 1)),oC 4 bF] (sr [oE 5 0,oO 6 (.mkfn 96 [] [.t 3]),cF 7 95 [.t 5,.t 6],oU 8 7,oM 4 8] .ret))⟩
theorem ok67:zh Tryz.prog Tryz.f67 F67=true:=by kernel_rfl
def F40:IFn:=⟨30,1,[.tmp 2],false,false,none,(sr [oO 1 (.boxL 1 (.t 0)),oC 2 bF] (sr [oC 3 (.fn 64 [] [])] (sr [oA 4 0 1,oL 5 1 4,cP 6 36 [.t 5],oM 7 6,oT 7 8 (.faddr 1 (.t 1)),oT 7 9 (.load (.box 1) false 1 (.t 8)),oT 7 10 (pP 65 [.t 9]),oO 11 (.pick (.t 7) (.t 10) (.c bF)),oM 12 11,oT 12 13 (.faddr 2 (.t 1)),oT 12 14 (.load (.box 1) false 1 (.t 13)),oT 12 15 (.len 1 (.t 14)),oT 12 16 (.bin 0 [] .leq (.t 15) (cI 8)),oO 17 (.pick (.t 12) (.t 16) (.c bF)),oM 18 17,oT 18 19 (.faddr 2 (.t 1)),oT 18 20 (.load (.box 1) false 1 (.t 19)),oTm 18 21 3,oT 18 22 (pF 66 [.t 20,.t 21]),oT 18 23 (.un .not (.t 22)),oO 24 (.pick (.t 18) (.t 23) (.c bF)),oM 25 24,oT 25 26 (.faddr 3 (.t 1)),oT 25 27 (.load (.box 1) false 1 (.t 26)),oT 25 28 (pP 67 [.t 27,cI 100]),oO 29 (.pick (.t 25) (.t 28) (.c bF)),oM 2 29] .ret)))⟩
theorem ok40:zh Tryz.prog Tryz.f40 F40=true:=by kernel_rfl
def F39:IFn:=⟨6,1,[.tmp 2],false,false,none,(sr [oO 1 (.boxL 1 (.t 0)),oC 2 bF] (sr [oLa 3 1 4 1,cP 4 40 [.t 3],oU 5 4,oM 2 5] .ret))⟩
theorem ok39:zh Tryz.prog Tryz.f39 F39=true:=by kernel_rfl
def F20:IFn:=⟨15,1,[.tmp 2],false,false,none,(sr [oO 1 (.boxL 1 (.t 0)),oC 2 bF] (sr [oC 3 (.fn 35 [] [])] (sr [oA 4 0 1,oL 5 1 4,oM 6 3,cF 7 37 [.t 5,.t 6],oU 8 7,oM 9 8,oT 9 10 (.faddr 1 (.t 1)),oT 9 11 (.load (.box 1) false 1 (.t 10)),oT 9 12 (pF 38 [(.t 11),(.c (.fn 39 [] []))]),oT 9 13 (.un .not (.t 12)),oO 14 (.pick (.t 9) (.t 13) (.c bF)),oM 2 14] .ret)))⟩
theorem ok20:zh Tryz.prog Tryz.f20 F20=true:=by kernel_rfl
def H11:HFn where
 ntmps:=29
 nargs:=1
 d:=18
 k:=18
 caps:=[.t 2,.t 3,.t 4]
 r1:=5
 r2:=3
 res:=[.cell 2 true 2,.cell 3 false 1,.cell 4 false 1]
 pins:=[2,3,4]
 pre:=
 (sr [
 oO 2 (.boxS 2 (.c (.agg [.slice .fit 2 [],.slice .fit 4 []]))),
 oO 3 (.boxS 1 (.c (.int .i64 0))),
 oO 4 (.boxS 1 (.c (.int .i64 0)))]
 (sr [
 oM 8 0,
 cP 9 17 [.t 8],
 oM 7 9,
 oX 10 7 0,
 oX 11 7 1,
 oX 12 7 2,
 oE 5 10,
 oV 3 11,
 oV 4 12]
 (sr [
 oG 13 3,
 oD 14 .neq 13 0]
 (.cond (.t 14)
 (sr [
 oO 15 (.loadN 0 true 2 (.t 2)),
 oO 16 (.loadN 1 false 1 (.t 3)),
 oO 17 (.loadN 2 false 1 (.t 4)),
 oN (.storeN 0 2 (.t 2) (.t 15)),
 oN (.storeN 1 1 (.t 3) (.t 16)),
 oN (.storeN 2 1 (.t 4) (.t 17))]
 .ret)
 .skip))))
 rest:=
 (sr [
 oE 19 5,
 oO 20 (.build [.slice .fit 3 []] [(0,1,(.t 19))]),
 oO 21 (.boxS 1 (.t 20)),
 oM 6 21]
 (sr [
 oM 22 6,
 oO 23 (.call true (.c (.fn 19 [] [])) [.t 22]),
 oN (.store .any 2 (.t 2) (.t 23))]
 (.seq
 (sr [
 oW 24 2 2,
 cP 25 20 [.t 24],
 oU 26 25]
 (.cond (.t 26)
 (sr [
 oO 27 (.build [.slice .fit 2 [],.slice .fit 4 []] []),
 oN (.store .any 2 (.t 2) (.t 27)),
 oN (.store .any 1 (.t 3) (cI 2)),
 oN (.store .any 1 (.t 4) (cI 0))]
 .ret)
 .skip))
 (sr [
 oW 28 2 2,
 oN (.store .any 2 (.t 2) (.t 28)),
 oN (.store .any 1 (.t 3) (cI 0)),
 oN (.store .any 1 (.t 4) (cI 0))]
 .ret))))
 code:=
 (sr [
 oM 6 3,
 oO 7 (.ifnil true (.t 6))]
 (.cond (.t 7)
 (sr [
 oM 8 3,
 oO 9 (.tassert 51 (.t 8)),
 oO 4 (.boxL 4 (.c (.agg [.int .i64 0,.int .i64 0]))),
 oS 4 2 4 9]
 (.region [
 oO 10 (.build [.slice .fit 2 [],.slice .fit 4 []] []),
 oA 11 0 4,
 oL 12 4 11,
 oA 13 1 4,
 oL 14 4 13,
 oN (.storeN 0 2 (.t 0) (.t 10)),
 oN (.storeN 1 1 (.t 1) (.t 12)),
 oN (.storeN 2 1 (.t 2) (.t 14))]))
 .skip))
theorem okH11:checkH Tryz.prog Tryz.f11 Tryz.f18 H11=true:=by kernel_rfl
def F8:IFn:=⟨42,0,[.tmp 0],false,false,none,(sr [oC 0 bF] (sr [cP 8 11 [(.c (.str [105,110,116,32,109,97,105,110,40,41,32,123,32,114,101,116,117,114,110,32,49,32,43,32,50,32,42,32,51,59,32,125]))],oM 7 8,oX 9 7 0,oX 10 7 1,oX 11 7 2,oO 1 (.boxL 1 (.c (.agg [.slice .fit 2 [],.slice .fit 4 []]))),oS 1 2 1 9,oM 2 10,oM 3 11] (sr [cP 13 11 [(.c (.str [105,110,116,32,109,97,105,110,40,41,32,123,10]))],oM 12 13,oX 14 12 0,oX 15 12 1,oX 16 12 2,oO 4 (.boxL 4 (.c (.agg [.slice .fit 2 [],.slice .fit 4 []]))),oS 4 2 4 14,oM 5 15,oM 6 16] (sr [oM 17 2,oD 18 .eql 17 0,oM 19 18,oT 19 20 (.faddr 1 (.t 1)),oT 19 21 (.load (.box 1) false 1 (.t 20)),oT 19 22 (.len 1 (.t 21)),oT 19 23 (.bin 0 [] .eql (.t 22) (cI 1)),oO 24 (.pick (.t 19) (.t 23) (.c bF)),oM 25 24,oT 25 26 (.faddr 1 (.t 1)),oT 25 27 (.load (.box 1) false 1 (.t 26)),oT 25 28 (.iaddr 4 (.t 27) (cI 0)),oT 25 29 (.faddr 3 (.t 28)),oT 25 30 (.load .any false 1 (.t 29)),oT 25 31 (.len 1 (.t 30)),oT 25 32 (.bin 0 [] .eql (.t 31) (cI 1)),oO 33 (.pick (.t 25) (.t 32) (.c bF)),oM 34 33,oTm 34 35 5,oT 34 36 (.bin 0 [] .eql (.t 35) (cI 20)),oO 37 (.pick (.t 34) (.t 36) (.c bF)),oM 38 37,oTm 38 39 6,oT 38 40 (.bin 0 [] .eql (.t 39) (cI 2)),oO 41 (.pick (.t 38) (.t 40) (.c bF)),oM 0 41] .ret))))⟩
theorem ok8:zh Tryz.prog Tryz.f8 F8=true:=by kernel_rfl
def L9_0:ICode:= .loop [0,1,5,6] []
 (.seq
 (sr [
 oM 7 6,
 oM 8 0,
 oY 9 8,
 oP 10 .lss 7 9,
 oM 11 10,
 oTm 11 12 6,
 oT 11 13 (.bin 0 [] .lss (.t 12) (cI 14)),
 oO 14 (.pick (.t 11) (.t 13) (.c bF))]
 (.cond (.t 14)
 .skip
 (.exit 0)))
 (.seq
 (.block 1
 (.region [
 oM 17 5,
 oM 18 1,
 oM 19 0,
 oM 20 6,
 oI 21 1 19 20,
 oG 22 21,
 oO 23 (.conv .i64 (.t 22)),
 oM 24 1,
 oY 25 24,
 oP 26 .rem 23 25,
 oI 27 1 18 26,
 oG 28 27,
 oP 29 .add 17 28,
 oM 5 29]))
 (.region [
 oM 15 6,
 oD 16 .add 15 1,
 oM 6 16])))
abbrev K9_0:List Nat:=[0,1]
abbrev B9_0:List Nat:=[]
def F9:IFn:=⟨31,2,[.tmp 4],false,false,none,(sr [oC 4 (.str [])] (sr [oC 5 (.str [])] (.seq (sr [oZ 6 0] (.block 0 L9_0)) (sr [oM 30 5,oM 4 30] .ret))))⟩
theorem ok9:zh Tryz.prog Tryz.f9 F9=true:=by kernel_rfl
def F10:IFn:=⟨2,0,[.tmp 0],false,false,none,(sr [oC 0 (.slice .fit 1 [])] (sr [oO 1 (.bslice 1 (.str []) 18 [(0,(.c (.str [105,110,116,32,97,91,52,93,59,10]))),(1,(.c (.str [105,110,116,32,109,97,105,110,40,41,32,123,10]))),(2,(.c (.str [98,111,111,108,32,102,40,105,110,116,32,120,44,32,98,111,111,108,32,121,41,32,123,10]))),(3,(.c (.str [125,10]))),(4,(.c (.str [120,32,61,32,49,32,43,32,50,32,42,32,51,32,45,32,52,59,10]))),(5,(.c (.str [105,110,116,32,120,32,61,32,114,101,97,100,40,41,59,10]))),(6,(.c (.str [97,91,120,93,32,61,32,45,97,91,48,93,59,10]))),(7,(.c (.str [105,102,32,40,120,32,60,32,50,32,124,124,32,33,121,32,38,38,32,116,114,117,101,41,32,123,10]))),(8,(.c (.str [125,32,101,108,115,101,32,123,10]))),(9,(.c (.str [119,104,105,108,101,32,40,120,32,33,61,32,48,41,32,123,10]))),(10,(.c (.str [114,101,116,117,114,110,32,102,40,49,44,32,120,32,61,61,32,50,41,59,10]))),(11,(.c (.str [112,114,105,110,116,40,40,49,32,45,32,40,50,32,45,32,51,41,41,32,60,60,32,52,32,62,62,62,32,49,41,59,10]))),(12,(.c (.str [102,40,117,56,40,120,41,44,32,102,97,108,115,101,41,59,10]))),(13,(.c (.str [98,114,101,97,107,59,10]))),(14,(.c (.str [99,111,110,116,105,110,117,101,59,10]))),(15,(.c (.str [47,47,32,97,10]))),(16,(.c (.str [98,111,111,108,32,98,32,61,32,126,40,120,41,32,61,61,32,45,32,45,49,59,10]))),(17,(.c (.str [120,32,61,32,97,91,49,93,32,38,32,50,32,124,32,51,32,94,32,52,59,10])))]),oE 0 1] .ret))⟩
theorem ok10:zh Tryz.prog Tryz.f10 F10=true:=by kernel_rfl
def L41_0:ICode:= .loop [0,1,5] []
 (.seq
 (sr [
 oM 11 5,
 oM 12 0,
 oY 13 12,
 oP 14 .lss 11 13]
 (.cond (.t 14)
 .skip
 (.exit 0)))
 (.seq
 (.block 1
 (sr [
 oM 17 0,
 oM 18 5,
 oI 19 5 17 18,
 oA 20 0 19,
 oH 21 20,
 oM 22 1,
 oM 23 5,
 oI 24 5 22 23,
 oA 25 0 24,
 oH 26 25,
 oP 27 .neq 21 26,
 oM 28 27,
 oFm 28 29 0,
 oFm 28 30 5,
 oF 28 31 (.iaddr 5 (.t 29) (.t 30)),
 oF 28 32 (.faddr 1 (.t 31)),
 oF 28 33 (.load .imm false 1 (.t 32)),
 oFm 28 34 1,
 oFm 28 35 5,
 oF 28 36 (.iaddr 5 (.t 34) (.t 35)),
 oF 28 37 (.faddr 1 (.t 36)),
 oF 28 38 (.load .imm false 1 (.t 37)),
 oF 28 39 (.bin 0 [] .neq (.t 33) (.t 38)),
 oO 40 (.pick (.t 28) (.c bT) (.t 39)),
 oM 41 40,
 oFm 41 42 0,
 oFm 41 43 5,
 oF 41 44 (.iaddr 5 (.t 42) (.t 43)),
 oF 41 45 (.faddr 2 (.t 44)),
 oF 41 46 (.load .imm false 1 (.t 45)),
 oFm 41 47 1,
 oFm 41 48 5,
 oF 41 49 (.iaddr 5 (.t 47) (.t 48)),
 oF 41 50 (.faddr 2 (.t 49)),
 oF 41 51 (.load .imm false 1 (.t 50)),
 oF 41 52 (.bin 0 [] .neq (.t 46) (.t 51)),
 oO 53 (.pick (.t 41) (.c bT) (.t 52)),
 oM 54 53,
 oFm 54 55 0,
 oFm 54 56 5,
 oF 54 57 (.iaddr 5 (.t 55) (.t 56)),
 oF 54 58 (.faddr 3 (.t 57)),
 oF 54 59 (.load .imm false 1 (.t 58)),
 oFm 54 60 1,
 oFm 54 61 5,
 oF 54 62 (.iaddr 5 (.t 60) (.t 61)),
 oF 54 63 (.faddr 3 (.t 62)),
 oF 54 64 (.load .imm false 1 (.t 63)),
 oF 54 65 (.bin 0 [] .neq (.t 59) (.t 64)),
 oO 66 (.pick (.t 54) (.c bT) (.t 65)),
 oM 67 66,
 oFm 67 68 0,
 oFm 67 69 5,
 oF 67 70 (.iaddr 5 (.t 68) (.t 69)),
 oF 67 71 (.faddr 4 (.t 70)),
 oF 67 72 (.load .imm false 1 (.t 71)),
 oFm 67 73 1,
 oFm 67 74 5,
 oF 67 75 (.iaddr 5 (.t 73) (.t 74)),
 oF 67 76 (.faddr 4 (.t 75)),
 oF 67 77 (.load .imm false 1 (.t 76)),
 oF 67 78 (pP 41 [.t 72,.t 77]),
 oF 67 79 (.un .not (.t 78)),
 oO 80 (.pick (.t 67) (.c bT) (.t 79))]
 (.cond (.t 80)
 (sr [
 oC 4 bF]
 .ret)
 .skip)))
 (.region [
 oM 15 5,
 oD 16 .add 15 1,
 oM 5 16])))
abbrev K41_0:List Nat:=[0,1]
abbrev B41_0:List Nat:=[]
def F41:IFn:=⟨81,2,[.tmp 4],false,false,none,(sr [oC 4 bF] (.seq (sr [oM 6 0,oY 7 6,oM 8 1,oY 9 8,oP 10 .neq 7 9] (.cond (.t 10) (sr [oC 4 bF] .ret) .skip)) (.seq (sr [oZ 5 0] (.block 0 L41_0)) (sr [oC 4 bT] .ret))))⟩
theorem ok41:zh Tryz.prog Tryz.f41 F41=true:=by kernel_rfl
def L21_0:ICode:= .loop [0,1,5] [6,7]
 (.seq
 (sr [
 oM 13 5,
 oM 14 0,
 oY 15 14,
 oP 16 .lss 13 15]
 (.cond (.t 16)
 .skip
 (.exit 0)))
 (.seq
 (.block 1
 (sr [
 oM 19 0,
 oM 20 5,
 oI 21 6 19 20,
 oO 22 (.load .imm true 6 (.t 21)),
 oM 23 1,
 oM 24 5,
 oI 25 6 23 24,
 oO 26 (.load .imm true 6 (.t 25)),
 oO 6 (.boxL 6 (.c (.agg [.int .i64 0,.int .i64 0,.str [],.slice .fit 5 [],.slice .fit 6 [],.slice .fit 6 []]))),
 oO 7 (.boxL 7 (.c (.agg [.int .i64 0,.int .i64 0,.str [],.slice .fit 5 [],.slice .fit 6 [],.slice .fit 6 []]))),
 oS 6 6 6 22,
 oS 7 6 7 26]
 (sr [
 oA 27 0 6,
 oL 28 6 27,
 oA 29 0 7,
 oL 30 7 29,
 oP 31 .neq 28 30,
 oM 32 31,
 oF 32 33 (.faddr 1 (.t 6)),
 oF 32 34 (.load (.box 6) false 1 (.t 33)),
 oF 32 35 (.faddr 1 (.t 7)),
 oF 32 36 (.load (.box 7) false 1 (.t 35)),
 oF 32 37 (.bin 0 [] .neq (.t 34) (.t 36)),
 oO 38 (.pick (.t 32) (.c bT) (.t 37)),
 oM 39 38,
 oF 39 40 (.faddr 2 (.t 6)),
 oF 39 41 (.load (.box 6) false 1 (.t 40)),
 oF 39 42 (.faddr 2 (.t 7)),
 oF 39 43 (.load (.box 7) false 1 (.t 42)),
 oF 39 44 (.bin 0 [] .neq (.t 41) (.t 43)),
 oO 45 (.pick (.t 39) (.c bT) (.t 44)),
 oM 46 45,
 oF 46 47 (.faddr 3 (.t 6)),
 oF 46 48 (.load (.box 6) false 1 (.t 47)),
 oF 46 49 (.faddr 3 (.t 7)),
 oF 46 50 (.load (.box 7) false 1 (.t 49)),
 oF 46 51 (pP 41 [.t 48,.t 50]),
 oF 46 52 (.un .not (.t 51)),
 oO 53 (.pick (.t 46) (.c bT) (.t 52)),
 oM 54 53,
 oF 54 55 (.faddr 4 (.t 6)),
 oF 54 56 (.load (.box 6) false 1 (.t 55)),
 oF 54 57 (.faddr 4 (.t 7)),
 oF 54 58 (.load (.box 7) false 1 (.t 57)),
 oF 54 59 (pP 21 [.t 56,.t 58]),
 oF 54 60 (.un .not (.t 59)),
 oO 61 (.pick (.t 54) (.c bT) (.t 60)),
 oM 62 61,
 oF 62 63 (.faddr 5 (.t 6)),
 oF 62 64 (.load (.box 6) false 1 (.t 63)),
 oF 62 65 (.faddr 5 (.t 7)),
 oF 62 66 (.load (.box 7) false 1 (.t 65)),
 oF 62 67 (pP 21 [.t 64,.t 66]),
 oF 62 68 (.un .not (.t 67)),
 oO 69 (.pick (.t 62) (.c bT) (.t 68))]
 (.cond (.t 69)
 (sr [
 oC 4 bF]
 .ret)
 .skip))))
 (.region [
 oM 17 5,
 oD 18 .add 17 1,
 oM 5 18])))
abbrev K21_0:List Nat:=[0,1]
abbrev B21_0:List Nat:=[]
def F21:IFn:=⟨70,2,[.tmp 4],false,false,none,(sr [oC 4 bF] (.seq (sr [oM 8 0,oY 9 8,oM 10 1,oY 11 10,oP 12 .neq 9 11] (.cond (.t 12) (sr [oC 4 bF] .ret) .skip)) (.seq (sr [oZ 5 0] (.block 0 L21_0)) (sr [oC 4 bT] .ret))))⟩
theorem ok21:zh Tryz.prog Tryz.f21 F21=true:=by kernel_rfl
def L12_0:ICode:= .loop [2,3,5] []
 (.seq
 (sr [
 oM 26 5,
 oA 27 0 2,
 oL 28 2 27,
 oY 29 28,
 oP 30 .lss 26 29]
 (.cond (.t 30)
 .skip
 (.exit 0)))
 (.seq
 (.block 1
 (sr [
 oA 33 0 2,
 oL 34 2 33,
 oM 35 5,
 oI 36 2 34 35,
 oO 37 (.load .imm true 2 (.t 36)),
 oA 38 0 3,
 oL 39 3 38,
 oM 40 5,
 oI 41 2 39 40,
 oO 42 (.load .imm true 2 (.t 41)),
 oO 43 (.bin 4 [2,0] .neq (.t 37) (.t 42))]
 (.cond (.t 43)
 (sr [
 oC 4 bF]
 .ret)
 .skip)))
 (.region [
 oM 31 5,
 oD 32 .add 31 1,
 oM 5 32])))
def L12_1:ICode:= .loop [2,3,6,7,8,9] []
 (.seq
 (sr [
 oM 90 9,
 oA 91 2 7,
 oL 92 7 91,
 oY 93 92,
 oP 94 .lss 90 93]
 (.cond (.t 94)
 .skip
 (.exit 4)))
 (.seq
 (.block 5
 (sr [
 oA 97 2 7,
 oL 98 7 97,
 oM 99 9,
 oI 100 2 98 99,
 oO 101 (.load .imm true 2 (.t 100)),
 oA 102 2 8,
 oL 103 8 102,
 oM 104 9,
 oI 105 2 103 104,
 oO 106 (.load .imm true 2 (.t 105)),
 oO 107 (.bin 4 [2,0] .neq (.t 101) (.t 106))]
 (.cond (.t 107)
 (sr [
 oC 4 bF]
 .ret)
 .skip)))
 (.region [
 oM 95 9,
 oD 96 .add 95 1,
 oM 9 96])))
def L12_2:ICode:= .loop [2,3,6] [7,8]
 (.seq
 (sr [
 oM 44 6,
 oA 45 1 2,
 oL 46 2 45,
 oY 47 46,
 oP 48 .lss 44 47]
 (.cond (.t 48)
 .skip
 (.exit 2)))
 (.seq
 (.block 3
 (sr [
 oA 51 1 2,
 oL 52 2 51,
 oM 53 6,
 oI 54 4 52 53,
 oO 55 (.load .imm true 4 (.t 54)),
 oA 56 1 3,
 oL 57 3 56,
 oM 58 6,
 oI 59 4 57 58,
 oO 60 (.load .imm true 4 (.t 59)),
 oO 7 (.boxL 7 (.c (.agg [.str [],.int .i64 0,.slice .fit 2 [],.slice .fit 6 []]))),
 oO 8 (.boxL 8 (.c (.agg [.str [],.int .i64 0,.slice .fit 2 [],.slice .fit 6 []]))),
 oS 7 4 7 55,
 oS 8 4 8 60]
 (.seq
 (sr [
 oA 61 0 7,
 oL 62 7 61,
 oA 63 0 8,
 oL 64 8 63,
 oP 65 .neq 62 64,
 oM 66 65,
 oF 66 67 (.faddr 1 (.t 7)),
 oF 66 68 (.load (.box 7) false 1 (.t 67)),
 oF 66 69 (.faddr 1 (.t 8)),
 oF 66 70 (.load (.box 8) false 1 (.t 69)),
 oF 66 71 (.bin 0 [] .neq (.t 68) (.t 70)),
 oO 72 (.pick (.t 66) (.c bT) (.t 71)),
 oM 73 72,
 oF 73 74 (.faddr 2 (.t 7)),
 oF 73 75 (.load (.box 7) false 1 (.t 74)),
 oF 73 76 (.len 1 (.t 75)),
 oF 73 77 (.faddr 2 (.t 8)),
 oF 73 78 (.load (.box 8) false 1 (.t 77)),
 oF 73 79 (.len 1 (.t 78)),
 oF 73 80 (.bin 0 [] .neq (.t 76) (.t 79)),
 oO 81 (.pick (.t 73) (.c bT) (.t 80)),
 oM 82 81,
 oF 82 83 (.faddr 3 (.t 7)),
 oF 82 84 (.load (.box 7) false 1 (.t 83)),
 oF 82 85 (.faddr 3 (.t 8)),
 oF 82 86 (.load (.box 8) false 1 (.t 85)),
 oF 82 87 (pP 21 [.t 84,.t 86]),
 oF 82 88 (.un .not (.t 87)),
 oO 89 (.pick (.t 82) (.c bT) (.t 88))]
 (.cond (.t 89)
 (sr [
 oC 4 bF]
 .ret)
 .skip))
 (sr [
 oZ 9 0]
 (.block 4
 L12_1)))))
 (.region [
 oM 49 6,
 oD 50 .add 49 1,
 oM 6 50])))
abbrev K12_0:List Nat:=[2,3]
abbrev B12_0:List Nat:=[2,3]
abbrev K12_1:List Nat:=[2,3,6,7,8]
abbrev B12_1:List Nat:=[2,3,7,8]
abbrev K12_2:List Nat:=[2,3]
abbrev B12_2:List Nat:=[2,3]
def F12:IFn:=⟨108,2,[.tmp 4],false,false,none,(sr [oO 2 (.boxL 2 (.t 0)),oO 3 (.boxL 3 (.t 1)),oC 4 bF] (.seq (sr [oA 10 0 2,oL 11 2 10,oY 12 11,oA 13 0 3,oL 14 3 13,oY 15 14,oP 16 .neq 12 15,oM 17 16,oF 17 18 (.faddr 1 (.t 2)),oF 17 19 (.load (.box 2) false 1 (.t 18)),oF 17 20 (.len 1 (.t 19)),oF 17 21 (.faddr 1 (.t 3)),oF 17 22 (.load (.box 3) false 1 (.t 21)),oF 17 23 (.len 1 (.t 22)),oF 17 24 (.bin 0 [] .neq (.t 20) (.t 23)),oO 25 (.pick (.t 17) (.c bT) (.t 24))] (.cond (.t 25) (sr [oC 4 bF] .ret) .skip)) (.seq (sr [oZ 5 0] (.block 0 L12_0)) (.seq (sr [oZ 6 0] (.block 2 L12_2)) (sr [oC 4 bT] .ret)))))⟩
theorem ok12:zh Tryz.prog Tryz.f12 F12=true:=by kernel_rfl
end PE.U

set_option maxRecDepth 100000
namespace PE.U
open Go PE Go.Proofs
def F68:IFn:=⟨21,1,[.tmp 2],false,false,none,(sr [oC 2 bF] (sr [oM 3 0,oB 4 .geq (.t 3) (.c (.int .u8 97)),oM 5 4,oTm 5 6 0,oT 5 7 (.bin 0 [] .leq (.t 6) (.c (.int .u8 122))),oO 8 (.pick (.t 5) (.t 7) (.c bF)),oM 9 8,oFm 9 10 0,oF 9 11 (.bin 0 [] .geq (.t 10) (.c (.int .u8 65))),oFm 9 12 11,oTm 12 13 0,oT 12 14 (.bin 0 [] .leq (.t 13) (.c (.int .u8 90))),oF 9 15 (.pick (.t 12) (.t 14) (.c bF)),oO 16 (.pick (.t 9) (.c bT) (.t 15)),oM 17 16,oFm 17 18 0,oF 17 19 (.bin 0 [] .eql (.t 18) (.c (.int .u8 95))),oO 20 (.pick (.t 17) (.c bT) (.t 19)),oM 2 20] .ret))⟩
theorem ok68:zh Tryz.prog Tryz.f68 F68=true:=by kernel_rfl
def F69:IFn:=⟨23,1,[.tmp 2],false,false,none,(sr [oC 2 bF] (.seq (sr [oM 3 0] (.block 0 (.seq (sr [oB 5 .eql (.t 3) (.c (.str [105,110,116])),oM 4 5] (.cond (.t 4) .skip (sr [oB 6 .eql (.t 3) (.c (.str [98,111,111,108])),oM 4 6] (.cond (.t 4) .skip (sr [oB 7 .eql (.t 3) (.c (.str [105,102])),oM 4 7] (.cond (.t 4) .skip (sr [oB 8 .eql (.t 3) (.c (.str [101,108,115,101])),oM 4 8] (.cond (.t 4) .skip (sr [oB 9 .eql (.t 3) (.c (.str [119,104,105,108,101])),oM 4 9] (.cond (.t 4) .skip (sr [oB 10 .eql (.t 3) (.c (.str [98,114,101,97,107])),oM 4 10] (.cond (.t 4) .skip (sr [oB 11 .eql (.t 3) (.c (.str [99,111,110,116,105,110,117,101])),oM 4 11] (.cond (.t 4) .skip (sr [oB 12 .eql (.t 3) (.c (.str [114,101,116,117,114,110])),oM 4 12] (.cond (.t 4) .skip (sr [oB 13 .eql (.t 3) (.c (.str [112,114,105,110,116])),oM 4 13] (.cond (.t 4) .skip (sr [oB 14 .eql (.t 3) (.c (.str [114,101,97,100])),oM 4 14] (.cond (.t 4) .skip (sr [oB 15 .eql (.t 3) (.c (.str [116,114,117,101])),oM 4 15] (.cond (.t 4) .skip (sr [oB 16 .eql (.t 3) (.c (.str [102,97,108,115,101])),oM 4 16] (.cond (.t 4) .skip (sr [oB 17 .eql (.t 3) (.c (.str [105,56])),oM 4 17] (.cond (.t 4) .skip (sr [oB 18 .eql (.t 3) (.c (.str [105,49,54])),oM 4 18] (.cond (.t 4) .skip (sr [oB 19 .eql (.t 3) (.c (.str [105,51,50])),oM 4 19] (.cond (.t 4) .skip (sr [oB 20 .eql (.t 3) (.c (.str [117,56])),oM 4 20] (.cond (.t 4) .skip (sr [oB 21 .eql (.t 3) (.c (.str [117,49,54])),oM 4 21] (.cond (.t 4) .skip (.region [oB 22 .eql (.t 3) (.c (.str [117,51,50])),oM 4 22]))))))))))))))))))))))))))))))))))) (.cond (.t 4) (sr [oC 2 bT] .ret) .skip)))) (sr [oC 2 bF] .ret)))⟩
theorem ok69:zh Tryz.prog Tryz.f69 F69=true:=by kernel_rfl
def F70:IFn:=⟨9,1,[.tmp 2],false,false,none,(sr [oC 2 bF] (sr [oM 3 0,oB 4 .geq (.t 3) (.c (.int .u8 48)),oM 5 4,oTm 5 6 0,oT 5 7 (.bin 0 [] .leq (.t 6) (.c (.int .u8 57))),oO 8 (.pick (.t 5) (.t 7) (.c bF)),oM 2 8] .ret))⟩
theorem ok70:zh Tryz.prog Tryz.f70 F70=true:=by kernel_rfl
def L42_0:ICode:= .loop [0,3] []
 (.seq
 (sr [
 oM 21 3,
 oM 22 0,
 oO 23 (.len 0 (.t 22)),
 oP 24 .lss 21 23]
 (.cond (.t 24)
 .skip
 (.exit 0)))
 (.seq
 (.block 1
 (sr [
 oM 27 0,
 oM 28 3,
 oO 29 (.idxS (.t 27) (.t 28)),
 cP 30 68 [.t 29],
 oU 31 30,
 oM 32 31,
 oTm 32 33 0,
 oTm 32 34 3,
 oT 32 35 (.idxS (.t 33) (.t 34)),
 oT 32 36 (pP 70 [.t 35]),
 oT 32 37 (.un .not (.t 36)),
 oO 38 (.pick (.t 32) (.t 37) (.c bF))]
 (.cond (.t 38)
 (sr [
 oC 2 bF]
 .ret)
 .skip)))
 (.region [
 oM 25 3,
 oD 26 .add 25 1,
 oM 3 26])))
abbrev K42_0:List Nat:=[0]
abbrev B42_0:List Nat:=[]
def F42:IFn:=⟨39,1,[.tmp 2],false,false,none,(sr [oC 2 bF] (.seq (sr [oM 4 0,oB 5 .eql (.t 4) (.c (.str [])),oM 6 5,oFm 6 7 0,oF 6 8 (.len 0 (.t 7)),oF 6 9 (.bin 0 [] .gtr (.t 8) (cI 20)),oO 10 (.pick (.t 6) (.c bT) (.t 9)),oM 11 10,oFm 11 12 0,oF 11 13 (.idxS (.t 12) (cI 0)),oF 11 14 (pP 68 [.t 13]),oF 11 15 (.un .not (.t 14)),oO 16 (.pick (.t 11) (.c bT) (.t 15)),oM 17 16,oFm 17 18 0,oF 17 19 (pP 69 [.t 18]),oO 20 (.pick (.t 17) (.c bT) (.t 19))] (.cond (.t 20) (sr [oC 2 bF] .ret) .skip)) (.seq (sr [oZ 3 0] (.block 0 L42_0)) (sr [oC 2 bT] .ret))))⟩
theorem ok42:zh Tryz.prog Tryz.f42 F42=true:=by kernel_rfl
def F43:IFn:=⟨9,1,[.tmp 2],false,false,none,(sr [oC 2 bF] (sr [oM 3 0,oD 4 .eql 3 1,oM 5 4,oFm 5 6 0,oF 5 7 (.bin 0 [] .eql (.t 6) (cI 2)),oO 8 (.pick (.t 5) (.c bT) (.t 7)),oM 2 8] .ret))⟩
theorem ok43:zh Tryz.prog Tryz.f43 F43=true:=by kernel_rfl
def F71:IFn:=⟨25,1,[.tmp 2,.tmp 3,.tmp 4,.tmp 5,.tmp 6],false,false,none,(sr [oC 2 bF,oC 3 bF,oZ 4 0,oC 5 bF,oC 6 bF] (.seq (sr [oM 7 0] (.block 0 (sr [oD 9 .eql 7 1,oM 8 9] (.cond (.t 8) (sr [oC 2 bT,oC 3 bT,oZ 4 1,oC 5 bF,oC 6 bF] .ret) (sr [oD 11 .eql 7 2,oM 10 11] (.cond (.t 10) (sr [oC 2 bF,oC 3 bT,oZ 4 1,oC 5 bF,oC 6 bF] .ret) (sr [oD 13 .eql 7 3,oM 12 13] (.cond (.t 12) (sr [oC 2 bF,oC 3 bT,oZ 4 2,oC 5 bF,oC 6 bF] .ret) (sr [oD 15 .eql 7 4,oM 14 15] (.cond (.t 14) (sr [oC 2 bF,oC 3 bF,oZ 4 1,oC 5 bT,oC 6 bT] .ret) (sr [oD 17 .eql 7 5,oM 16 17] (.cond (.t 16) (sr [oC 2 bF,oC 3 bF,oZ 4 1,oC 5 bT,oC 6 bF] .ret) (.seq (sr [oD 19 .eql 7 6,oM 18 19] (.cond (.t 18) .skip (.region [oD 20 .eql 7 7,oM 18 20]))) (.cond (.t 18) (sr [oC 2 bF,oC 3 bF,oZ 4 0,oC 5 bF,oC 6 bF] .ret) (.seq (sr [oD 22 .eql 7 8,oM 21 22] (.cond (.t 21) .skip (sr [oD 23 .eql 7 9,oM 21 23] (.cond (.t 21) .skip (.region [oD 24 .eql 7 10,oM 21 24]))))) (.cond (.t 21) (sr [oC 2 bF,oC 3 bF,oZ 4 1,oC 5 bF,oC 6 bF] .ret) .skip)))))))))))))))) (sr [oC 2 bF,oC 3 bF,oO 4 (.mv (cI (-1))),oC 5 bF,oC 6 bF] .ret)))⟩
theorem ok71:zh Tryz.prog Tryz.f71 F71=true:=by kernel_rfl
def F75:IFn:=⟨33,1,[.tmp 2],false,false,none,(sr [oZ 2 0] (.seq (sr [oM 3 0] (.block 0 (sr [oD 5 .eql 3 19,oM 4 5] (.cond (.t 4) (sr [oZ 2 1] .ret) (sr [oD 7 .eql 3 18,oM 6 7] (.cond (.t 6) (sr [oZ 2 2] .ret) (sr [oD 9 .eql 3 7,oM 8 9] (.cond (.t 8) (sr [oZ 2 3] .ret) (sr [oD 11 .eql 3 8,oM 10 11] (.cond (.t 10) (sr [oZ 2 4] .ret) (sr [oD 13 .eql 3 6,oM 12 13] (.cond (.t 12) (sr [oZ 2 5] .ret) (.seq (sr [oD 15 .eql 3 16,oM 14 15] (.cond (.t 14) .skip (.region [oD 16 .eql 3 17,oM 14 16]))) (.cond (.t 14) (sr [oZ 2 6] .ret) (.seq (sr [oD 18 .eql 3 12,oM 17 18] (.cond (.t 17) .skip (sr [oD 19 .eql 3 13,oM 17 19] (.cond (.t 17) .skip (sr [oD 20 .eql 3 14,oM 17 20] (.cond (.t 17) .skip (.region [oD 21 .eql 3 15,oM 17 21]))))))) (.cond (.t 17) (sr [oZ 2 7] .ret) (.seq (sr [oD 23 .eql 3 9,oM 22 23] (.cond (.t 22) .skip (sr [oD 24 .eql 3 10,oM 22 24] (.cond (.t 22) .skip (.region [oD 25 .eql 3 11,oM 22 25]))))) (.cond (.t 22) (sr [oZ 2 8] .ret) (.seq (sr [oD 27 .eql 3 1,oM 26 27] (.cond (.t 26) .skip (.region [oD 28 .eql 3 2,oM 26 28]))) (.cond (.t 26) (sr [oZ 2 9] .ret) (.seq (sr [oD 30 .eql 3 3,oM 29 30] (.cond (.t 29) .skip (sr [oD 31 .eql 3 4,oM 29 31] (.cond (.t 29) .skip (.region [oD 32 .eql 3 5,oM 29 32]))))) (.cond (.t 29) (sr [oZ 2 10] .ret) .skip)))))))))))))))))))))) (sr [oZ 2 0] .ret)))⟩
theorem ok75:zh Tryz.prog Tryz.f75 F75=true:=by kernel_rfl
def F98:IFn:=⟨9,1,[.tmp 2],false,false,none,(sr [oC 2 bF] (sr [oM 3 0,oD 4 .geq 3 20,oM 5 4,oTm 5 6 0,oT 5 7 (.bin 0 [] .leq (.t 6) (cI 28)),oO 8 (.pick (.t 5) (.t 7) (.c bF)),oM 2 8] .ret))⟩
theorem ok98:zh Tryz.prog Tryz.f98 F98=true:=by kernel_rfl
def L72_0:ICode:= .loop [1,2,5] []
 (.seq
 (sr [
 oM 9 5,
 oA 10 4 2,
 oL 11 2 10,
 oY 12 11,
 oP 13 .lss 9 12]
 (.cond (.t 13)
 .skip
 (.exit 0)))
 (.seq
 (.block 1
 (sr [
 oM 16 1,
 oD 17 .lss 16 2,
 oM 18 17,
 oF 18 19 (.faddr 4 (.t 2)),
 oF 18 20 (.load (.box 2) false 1 (.t 19)),
 oFm 18 21 5,
 oF 18 22 (.iaddr 5 (.t 20) (.t 21)),
 oF 18 23 (.load .any true 5 (.t 22)),
 oFm 18 24 1,
 oF 18 25 (.bin 0 [] .sub (.t 24) (cI 1)),
 oF 18 26 (pP 72 [.t 23,.t 25]),
 oF 18 27 (.un .not (.t 26)),
 oO 28 (.pick (.t 18) (.c bT) (.t 27))]
 (.cond (.t 28)
 (sr [
 oC 4 bF]
 .ret)
 .skip)))
 (.region [
 oM 14 5,
 oD 15 .add 14 1,
 oM 5 15])))
abbrev K72_0:List Nat:=[1,2]
abbrev B72_0:List Nat:=[2]
def F72:IFn:=⟨169,2,[.tmp 4],false,false,none,(sr [oO 2 (.boxL 2 (.t 0)),oC 4 bF] (.seq (sr [oZ 5 0] (.block 0 L72_0)) (sr [oA 29 1 2,oL 30 2 29,oD 31 .eql 30 0,oM 32 31,oT 32 33 (.faddr 2 (.t 2)),oT 32 34 (.load (.box 2) false 1 (.t 33)),oT 32 35 (.bin 0 [] .eql (.t 34) (cI 0)),oO 36 (.pick (.t 32) (.t 35) (.c bF)),oM 6 36] (sr [oA 37 3 2,oL 38 2 37,cP 39 42 [.t 38],oM 7 39] (sr [oA 40 4 2,oL 41 2 40,oY 42 41,oM 8 42] (.seq (sr [oA 43 0 2,oL 44 2 43] (.block 2 (sr [oD 46 .eql 44 1,oM 45 46] (.cond (.t 45) (sr [oA 47 1 2,oL 48 2 47,oD 49 .eql 48 0,oM 50 49,oT 50 51 (.faddr 2 (.t 2)),oT 50 52 (.load (.box 2) false 1 (.t 51)),oT 50 53 (.bin 0 [] .geq (.t 52) (cI 0)),oO 54 (.pick (.t 50) (.t 53) (.c bF)),oM 55 54,oT 55 56 (.faddr 3 (.t 2)),oT 55 57 (.load (.box 2) false 1 (.t 56)),oT 55 58 (.bin 0 [] .eql (.t 57) (.c (.str []))),oO 59 (.pick (.t 55) (.t 58) (.c bF)),oM 60 59,oTm 60 61 8,oT 60 62 (.bin 0 [] .eql (.t 61) (cI 0)),oO 63 (.pick (.t 60) (.t 62) (.c bF)),oM 4 63] .ret) (sr [oD 65 .eql 44 2,oM 64 65] (.cond (.t 64) (sr [oA 66 1 2,oL 67 2 66,oD 68 .eql 67 0,oM 69 68,oT 69 70 (.faddr 2 (.t 2)),oT 69 71 (.load (.box 2) false 1 (.t 70)),oT 69 72 (.bin 0 [] .eql (.t 71) (cI 0)),oTm 69 73 72,oF 73 74 (.faddr 2 (.t 2)),oF 73 75 (.load (.box 2) false 1 (.t 74)),oF 73 76 (.bin 0 [] .eql (.t 75) (cI 1)),oT 69 77 (.pick (.t 73) (.c bT) (.t 76)),oO 78 (.pick (.t 69) (.t 77) (.c bF)),oM 79 78,oT 79 80 (.faddr 3 (.t 2)),oT 79 81 (.load (.box 2) false 1 (.t 80)),oT 79 82 (.bin 0 [] .eql (.t 81) (.c (.str []))),oO 83 (.pick (.t 79) (.t 82) (.c bF)),oM 84 83,oTm 84 85 8,oT 84 86 (.bin 0 [] .eql (.t 85) (cI 0)),oO 87 (.pick (.t 84) (.t 86) (.c bF)),oM 4 87] .ret) (sr [oD 89 .eql 44 3,oM 88 89] (.cond (.t 88) (sr [oM 90 6,oM 91 90,oTm 91 92 7,oO 93 (.pick (.t 91) (.t 92) (.c bF)),oM 94 93,oTm 94 95 8,oT 94 96 (.bin 0 [] .eql (.t 95) (cI 0)),oO 97 (.pick (.t 94) (.t 96) (.c bF)),oM 4 97] .ret) (sr [oD 99 .eql 44 4,oM 98 99] (.cond (.t 98) (sr [oA 100 1 2,oL 101 2 100,cP 102 98 [.t 101],oM 103 102,oT 103 104 (.faddr 2 (.t 2)),oT 103 105 (.load (.box 2) false 1 (.t 104)),oT 103 106 (.bin 0 [] .eql (.t 105) (cI 0)),oO 107 (.pick (.t 103) (.t 106) (.c bF)),oM 108 107,oT 108 109 (.faddr 3 (.t 2)),oT 108 110 (.load (.box 2) false 1 (.t 109)),oT 108 111 (.bin 0 [] .eql (.t 110) (.c (.str []))),oO 112 (.pick (.t 108) (.t 111) (.c bF)),oM 113 112,oTm 113 114 8,oT 113 115 (.bin 0 [] .eql (.t 114) (cI 1)),oO 116 (.pick (.t 113) (.t 115) (.c bF)),oM 4 116] .ret) (sr [oD 118 .eql 44 5,oM 117 118] (.cond (.t 117) (sr [oA 119 1 2,oL 120 2 119,cP 121 75 [.t 120],oD 122 .gtr 121 0,oM 123 122,oT 123 124 (.faddr 2 (.t 2)),oT 123 125 (.load (.box 2) false 1 (.t 124)),oT 123 126 (.bin 0 [] .eql (.t 125) (cI 0)),oO 127 (.pick (.t 123) (.t 126) (.c bF)),oM 128 127,oT 128 129 (.faddr 3 (.t 2)),oT 128 130 (.load (.box 2) false 1 (.t 129)),oT 128 131 (.bin 0 [] .eql (.t 130) (.c (.str []))),oO 132 (.pick (.t 128) (.t 131) (.c bF)),oM 133 132,oTm 133 134 8,oT 133 135 (.bin 0 [] .eql (.t 134) (cI 2)),oO 136 (.pick (.t 133) (.t 135) (.c bF)),oM 4 136] .ret) (sr [oD 138 .eql 44 6,oM 137 138] (.cond (.t 137) (sr [oM 139 6,oM 140 139,oTm 140 141 7,oO 142 (.pick (.t 140) (.t 141) (.c bF)),oM 143 142,oTm 143 144 8,oT 143 145 (.bin 0 [] .eql (.t 144) (cI 1)),oO 146 (.pick (.t 143) (.t 145) (.c bF)),oM 4 146] .ret) (sr [oD 148 .eql 44 7,oM 147 148] (.cond (.t 147) (sr [oM 149 6,oM 150 149,oTm 150 151 7,oO 152 (.pick (.t 150) (.t 151) (.c bF)),oM 153 152,oTm 153 154 8,oT 153 155 (.bin 0 [] .leq (.t 154) (cI 8)),oO 156 (.pick (.t 153) (.t 155) (.c bF)),oM 4 156] .ret) (sr [oD 158 .eql 44 8,oM 157 158] (.cond (.t 157) (sr [oM 159 6,oM 160 159,oT 160 161 (.faddr 3 (.t 2)),oT 160 162 (.load (.box 2) false 1 (.t 161)),oT 160 163 (.bin 0 [] .eql (.t 162) (.c (.str []))),oO 164 (.pick (.t 160) (.t 163) (.c bF)),oM 165 164,oTm 165 166 8,oT 165 167 (.bin 0 [] .eql (.t 166) (cI 0)),oO 168 (.pick (.t 165) (.t 167) (.c bF)),oM 4 168] .ret) .skip)))))))))))))))))) (sr [oC 4 bF] .ret)))))))⟩
theorem ok72:zh Tryz.prog Tryz.f72 F72=true:=by kernel_rfl
def L44_0:ICode:= .loop [0,1,5,6,9,10,11,12] []
 (.seq
 (sr [
 oM 78 12,
 oM 79 9,
 oP 80 .lss 78 79]
 (.cond (.t 80)
 .skip
 (.exit 2)))
 (.seq
 (.block 3
 (sr [
 oA 83 3 6,
 oL 84 6 83,
 oM 85 12,
 oI 86 5 84 85,
 oW 87 5 86,
 cP 88 72 [.t 87,cI 100],
 oU 89 88]
 (.cond (.t 89)
 (sr [
 oC 4 bF]
 .ret)
 .skip)))
 (.region [
 oM 81 12,
 oD 82 .add 81 1,
 oM 12 82])))
def L44_1:ICode:= .loop [0,1,5] [6]
 (.seq
 (sr [
 oM 13 5,
 oM 14 0,
 oY 15 14,
 oP 16 .lss 13 15]
 (.cond (.t 16)
 .skip
 (.exit 0)))
 (.seq
 (.block 1
 (sr [
 oM 19 0,
 oM 20 5,
 oI 21 6 19 20,
 oW 22 6 21,
 oO 6 (.boxL 6 (.c (.agg [.int .i64 0,.int .i64 0,.str [],.slice .fit 5 [],.slice .fit 6 [],.slice .fit 6 []]))),
 oS 6 6 6 22]
 (sr [
 oA 24 0 6,
 oL 25 6 24,
 cP 26 71 [.t 25],
 oM 23 26,
 oX 27 23 0,
 oX 28 23 1,
 oX 29 23 2,
 oX 30 23 3,
 oX 31 23 4,
 oM 7 27,
 oM 8 28,
 oM 9 29,
 oM 10 30,
 oM 11 31]
 (.seq
 (sr [
 oM 32 1,
 oD 33 .lss 32 1,
 oM 34 33,
 oF 34 35 (.faddr 3 (.t 6)),
 oF 34 36 (.load (.box 6) false 1 (.t 35)),
 oF 34 37 (.len 1 (.t 36)),
 oFm 34 38 9,
 oF 34 39 (.bin 0 [] .neq (.t 37) (.t 38)),
 oO 40 (.pick (.t 34) (.c bT) (.t 39)),
 oM 41 40,
 oFm 41 42 7,
 oF 41 43 (.faddr 1 (.t 6)),
 oF 41 44 (.load (.box 6) false 1 (.t 43)),
 oF 41 45 (.bin 0 [] .eql (.t 44) (cI 1)),
 oFm 41 46 45,
 oF 46 47 (.faddr 1 (.t 6)),
 oF 46 48 (.load (.box 6) false 1 (.t 47)),
 oF 46 49 (.bin 0 [] .eql (.t 48) (cI 2)),
 oF 41 50 (.pick (.t 46) (.c bT) (.t 49)),
 oF 41 51 (.bin 1 [] .neq (.t 42) (.t 50)),
 oO 52 (.pick (.t 41) (.c bT) (.t 51)),
 oM 53 52,
 oFm 53 54 7,
 oF 53 55 (.un .not (.t 54)),
 oFm 53 56 55,
 oT 56 57 (.faddr 1 (.t 6)),
 oT 56 58 (.load (.box 6) false 1 (.t 57)),
 oT 56 59 (.bin 0 [] .neq (.t 58) (cI 0)),
 oF 53 60 (.pick (.t 56) (.t 59) (.c bF)),
 oO 61 (.pick (.t 53) (.c bT) (.t 60)),
 oM 62 61,
 oFm 62 63 8,
 oF 62 64 (.faddr 2 (.t 6)),
 oF 62 65 (.load (.box 6) false 1 (.t 64)),
 oF 62 66 (pP 42 [.t 65]),
 oF 62 67 (.bin 1 [] .neq (.t 63) (.t 66)),
 oO 68 (.pick (.t 62) (.c bT) (.t 67)),
 oM 69 68,
 oFm 69 70 8,
 oF 69 71 (.un .not (.t 70)),
 oFm 69 72 71,
 oT 72 73 (.faddr 2 (.t 6)),
 oT 72 74 (.load (.box 6) false 1 (.t 73)),
 oT 72 75 (.bin 0 [] .neq (.t 74) (.c (.str []))),
 oF 69 76 (.pick (.t 72) (.t 75) (.c bF)),
 oO 77 (.pick (.t 69) (.c bT) (.t 76))]
 (.cond (.t 77)
 (sr [
 oC 4 bF]
 .ret)
 .skip))
 (.seq
 (sr [
 oZ 12 0]
 (.block 2
 L44_0))
 (sr [
 oA 90 0 6,
 oL 91 6 90,
 oD 92 .eql 91 10,
 oM 93 92,
 oT 93 94 (.faddr 3 (.t 6)),
 oT 93 95 (.load (.box 6) false 1 (.t 94)),
 oT 93 96 (.iaddr 5 (.t 95) (cI 0)),
 oT 93 97 (.faddr 0 (.t 96)),
 oT 93 98 (.load .any false 1 (.t 97)),
 oT 93 99 (.bin 0 [] .neq (.t 98) (cI 7)),
 oO 100 (.pick (.t 93) (.t 99) (.c bF)),
 oM 101 100,
 oFm 101 102 10,
 oF 101 103 (.un .not (.t 102)),
 oFm 101 104 103,
 oT 104 105 (.faddr 4 (.t 6)),
 oT 104 106 (.load (.box 6) false 1 (.t 105)),
 oT 104 107 (.len 1 (.t 106)),
 oT 104 108 (.bin 0 [] .gtr (.t 107) (cI 0)),
 oF 101 109 (.pick (.t 104) (.t 108) (.c bF)),
 oO 110 (.pick (.t 101) (.c bT) (.t 109)),
 oM 111 110,
 oFm 111 112 11,
 oF 111 113 (.un .not (.t 112)),
 oFm 111 114 113,
 oT 114 115 (.faddr 5 (.t 6)),
 oT 114 116 (.load (.box 6) false 1 (.t 115)),
 oT 114 117 (.len 1 (.t 116)),
 oT 114 118 (.bin 0 [] .gtr (.t 117) (cI 0)),
 oF 111 119 (.pick (.t 114) (.t 118) (.c bF)),
 oO 120 (.pick (.t 111) (.c bT) (.t 119)),
 oM 121 120,
 oF 121 122 (.faddr 4 (.t 6)),
 oF 121 123 (.load (.box 6) false 1 (.t 122)),
 oFm 121 124 1,
 oF 121 125 (.bin 0 [] .sub (.t 124) (cI 1)),
 oF 121 126 (pP 44 [.t 123,.t 125]),
 oF 121 127 (.un .not (.t 126)),
 oO 128 (.pick (.t 121) (.c bT) (.t 127)),
 oM 129 128,
 oF 129 130 (.faddr 5 (.t 6)),
 oF 129 131 (.load (.box 6) false 1 (.t 130)),
 oFm 129 132 1,
 oF 129 133 (.bin 0 [] .sub (.t 132) (cI 1)),
 oF 129 134 (pP 44 [.t 131,.t 133]),
 oF 129 135 (.un .not (.t 134)),
 oO 136 (.pick (.t 129) (.c bT) (.t 135))]
 (.cond (.t 136)
 (sr [
 oC 4 bF]
 .ret)
 .skip)))))))
 (.region [
 oM 17 5,
 oD 18 .add 17 1,
 oM 5 18])))
abbrev K44_0:List Nat:=[0,1,5,6,9,10,11]
abbrev B44_0:List Nat:=[6]
abbrev K44_1:List Nat:=[0,1]
abbrev B44_1:List Nat:=[]
def F44:IFn:=⟨137,2,[.tmp 4],false,false,none,(sr [oC 4 bF] (.seq (sr [oZ 5 0] (.block 0 L44_1)) (sr [oC 4 bT] .ret)))⟩
theorem ok44:zh Tryz.prog Tryz.f44 F44=true:=by kernel_rfl
def L22_0:ICode:= .loop [1,3] []
 (.seq
 (sr [
 oM 7 3,
 oA 8 0 1,
 oL 9 1 8,
 oY 10 9,
 oP 11 .lss 7 10]
 (.cond (.t 11)
 .skip
 (.exit 0)))
 (.seq
 (.block 1
 (sr [
 oA 14 0 1,
 oL 15 1 14,
 oM 16 3,
 oI 17 2 15 16,
 oA 18 0 17,
 oG 19 18,
 cP 20 42 [.t 19],
 oU 21 20,
 oM 22 21,
 oF 22 23 (.faddr 0 (.t 1)),
 oF 22 24 (.load (.box 1) false 1 (.t 23)),
 oFm 22 25 3,
 oF 22 26 (.iaddr 2 (.t 24) (.t 25)),
 oF 22 27 (.faddr 1 (.t 26)),
 oF 22 28 (.load .any false 1 (.t 27)),
 oF 22 29 (.bin 0 [] .lss (.t 28) (cI 1)),
 oO 30 (.pick (.t 22) (.c bT) (.t 29)),
 oM 31 30,
 oF 31 32 (.faddr 0 (.t 1)),
 oF 31 33 (.load (.box 1) false 1 (.t 32)),
 oFm 31 34 3,
 oF 31 35 (.iaddr 2 (.t 33) (.t 34)),
 oF 31 36 (.faddr 1 (.t 35)),
 oF 31 37 (.load .any false 1 (.t 36)),
 oF 31 38 (.bin 0 [] .gtr (.t 37) (cI 1000)),
 oO 39 (.pick (.t 31) (.c bT) (.t 38))]
 (.cond (.t 39)
 (sr [
 oC 2 bF]
 .ret)
 .skip)))
 (.region [
 oM 12 3,
 oD 13 .add 12 1,
 oM 3 13])))
def L22_1:ICode:= .loop [1,4,5,6] []
 (.seq
 (sr [
 oM 74 6,
 oA 75 2 5,
 oL 76 5 75,
 oY 77 76,
 oP 78 .lss 74 77]
 (.cond (.t 78)
 .skip
 (.exit 4)))
 (.seq
 (.block 5
 (sr [
 oA 81 2 5,
 oL 82 5 81,
 oM 83 6,
 oI 84 2 82 83,
 oA 85 0 84,
 oG 86 85,
 cP 87 42 [.t 86],
 oU 88 87,
 oM 89 88,
 oF 89 90 (.faddr 2 (.t 5)),
 oF 89 91 (.load (.box 5) false 1 (.t 90)),
 oFm 89 92 6,
 oF 89 93 (.iaddr 2 (.t 91) (.t 92)),
 oF 89 94 (.faddr 1 (.t 93)),
 oF 89 95 (.load .any false 1 (.t 94)),
 oF 89 96 (pP 43 [.t 95]),
 oF 89 97 (.un .not (.t 96)),
 oO 98 (.pick (.t 89) (.c bT) (.t 97))]
 (.cond (.t 98)
 (sr [
 oC 2 bF]
 .ret)
 .skip)))
 (.region [
 oM 79 6,
 oD 80 .add 79 1,
 oM 6 80])))
def L22_2:ICode:= .loop [1,4] [5]
 (.seq
 (sr [
 oM 40 4,
 oA 41 1 1,
 oL 42 1 41,
 oY 43 42,
 oP 44 .lss 40 43]
 (.cond (.t 44)
 .skip
 (.exit 2)))
 (.seq
 (.block 3
 (sr [
 oA 47 1 1,
 oL 48 1 47,
 oM 49 4,
 oI 50 4 48 49,
 oW 51 4 50,
 oO 5 (.boxL 5 (.c (.agg [.str [],.int .i64 0,.slice .fit 2 [],.slice .fit 6 []]))),
 oS 5 4 5 51]
 (.seq
 (sr [
 oA 52 0 5,
 oL 53 5 52,
 cP 54 42 [.t 53],
 oU 55 54,
 oM 56 55,
 oF 56 57 (.faddr 1 (.t 5)),
 oF 56 58 (.load (.box 5) false 1 (.t 57)),
 oF 56 59 (pP 43 [.t 58]),
 oF 56 60 (.un .not (.t 59)),
 oO 61 (.pick (.t 56) (.c bT) (.t 60)),
 oM 62 61,
 oF 62 63 (.faddr 2 (.t 5)),
 oF 62 64 (.load (.box 5) false 1 (.t 63)),
 oF 62 65 (.len 1 (.t 64)),
 oF 62 66 (.bin 0 [] .gtr (.t 65) (cI 8)),
 oO 67 (.pick (.t 62) (.c bT) (.t 66)),
 oM 68 67,
 oF 68 69 (.faddr 3 (.t 5)),
 oF 68 70 (.load (.box 5) false 1 (.t 69)),
 oF 68 71 (pP 44 [.t 70,cI 100]),
 oF 68 72 (.un .not (.t 71)),
 oO 73 (.pick (.t 68) (.c bT) (.t 72))]
 (.cond (.t 73)
 (sr [
 oC 2 bF]
 .ret)
 .skip))
 (sr [
 oZ 6 0]
 (.block 4
 L22_1)))))
 (.region [
 oM 45 4,
 oD 46 .add 45 1,
 oM 4 46])))
abbrev K22_0:List Nat:=[1]
abbrev B22_0:List Nat:=[1]
abbrev K22_1:List Nat:=[1,4,5]
abbrev B22_1:List Nat:=[1,5]
abbrev K22_2:List Nat:=[1]
abbrev B22_2:List Nat:=[1]
def F22:IFn:=⟨99,1,[.tmp 2],false,false,none,(sr [oO 1 (.boxL 1 (.t 0)),oC 2 bF] (.seq (sr [oZ 3 0] (.block 0 L22_0)) (.seq (sr [oZ 4 0] (.block 2 L22_2)) (sr [oC 2 bT] .ret))))⟩
theorem ok22:zh Tryz.prog Tryz.f22 F22=true:=by kernel_rfl
def F23:IFn:=⟨18,1,[.tmp 2],false,false,none,(sr [oC 2 (.str [])] (sr [oM 4 0,oD 5 .rem 4 10,oB 6 .add (cI 48) (.t 5),oO 7 (.conv .u8 (.t 6)),oO 8 (.bslice 1 (.int .u8 0) 1 [(0,(.t 7))]),oO 9 (.bstr (.t 8)),oM 3 9] (.seq (sr [oM 10 0,oD 11 .lss 10 10] (.cond (.t 11) (sr [oM 12 3,oM 2 12] .ret) .skip)) (sr [oM 13 0,oD 14 .quo 13 10,cP 15 23 [.t 14],oM 16 3,oP 17 .add 15 16,oM 2 17] .ret))))⟩
theorem ok23:zh Tryz.prog Tryz.f23 F23=true:=by kernel_rfl
def F24:IFn:=⟨5,1,[.tmp 2],false,false,none,(sr [oC 2 (.str [])] (.seq (sr [oM 3 0,oD 4 .eql 3 1] (.cond (.t 4) (sr [oC 2 (.str [105,110,116])] .ret) .skip)) (sr [oC 2 (.str [98,111,111,108])] .ret)))⟩
theorem ok24:zh Tryz.prog Tryz.f24 F24=true:=by kernel_rfl
def F99:IFn:=⟨2,0,[.tmp 0],false,false,none,(sr [oC 0 (.slice .fit 1 [])] (sr [oO 1 (.bslice 1 (.str []) 28 [(0,(.c (.str [43]))),(1,(.c (.str [45]))),(2,(.c (.str [42]))),(3,(.c (.str [47]))),(4,(.c (.str [37]))),(5,(.c (.str [38]))),(6,(.c (.str [124]))),(7,(.c (.str [94]))),(8,(.c (.str [60,60]))),(9,(.c (.str [62,62]))),(10,(.c (.str [62,62,62]))),(11,(.c (.str [60]))),(12,(.c (.str [60,61]))),(13,(.c (.str [62]))),(14,(.c (.str [62,61]))),(15,(.c (.str [61,61]))),(16,(.c (.str [33,61]))),(17,(.c (.str [38,38]))),(18,(.c (.str [124,124]))),(19,(.c (.str [45]))),(20,(.c (.str [126]))),(21,(.c (.str [33]))),(22,(.c (.str [105,56]))),(23,(.c (.str [105,49,54]))),(24,(.c (.str [105,51,50]))),(25,(.c (.str [117,56]))),(26,(.c (.str [117,49,54]))),(27,(.c (.str [117,51,50])))]),oE 0 1] .ret))⟩
theorem ok99:zh Tryz.prog Tryz.f99 F99=true:=by kernel_rfl
def F73:IFn:=⟨14,1,[.tmp 2],false,false,none,(sr [oC 2 (.str [])] (.seq (sr [oM 3 0,oD 4 .lss 3 1,oM 5 4,oFm 5 6 0,oF 5 7 (.bin 0 [] .gtr (.t 6) (cI 28)),oO 8 (.pick (.t 5) (.c bT) (.t 7))] (.cond (.t 8) (sr [oC 2 (.str [])] .ret) .skip)) (sr [cP 9 99 [],oM 10 0,oD 11 .sub 10 1,oI 12 1 9 11,oG 13 12,oM 2 13] .ret)))⟩
theorem ok73:zh Tryz.prog Tryz.f73 F73=true:=by kernel_rfl
def F74:IFn:=⟨21,2,[.tmp 4],false,false,none,(sr [oO 2 (.boxL 2 (.t 0)),oC 4 (.str [])] (.seq (sr [oA 5 0 2,oL 6 2 5,oD 7 .eql 6 5,oM 8 7,oT 8 9 (.faddr 1 (.t 2)),oT 8 10 (.load (.box 2) false 1 (.t 9)),oT 8 11 (pP 75 [.t 10]),oTm 8 12 1,oT 8 13 (.bin 0 [] .lss (.t 11) (.t 12)),oO 14 (.pick (.t 8) (.t 13) (.c bF))] (.cond (.t 14) (sr [oLa 15 2 5 2,cP 16 45 [.t 15],oB 17 .add (.c (.str [40])) (.t 16),oB 18 .add (.t 17) (.c (.str [41])),oM 4 18] .ret) .skip)) (sr [oLa 19 2 5 2,cP 20 45 [.t 19],oM 4 20] .ret)))⟩
theorem ok74:zh Tryz.prog Tryz.f74 F74=true:=by kernel_rfl
def L45_0:ICode:= .loop [1,4,5] []
 (.seq
 (sr [
 oM 86 5,
 oA 87 4 1,
 oL 88 1 87,
 oY 89 88,
 oP 90 .lss 86 89]
 (.cond (.t 90)
 .skip
 (.exit 1)))
 (.seq
 (.block 2
 (.seq
 (sr [
 oM 93 5,
 oD 94 .gtr 93 0]
 (.cond (.t 94)
 (.region [
 oM 95 4,
 oB 96 .add (.t 95) (.c (.str [44,32])),
 oM 4 96])
 .skip))
 (.region [
 oM 97 4,
 oA 98 4 1,
 oL 99 1 98,
 oM 100 5,
 oI 101 5 99 100,
 oW 102 5 101,
 cP 103 45 [.t 102],
 oP 104 .add 97 103,
 oM 4 104])))
 (.region [
 oM 91 5,
 oD 92 .add 91 1,
 oM 5 92])))
abbrev K45_0:List Nat:=[1]
abbrev B45_0:List Nat:=[1]
def F45:IFn:=⟨111,1,[.tmp 2],false,false,none,(sr [oO 1 (.boxL 1 (.t 0)),oC 2 (.str [])] (.seq (sr [oA 6 0 1,oL 7 1 6] (.block 0 (sr [oD 9 .eql 7 1,oM 8 9] (.cond (.t 8) (sr [oA 10 2 1,oL 11 1 10,cP 12 23 [.t 11],oM 2 12] .ret) (sr [oD 14 .eql 7 2,oM 13 14] (.cond (.t 13) (.seq (sr [oA 15 2 1,oL 16 1 15,oD 17 .eql 16 1] (.cond (.t 17) (sr [oC 2 (.str [116,114,117,101])] .ret) .skip)) (sr [oC 2 (.str [102,97,108,115,101])] .ret)) (sr [oD 19 .eql 7 3,oM 18 19] (.cond (.t 18) (sr [oA 20 3 1,oL 21 1 20,oM 2 21] .ret) (sr [oD 23 .eql 7 4,oM 22 23] (.cond (.t 22) (.seq (sr [oA 24 1 1,oL 25 1 24,oD 26 .geq 25 23] (.cond (.t 26) (sr [oA 27 1 1,oL 28 1 27,cP 29 73 [.t 28],oB 30 .add (.t 29) (.c (.str [40])),oA 31 4 1,oL 32 1 31,oO 33 (.iaddr 5 (.t 32) (cI 0)),oO 34 (.load .imm true 5 (.t 33)),cP 35 45 [.t 34],oP 36 .add 30 35,oB 37 .add (.t 36) (.c (.str [41])),oM 2 37] .ret) .skip)) (sr [oA 38 1 1,oL 39 1 38,cP 40 73 [.t 39],oA 41 4 1,oL 42 1 41,oO 43 (.iaddr 5 (.t 42) (cI 0)),oO 44 (.load .imm true 5 (.t 43)),cP 45 74 [.t 44,cI 11],oP 46 .add 40 45,oM 2 46] .ret)) (sr [oD 48 .eql 7 5,oM 47 48] (.cond (.t 47) (sr [oA 49 1 1,oL 50 1 49,cP 51 75 [.t 50],oM 3 51] (sr [oA 52 4 1,oL 53 1 52,oO 54 (.iaddr 5 (.t 53) (cI 0)),oO 55 (.load .imm true 5 (.t 54)),oM 56 3,cP 57 74 [.t 55,.t 56],oB 58 .add (.t 57) (.c (.str [32])),oA 59 1 1,oL 60 1 59,cP 61 73 [.t 60],oP 62 .add 58 61,oB 63 .add (.t 62) (.c (.str [32])),oA 64 4 1,oL 65 1 64,oO 66 (.iaddr 5 (.t 65) (cI 1)),oO 67 (.load .imm true 5 (.t 66)),oM 68 3,oD 69 .add 68 1,cP 70 74 [.t 67,.t 69],oP 71 .add 63 70,oM 2 71] .ret)) (sr [oD 73 .eql 7 6,oM 72 73] (.cond (.t 72) (sr [oA 74 3 1,oL 75 1 74,oB 76 .add (.t 75) (.c (.str [91])),oA 77 4 1,oL 78 1 77,oO 79 (.iaddr 5 (.t 78) (cI 0)),oO 80 (.load .imm true 5 (.t 79)),cP 81 45 [.t 80],oP 82 .add 76 81,oB 83 .add (.t 82) (.c (.str [93])),oM 2 83] .ret) (sr [oD 85 .eql 7 7,oM 84 85] (.cond (.t 84) (sr [oC 4 (.str [])] (.seq (sr [oZ 5 0] (.block 1 L45_0)) (sr [oA 105 3 1,oL 106 1 105,oB 107 .add (.t 106) (.c (.str [40])),oM 108 4,oP 109 .add 107 108,oB 110 .add (.t 109) (.c (.str [41])),oM 2 110] .ret))) .skip)))))))))))))))) (sr [oC 2 (.str [114,101,97,100,40,41])] .ret)))⟩
theorem ok45:zh Tryz.prog Tryz.f45 F45=true:=by kernel_rfl
def L25_0:ICode:= .loop [0,1,5,6] [7]
 (.seq
 (sr [
 oM 9 6,
 oM 10 0,
 oY 11 10,
 oP 12 .lss 9 11]
 (.cond (.t 12)
 .skip
 (.exit 0)))
 (.seq
 (.block 1
 (sr [
 oM 15 0,
 oM 16 6,
 oI 17 6 15 16,
 oW 18 6 17,
 oO 7 (.boxL 7 (.c (.agg [.int .i64 0,.int .i64 0,.str [],.slice .fit 5 [],.slice .fit 6 [],.slice .fit 6 []]))),
 oS 7 6 7 18]
 (sr [
 oC 8 (.str [])]
 (.seq
 (sr [
 oA 19 3 7,
 oL 20 7 19,
 oY 21 20,
 oD 22 .gtr 21 0]
 (.cond (.t 22)
 (.region [
 oA 23 3 7,
 oL 24 7 23,
 oO 25 (.iaddr 5 (.t 24) (cI 0)),
 oW 26 5 25,
 cP 27 45 [.t 26],
 oM 8 27])
 .skip))
 (sr [
 oM 28 5,
 oM 29 1,
 oP 30 .add 28 29,
 oM 5 30]
 (sr [
 oA 31 0 7,
 oL 32 7 31]
 (.block 2
 (sr [
 oD 38 .eql 32 1,
 oM 37 38]
 (.cond (.t 37)
 (.region [
 oM 39 5,
 oA 40 1 7,
 oL 41 7 40,
 cP 42 24 [.t 41],
 oP 43 .add 39 42,
 oB 44 .add (.t 43) (.c (.str [32])),
 oA 45 2 7,
 oL 46 7 45,
 oP 47 .add 44 46,
 oB 48 .add (.t 47) (.c (.str [32,61,32])),
 oM 49 8,
 oP 50 .add 48 49,
 oB 51 .add (.t 50) (.c (.str [59,10])),
 oM 5 51])
 (sr [
 oD 53 .eql 32 2,
 oM 52 53]
 (.cond (.t 52)
 (.region [
 oM 54 5,
 oA 55 2 7,
 oL 56 7 55,
 oP 57 .add 54 56,
 oB 58 .add (.t 57) (.c (.str [32,61,32])),
 oM 59 8,
 oP 60 .add 58 59,
 oB 61 .add (.t 60) (.c (.str [59,10])),
 oM 5 61])
 (sr [
 oD 63 .eql 32 3,
 oM 62 63]
 (.cond (.t 62)
 (.region [
 oM 64 5,
 oA 65 2 7,
 oL 66 7 65,
 oP 67 .add 64 66,
 oB 68 .add (.t 67) (.c (.str [91])),
 oM 69 8,
 oP 70 .add 68 69,
 oB 71 .add (.t 70) (.c (.str [93,32,61,32])),
 oA 72 3 7,
 oL 73 7 72,
 oO 74 (.iaddr 5 (.t 73) (cI 1)),
 oO 75 (.load .imm true 5 (.t 74)),
 cP 76 45 [.t 75],
 oP 77 .add 71 76,
 oB 78 .add (.t 77) (.c (.str [59,10])),
 oM 5 78])
 (sr [
 oD 80 .eql 32 4,
 oM 79 80]
 (.cond (.t 79)
 (sr [
 oM 81 5,
 oB 82 .add (.t 81) (.c (.str [105,102,32,40])),
 oM 83 8,
 oP 84 .add 82 83,
 oB 85 .add (.t 84) (.c (.str [41,32,123,10])),
 oA 86 4 7,
 oL 87 7 86,
 oM 88 1,
 oB 89 .add (.t 88) (.c (.str [9])),
 cP 90 25 [.t 87,.t 89],
 oP 91 .add 85 90,
 oM 92 1,
 oP 93 .add 91 92,
 oB 94 .add (.t 93) (.c (.str [125])),
 oM 5 94]
 (.seq
 (sr [
 oA 95 5 7,
 oL 96 7 95,
 oY 97 96,
 oD 98 .gtr 97 0]
 (.cond (.t 98)
 (.region [
 oM 99 5,
 oB 100 .add (.t 99) (.c (.str [32,101,108,115,101,32,123,10])),
 oA 101 5 7,
 oL 102 7 101,
 oM 103 1,
 oB 104 .add (.t 103) (.c (.str [9])),
 cP 105 25 [.t 102,.t 104],
 oP 106 .add 100 105,
 oM 107 1,
 oP 108 .add 106 107,
 oB 109 .add (.t 108) (.c (.str [125])),
 oM 5 109])
 .skip))
 (.region [
 oM 110 5,
 oB 111 .add (.t 110) (.c (.str [10])),
 oM 5 111])))
 (sr [
 oD 113 .eql 32 5,
 oM 112 113]
 (.cond (.t 112)
 (.region [
 oM 114 5,
 oB 115 .add (.t 114) (.c (.str [119,104,105,108,101,32,40])),
 oM 116 8,
 oP 117 .add 115 116,
 oB 118 .add (.t 117) (.c (.str [41,32,123,10])),
 oA 119 4 7,
 oL 120 7 119,
 oM 121 1,
 oB 122 .add (.t 121) (.c (.str [9])),
 cP 123 25 [.t 120,.t 122],
 oP 124 .add 118 123,
 oM 125 1,
 oP 126 .add 124 125,
 oB 127 .add (.t 126) (.c (.str [125,10])),
 oM 5 127])
 (sr [
 oD 129 .eql 32 6,
 oM 128 129]
 (.cond (.t 128)
 (.region [
 oM 130 5,
 oB 131 .add (.t 130) (.c (.str [98,114,101,97,107,59,10])),
 oM 5 131])
 (sr [
 oD 133 .eql 32 7,
 oM 132 133]
 (.cond (.t 132)
 (.region [
 oM 134 5,
 oB 135 .add (.t 134) (.c (.str [99,111,110,116,105,110,117,101,59,10])),
 oM 5 135])
 (sr [
 oD 137 .eql 32 8,
 oM 136 137]
 (.cond (.t 136)
 (.region [
 oM 138 5,
 oB 139 .add (.t 138) (.c (.str [114,101,116,117,114,110,32])),
 oM 140 8,
 oP 141 .add 139 140,
 oB 142 .add (.t 141) (.c (.str [59,10])),
 oM 5 142])
 (sr [
 oD 144 .eql 32 9,
 oM 143 144]
 (.cond (.t 143)
 (.region [
 oM 145 5,
 oB 146 .add (.t 145) (.c (.str [112,114,105,110,116,40])),
 oM 147 8,
 oP 148 .add 146 147,
 oB 149 .add (.t 148) (.c (.str [41,59,10])),
 oM 5 149])
 (.region [
 oM 33 5,
 oM 34 8,
 oP 35 .add 33 34,
 oB 36 .add (.t 35) (.c (.str [59,10])),
 oM 5 36]))))))))))))))))))))))))))
 (.region [
 oM 13 6,
 oD 14 .add 13 1,
 oM 6 14])))
abbrev K25_0:List Nat:=[0,1]
abbrev B25_0:List Nat:=[]
def F25:IFn:=⟨151,2,[.tmp 4],false,false,none,(sr [oC 4 (.str [])] (sr [oC 5 (.str [])] (.seq (sr [oZ 6 0] (.block 0 L25_0)) (sr [oM 150 5,oM 4 150] .ret))))⟩
theorem ok25:zh Tryz.prog Tryz.f25 F25=true:=by kernel_rfl
def L13_0:ICode:= .loop [1,4,5] []
 (.seq
 (sr [
 oM 13 5,
 oA 14 0 1,
 oL 15 1 14,
 oY 16 15,
 oP 17 .lss 13 16]
 (.cond (.t 17)
 .skip
 (.exit 0)))
 (.seq
 (.block 1
 (.region [
 oM 20 4,
 oB 21 .add (.t 20) (.c (.str [105,110,116,32])),
 oA 22 0 1,
 oL 23 1 22,
 oM 24 5,
 oI 25 2 23 24,
 oA 26 0 25,
 oH 27 26,
 oP 28 .add 21 27,
 oB 29 .add (.t 28) (.c (.str [91])),
 oA 30 0 1,
 oL 31 1 30,
 oM 32 5,
 oI 33 2 31 32,
 oA 34 1 33,
 oH 35 34,
 cP 36 23 [.t 35],
 oP 37 .add 29 36,
 oB 38 .add (.t 37) (.c (.str [93,59,10])),
 oM 4 38]))
 (.region [
 oM 18 5,
 oD 19 .add 18 1,
 oM 5 19])))
def L13_1:ICode:= .loop [1,4,6,7,8,9] []
 (.seq
 (sr [
 oM 51 9,
 oA 52 2 7,
 oL 53 7 52,
 oY 54 53,
 oP 55 .lss 51 54]
 (.cond (.t 55)
 .skip
 (.exit 4)))
 (.seq
 (.block 5
 (.seq
 (sr [
 oM 58 9,
 oD 59 .gtr 58 0]
 (.cond (.t 59)
 (.region [
 oM 60 8,
 oB 61 .add (.t 60) (.c (.str [44,32])),
 oM 8 61])
 .skip))
 (.region [
 oM 62 8,
 oA 63 2 7,
 oL 64 7 63,
 oM 65 9,
 oI 66 2 64 65,
 oA 67 1 66,
 oH 68 67,
 cP 69 24 [.t 68],
 oP 70 .add 62 69,
 oB 71 .add (.t 70) (.c (.str [32])),
 oA 72 2 7,
 oL 73 7 72,
 oM 74 9,
 oI 75 2 73 74,
 oA 76 0 75,
 oH 77 76,
 oP 78 .add 71 77,
 oM 8 78])))
 (.region [
 oM 56 9,
 oD 57 .add 56 1,
 oM 9 57])))
def L13_2:ICode:= .loop [1,4,6] [7]
 (.seq
 (sr [
 oM 39 6,
 oA 40 1 1,
 oL 41 1 40,
 oY 42 41,
 oP 43 .lss 39 42]
 (.cond (.t 43)
 .skip
 (.exit 2)))
 (.seq
 (.block 3
 (sr [
 oA 46 1 1,
 oL 47 1 46,
 oM 48 6,
 oI 49 4 47 48,
 oW 50 4 49,
 oO 7 (.boxL 7 (.c (.agg [.str [],.int .i64 0,.slice .fit 2 [],.slice .fit 6 []]))),
 oS 7 4 7 50]
 (sr [
 oC 8 (.str [])]
 (.seq
 (sr [
 oZ 9 0]
 (.block 4
 L13_1))
 (.region [
 oM 79 4,
 oA 80 1 7,
 oL 81 7 80,
 cP 82 24 [.t 81],
 oP 83 .add 79 82,
 oB 84 .add (.t 83) (.c (.str [32])),
 oA 85 0 7,
 oL 86 7 85,
 oP 87 .add 84 86,
 oB 88 .add (.t 87) (.c (.str [40])),
 oM 89 8,
 oP 90 .add 88 89,
 oB 91 .add (.t 90) (.c (.str [41,32,123,10])),
 oA 92 3 7,
 oL 93 7 92,
 cP 94 25 [(.t 93),(.c (.str [9]))],
 oP 95 .add 91 94,
 oB 96 .add (.t 95) (.c (.str [125,10])),
 oM 4 96])))))
 (.region [
 oM 44 6,
 oD 45 .add 44 1,
 oM 6 45])))
abbrev K13_0:List Nat:=[1]
abbrev B13_0:List Nat:=[1]
abbrev K13_1:List Nat:=[1,4,6,7]
abbrev B13_1:List Nat:=[1,7]
abbrev K13_2:List Nat:=[1]
abbrev B13_2:List Nat:=[1]
def F13:IFn:=⟨98,1,[.tmp 2,.tmp 3],false,false,none,(sr [oO 1 (.boxL 1 (.t 0)),oC 2 (.str []),oZ 3 0] (.seq (sr [oLa 10 1 2 1,cP 11 22 [.t 10],oU 12 11] (.cond (.t 12) (sr [oC 2 (.str []),oZ 3 1] .ret) .skip)) (sr [oC 4 (.str [])] (.seq (sr [oZ 5 0] (.block 0 L13_0)) (.seq (sr [oZ 6 0] (.block 2 L13_2)) (sr [oM 97 4,oM 2 97,oZ 3 0] .ret))))))⟩
theorem ok13:zh Tryz.prog Tryz.f13 F13=true:=by kernel_rfl
def F3:IFn:=⟨97,3,[.tmp 6],false,false,none,(sr [oC 6 bF] (sr [cP 20 8 [],oM 7 20] (.seq (sr [oM 21 7,oU 22 21] (.cond (.t 22) (sr [oC 6 bF] .ret) .skip)) (sr [oM 23 0,oM 8 23] (.seq (sr [oM 24 2] (.cond (.t 24) (.region [oE 25 1,cP 26 10 [],cP 27 9 [.t 25,.t 26],oM 8 27]) .skip)) (sr [oM 29 8,cP 30 11 [.t 29],oM 28 30,oX 31 28 0,oX 32 28 1,oX 33 28 2,oO 9 (.boxL 9 (.c (.agg [.slice .fit 2 [],.slice .fit 4 []]))),oS 9 2 9 31,oM 10 32,oM 11 33] (.seq (sr [oM 34 10,oD 35 .neq 34 0,oM 36 35,oFm 36 37 8,oF 36 38 (.len 0 (.t 37)),oF 36 39 (.bin 0 [] .gtr (.t 38) (cI 500)),oO 40 (.pick (.t 36) (.c bT) (.t 39))] (.cond (.t 40) (sr [oM 41 7,oM 42 41,oTm 42 43 10,oT 42 44 (.bin 0 [] .eql (.t 43) (cI 0)),oTm 42 45 44,oF 45 46 (.load (.box 9) true 2 (.t 9)),oF 45 47 (.build [.slice .fit 2 [],.slice .fit 4 []] []),oF 45 48 (pP 12 [.t 46,.t 47]),oT 42 49 (.pick (.t 45) (.c bT) (.t 48)),oO 50 (.pick (.t 42) (.t 49) (.c bF)),oM 6 50] .ret) .skip)) (sr [oLa 52 9 2 9,cP 53 13 [.t 52],oM 51 53,oX 54 51 0,oX 55 51 1,oM 12 54,oM 13 55] (sr [oM 57 12,cP 58 11 [.t 57],oM 56 58,oX 59 56 0,oX 60 56 1,oX 61 56 2,oO 14 (.boxL 14 (.c (.agg [.slice .fit 2 [],.slice .fit 4 []]))),oS 14 2 14 59,oM 15 60,oM 16 61] (sr [oM 63 8,oB 64 .add (.c (.str [9,47,47,32,120,10])) (.t 63),oB 65 .add (.t 64) (.c (.str [10,32,47,47,32,121])),cP 66 11 [.t 65],oM 62 66,oX 67 62 0,oX 68 62 1,oX 69 62 2,oO 17 (.boxL 17 (.c (.agg [.slice .fit 2 [],.slice .fit 4 []]))),oS 17 2 17 67,oM 18 68,oM 19 69] (sr [oM 70 7,oM 71 70,oTm 71 72 11,oT 71 73 (.bin 0 [] .eql (.t 72) (cI 0)),oO 74 (.pick (.t 71) (.t 73) (.c bF)),oM 75 74,oTm 75 76 13,oT 75 77 (.bin 0 [] .eql (.t 76) (cI 0)),oO 78 (.pick (.t 75) (.t 77) (.c bF)),oM 79 78,oTm 79 80 15,oT 79 81 (.bin 0 [] .eql (.t 80) (cI 0)),oO 82 (.pick (.t 79) (.t 81) (.c bF)),oM 83 82,oT 83 84 (.load (.box 9) true 2 (.t 9)),oT 83 85 (.load (.box 14) true 2 (.t 14)),oT 83 86 (pP 12 [.t 84,.t 85]),oO 87 (.pick (.t 83) (.t 86) (.c bF)),oM 88 87,oTm 88 89 18,oT 88 90 (.bin 0 [] .eql (.t 89) (cI 0)),oO 91 (.pick (.t 88) (.t 90) (.c bF)),oM 92 91,oT 92 93 (.load (.box 9) true 2 (.t 9)),oT 92 94 (.load (.box 17) true 2 (.t 17)),oT 92 95 (pP 12 [.t 93,.t 94]),oO 96 (.pick (.t 92) (.t 95) (.c bF)),oM 6 96] .ret)))))))))))⟩
theorem ok3:zh Tryz.prog Tryz.f3 F3=true:=by kernel_rfl
def L82_0:ICode:= .loop [0,3,4] []
 (.seq
 (sr [
 oM 6 4,
 oM 7 0,
 oO 8 (.len 0 (.t 7)),
 oP 9 .lss 6 8]
 (.cond (.t 9)
 .skip
 (.exit 0)))
 (.seq
 (.block 1
 (sr [
 oM 12 0,
 oM 13 4,
 oO 14 (.idxS (.t 12) (.t 13)),
 oO 15 (.conv .i64 (.t 14)),
 oD 16 .sub 15 48,
 oM 5 16]
 (.seq
 (sr [
 oM 17 3,
 oM 18 5,
 oB 19 .sub (cI 9223372036854775807) (.t 18),
 oD 20 .quo 19 10,
 oP 21 .gtr 17 20]
 (.cond (.t 21)
 (sr [
 oO 2 (.mv (cI (-1)))]
 .ret)
 .skip))
 (.region [
 oM 22 3,
 oD 23 .mul 22 10,
 oM 24 5,
 oP 25 .add 23 24,
 oM 3 25]))))
 (.region [
 oM 10 4,
 oD 11 .add 10 1,
 oM 4 11])))
abbrev K82_0:List Nat:=[0]
abbrev B82_0:List Nat:=[]
def F82:IFn:=⟨39,1,[.tmp 2],false,false,none,(sr [oZ 2 0] (sr [oZ 3 0] (.seq (sr [oZ 4 0] (.block 0 L82_0)) (.seq (sr [oM 26 0,oB 27 .eql (.t 26) (.c (.str [])),oM 28 27,oFm 28 29 0,oF 28 30 (.len 0 (.t 29)),oF 28 31 (.bin 0 [] .gtr (.t 30) (cI 1)),oFm 28 32 31,oTm 32 33 0,oT 32 34 (.idxS (.t 33) (cI 0)),oT 32 35 (.bin 0 [] .eql (.t 34) (.c (.int .u8 48))),oF 28 36 (.pick (.t 32) (.t 35) (.c bF)),oO 37 (.pick (.t 28) (.c bT) (.t 36))] (.cond (.t 37) (sr [oO 2 (.mv (cI (-1)))] .ret) .skip)) (sr [oM 38 3,oM 2 38] .ret)))))⟩
theorem ok82:zh Tryz.prog Tryz.f82 F82=true:=by kernel_rfl
def L76_0:ICode:= .loop [0,3] []
 (.seq
 (sr [
 oM 4 3,
 oM 5 0,
 oO 6 (.len 0 (.t 5)),
 oP 7 .lss 4 6]
 (.cond (.t 7)
 .skip
 (.exit 0)))
 (.seq
 (.block 1
 (sr [
 oM 10 0,
 oM 11 3,
 oO 12 (.idxS (.t 10) (.t 11)),
 cP 13 70 [.t 12],
 oU 14 13]
 (.cond (.t 14)
 (sr [
 oC 2 bF]
 .ret)
 .skip)))
 (.region [
 oM 8 3,
 oD 9 .add 8 1,
 oM 3 9])))
def F76:IFn:=⟨18,1,[.tmp 2],false,false,none,(sr [oC 2 bF] (.seq (sr [oZ 3 0] (.block 0 L76_0)) (sr [oM 15 0,cP 16 82 [.t 15],oD 17 .geq 16 0,oM 2 17] .ret)))⟩
theorem ok76:zh Tryz.prog Tryz.f76 F76=true:=by kernel_rfl
def L77_0:ICode:= .loop [0,3,4] []
 (.seq
 (sr [
 oM 6 4,
 oM 7 3,
 oY 8 7,
 oP 9 .lss 6 8]
 (.cond (.t 9)
 .skip
 (.exit 0)))
 (.seq
 (.block 1
 (sr [
 oM 12 3,
 oM 13 4,
 oI 14 1 12 13,
 oH 15 14,
 oO 16 (.len 0 (.t 15)),
 oM 17 0,
 oO 18 (.len 0 (.t 17)),
 oP 19 .leq 16 18,
 oM 20 19,
 oTm 20 21 0,
 oTm 20 22 3,
 oTm 20 23 4,
 oT 20 24 (.iaddr 1 (.t 22) (.t 23)),
 oT 20 25 (.load .imm false 1 (.t 24)),
 oT 20 26 (.len 0 (.t 25)),
 oT 20 27 (.slc true 0 (.t 21) none (some (.t 26)) none),
 oTm 20 28 3,
 oTm 20 29 4,
 oT 20 30 (.iaddr 1 (.t 28) (.t 29)),
 oT 20 31 (.load .imm false 1 (.t 30)),
 oT 20 32 (.bin 0 [] .eql (.t 27) (.t 31)),
 oO 33 (.pick (.t 20) (.t 32) (.c bF))]
 (.cond (.t 33)
 (sr [
 oE 34 3,
 oM 35 4,
 oI 36 1 34 35,
 oG 37 36,
 oM 2 37]
 .ret)
 .skip)))
 (.region [
 oM 10 4,
 oD 11 .add 10 1,
 oM 4 11])))
def F77:IFn:=⟨38,1,[.tmp 2],false,false,none,(sr [oC 2 (.str [])] (sr [oO 5 (.bslice 1 (.str []) 30 [(0,(.c (.str [62,62,62]))),(1,(.c (.str [60,60]))),(2,(.c (.str [62,62]))),(3,(.c (.str [60,61]))),(4,(.c (.str [62,61]))),(5,(.c (.str [61,61]))),(6,(.c (.str [33,61]))),(7,(.c (.str [38,38]))),(8,(.c (.str [124,124]))),(9,(.c (.str [40]))),(10,(.c (.str [41]))),(11,(.c (.str [123]))),(12,(.c (.str [125]))),(13,(.c (.str [91]))),(14,(.c (.str [93]))),(15,(.c (.str [44]))),(16,(.c (.str [59]))),(17,(.c (.str [61]))),(18,(.c (.str [60]))),(19,(.c (.str [62]))),(20,(.c (.str [43]))),(21,(.c (.str [45]))),(22,(.c (.str [42]))),(23,(.c (.str [47]))),(24,(.c (.str [37]))),(25,(.c (.str [38]))),(26,(.c (.str [124]))),(27,(.c (.str [94]))),(28,(.c (.str [126]))),(29,(.c (.str [33])))]),oE 3 5] (.seq (sr [oZ 4 0] (.block 0 L77_0)) (sr [oC 2 (.str [])] .ret))))⟩
theorem ok77:zh Tryz.prog Tryz.f77 F77=true:=by kernel_rfl
def L46_0:ICode:= .loop [0,5,6,7,8,9] []
 (.seq
 (sr [
 oM 19 7,
 oM 20 9,
 oP 21 .add 19 20,
 oM 22 0,
 oO 23 (.len 0 (.t 22)),
 oP 24 .lss 21 23,
 oM 25 24,
 oTm 25 26 0,
 oTm 25 27 7,
 oTm 25 28 9,
 oT 25 29 (.bin 0 [] .add (.t 27) (.t 28)),
 oT 25 30 (.idxS (.t 26) (.t 29)),
 oT 25 31 (pP 68 [.t 30]),
 oTm 25 32 31,
 oFm 32 33 0,
 oFm 32 34 7,
 oFm 32 35 9,
 oF 32 36 (.bin 0 [] .add (.t 34) (.t 35)),
 oF 32 37 (.idxS (.t 33) (.t 36)),
 oF 32 38 (pP 70 [.t 37]),
 oT 25 39 (.pick (.t 32) (.c bT) (.t 38)),
 oO 40 (.pick (.t 25) (.t 39) (.c bF))]
 (.cond (.t 40)
 .skip
 (.exit 2)))
 (.block 3
 (.region [
 oM 41 9,
 oD 42 .add 41 1,
 oM 9 42])))
def L46_1:ICode:= .loop [0,5,6,7] []
 (.seq
 (sr [
 oM 100 7,
 oM 101 0,
 oO 102 (.len 0 (.t 101)),
 oP 103 .lss 100 102,
 oM 104 103,
 oTm 104 105 0,
 oTm 104 106 7,
 oT 104 107 (.idxS (.t 105) (.t 106)),
 oT 104 108 (.bin 0 [] .neq (.t 107) (.c (.int .u8 10))),
 oO 109 (.pick (.t 104) (.t 108) (.c bF))]
 (.cond (.t 109)
 .skip
 (.exit 5)))
 (.block 6
 (.region [
 oM 110 7,
 oD 111 .add 110 1,
 oM 7 111])))
def L46_2:ICode:= .loop [0,5,6,7] [8]
 (.seq
 (sr [
 oM 13 7,
 oM 14 0,
 oO 15 (.len 0 (.t 14)),
 oP 16 .lss 13 15]
 (.cond (.t 16)
 .skip
 (.exit 0)))
 (.block 1
 (sr [
 oM 17 6,
 oO 18 (.build [.int .i64 0,.str [],.int .i64 0] [(2,1,(.t 17))]),
 oO 8 (.boxL 8 (.c (.agg [.int .i64 0,.str [],.int .i64 0]))),
 oS 8 3 8 18]
 (sr [
 oZ 9 0]
 (.seq
 (.block 2
 L46_0)
 (.seq
 (.block 4
 (sr [
 oM 54 0,
 oM 55 7,
 oO 56 (.idxS (.t 54) (.t 55)),
 oB 57 .eql (.t 56) (.c (.int .u8 10)),
 oM 53 57]
 (.cond (.t 53)
 (sr [
 oM 58 6,
 oD 59 .add 58 1,
 oM 6 59]
 (sr [
 oM 60 7,
 oD 61 .add 60 1,
 oM 7 61]
 (.exit 1)))
 (sr [
 oM 63 0,
 oM 64 7,
 oO 65 (.idxS (.t 63) (.t 64)),
 oB 66 .eql (.t 65) (.c (.int .u8 32)),
 oM 67 66,
 oFm 67 68 0,
 oFm 67 69 7,
 oF 67 70 (.idxS (.t 68) (.t 69)),
 oF 67 71 (.bin 0 [] .eql (.t 70) (.c (.int .u8 9))),
 oO 72 (.pick (.t 67) (.c bT) (.t 71)),
 oM 73 72,
 oFm 73 74 0,
 oFm 73 75 7,
 oF 73 76 (.idxS (.t 74) (.t 75)),
 oF 73 77 (.bin 0 [] .eql (.t 76) (.c (.int .u8 13))),
 oO 78 (.pick (.t 73) (.c bT) (.t 77)),
 oM 62 78]
 (.cond (.t 62)
 (sr [
 oM 79 7,
 oD 80 .add 79 1,
 oM 7 80]
 (.exit 1))
 (sr [
 oM 82 0,
 oM 83 7,
 oO 84 (.idxS (.t 82) (.t 83)),
 oB 85 .eql (.t 84) (.c (.int .u8 47)),
 oM 86 85,
 oTm 86 87 7,
 oT 86 88 (.bin 0 [] .add (.t 87) (cI 1)),
 oTm 86 89 0,
 oT 86 90 (.len 0 (.t 89)),
 oT 86 91 (.bin 0 [] .lss (.t 88) (.t 90)),
 oO 92 (.pick (.t 86) (.t 91) (.c bF)),
 oM 93 92,
 oTm 93 94 0,
 oTm 93 95 7,
 oT 93 96 (.bin 0 [] .add (.t 95) (cI 1)),
 oT 93 97 (.idxS (.t 94) (.t 96)),
 oT 93 98 (.bin 0 [] .eql (.t 97) (.c (.int .u8 47))),
 oO 99 (.pick (.t 93) (.t 98) (.c bF)),
 oM 81 99]
 (.cond (.t 81)
 (.seq
 (.block 5
 L46_1)
 (.exit 1))
 (sr [
 oM 113 9,
 oD 114 .gtr 113 0,
 oM 112 114]
 (.cond (.t 112)
 (sr [
 oM 115 0,
 oM 116 7,
 oM 117 7,
 oM 118 9,
 oP 119 .add 117 118,
 oO 120 (.slc true 0 (.t 115) (some (.t 116)) (some (.t 119)) none),
 oA 121 1 8,
 oS 8 1 121 120]
 (sr [
 oA 122 0 8,
 oN (.store (.box 8) 1 (.t 122) (cI 0))]
 (.seq
 (sr [
 oM 123 0,
 oM 124 7,
 oO 125 (.idxS (.t 123) (.t 124)),
 cP 126 68 [.t 125]]
 (.cond (.t 126)
 (.region [
 oA 127 0 8,
 oN (.store (.box 8) 1 (.t 127) (cI 1))])
 .skip))
 (.seq
 (sr [
 oA 128 1 8,
 oL 129 8 128,
 cP 130 69 [.t 129]]
 (.cond (.t 130)
 (.region [
 oA 131 0 8,
 oN (.store (.box 8) 1 (.t 131) (cI 2))])
 .skip))
 (sr [
 oA 132 0 8,
 oL 133 8 132,
 oD 134 .eql 133 1,
 oM 135 134,
 oT 135 136 (.faddr 1 (.t 8)),
 oT 135 137 (.load (.box 8) false 1 (.t 136)),
 oT 135 138 (pP 42 [.t 137]),
 oT 135 139 (.un .not (.t 138)),
 oO 140 (.pick (.t 135) (.t 139) (.c bF)),
 oM 141 140,
 oF 141 142 (.faddr 0 (.t 8)),
 oF 141 143 (.load (.box 8) false 1 (.t 142)),
 oF 141 144 (.bin 0 [] .eql (.t 143) (cI 0)),
 oFm 141 145 144,
 oT 145 146 (.faddr 1 (.t 8)),
 oT 145 147 (.load (.box 8) false 1 (.t 146)),
 oT 145 148 (pP 76 [.t 147]),
 oT 145 149 (.un .not (.t 148)),
 oF 141 150 (.pick (.t 145) (.t 149) (.c bF)),
 oO 151 (.pick (.t 141) (.c bT) (.t 150))]
 (.cond (.t 151)
 (sr [
 oM 152 6,
 oC 2 (.slice .fit 3 []),
 oZ 3 20,
 oM 4 152]
 .ret)
 .skip))))))
 (sr [
 oM 43 0,
 oM 44 7,
 oO 45 (.slc true 0 (.t 43) (some (.t 44)) none none),
 cP 46 77 [.t 45],
 oA 47 0 8,
 oN (.store (.box 8) 1 (.t 47) (cI 2)),
 oA 48 1 8,
 oS 8 1 48 46]
 (sr [
 oA 49 1 8,
 oL 50 8 49,
 oB 51 .eql (.t 50) (.c (.str []))]
 (.cond (.t 51)
 (sr [
 oM 52 6,
 oC 2 (.slice .fit 3 []),
 oZ 3 20,
 oM 4 52]
 .ret)
 .skip))))))))))))
 (sr [
 oM 153 7,
 oA 154 1 8,
 oL 155 8 154,
 oO 156 (.len 0 (.t 155)),
 oP 157 .add 153 156,
 oM 7 157]
 (.region [
 oE 158 5,
 oLa 159 8 3 8,
 oO 160 (.bslice 3 (.agg [.int .i64 0,.str [],.int .i64 0]) 1 [(0,(.t 159))]),
 oO 161 (.append 3 32 (.t 158) (.t 160)),
 oE 5 161]))))))))
def F46:IFn:=⟨167,1,[.tmp 2,.tmp 3,.tmp 4],false,false,none,(sr [oC 2 (.slice .fit 3 []),oZ 3 0,oZ 4 0] (.seq (sr [oM 10 0,oO 11 (.len 0 (.t 10)),oD 12 .gtr 11 100000] (.cond (.t 12) (sr [oC 2 (.slice .fit 3 []),oZ 3 2,oZ 4 0] .ret) .skip)) (sr [oC 5 (.slice .fit 3 [])] (sr [oZ 6 1,oZ 7 0] (.seq (.block 0 L46_2) (sr [oE 162 5,oM 163 6,oO 164 (.build [.int .i64 0,.str [],.int .i64 0] [(0,1,(cI 3)),(2,1,(.t 163))]),oO 165 (.bslice 3 (.agg [.int .i64 0,.str [],.int .i64 0]) 1 [(0,(.t 164))]),oO 166 (.append 3 32 (.t 162) (.t 165)),oE 2 166,oZ 3 0,oZ 4 0] .ret))))))⟩
theorem ok46:zh Tryz.prog Tryz.f46 F46=true:=by kernel_rfl
def F78:IFn:=⟨13,1,[.tmp 2],false,false,none,(sr [oC 2 bF] (sr [oM 3 0,oK 4 3,oA 5 2 4,oG 6 5,oM 7 6,oFm 7 8 0,oF 7 9 (.nilck (.t 8)),oF 7 10 (.faddr 3 (.t 9)),oF 7 11 (.load .any false 1 (.t 10)),oO 12 (.pick (.t 7) (.c bT) (.t 11)),oM 2 12] .ret))⟩
theorem ok78:zh Tryz.prog Tryz.f78 F78=true:=by kernel_rfl
def F100:IFn:=⟨37,2,[.tmp 4],false,false,none,(sr [oC 4 bF] (sr [oM 5 0,cF 6 78 [.t 5],oU 7 6,oM 8 7,oTm 8 9 0,oT 8 10 (.nilck (.t 9)),oT 8 11 (.faddr 0 (.t 10)),oT 8 12 (.load .any false 1 (.t 11)),oTm 8 13 0,oT 8 14 (.nilck (.t 13)),oT 8 15 (.faddr 1 (.t 14)),oT 8 16 (.load .any false 1 (.t 15)),oT 8 17 (.iaddr 3 (.t 12) (.t 16)),oT 8 18 (.faddr 0 (.t 17)),oT 8 19 (.load .imm false 1 (.t 18)),oT 8 20 (.bin 0 [] .eql (.t 19) (cI 2)),oO 21 (.pick (.t 8) (.t 20) (.c bF)),oM 22 21,oTm 22 23 0,oT 22 24 (.nilck (.t 23)),oT 22 25 (.faddr 0 (.t 24)),oT 22 26 (.load .any false 1 (.t 25)),oTm 22 27 0,oT 22 28 (.nilck (.t 27)),oT 22 29 (.faddr 1 (.t 28)),oT 22 30 (.load .any false 1 (.t 29)),oT 22 31 (.iaddr 3 (.t 26) (.t 30)),oT 22 32 (.faddr 1 (.t 31)),oT 22 33 (.load .imm false 1 (.t 32)),oTm 22 34 1,oT 22 35 (.bin 0 [] .eql (.t 33) (.t 34)),oO 36 (.pick (.t 22) (.t 35) (.c bF)),oM 4 36] .ret))⟩
theorem ok100:zh Tryz.prog Tryz.f100 F100=true:=by kernel_rfl
def F81:IFn:=⟨18,2,[.tmp 4],false,false,none,(sr [oC 4 bF] (sr [oM 6 0,oM 7 1,cF 8 100 [.t 6,.t 7],oM 5 8] (.seq (sr [oM 9 5] (.cond (.t 9) (.region [oM 10 0,oK 11 10,oA 12 1 11,oG 13 12,oD 14 .add 13 1,oK 15 10,oA 16 1 15,oV 16 14]) .skip)) (sr [oM 17 5,oM 4 17] .ret))))⟩
theorem ok81:zh Tryz.prog Tryz.f81 F81=true:=by kernel_rfl
def F83:IFn:=⟨18,2,[],false,false,none,(sr [oM 4 0,oM 5 1,cF 6 81 [.t 4,.t 5],oU 7 6,oM 8 7,oTm 8 9 0,oT 8 10 (.nilck (.t 9)),oT 8 11 (.faddr 3 (.t 10)),oT 8 12 (.load .any false 1 (.t 11)),oT 8 13 (.un .not (.t 12)),oO 14 (.pick (.t 8) (.t 13) (.c bF))] (.cond (.t 14) (.region [oM 15 0,oK 16 15,oA 17 2 16,oN (.store .any 1 (.t 17) (.c bT))]) .skip))⟩
theorem ok83:zh Tryz.prog Tryz.f83 F83=true:=by kernel_rfl
def F79:IFn:=⟨7,1,[.tmp 2],false,false,none,(sr [oZ 2 0] (.seq (sr [oM 3 0,cF 4 81 [(.t 3),(.c (.str [105,110,116]))]] (.cond (.t 4) (sr [oZ 2 1] .ret) .skip)) (sr [oM 5 0,cF 6 83 [(.t 5),(.c (.str [98,111,111,108]))]] (sr [oZ 2 2] .ret))))⟩
theorem ok79:zh Tryz.prog Tryz.f79 F79=true:=by kernel_rfl
def F80:IFn:=⟨34,2,[.tmp 4],false,false,none,(sr [oC 4 (.str [])] (.seq (sr [oM 6 0,cF 7 78 [.t 6]] (.cond (.t 7) (sr [oC 4 (.str [])] .ret) .skip)) (sr [oM 8 0,oK 9 8,oA 10 0 9,oG 11 10,oM 12 0,oK 13 12,oA 14 1 13,oG 15 14,oI 16 3 11 15,oO 17 (.load .imm true 3 (.t 16)),oO 5 (.boxL 5 (.c (.agg [.int .i64 0,.str [],.int .i64 0]))),oS 5 3 5 17] (.seq (sr [oA 18 0 5,oL 19 5 18,oM 20 1,oP 21 .neq 19 20] (.cond (.t 21) (sr [oM 22 0,oK 23 22,oA 24 2 23,oN (.store .any 1 (.t 24) (.c bT))] (sr [oC 4 (.str [])] .ret)) .skip)) (sr [oM 25 0,oK 26 25,oA 27 1 26,oG 28 27,oD 29 .add 28 1,oK 30 25,oA 31 1 30,oV 31 29] (sr [oA 32 1 5,oL 33 5 32,oM 4 33] .ret))))))⟩
theorem ok80:zh Tryz.prog Tryz.f80 F80=true:=by kernel_rfl
def L151_0:ICode:= .loop [0,1,5,6] []
 (.seq
 (sr [
 oM 9 6,
 oM 10 9,
 oFm 10 11 0,
 oF 10 12 (pF 81 [(.t 11),(.c (.str [44]))]),
 oO 13 (.pick (.t 10) (.c bT) (.t 12)),
 oM 14 13,
 oTm 14 15 0,
 oT 14 16 (pF 78 [.t 15]),
 oT 14 17 (.un .not (.t 16)),
 oO 18 (.pick (.t 14) (.t 17) (.c bF))]
 (.cond (.t 18)
 .skip
 (.exit 0)))
 (.seq
 (.block 1
 (.region [
 oE 19 5,
 oM 20 0,
 oM 21 1,
 cF 22 134 [.t 20,cI 1,.t 21],
 oO 23 (.bslice 5 (.agg [.int .i64 0,.int .i64 0,.int .i64 0,.str [],.slice .fit 5 []]) 1 [(0,(.t 22))]),
 oO 24 (.append 5 64 (.t 19) (.t 23)),
 oE 5 24]))
 (.region [
 oC 6 bF])))
abbrev K151_0:List Nat:=[0,1]
abbrev B151_0:List Nat:=[]
def F151:IFn:=⟨28,2,[.tmp 4],false,false,none,(sr [oC 4 (.slice .fit 5 [])] (sr [oC 5 (.slice .fit 5 [])] (.seq (sr [oM 7 0,cF 8 81 [(.t 7),(.c (.str [41]))]] (.cond (.t 8) (sr [oC 4 (.slice .fit 5 [])] .ret) .skip)) (.seq (sr [oC 6 bT] (.block 0 L151_0)) (sr [oM 25 0,cF 26 83 [(.t 25),(.c (.str [41]))]] (sr [oE 27 5,oE 4 27] .ret))))))⟩
theorem ok151:zh Tryz.prog Tryz.f151 F151=true:=by kernel_rfl
def F160:IFn:=⟨79,2,[.cell 4 true 5],false,false,none,(sr [oO 4 (.boxL 4 (.c (.agg [.int .i64 0,.int .i64 0,.int .i64 0,.str [],.slice .fit 5 []])))] (.seq (.block 0 (sr [oM 9 0,cF 10 78 [.t 9],oM 8 10] (.cond (.t 8) (sr [oO 11 (.build [.int .i64 0,.int .i64 0,.int .i64 0,.str [],.slice .fit 5 []] []),oS 4 5 4 11] .ret) (sr [oM 13 0,cF 14 81 [(.t 13),(.c (.str [40]))],oM 12 14] (.cond (.t 12) (sr [oM 15 0,oM 16 1,oD 17 .add 16 1,cF 18 134 [.t 15,cI 1,.t 17],oO 5 (.boxL 5 (.c (.agg [.int .i64 0,.int .i64 0,.int .i64 0,.str [],.slice .fit 5 []]))),oS 5 5 5 18] (sr [oM 19 0,cF 20 83 [(.t 19),(.c (.str [41]))]] (sr [oLa 21 5 5 5,oS 4 5 4 21] .ret))) (sr [oM 23 0,cF 24 81 [(.t 23),(.c (.str [116,114,117,101]))],oM 22 24] (.cond (.t 22) (sr [oO 25 (.build [.int .i64 0,.int .i64 0,.int .i64 0,.str [],.slice .fit 5 []] [(0,1,(cI 2)),(2,1,(cI 1))]),oS 4 5 4 25] .ret) (sr [oM 27 0,cF 28 81 [(.t 27),(.c (.str [102,97,108,115,101]))],oM 26 28] (.cond (.t 26) (sr [oO 29 (.build [.int .i64 0,.int .i64 0,.int .i64 0,.str [],.slice .fit 5 []] [(0,1,(cI 2))]),oS 4 5 4 29] .ret) (sr [oM 31 0,cF 32 81 [(.t 31),(.c (.str [114,101,97,100]))],oM 30 32] (.cond (.t 30) (sr [oM 33 0,cF 34 83 [(.t 33),(.c (.str [40]))]] (sr [oM 35 0,cF 36 83 [(.t 35),(.c (.str [41]))]] (sr [oO 37 (.build [.int .i64 0,.int .i64 0,.int .i64 0,.str [],.slice .fit 5 []] [(0,1,(cI 8))]),oS 4 5 4 37] .ret))) (sr [oM 39 0,oK 40 39,oA 41 0 40,oG 42 41,oM 43 0,oK 44 43,oA 45 1 44,oG 46 45,oI 47 3 42 46,oA 48 0 47,oH 49 48,oD 50 .eql 49 0,oM 38 50] (.cond (.t 38) (sr [oM 51 0,cF 52 80 [.t 51,cI 0],cP 53 82 [.t 52],oO 54 (.build [.int .i64 0,.int .i64 0,.int .i64 0,.str [],.slice .fit 5 []] [(0,1,(cI 1)),(2,1,(.t 53))]),oS 4 5 4 54] .ret) .skip))))))))))))) (sr [oM 55 0,cF 56 80 [.t 55,cI 1],oM 6 56] (.seq (sr [oM 57 0,cF 58 81 [(.t 57),(.c (.str [40]))]] (.cond (.t 58) (sr [oM 59 6,oM 60 0,oM 61 1,oD 62 .add 61 1,cF 63 151 [.t 60,.t 62],oO 64 (.build [.int .i64 0,.int .i64 0,.int .i64 0,.str [],.slice .fit 5 []] [(0,1,(cI 7)),(3,1,(.t 59)),(4,1,(.t 63))]),oS 4 5 4 64] .ret) .skip)) (.seq (sr [oM 65 0,cF 66 81 [(.t 65),(.c (.str [91]))]] (.cond (.t 66) (sr [oM 67 0,oM 68 1,oD 69 .add 68 1,cF 70 134 [.t 67,cI 1,.t 69],oO 7 (.boxL 7 (.c (.agg [.int .i64 0,.int .i64 0,.int .i64 0,.str [],.slice .fit 5 []]))),oS 7 5 7 70] (sr [oM 71 0,cF 72 83 [(.t 71),(.c (.str [93]))]] (sr [oM 73 6,oLa 74 7 5 7,oO 75 (.bslice 5 (.agg [.int .i64 0,.int .i64 0,.int .i64 0,.str [],.slice .fit 5 []]) 1 [(0,(.t 74))]),oO 76 (.build [.int .i64 0,.int .i64 0,.int .i64 0,.str [],.slice .fit 5 []] [(0,1,(cI 6)),(3,1,(.t 73)),(4,1,(.t 75))]),oS 4 5 4 76] .ret))) .skip)) (sr [oM 77 6,oO 78 (.build [.int .i64 0,.int .i64 0,.int .i64 0,.str [],.slice .fit 5 []] [(0,1,(cI 3)),(3,1,(.t 77))]),oS 4 5 4 78] .ret))))))⟩
theorem ok160:zh Tryz.prog Tryz.f160 F160=true:=by kernel_rfl
def L149_0:ICode:= .loop [0,1,4,5] [7]
 (.seq
 (sr [
 oM 20 5,
 oD 21 .leq 20 28]
 (.cond (.t 21)
 .skip
 (.exit 0)))
 (.seq
 (.block 1
 (sr [
 oM 24 5,
 cP 25 73 [.t 24],
 oM 6 25]
 (.seq
 (sr [
 oM 26 0,
 oM 27 6,
 cF 28 81 [.t 26,.t 27],
 oU 29 28]
 (.cond (.t 29)
 (.exit 1)
 .skip))
 (.seq
 (sr [
 oM 30 5,
 oD 31 .geq 30 23]
 (.cond (.t 31)
 (.region [
 oM 32 0,
 cF 33 83 [(.t 32),(.c (.str [40]))]])
 .skip))
 (sr [
 oO 7 (.boxL 7 (.c (.agg [.int .i64 0,.int .i64 0,.int .i64 0,.str [],.slice .fit 5 []])))]
 (.seq
 (sr [
 oM 34 5,
 oD 35 .geq 34 23]
 (.cond (.t 35)
 (sr [
 oM 36 0,
 oM 37 1,
 oD 38 .add 37 1,
 cF 39 134 [.t 36,cI 1,.t 38],
 oS 7 5 7 39]
 (.region [
 oM 40 0,
 cF 41 83 [(.t 40),(.c (.str [41]))]]))
 (.region [
 oM 42 0,
 oM 43 1,
 oD 44 .add 43 1,
 cF 45 149 [.t 42,.t 44],
 oS 7 5 7 45])))
 (sr [
 oM 46 5,
 oLa 47 7 5 7,
 oO 48 (.bslice 5 (.agg [.int .i64 0,.int .i64 0,.int .i64 0,.str [],.slice .fit 5 []]) 1 [(0,(.t 47))]),
 oO 49 (.build [.int .i64 0,.int .i64 0,.int .i64 0,.str [],.slice .fit 5 []] [(0,1,(cI 4)),(1,1,(.t 46)),(4,1,(.t 48))]),
 oS 4 5 4 49]
 .ret)))))))
 (.region [
 oM 22 5,
 oD 23 .add 22 1,
 oM 5 23])))
abbrev K149_0:List Nat:=[0,1,4]
abbrev B149_0:List Nat:=[]
def F149:IFn:=⟨53,2,[.cell 4 true 5],false,false,none,(sr [oO 4 (.boxL 4 (.c (.agg [.int .i64 0,.int .i64 0,.int .i64 0,.str [],.slice .fit 5 []])))] (.seq (sr [oM 8 1,oD 9 .gtr 8 100,oM 10 9,oTm 10 11 0,oT 10 12 (.nilck (.t 11)),oT 10 13 (.faddr 2 (.t 12)),oT 10 14 (.load .any false 1 (.t 13)),oT 10 15 (.un .not (.t 14)),oO 16 (.pick (.t 10) (.t 15) (.c bF))] (.cond (.t 16) (.region [oM 17 0,oK 18 17,oA 19 3 18,oN (.store .any 1 (.t 19) (.c bT))]) .skip)) (.seq (sr [oZ 5 20] (.block 0 L149_0)) (sr [oM 50 0,oM 51 1,cF 52 160 [.t 50,.t 51],oS 4 5 4 52] .ret))))⟩
theorem ok149:zh Tryz.prog Tryz.f149 F149=true:=by kernel_rfl
def L150_0:ICode:= .loop [0,1,5] []
 (.seq
 (sr [
 oM 6 5,
 oD 7 .leq 6 19]
 (.cond (.t 7)
 .skip
 (.exit 0)))
 (.seq
 (.block 1
 (sr [
 oM 10 5,
 cP 11 75 [.t 10],
 oM 12 1,
 oP 13 .eql 11 12,
 oM 14 13,
 oTm 14 15 0,
 oTm 14 16 5,
 oT 14 17 (pP 73 [.t 16]),
 oT 14 18 (pF 100 [.t 15,.t 17]),
 oO 19 (.pick (.t 14) (.t 18) (.c bF))]
 (.cond (.t 19)
 (sr [
 oM 20 5,
 oM 4 20]
 .ret)
 .skip)))
 (.region [
 oM 8 5,
 oD 9 .add 8 1,
 oM 5 9])))
abbrev K150_0:List Nat:=[0,1]
abbrev B150_0:List Nat:=[]
def F150:IFn:=⟨21,2,[.tmp 4],false,false,none,(sr [oZ 4 0] (.seq (sr [oZ 5 1] (.block 0 L150_0)) (sr [oZ 4 0] .ret)))⟩
theorem ok150:zh Tryz.prog Tryz.f150 F150=true:=by kernel_rfl
def L134_0:ICode:= .loop [0,1,2,6,7] [9]
 (.block 1
 (sr [
 oM 20 0,
 oM 21 1,
 cF 22 150 [.t 20,.t 21],
 oM 8 22]
 (.seq
 (sr [
 oM 23 8,
 oD 24 .eql 23 0]
 (.cond (.t 24)
 (sr [
 oLa 25 7 5 7,
 oS 6 5 6 25]
 .ret)
 .skip))
 (sr [
 oM 26 0,
 oK 27 26,
 oA 28 1 27,
 oG 29 28,
 oD 30 .add 29 1,
 oK 31 26,
 oA 32 1 31,
 oV 32 30]
 (sr [
 oM 33 0,
 oM 34 1,
 oD 35 .add 34 1,
 oM 36 2,
 cF 37 134 [.t 33,.t 35,.t 36],
 oO 9 (.boxL 9 (.c (.agg [.int .i64 0,.int .i64 0,.int .i64 0,.str [],.slice .fit 5 []]))),
 oS 9 5 9 37]
 (.region [
 oM 38 8,
 oLa 39 7 5 7,
 oLa 40 9 5 9,
 oO 41 (.bslice 5 (.agg [.int .i64 0,.int .i64 0,.int .i64 0,.str [],.slice .fit 5 []]) 2 [(0,(.t 39)),(1,(.t 40))]),
 oO 42 (.build [.int .i64 0,.int .i64 0,.int .i64 0,.str [],.slice .fit 5 []] [(0,1,(cI 5)),(1,1,(.t 38)),(4,1,(.t 41))]),
 oS 7 5 7 42]))))))
abbrev K134_0:List Nat:=[0,1,2,6,7]
abbrev B134_0:List Nat:=[]
def F134:IFn:=⟨43,3,[.cell 6 true 5],false,false,none,(sr [oO 6 (.boxL 6 (.c (.agg [.int .i64 0,.int .i64 0,.int .i64 0,.str [],.slice .fit 5 []])))] (.seq (sr [oM 10 1,oD 11 .gtr 10 10] (.cond (.t 11) (sr [oM 12 0,oM 13 2,cF 14 149 [.t 12,.t 13],oS 6 5 6 14] .ret) .skip)) (sr [oM 15 0,oM 16 1,oD 17 .add 16 1,oM 18 2,cF 19 134 [.t 15,.t 17,.t 18],oO 7 (.boxL 7 (.c (.agg [.int .i64 0,.int .i64 0,.int .i64 0,.str [],.slice .fit 5 []]))),oS 7 5 7 19] (.block 0 L134_0))))⟩
theorem ok134:zh Tryz.prog Tryz.f134 F134=true:=by kernel_rfl
def F135:IFn:=⟨12,1,[.tmp 2],false,false,none,(sr [oC 2 (.slice .fit 5 [])] (sr [oM 4 0,cF 5 83 [(.t 4),(.c (.str [40]))]] (sr [oM 6 0,cF 7 134 [.t 6,cI 1,cI 1],oO 3 (.boxL 3 (.c (.agg [.int .i64 0,.int .i64 0,.int .i64 0,.str [],.slice .fit 5 []]))),oS 3 5 3 7] (sr [oM 8 0,cF 9 83 [(.t 8),(.c (.str [41]))]] (sr [oLa 10 3 5 3,oO 11 (.bslice 5 (.agg [.int .i64 0,.int .i64 0,.int .i64 0,.str [],.slice .fit 5 []]) 1 [(0,(.t 10))]),oE 2 11] .ret)))))⟩
theorem ok135:zh Tryz.prog Tryz.f135 F135=true:=by kernel_rfl
def F136:IFn:=⟨38,1,[.cell 2 true 6],false,false,none,(sr [oO 2 (.boxL 2 (.c (.agg [.int .i64 0,.int .i64 0,.str [],.slice .fit 5 [],.slice .fit 6 [],.slice .fit 6 []])))] (sr [oM 5 0,cF 6 80 [.t 5,cI 1],oM 3 6] (.seq (.block 0 (sr [oM 8 0,cF 9 81 [(.t 8),(.c (.str [40]))],oM 7 9] (.cond (.t 7) (sr [oM 10 3,oM 11 0,cF 12 151 [.t 11,cI 2],oO 13 (.build [.int .i64 0,.int .i64 0,.int .i64 0,.str [],.slice .fit 5 []] [(0,1,(cI 7)),(3,1,(.t 10)),(4,1,(.t 12))]),oO 14 (.bslice 5 (.agg [.int .i64 0,.int .i64 0,.int .i64 0,.str [],.slice .fit 5 []]) 1 [(0,(.t 13))]),oO 15 (.build [.int .i64 0,.int .i64 0,.str [],.slice .fit 5 [],.slice .fit 6 [],.slice .fit 6 []] [(0,1,(cI 10)),(3,1,(.t 14))]),oS 2 6 2 15] .ret) (sr [oM 17 0,cF 18 81 [(.t 17),(.c (.str [91]))],oM 16 18] (.cond (.t 16) (sr [oM 19 0,cF 20 134 [.t 19,cI 1,cI 1],oO 4 (.boxL 4 (.c (.agg [.int .i64 0,.int .i64 0,.int .i64 0,.str [],.slice .fit 5 []]))),oS 4 5 4 20] (sr [oM 21 0,cF 22 83 [(.t 21),(.c (.str [93]))]] (sr [oM 23 0,cF 24 83 [(.t 23),(.c (.str [61]))]] (sr [oM 25 3,oLa 26 4 5 4,oM 27 0,cF 28 134 [.t 27,cI 1,cI 1],oO 29 (.bslice 5 (.agg [.int .i64 0,.int .i64 0,.int .i64 0,.str [],.slice .fit 5 []]) 2 [(0,(.t 26)),(1,(.t 28))]),oO 30 (.build [.int .i64 0,.int .i64 0,.str [],.slice .fit 5 [],.slice .fit 6 [],.slice .fit 6 []] [(0,1,(cI 3)),(2,1,(.t 25)),(3,1,(.t 29))]),oS 2 6 2 30] .ret)))) .skip))))) (sr [oM 31 0,cF 32 83 [(.t 31),(.c (.str [61]))]] (sr [oM 33 3,oM 34 0,cF 35 134 [.t 34,cI 1,cI 1],oO 36 (.bslice 5 (.agg [.int .i64 0,.int .i64 0,.int .i64 0,.str [],.slice .fit 5 []]) 1 [(0,(.t 35))]),oO 37 (.build [.int .i64 0,.int .i64 0,.str [],.slice .fit 5 [],.slice .fit 6 [],.slice .fit 6 []] [(0,1,(cI 2)),(2,1,(.t 33)),(3,1,(.t 36))]),oS 2 6 2 37] .ret)))))⟩
theorem ok136:zh Tryz.prog Tryz.f136 F136=true:=by kernel_rfl
def F119:IFn:=⟨92,2,[.cell 4 true 6],false,false,none,(sr [oO 4 (.boxL 4 (.c (.agg [.int .i64 0,.int .i64 0,.str [],.slice .fit 5 [],.slice .fit 6 [],.slice .fit 6 []])))] (.seq (sr [oM 6 1,oD 7 .gtr 6 100] (.cond (.t 7) (.region [oM 8 0,oK 9 8,oA 10 3 9,oN (.store .any 1 (.t 10) (.c bT))]) .skip)) (sr [oO 5 (.boxL 5 (.c (.agg [.int .i64 0,.int .i64 0,.str [],.slice .fit 5 [],.slice .fit 6 [],.slice .fit 6 []])))] (.seq (.block 0 (sr [oM 14 0,cF 15 100 [(.t 14),(.c (.str [105,110,116]))],oM 16 15,oFm 16 17 0,oF 16 18 (pF 100 [(.t 17),(.c (.str [98,111,111,108]))]),oO 19 (.pick (.t 16) (.c bT) (.t 18)),oM 13 19] (.cond (.t 13) (sr [oM 20 0,cF 21 79 [.t 20],oA 22 0 5,oN (.store (.box 5) 1 (.t 22) (cI 1)),oA 23 1 5,oS 5 1 23 21] (sr [oM 24 0,cF 25 80 [.t 24,cI 1],oA 26 2 5,oS 5 1 26 25] (sr [oM 27 0,cF 28 83 [(.t 27),(.c (.str [61]))]] (.region [oM 29 0,cF 30 134 [.t 29,cI 1,cI 1],oO 31 (.bslice 5 (.agg [.int .i64 0,.int .i64 0,.int .i64 0,.str [],.slice .fit 5 []]) 1 [(0,(.t 30))]),oA 32 3 5,oS 5 1 32 31])))) (sr [oM 34 0,cF 35 81 [(.t 34),(.c (.str [105,102]))],oM 33 35] (.cond (.t 33) (sr [oM 36 0,cF 37 135 [.t 36],oA 38 0 5,oN (.store (.box 5) 1 (.t 38) (cI 4)),oA 39 3 5,oS 5 1 39 37] (sr [oM 40 0,oM 41 1,oD 42 .add 41 1,cF 43 101 [.t 40,.t 42],oA 44 4 5,oS 5 1 44 43] (.seq (sr [oM 45 0,cF 46 81 [(.t 45),(.c (.str [101,108,115,101]))]] (.cond (.t 46) (.region [oM 47 0,oM 48 1,oD 49 .add 48 1,cF 50 101 [.t 47,.t 49],oA 51 5 5,oS 5 1 51 50]) .skip)) (sr [oLa 52 5 6 5,oS 4 6 4 52] .ret)))) (sr [oM 54 0,cF 55 81 [(.t 54),(.c (.str [119,104,105,108,101]))],oM 53 55] (.cond (.t 53) (sr [oM 56 0,cF 57 135 [.t 56],oA 58 0 5,oN (.store (.box 5) 1 (.t 58) (cI 5)),oA 59 3 5,oS 5 1 59 57] (sr [oM 60 0,oM 61 1,oD 62 .add 61 1,cF 63 101 [.t 60,.t 62],oA 64 4 5,oS 5 1 64 63] (sr [oLa 65 5 6 5,oS 4 6 4 65] .ret))) (sr [oM 67 0,cF 68 81 [(.t 67),(.c (.str [98,114,101,97,107]))],oM 66 68] (.cond (.t 66) (.region [oA 69 0 5,oN (.store (.box 5) 1 (.t 69) (cI 6))]) (sr [oM 71 0,cF 72 81 [(.t 71),(.c (.str [99,111,110,116,105,110,117,101]))],oM 70 72] (.cond (.t 70) (.region [oA 73 0 5,oN (.store (.box 5) 1 (.t 73) (cI 7))]) (sr [oM 75 0,cF 76 81 [(.t 75),(.c (.str [114,101,116,117,114,110]))],oM 74 76] (.cond (.t 74) (.region [oM 77 0,cF 78 134 [.t 77,cI 1,cI 1],oO 79 (.bslice 5 (.agg [.int .i64 0,.int .i64 0,.int .i64 0,.str [],.slice .fit 5 []]) 1 [(0,(.t 78))]),oA 80 0 5,oN (.store (.box 5) 1 (.t 80) (cI 8)),oA 81 3 5,oS 5 1 81 79]) (sr [oM 83 0,cF 84 81 [(.t 83),(.c (.str [112,114,105,110,116]))],oM 82 84] (.cond (.t 82) (.region [oM 85 0,cF 86 135 [.t 85],oA 87 0 5,oN (.store (.box 5) 1 (.t 87) (cI 9)),oA 88 3 5,oS 5 1 88 86]) (.region [oM 11 0,cF 12 136 [.t 11],oS 5 6 5 12])))))))))))))))) (sr [oM 89 0,cF 90 83 [(.t 89),(.c (.str [59]))]] (sr [oLa 91 5 6 5,oS 4 6 4 91] .ret))))))⟩
theorem ok119:zh Tryz.prog Tryz.f119 F119=true:=by kernel_rfl
def L101_0:ICode:= .loop [0,1,5] []
 (.seq
 (sr [
 oM 8 0,
 cF 9 78 [.t 8],
 oU 10 9,
 oM 11 10,
 oTm 11 12 0,
 oT 11 13 (pF 81 [(.t 12),(.c (.str [125]))]),
 oT 11 14 (.un .not (.t 13)),
 oO 15 (.pick (.t 11) (.t 14) (.c bF))]
 (.cond (.t 15)
 .skip
 (.exit 0)))
 (.block 1
 (.region [
 oE 16 5,
 oM 17 0,
 oM 18 1,
 cF 19 119 [.t 17,.t 18],
 oO 20 (.bslice 6 (.agg [.int .i64 0,.int .i64 0,.str [],.slice .fit 5 [],.slice .fit 6 [],.slice .fit 6 []]) 1 [(0,(.t 19))]),
 oO 21 (.append 6 104 (.t 16) (.t 20)),
 oE 5 21])))
abbrev K101_0:List Nat:=[0,1]
abbrev B101_0:List Nat:=[]
def F101:IFn:=⟨23,2,[.tmp 4],false,false,none,(sr [oC 4 (.slice .fit 6 [])] (sr [oC 5 (.slice .fit 6 [])] (sr [oM 6 0,cF 7 83 [(.t 6),(.c (.str [123]))]] (.seq (.block 0 L101_0) (sr [oE 22 5,oE 4 22] .ret)))))⟩
theorem ok101:zh Tryz.prog Tryz.f101 F101=true:=by kernel_rfl
def L84_0:ICode:= .loop [0,6,7,8] []
 (.seq
 (sr [
 oM 18 8,
 oM 19 18,
 oFm 19 20 0,
 oF 19 21 (pF 81 [(.t 20),(.c (.str [44]))]),
 oO 22 (.pick (.t 19) (.c bT) (.t 21)),
 oM 23 22,
 oTm 23 24 0,
 oT 23 25 (pF 78 [.t 24]),
 oT 23 26 (.un .not (.t 25)),
 oO 27 (.pick (.t 23) (.t 26) (.c bF))]
 (.cond (.t 27)
 .skip
 (.exit 0)))
 (.seq
 (.block 1
 (sr [
 oM 28 0,
 cF 29 79 [.t 28],
 oM 9 29]
 (.region [
 oA 30 2 7,
 oO 31 (.loadT (.box 7) (.t 30)),
 oM 32 0,
 cF 33 80 [.t 32,cI 1],
 oM 34 9,
 oO 35 (.build [.str [],.int .i64 0] [(0,1,(.t 33)),(1,1,(.t 34))]),
 oO 36 (.bslice 2 (.agg [.str [],.int .i64 0]) 1 [(0,(.t 35))]),
 oO 37 (.append 2 24 (.t 31) (.t 36)),
 oA 38 2 7,
 oN (.storeT (.box 7) (.t 38) 37)])))
 (.region [
 oC 8 bF])))
abbrev K84_0:List Nat:=[0,6,7]
abbrev B84_0:List Nat:=[6]
def F84:IFn:=⟨45,3,[.cell 6 true 4],false,false,none,(sr [oO 6 (.boxL 6 (.c (.agg [.str [],.int .i64 0,.slice .fit 2 [],.slice .fit 6 []])))] (sr [oM 10 2,oM 11 1,oO 12 (.build [.str [],.int .i64 0,.slice .fit 2 [],.slice .fit 6 []] [(0,1,(.t 10)),(1,1,(.t 11))]),oO 7 (.boxL 7 (.c (.agg [.str [],.int .i64 0,.slice .fit 2 [],.slice .fit 6 []]))),oS 7 4 7 12] (sr [oM 13 0,cF 14 83 [(.t 13),(.c (.str [40]))]] (.seq (sr [oM 15 0,cF 16 81 [(.t 15),(.c (.str [41]))],oU 17 16] (.cond (.t 17) (.seq (sr [oC 8 bT] (.block 0 L84_0)) (.region [oM 39 0,cF 40 83 [(.t 39),(.c (.str [41]))]])) .skip)) (sr [oM 41 0,cF 42 101 [.t 41,cI 1],oA 43 3 7,oS 7 1 43 42] (sr [oLa 44 7 4 7,oS 6 4 6 44] .ret))))))⟩
theorem ok84:zh Tryz.prog Tryz.f84 F84=true:=by kernel_rfl
def L47_0:ICode:= .loop [0,2,3] []
 (.seq
 (sr [
 oM 7 0,
 cF 8 78 [.t 7],
 oU 9 8,
 oM 10 9,
 oTm 10 11 0,
 oT 10 12 (.nilck (.t 11)),
 oT 10 13 (.faddr 0 (.t 12)),
 oT 10 14 (.load .any false 1 (.t 13)),
 oTm 10 15 0,
 oT 10 16 (.nilck (.t 15)),
 oT 10 17 (.faddr 1 (.t 16)),
 oT 10 18 (.load .any false 1 (.t 17)),
 oT 10 19 (.iaddr 3 (.t 14) (.t 18)),
 oT 10 20 (.faddr 0 (.t 19)),
 oT 10 21 (.load .imm false 1 (.t 20)),
 oT 10 22 (.bin 0 [] .neq (.t 21) (cI 3)),
 oO 23 (.pick (.t 10) (.t 22) (.c bF))]
 (.cond (.t 23)
 .skip
 (.exit 0)))
 (.block 1
 (sr [
 oM 24 0,
 cF 25 79 [.t 24],
 oM 4 25]
 (sr [
 oM 26 0,
 cF 27 80 [.t 26,cI 1],
 oM 5 27]
 (.seq
 (sr [
 oM 28 4,
 oD 29 .eql 28 1,
 oM 30 29,
 oT 30 31 (.faddr 1 (.t 3)),
 oT 30 32 (.load (.box 3) false 1 (.t 31)),
 oT 30 33 (.len 1 (.t 32)),
 oT 30 34 (.bin 0 [] .eql (.t 33) (cI 0)),
 oO 35 (.pick (.t 30) (.t 34) (.c bF)),
 oM 36 35,
 oTm 36 37 0,
 oT 36 38 (pF 81 [(.t 37),(.c (.str [91]))]),
 oO 39 (.pick (.t 36) (.t 38) (.c bF))]
 (.cond (.t 39)
 (sr [
 oM 40 0,
 cF 41 80 [.t 40,cI 0],
 cP 42 82 [.t 41],
 oM 6 42]
 (sr [
 oM 43 0,
 cF 44 83 [(.t 43),(.c (.str [93]))]]
 (sr [
 oM 45 0,
 cF 46 83 [(.t 45),(.c (.str [59]))]]
 (sr [
 oA 47 0 3,
 oO 48 (.loadT (.box 3) (.t 47)),
 oM 49 5,
 oM 50 6,
 oO 51 (.build [.str [],.int .i64 0] [(0,1,(.t 49)),(1,1,(.t 50))]),
 oO 52 (.bslice 2 (.agg [.str [],.int .i64 0]) 1 [(0,(.t 51))]),
 oO 53 (.append 2 24 (.t 48) (.t 52)),
 oA 54 0 3,
 oN (.storeT (.box 3) (.t 54) 53)]
 (.exit 1)))))
 .skip))
 (.region [
 oA 55 1 3,
 oO 56 (.loadT (.box 3) (.t 55)),
 oM 57 0,
 oM 58 4,
 oM 59 5,
 cF 60 84 [.t 57,.t 58,.t 59],
 oO 61 (.bslice 4 (.agg [.str [],.int .i64 0,.slice .fit 2 [],.slice .fit 6 []]) 1 [(0,(.t 60))]),
 oO 62 (.append 4 72 (.t 56) (.t 61)),
 oA 63 1 3,
 oN (.storeT (.box 3) (.t 63) 62)]))))))
def F47:IFn:=⟨65,1,[.cell 2 true 2],false,false,none,(sr [oO 2 (.boxL 2 (.c (.agg [.slice .fit 2 [],.slice .fit 4 []])))] (sr [oO 3 (.boxL 3 (.c (.agg [.slice .fit 2 [],.slice .fit 4 []])))] (.seq (.block 0 L47_0) (sr [oLa 64 3 2 3,oS 2 2 2 64] .ret))))⟩
theorem ok47:zh Tryz.prog Tryz.f47 F47=true:=by kernel_rfl
def F26:IFn:=⟨60,1,[.cell 2 true 2,.tmp 3,.tmp 4],true,false,none,(sr [oO 2 (.boxL 2 (.c (.agg [.slice .fit 2 [],.slice .fit 4 []]))),oZ 3 0,oZ 4 0] (sr [oM 11 0,cP 12 46 [.t 11],oM 10 12,oX 13 10 0,oX 14 10 1,oX 15 10 2,oE 5 13,oM 6 14,oM 7 15] (.seq (sr [oM 16 6,oD 17 .neq 16 0] (.cond (.t 17) (sr [oO 18 (.build [.slice .fit 2 [],.slice .fit 4 []] []),oM 19 6,oM 20 7,oS 2 2 2 18,oM 3 19,oM 4 20] .ret) .skip)) (sr [oM 21 5,oO 22 (.build [.slice .fit 3 [],.int .i64 0,.bool false,.bool false] [(0,1,(.t 21))]),oO 23 (.boxS 4 (.t 22)),oM 8 23] (sr [oM 24 8,cF 25 47 [.t 24],oO 9 (.boxL 9 (.c (.agg [.slice .fit 2 [],.slice .fit 4 []]))),oS 9 2 9 25] (.seq (.block 0 (sr [oM 27 8,oK 28 27,oA 29 3 28,oG 30 29,oM 26 30] (.cond (.t 26) (sr [oO 31 (.build [.slice .fit 2 [],.slice .fit 4 []] []),oE 32 5,oM 33 8,oK 34 33,oA 35 1 34,oG 36 35,oI 37 3 32 36,oA 38 2 37,oH 39 38,oS 2 2 2 31,oZ 3 2,oM 4 39] .ret) (sr [oM 41 8,oK 42 41,oA 43 2 42,oG 44 43,oM 40 44] (.cond (.t 40) (sr [oO 45 (.build [.slice .fit 2 [],.slice .fit 4 []] []),oE 46 5,oM 47 8,oK 48 47,oA 49 1 48,oG 50 49,oI 51 3 46 50,oA 52 2 51,oH 53 52,oS 2 2 2 45,oZ 3 20,oM 4 53] .ret) (sr [oLa 55 9 2 9,cP 56 22 [.t 55],oU 57 56,oM 54 57] (.cond (.t 54) (sr [oO 58 (.build [.slice .fit 2 [],.slice .fit 4 []] []),oS 2 2 2 58,oZ 3 2,oZ 4 0] .ret) .skip))))))) (sr [oLa 59 9 2 9,oS 2 2 2 59,oZ 3 0,oZ 4 0] .ret)))))))⟩
theorem ok26:zh Tryz.prog Tryz.f26 F26=true:=by kernel_rfl
def F14:IFn:=⟨34,1,[.tmp 2],false,false,none,(sr [oC 2 bF] (sr [oM 10 0,cP 11 11 [.t 10],oM 9 11,oX 12 9 0,oX 13 9 1,oX 14 9 2,oO 3 (.boxL 3 (.c (.agg [.slice .fit 2 [],.slice .fit 4 []]))),oS 3 2 3 12,oM 4 13,oM 5 14] (sr [oM 16 0,cP 17 26 [.t 16],oM 15 17,oX 18 15 0,oX 19 15 1,oX 20 15 2,oO 6 (.boxL 6 (.c (.agg [.slice .fit 2 [],.slice .fit 4 []]))),oS 6 2 6 18,oM 7 19,oM 8 20] (sr [oLa 21 3 2 3,oLa 22 6 2 6,cP 23 12 [.t 21,.t 22],oM 24 23,oTm 24 25 4,oTm 24 26 7,oT 24 27 (.bin 0 [] .eql (.t 25) (.t 26)),oO 28 (.pick (.t 24) (.t 27) (.c bF)),oM 29 28,oTm 29 30 5,oTm 29 31 8,oT 29 32 (.bin 0 [] .eql (.t 30) (.t 31)),oO 33 (.pick (.t 29) (.t 32) (.c bF)),oM 2 33] .ret))))⟩
theorem ok14:zh Tryz.prog Tryz.f14 F14=true:=by kernel_rfl
def F15:IFn:=⟨2,0,[.tmp 0],false,false,none,(sr [oC 0 (.slice .fit 1 [])] (sr [oO 1 (.bslice 1 (.str []) 36 [(0,(.c (.str [105,110,116,32]))),(1,(.c (.str [98,111,111,108,32]))),(2,(.c (.str [109,97,105,110,40,41,32,123,32]))),(3,(.c (.str [125]))),(4,(.c (.str [120]))),(5,(.c (.str [32,61,32]))),(6,(.c (.str [49]))),(7,(.c (.str [59,32]))),(8,(.c (.str [105,102,32,40]))),(9,(.c (.str [41,32,123]))),(10,(.c (.str [101,108,115,101,32,123]))),(11,(.c (.str [119,104,105,108,101,32,40]))),(12,(.c (.str [114,101,116,117,114,110,32]))),(13,(.c (.str [112,114,105,110,116,40]))),(14,(.c (.str [41]))),(15,(.c (.str [97,91]))),(16,(.c (.str [93]))),(17,(.c (.str [102,40]))),(18,(.c (.str [44,32]))),(19,(.c (.str [43]))),(20,(.c (.str [42]))),(21,(.c (.str [45]))),(22,(.c (.str [33]))),(23,(.c (.str [105,56,40]))),(24,(.c (.str [38,38]))),(25,(.c (.str [124,124]))),(26,(.c (.str [60]))),(27,(.c (.str [61,61]))),(28,(.c (.str [116,114,117,101]))),(29,(.c (.str [114,101,97,100,40,41]))),(30,(.c (.str [98,114,101,97,107,59,32]))),(31,(.c (.str [99,111,110,116,105,110,117,101,59,32]))),(32,(.c (.str [10]))),(33,(.c (.str [40]))),(34,(.c (.str [50]))),(35,(.c (.str [123,32])))]),oE 0 1] .ret))⟩
theorem ok15:zh Tryz.prog Tryz.f15 F15=true:=by kernel_rfl
def F5:IFn:=⟨10,1,[.tmp 2],false,false,none,(sr [oC 2 bF] (sr [cP 3 8 [],oM 4 3,oT 4 5 (.take 0),oT 4 6 (pP 15 []),oT 4 7 (pP 9 [.t 5,.t 6]),oT 4 8 (pP 14 [.t 7]),oO 9 (.pick (.t 4) (.t 8) (.c bF)),oM 2 9] .ret))⟩
theorem ok5:zh Tryz.prog Tryz.f5 F5=true:=by kernel_rfl
def fns:Nat->Option IFn
 |27=>some F27
 |54=>some F54
 |88=>some F88
 |51=>some F51
 |53=>some F53
 |36=>some F36
 |52=>some F52
 |55=>some F55
 |28=>some F28
 |17=>some F17
 |57=>some F57
 |31=>some F31
 |56=>some F56
 |33=>some F33
 |29=>some F29
 |30=>some F30
 |32=>some F32
 |59=>some F59
 |60=>some F60
 |111=>some F111
 |159=>some F159
 |163=>some F163
 |145=>some F145
 |146=>some F146
 |129=>some F129
 |130=>some F130
 |165=>some F165
 |164=>some F164
 |157=>some F157
 |148=>some F148
 |158=>some F158
 |144=>some F144
 |128=>some F128
 |127=>some F127
 |112=>some F112
 |113=>some F113
 |93=>some F93
 |61=>some F61
 |34=>some F34
 |19=>some F19
 |35=>some F35
 |62=>some F62
 |37=>some F37
 |63=>some F63
 |38=>some F38
 |65=>some F65
 |64=>some F64
 |94=>some F94
 |66=>some F66
 |114=>some F114
 |95=>some F95
 |115=>some F115
 |131=>some F131
 |116=>some F116
 |147=>some F147
 |132=>some F132
 |133=>some F133
 |118=>some F118
 |117=>some F117
 |97=>some F97
 |96=>some F96
 |67=>some F67
 |40=>some F40
 |39=>some F39
 |20=>some F20
 |8=>some F8
 |9=>some F9
 |10=>some F10
 |41=>some F41
 |21=>some F21
 |12=>some F12
 |68=>some F68
 |69=>some F69
 |70=>some F70
 |42=>some F42
 |43=>some F43
 |71=>some F71
 |75=>some F75
 |98=>some F98
 |72=>some F72
 |44=>some F44
 |22=>some F22
 |23=>some F23
 |24=>some F24
 |99=>some F99
 |73=>some F73
 |74=>some F74
 |45=>some F45
 |25=>some F25
 |13=>some F13
 |3=>some F3
 |82=>some F82
 |76=>some F76
 |77=>some F77
 |46=>some F46
 |78=>some F78
 |100=>some F100
 |81=>some F81
 |83=>some F83
 |79=>some F79
 |80=>some F80
 |151=>some F151
 |160=>some F160
 |149=>some F149
 |150=>some F150
 |134=>some F134
 |135=>some F135
 |136=>some F136
 |119=>some F119
 |101=>some F101
 |84=>some F84
 |47=>some F47
 |26=>some F26
 |14=>some F14
 |15=>some F15
 |5=>some F5
 |_=>none
set_option maxRecDepth 100000 in
theorem fnsOk:∀f F,fns f=some F->∃fn,Tryz.prog.funcs[f]? =some fn/\zh Tryz.prog fn F=true:=by
 intro f F h;unfold fns at h;split at h
 ·cases h;exact⟨Tryz.f27,Tryz.func27,ok27⟩
 ·cases h;exact⟨Tryz.f54,Tryz.func54,ok54⟩
 ·cases h;exact⟨Tryz.f88,Tryz.func88,ok88⟩
 ·cases h;exact⟨Tryz.f51,Tryz.func51,ok51⟩
 ·cases h;exact⟨Tryz.f53,Tryz.func53,ok53⟩
 ·cases h;exact⟨Tryz.f36,Tryz.func36,ok36⟩
 ·cases h;exact⟨Tryz.f52,Tryz.func52,ok52⟩
 ·cases h;exact⟨Tryz.f55,Tryz.func55,ok55⟩
 ·cases h;exact⟨Tryz.f28,Tryz.func28,ok28⟩
 ·cases h;exact⟨Tryz.f17,Tryz.func17,ok17⟩
 ·cases h;exact⟨Tryz.f57,Tryz.func57,ok57⟩
 ·cases h;exact⟨Tryz.f31,Tryz.func31,ok31⟩
 ·cases h;exact⟨Tryz.f56,Tryz.func56,ok56⟩
 ·cases h;exact⟨Tryz.f33,Tryz.func33,ok33⟩
 ·cases h;exact⟨Tryz.f29,Tryz.func29,ok29⟩
 ·cases h;exact⟨Tryz.f30,Tryz.func30,ok30⟩
 ·cases h;exact⟨Tryz.f32,Tryz.func32,ok32⟩
 ·cases h;exact⟨Tryz.f59,Tryz.func59,ok59⟩
 ·cases h;exact⟨Tryz.f60,Tryz.func60,ok60⟩
 ·cases h;exact⟨Tryz.f111,Tryz.func111,ok111⟩
 ·cases h;exact⟨Tryz.f159,Tryz.func159,ok159⟩
 ·cases h;exact⟨Tryz.f163,Tryz.func163,ok163⟩
 ·cases h;exact⟨Tryz.f145,Tryz.func145,ok145⟩
 ·cases h;exact⟨Tryz.f146,Tryz.func146,ok146⟩
 ·cases h;exact⟨Tryz.f129,Tryz.func129,ok129⟩
 ·cases h;exact⟨Tryz.f130,Tryz.func130,ok130⟩
 ·cases h;exact⟨Tryz.f165,Tryz.func165,ok165⟩
 ·cases h;exact⟨Tryz.f164,Tryz.func164,ok164⟩
 ·cases h;exact⟨Tryz.f157,Tryz.func157,ok157⟩
 ·cases h;exact⟨Tryz.f148,Tryz.func148,ok148⟩
 ·cases h;exact⟨Tryz.f158,Tryz.func158,ok158⟩
 ·cases h;exact⟨Tryz.f144,Tryz.func144,ok144⟩
 ·cases h;exact⟨Tryz.f128,Tryz.func128,ok128⟩
 ·cases h;exact⟨Tryz.f127,Tryz.func127,ok127⟩
 ·cases h;exact⟨Tryz.f112,Tryz.func112,ok112⟩
 ·cases h;exact⟨Tryz.f113,Tryz.func113,ok113⟩
 ·cases h;exact⟨Tryz.f93,Tryz.func93,ok93⟩
 ·cases h;exact⟨Tryz.f61,Tryz.func61,ok61⟩
 ·cases h;exact⟨Tryz.f34,Tryz.func34,ok34⟩
 ·cases h;exact⟨Tryz.f19,Tryz.func19,ok19⟩
 ·cases h;exact⟨Tryz.f35,Tryz.func35,ok35⟩
 ·cases h;exact⟨Tryz.f62,Tryz.func62,ok62⟩
 ·cases h;exact⟨Tryz.f37,Tryz.func37,ok37⟩
 ·cases h;exact⟨Tryz.f63,Tryz.func63,ok63⟩
 ·cases h;exact⟨Tryz.f38,Tryz.func38,ok38⟩
 ·cases h;exact⟨Tryz.f65,Tryz.func65,ok65⟩
 ·cases h;exact⟨Tryz.f64,Tryz.func64,ok64⟩
 ·cases h;exact⟨Tryz.f94,Tryz.func94,ok94⟩
 ·cases h;exact⟨Tryz.f66,Tryz.func66,ok66⟩
 ·cases h;exact⟨Tryz.f114,Tryz.func114,ok114⟩
 ·cases h;exact⟨Tryz.f95,Tryz.func95,ok95⟩
 ·cases h;exact⟨Tryz.f115,Tryz.func115,ok115⟩
 ·cases h;exact⟨Tryz.f131,Tryz.func131,ok131⟩
 ·cases h;exact⟨Tryz.f116,Tryz.func116,ok116⟩
 ·cases h;exact⟨Tryz.f147,Tryz.func147,ok147⟩
 ·cases h;exact⟨Tryz.f132,Tryz.func132,ok132⟩
 ·cases h;exact⟨Tryz.f133,Tryz.func133,ok133⟩
 ·cases h;exact⟨Tryz.f118,Tryz.func118,ok118⟩
 ·cases h;exact⟨Tryz.f117,Tryz.func117,ok117⟩
 ·cases h;exact⟨Tryz.f97,Tryz.func97,ok97⟩
 ·cases h;exact⟨Tryz.f96,Tryz.func96,ok96⟩
 ·cases h;exact⟨Tryz.f67,Tryz.func67,ok67⟩
 ·cases h;exact⟨Tryz.f40,Tryz.func40,ok40⟩
 ·cases h;exact⟨Tryz.f39,Tryz.func39,ok39⟩
 ·cases h;exact⟨Tryz.f20,Tryz.func20,ok20⟩
 ·cases h;exact⟨Tryz.f8,Tryz.func8,ok8⟩
 ·cases h;exact⟨Tryz.f9,Tryz.func9,ok9⟩
 ·cases h;exact⟨Tryz.f10,Tryz.func10,ok10⟩
 ·cases h;exact⟨Tryz.f41,Tryz.func41,ok41⟩
 ·cases h;exact⟨Tryz.f21,Tryz.func21,ok21⟩
 ·cases h;exact⟨Tryz.f12,Tryz.func12,ok12⟩
 ·cases h;exact⟨Tryz.f68,Tryz.func68,ok68⟩
 ·cases h;exact⟨Tryz.f69,Tryz.func69,ok69⟩
 ·cases h;exact⟨Tryz.f70,Tryz.func70,ok70⟩
 ·cases h;exact⟨Tryz.f42,Tryz.func42,ok42⟩
 ·cases h;exact⟨Tryz.f43,Tryz.func43,ok43⟩
 ·cases h;exact⟨Tryz.f71,Tryz.func71,ok71⟩
 ·cases h;exact⟨Tryz.f75,Tryz.func75,ok75⟩
 ·cases h;exact⟨Tryz.f98,Tryz.func98,ok98⟩
 ·cases h;exact⟨Tryz.f72,Tryz.func72,ok72⟩
 ·cases h;exact⟨Tryz.f44,Tryz.func44,ok44⟩
 ·cases h;exact⟨Tryz.f22,Tryz.func22,ok22⟩
 ·cases h;exact⟨Tryz.f23,Tryz.func23,ok23⟩
 ·cases h;exact⟨Tryz.f24,Tryz.func24,ok24⟩
 ·cases h;exact⟨Tryz.f99,Tryz.func99,ok99⟩
 ·cases h;exact⟨Tryz.f73,Tryz.func73,ok73⟩
 ·cases h;exact⟨Tryz.f74,Tryz.func74,ok74⟩
 ·cases h;exact⟨Tryz.f45,Tryz.func45,ok45⟩
 ·cases h;exact⟨Tryz.f25,Tryz.func25,ok25⟩
 ·cases h;exact⟨Tryz.f13,Tryz.func13,ok13⟩
 ·cases h;exact⟨Tryz.f3,Tryz.func3,ok3⟩
 ·cases h;exact⟨Tryz.f82,Tryz.func82,ok82⟩
 ·cases h;exact⟨Tryz.f76,Tryz.func76,ok76⟩
 ·cases h;exact⟨Tryz.f77,Tryz.func77,ok77⟩
 ·cases h;exact⟨Tryz.f46,Tryz.func46,ok46⟩
 ·cases h;exact⟨Tryz.f78,Tryz.func78,ok78⟩
 ·cases h;exact⟨Tryz.f100,Tryz.func100,ok100⟩
 ·cases h;exact⟨Tryz.f81,Tryz.func81,ok81⟩
 ·cases h;exact⟨Tryz.f83,Tryz.func83,ok83⟩
 ·cases h;exact⟨Tryz.f79,Tryz.func79,ok79⟩
 ·cases h;exact⟨Tryz.f80,Tryz.func80,ok80⟩
 ·cases h;exact⟨Tryz.f151,Tryz.func151,ok151⟩
 ·cases h;exact⟨Tryz.f160,Tryz.func160,ok160⟩
 ·cases h;exact⟨Tryz.f149,Tryz.func149,ok149⟩
 ·cases h;exact⟨Tryz.f150,Tryz.func150,ok150⟩
 ·cases h;exact⟨Tryz.f134,Tryz.func134,ok134⟩
 ·cases h;exact⟨Tryz.f135,Tryz.func135,ok135⟩
 ·cases h;exact⟨Tryz.f136,Tryz.func136,ok136⟩
 ·cases h;exact⟨Tryz.f119,Tryz.func119,ok119⟩
 ·cases h;exact⟨Tryz.f101,Tryz.func101,ok101⟩
 ·cases h;exact⟨Tryz.f84,Tryz.func84,ok84⟩
 ·cases h;exact⟨Tryz.f47,Tryz.func47,ok47⟩
 ·cases h;exact⟨Tryz.f26,Tryz.func26,ok26⟩
 ·cases h;exact⟨Tryz.f14,Tryz.func14,ok14⟩
 ·cases h;exact⟨Tryz.f15,Tryz.func15,ok15⟩
 ·cases h;exact⟨Tryz.f5,Tryz.func5,ok5⟩
 ·cases h
def hand:Nat->Option HFn
 |11=>some H11
 |_=>none
set_option maxRecDepth 100000 in
theorem handOk:∀f H,hand f=some H->∃fn cl,Tryz.prog.funcs[f]? =some fn/\Tryz.prog.funcs[H.k]? =some cl/\checkH Tryz.prog fn cl H=true:=by
 intro f H h;unfold hand at h;split at h
 ·cases h;exact⟨Tryz.f11,Tryz.f18,Tryz.func11,Tryz.func18,okH11⟩
 ·cases h
end PE.U

namespace PE
open Go
structure Behind(w w':World):Prop where
 heap:∀b,b<w.heap.size->w'.heap[b]? =w.heap[b]?
 size:w.heap.size<=w'.heap.size
 os:w'.os=w.os
 output:w'.output=w.output
section
variable {G:Gh} {st:ze} {w w':World}
theorem Behind.keeps(h:Behind w w')(hS:SimS G st w)(κ:Cl):zic G w G w' κ:=by
 intro b hb;refine⟨hb,rfl,h.heap b ?_⟩;rcases yA b w.heap.size with h|h
 ·exact h
 ·rw[(hS.fresh b h).2]at hb;cases hb
theorem Behind.im(h:Behind w w')(hS:SimS G st w):(G.im w).le (G.im w'):=by
 intro b o v hv;unfold Gh.im at hv ⊢;split at hv
 ·rename_i hlt;rw[if_pos hlt];have hb:b<w.heap.size:=by
   rcases yA b w.heap.size with h|h
   ·exact h
   ·rw[(hS.fresh b h).1]at hlt;omega
  rw[World.cell?_of_block (w:=w) (a:=⟨b,o,none⟩) (h.heap b hb)];exact hv
 ·cases hv
theorem Behind.sims(h:Behind w w')(hS:SimS G st w):SimS G st w':=
 ⟨fun l o hl=>(hS.obj l o hl).mono (G:=G) (G':=G) (h.im hS) (Loc.le_refl _) rfl (h.keeps hS _) (fun _ _=>h.keeps hS _),fun b hb=>hS.fresh b (yha h.size hb)⟩
theorem Behind.ext(h:Behind w w')(hS:SimS G st w):Ext G st w G st w':=
 ⟨h.im hS,Loc.le_refl _,fun b hb=>h.keeps hS .prot b hb,h.size,h.os,h.output,fun x hx=>World.frozen?_of_block (h.heap x.block hx),rfl⟩
end
theorem Behind.refl(w:World):Behind w w:=⟨fun _ _=>rfl,yh _,rfl,rfl⟩
theorem Behind.drewN(w:World)(n:Nat):Behind w (w.drewN n):=⟨fun _ _=>rfl,yh _,rfl,rfl⟩
theorem Behind.bytes(w:World)(e:TypeId)(t:ByteArray):Behind w (Lib.bytesWorld w e t):=
 ⟨fun b hb=>Lib.bytesWorld_at_old w e t b hb,by rw[Lib.bytesWorld_size];omega,by unfold Lib.bytesWorld World.freeze;simp;rfl,by unfold Lib.bytesWorld World.freeze;simp;rfl⟩
theorem Behind.grow(w:World)(k:Nat)(os:Array Go.Obj):Behind w (Sort.grow (w.drewN k) os):=
 ⟨fun b hb=>Sort.heap_grow_old (w.drewN k) os hb,by simp,rfl,rfl⟩
def pureX(g:List PV->Option PV)(args:List PV)(st:ze):Option (CRes×ze):=(g args).map fun v=>(.ret v,st)
def Tabs.lie(T:Tabs)(w:World):Prop:=∀x∈T,∃e fr,w.heap[x.1]? =some (.cells x.2 e fr)
theorem zOc{P:Program}{T:Tabs}{f:Nat}(hfn:∃fn c,P.funcs[f]? =some fn/\(fn.name== "runtime.NumGoroutine")=false/\fn.body=some c){g:List PV->Option PV}
  (hC:∀args v,g args=some v->∀(I:Im) (L:Loc) (margs:Array Value) (w:World),T.lie w->margs.size=args.length->(∀(j:Nat) c x,args[j]? =some c->margs[j]? =some x->VR I L c x)→
   Calls P f margs w fun e w'=>∃mv,e= .returned mv/\(∀I L,VR I L v mv)/\Behind w w')
  (args:List PV) (st:ze) (r:CRes) (st':ze) (h:pureX g args st=some (r,st')):GoodF P T f args st r st':=by
 unfold pureX at h;rw[yb]at h;obtain⟨v,hv,h⟩:=h;cases h;intro G w margs hD hT hS hsz hvr;refine⟨hfn,(hC args v hv _ _ margs w (fun x hx=>(hT x hx).2) hsz hvr).mono ?_⟩
 rintro e w' ⟨mv,rfl,hm,hB⟩
 exact⟨G,hB.sims hS,hB.ext hS,VR.ret (hm _ _)⟩
theorem margs_1{I:Im}{L:Loc}{s:List UInt8}{margs:Array Value}(hsz:margs.size=1)(h:∀(j:Nat) c x,[PV.str s][j]? =some c->margs[j]? =some x->VR I L c x):margs= #[.string ⟨s.toArray⟩]:=by
 obtain⟨x,rfl⟩:=Array.size_eq_one_iff.1 hsz;have:=h 0 _ x rfl rfl;cases this;rfl
theorem margs_2{I:Im}{L:Loc}{a:List UInt8}{v:PV}{margs:Array Value}(hsz:margs.size=2)(h:∀(j:Nat) c x,[PV.str a,v][j]? =some c->margs[j]? =some x->VR I L c x):∃y,margs= #[.string ⟨a.toArray⟩,y]/\VR I L v y:=by
 obtain⟨l⟩:=margs
 match l,hsz with
 | [x,y],_=>
  have h0:=h 0 _ x rfl rfl;have h1:=h 1 _ y rfl rfl;cases h0;exact⟨y,rfl,h1⟩
def hasPrefixG:List PV->Option PV
 | [.str s,.str p]=>some (.bool (p.isPrefixOf s))
 |_=>none
theorem hasPrefixG_calls{P:Program}{f:Nat}{T:Tabs}(hC:∀(s p:ByteArray) (w:World),Calls P f #[.string s,.string p] w fun e w'=>e= .returned (.bool (Lib.hasPrefix s.data.toList p.data.toList))/\w'=w):
  ∀args v,hasPrefixG args=some v->∀(I:Im) (L:Loc) (margs:Array Value) (w:World),T.lie w->margs.size=args.length->(∀(j:Nat) c x,args[j]? =some c->margs[j]? =some x->VR I L c x)→
   Calls P f margs w fun e w'=>∃mv,e= .returned mv/\(∀I L,VR I L v mv)/\Behind w w':=by
 intro args v h I L margs w hT hsz hv;unfold hasPrefixG at h;split at h
 ·rename_i s p;cases h;obtain⟨y,rfl,hy⟩:=margs_2 hsz hv;cases hy;refine(hC _ _ w).mono ?_
  rintro e w' ⟨rfl,rfl⟩
  exact⟨_,rfl,fun I L=> .bool _,.refl _⟩
 ·cases h
def indexByteG:List PV->Option PV
 | [.str s,.int .u8 c]=>some (.int .i64 (Lib.indexByte s c.toNat.toUInt8))
 |_=>none
theorem indexByteG_calls{P:Program}{f:Nat}{T:Tabs}(hC:∀(s:ByteArray) (c:Int) (w:World),Calls P f #[.string s,.int .u8 c] w fun e w'=>e= .returned (.int .i64 (Lib.indexByte s.data.toList c.toNat.toUInt8))/\w'=w):
  ∀args v,indexByteG args=some v->∀(I:Im) (L:Loc) (margs:Array Value) (w:World),T.lie w->margs.size=args.length->(∀(j:Nat) c x,args[j]? =some c->margs[j]? =some x->VR I L c x)→
   Calls P f margs w fun e w'=>∃mv,e= .returned mv/\(∀I L,VR I L v mv)/\Behind w w':=by
 intro args v h I L margs w hT hsz hv;unfold indexByteG at h;split at h
 ·rename_i s c;cases h;obtain⟨y,rfl,hy⟩:=margs_2 hsz hv;cases hy;refine(hC _ _ w).mono ?_
  rintro e w' ⟨rfl,rfl⟩
  exact⟨_,rfl,fun I L=> .int _ _,.refl _⟩
 ·cases h
def containsG:List PV->Option PV
 | [.str s,.str p]=>if s.length<4294967281 then some (.bool (Lib.contains s p))else none
 |_=>none
theorem containsG_calls{P:Program}{f:Nat}{T:Tabs}(hC:∀(s p:ByteArray) (w:World),T.lie w->s.size<4294967281->Calls P f #[.string s,.string p] w fun e w'=>e= .returned (.bool (Lib.contains s.data.toList p.data.toList))/\w'=w):
  ∀args v,containsG args=some v->∀(I:Im) (L:Loc) (margs:Array Value) (w:World),T.lie w->margs.size=args.length->(∀(j:Nat) c x,args[j]? =some c->margs[j]? =some x->VR I L c x)→
   Calls P f margs w fun e w'=>∃mv,e= .returned mv/\(∀I L,VR I L v mv)/\Behind w w':=by
 intro args v h I L margs w hT hsz hv;unfold containsG at h;split at h
 ·rename_i s p;split at h
  case isFalse=>cases h
  rename_i hl;cases h;obtain⟨y,rfl,hy⟩:=margs_2 hsz hv;cases hy;refine(hC _ _ w hT (by simpa[ByteArray.size]using hl)).mono ?_
  rintro e w' ⟨rfl,rfl⟩
  exact⟨_,rfl,fun I L=> .bool _,.refl _⟩
 ·cases h
def cutG:List PV->Option PV
 | [.str s,.str p]=>if s.length<4294967281 then some (.tup [.str (Lib.cut s p).1,.str (Lib.cut s p).2.1,.bool (Lib.cut s p).2.2])else none
 |_=>none
theorem cutG_calls{P:Program}{f:Nat}{T:Tabs}(hC:∀(s sep:ByteArray) (w:World),T.lie w->s.size<4294967281->Calls P f #[.string s,.string sep] w fun e w'=>e= .returned (.tuple #[.string ⟨(Lib.cut s.data.toList sep.data.toList).1.toArray⟩,.string ⟨(Lib.cut s.data.toList sep.data.toList).2.1.toArray⟩,.bool (Lib.cut s.data.toList sep.data.toList).2.2])/\∃n,w'=w.drewN n):
  ∀args v,cutG args=some v->∀(I:Im) (L:Loc) (margs:Array Value) (w:World),T.lie w->margs.size=args.length->(∀(j:Nat) c x,args[j]? =some c->margs[j]? =some x->VR I L c x)→
   Calls P f margs w fun e w'=>∃mv,e= .returned mv/\(∀I L,VR I L v mv)/\Behind w w':=by
 intro args v h I L margs w hT hsz hv;unfold cutG at h;split at h
 ·rename_i s p;split at h
  case isFalse=>cases h
  rename_i hl;cases h;obtain⟨y,rfl,hy⟩:=margs_2 hsz hv;cases hy;refine(hC _ _ w hT (by simpa[ByteArray.size]using hl)).mono ?_
  rintro e w' ⟨rfl,n,rfl⟩
  refine⟨_,rfl,fun I L=> .tup rfl fun j c v hc hv=>?_,.drewN _ _⟩
  match j with
  |0=>cases hc;cases hv;exact .str _
  |1=>cases hc;cases hv;exact .str _
  |2=>cases hc;cases hv;exact .bool _
  |j+3=>simp at hc
 ·cases h
def atoiG(t:Nat):List PV->Option PV
 | [.str s]=>if s.length<=281474976710656 then some (match Lib.atoiAll s with
  | .ok v=> .tup [.int .i64 v,.nilif]
  | .«syntax» => .tup [.int .i64 0,.iface t .undef]
  | .range=> .tup [.int .i64 (Lib.atoiSat s),.iface t .undef])else none
 |_=>none
theorem Behind.below{w w':World}(h:Go.RowKit.Below w.heap.size w w'):Behind w w':=⟨h.block,h.size,h.os,h.output⟩
theorem atoiG_calls{P:Program}{f t:Nat}{T:Tabs}
  (hok:∀(s:ByteArray) (v:Int) (w:World),s.size<=9223372036854775806->Lib.atoiAll s.data.toList= .ok v->Calls P f #[.string s] w fun e w'=>e= .returned (.tuple #[.int .i64 v,.nilIface])/\(w'=w\/∃e t,w'=Lib.bytesWorld w e t))
  (hsyn:∀(s:ByteArray) (w:World),T.lie w->s.size<=281474976710656->Lib.atoiAll s.data.toList= .«syntax» ->Calls P f #[.string s] w fun e w'=>∃N:Nat,e= .returned (.tuple #[.int .i64 0,.iface t (.pointer (some ⟨N,0,none⟩))])/\Go.RowKit.Below w.heap.size w w')
  (hran:∀(s:ByteArray) (w:World),T.lie w->s.size<=281474976710656->Lib.atoiAll s.data.toList= .range->Calls P f #[.string s] w fun e w'=>∃N:Nat,e= .returned (.tuple #[.int .i64 (Lib.atoiSat s.data.toList),.iface t (.pointer (some ⟨N,0,none⟩))])/\Go.RowKit.Below w.heap.size w w'):
  ∀args v,atoiG t args=some v->∀(I:Im) (L:Loc) (margs:Array Value) (w:World),T.lie w->margs.size=args.length->(∀(j:Nat) c x,args[j]? =some c->margs[j]? =some x->VR I L c x)→
   Calls P f margs w fun e w'=>∃mv,e= .returned mv/\(∀I L,VR I L v mv)/\Behind w w':=by
 intro args v h I L margs w hT hsz hv;unfold atoiG at h;split at h
 ·rename_i s;split at h
  case isFalse=>cases h
  rename_i hl;have hm:=margs_1 hsz hv;subst hm;have hl':(⟨s.toArray⟩:ByteArray).size<=281474976710656:=by simpa[ByteArray.size]using hl
  have two:∀(n:Int) (x y:_) (I:Im) (L:Loc),VR I L x y->VR I L (.tup [.int .i64 n,x]) (.tuple #[.int .i64 n,y]):=by
   intro n x y I L hxy;refine .tup rfl fun j c v hc hv=>?_
   match j with
   |0=>cases hc;cases hv;exact .int _ _
   |1=>cases hc;cases hv;exact hxy
   |j+2=>simp at hc
  cases ha:Lib.atoiAll s with
  |ok n=>
   rw[ha]at h;cases h;refine(hok _ n w (by omega) (by simpa using ha)).mono ?_
   rintro e w' ⟨rfl,hw⟩
   refine⟨_,rfl,fun I L=>two _ _ _ I L .nilif,?_⟩;rcases hw with rfl|⟨e,t,rfl⟩
   ·exact .refl _
   ·exact .bytes _ _ _
  | «syntax» =>
   rw[ha]at h;cases h;refine(hsyn _ w hT hl' (by simpa using ha)).mono ?_
   rintro e w' ⟨N,rfl,hw⟩
   exact⟨_,rfl,fun I L=>two _ _ _ I L (.iface (.undef _)),.below hw⟩
  |range=>
   rw[ha]at h;cases h;refine(hran _ w hT hl' (by simpa using ha)).mono ?_
   rintro e w' ⟨N,rfl,hw⟩
   exact⟨_,rfl,fun I L=>two _ _ _ I L (.iface (.undef _)),.below hw⟩
 ·cases h
def itoaG:List PV->Option PV
 | [.int .i64 n]=>if-9223372036854775808<=n/\n<=9223372036854775807 then some (.str (Lib.itoa n))else none
 |_=>none
theorem itoaG_calls{P:Program}{f:Nat}{T:Tabs}
  (hC:∀(n:Int) (w:World),T.lie w-> -9223372036854775808<=n->n<=9223372036854775807->Calls P f #[.int .i64 n] w fun e w'=>e= .returned (.string ⟨(Lib.itoa n).toArray⟩)/\∃k os,w'=Sort.grow (w.drewN k) os):
  ∀args v,itoaG args=some v->∀(I:Im) (L:Loc) (margs:Array Value) (w:World),T.lie w->margs.size=args.length->(∀(j:Nat) c x,args[j]? =some c->margs[j]? =some x->VR I L c x)→
   Calls P f margs w fun e w'=>∃mv,e= .returned mv/\(∀I L,VR I L v mv)/\Behind w w':=by
 intro args v h I L margs w hT hsz hv;unfold itoaG at h;split at h
 ·rename_i n;split at h
  case isFalse=>cases h
  rename_i hb;cases h;obtain⟨x,rfl⟩:=Array.size_eq_one_iff.1 (show margs.size=1 from hsz);have hx:=hv 0 (.int .i64 n) x rfl rfl;cases hx;refine(hC n w hT hb.1 hb.2).mono ?_
  rintro e w' ⟨rfl,k,os,rfl⟩
  exact⟨_,rfl,fun I L=> .str _,.grow _ _ _⟩
 ·cases h
end PE

namespace Go.Proofs
open Go.Shelf
def Tryz.prefixL_ren:Go.Shelf.Ren:=⟨fun|99=>48|206=>85|n=>n,fun|9=>9|4=>4|3=>3|n=>n,fun|n=>n⟩
theorem Tryz.prefixL:Go.Proofs.Lays.n99 Tryz.prog Tryz.prefixL_ren:={
 mixed:=by kernel_rfl
 f99:=Tryz.func48.trans (congrArg some (by kernel_rfl))
 f206:=Tryz.func85.trans (congrArg some (by kernel_rfl))
 t3:=Tryz.underlying3
 a3:=Tryz.isAgg3
 z3:=Tryz.sizeOf3
 v3:=Tryz.zeroValue3
 t4:=Tryz.underlying4
 a4:=Tryz.isAgg4
 z4:=Tryz.sizeOf4
 v4:=Tryz.zeroValue4
 t9:=Tryz.underlying9
 a9:=Tryz.isAgg9
 z9:=Tryz.sizeOf9
 v9:=Tryz.zeroValue9}
def Tryz.byteL_ren:Go.Shelf.Ren:=⟨fun|137=>50|217=>87|266=>103|n=>n,fun|9=>9|5=>5|3=>3|n=>n,fun|n=>n⟩
theorem Tryz.byteL:Go.Proofs.Lays.n137 Tryz.prog Tryz.byteL_ren:={
 mixed:=by kernel_rfl
 f137:=Tryz.func50.trans (congrArg some (by kernel_rfl))
 f217:=Tryz.func87.trans (congrArg some (by kernel_rfl))
 f266:=Tryz.func103.trans (congrArg some (by kernel_rfl))
 t3:=Tryz.underlying3
 a3:=Tryz.isAgg3
 z3:=Tryz.sizeOf3
 v3:=Tryz.zeroValue3
 t5:=Tryz.underlying5
 a5:=Tryz.isAgg5
 z5:=Tryz.sizeOf5
 v5:=Tryz.zeroValue5
 t9:=Tryz.underlying9
 a9:=Tryz.isAgg9
 z9:=Tryz.sizeOf9
 v9:=Tryz.zeroValue9}
def Tryz.containsL_ren:Go.Shelf.Ren:=⟨fun|144=>89|143=>104|219=>102|217=>87|225=>120|224=>121|267=>122|266=>103|314=>137|n=>n,fun|9=>9|4=>4|3=>3|5=>5|46=>141|146=>157|51=>156|n=>n,fun|1=>0|n=>n⟩
theorem Tryz.containsL:Go.Proofs.Lays.n144 Tryz.prog Tryz.containsL_ren:={
 mixed:=by kernel_rfl
 f143:=Tryz.func104.trans (congrArg some (by kernel_rfl))
 f144:=Tryz.func89.trans (congrArg some (by kernel_rfl))
 f217:=Tryz.func87.trans (congrArg some (by kernel_rfl))
 f219:=Tryz.func102.trans (congrArg some (by kernel_rfl))
 f224:=Tryz.func121.trans (congrArg some (by kernel_rfl))
 f225:=Tryz.func120.trans (congrArg some (by kernel_rfl))
 f266:=Tryz.func103.trans (congrArg some (by kernel_rfl))
 f267:=Tryz.func122.trans (congrArg some (by kernel_rfl))
 f314:=Tryz.func137.trans (congrArg some (by kernel_rfl))
 t3:=Tryz.underlying3
 a3:=Tryz.isAgg3
 z3:=Tryz.sizeOf3
 v3:=Tryz.zeroValue3
 t4:=Tryz.underlying4
 a4:=Tryz.isAgg4
 z4:=Tryz.sizeOf4
 v4:=Tryz.zeroValue4
 t5:=Tryz.underlying5
 a5:=Tryz.isAgg5
 z5:=Tryz.sizeOf5
 v5:=Tryz.zeroValue5
 t9:=Tryz.underlying9
 a9:=Tryz.isAgg9
 z9:=Tryz.sizeOf9
 v9:=Tryz.zeroValue9
 t46:=Tryz.underlying141
 a46:=Tryz.isAgg141
 z46:=Tryz.sizeOf141
 v46:=Tryz.zeroValue141
 t51:=Tryz.underlying156
 a51:=Tryz.isAgg156
 z51:=Tryz.sizeOf156
 v51:=Tryz.zeroValue156
 t146:=Tryz.underlying157
 a146:=Tryz.isAgg157
 z146:=Tryz.sizeOf157
 v146:=Tryz.zeroValue157
 g1:=by kernel_rfl}
def Tryz.cutL_ren:Go.Shelf.Ren:=⟨fun|145=>49|220=>86|219=>102|217=>87|225=>120|224=>121|267=>122|266=>103|314=>137|n=>n,fun|9=>9|4=>4|59=>91|3=>3|5=>5|46=>141|146=>157|51=>156|n=>n,fun|1=>0|n=>n⟩
theorem Tryz.cutL:Go.Proofs.Lays.n145 Tryz.prog Tryz.cutL_ren:={
 mixed:=by kernel_rfl
 f145:=Tryz.func49.trans (congrArg some (by kernel_rfl))
 f217:=Tryz.func87.trans (congrArg some (by kernel_rfl))
 f219:=Tryz.func102.trans (congrArg some (by kernel_rfl))
 f220:=Tryz.func86.trans (congrArg some (by kernel_rfl))
 f224:=Tryz.func121.trans (congrArg some (by kernel_rfl))
 f225:=Tryz.func120.trans (congrArg some (by kernel_rfl))
 f266:=Tryz.func103.trans (congrArg some (by kernel_rfl))
 f267:=Tryz.func122.trans (congrArg some (by kernel_rfl))
 f314:=Tryz.func137.trans (congrArg some (by kernel_rfl))
 t3:=Tryz.underlying3
 a3:=Tryz.isAgg3
 z3:=Tryz.sizeOf3
 v3:=Tryz.zeroValue3
 t4:=Tryz.underlying4
 a4:=Tryz.isAgg4
 z4:=Tryz.sizeOf4
 v4:=Tryz.zeroValue4
 t5:=Tryz.underlying5
 a5:=Tryz.isAgg5
 z5:=Tryz.sizeOf5
 v5:=Tryz.zeroValue5
 t9:=Tryz.underlying9
 a9:=Tryz.isAgg9
 z9:=Tryz.sizeOf9
 v9:=Tryz.zeroValue9
 t46:=Tryz.underlying141
 a46:=Tryz.isAgg141
 z46:=Tryz.sizeOf141
 v46:=Tryz.zeroValue141
 t51:=Tryz.underlying156
 a51:=Tryz.isAgg156
 z51:=Tryz.sizeOf156
 v51:=Tryz.zeroValue156
 t59:=Tryz.underlying91
 a59:=Tryz.isAgg91
 z59:=Tryz.sizeOf91
 v59:=Tryz.zeroValue91
 t146:=Tryz.underlying157
 a146:=Tryz.isAgg157
 z146:=Tryz.sizeOf157
 v146:=Tryz.zeroValue157
 g1:=by kernel_rfl}
def Tryz.atoiL_ren:Go.Shelf.Ren:=⟨fun|172=>58|244=>91|245=>92|247=>106|279=>107|280=>108|281=>109|282=>110|287=>124|316=>125|171=>90|205=>126|321=>142|322=>143|243=>105|246=>123|283=>138|284=>139|285=>140|286=>141|129=>153|317=>152|318=>154|319=>155|320=>156|337=>161|338=>162|n=>n,fun|9=>9|3=>3|75=>98|76=>99|4=>4|5=>5|167=>123|37=>22|0=>0|85=>124|2=>2|168=>126|53=>143|175=>144|46=>141|210=>147|127=>165|145=>168|143=>166|21=>21|171=>159|173=>162|212=>173|51=>156|20=>20|213=>174|232=>181|233=>182|80=>183|n=>n,fun|15=>1|16=>2|17=>3|18=>4|19=>5|n=>n⟩
theorem Tryz.atoiL:Go.Proofs.LaysC.n172 Tryz.prog Tryz.atoiL_ren:={
 mixed:=by kernel_rfl
 f129:=Tryz.func153.trans (congrArg some (by kernel_rfl))
 f171:=Tryz.func90.trans (congrArg some (by kernel_rfl))
 f172:=Tryz.func58.trans (congrArg some (by kernel_rfl))
 f205:=Tryz.func126.trans (congrArg some (by kernel_rfl))
 f243:=Tryz.func105.trans (congrArg some (by kernel_rfl))
 f244:=Tryz.func91.trans (congrArg some (by kernel_rfl))
 f245:=Tryz.func92.trans (congrArg some (by kernel_rfl))
 f246:=Tryz.func123.trans (congrArg some (by kernel_rfl))
 f247:=Tryz.func106.trans (congrArg some (by kernel_rfl))
 f279:=Tryz.func107.trans (congrArg some (by kernel_rfl))
 f280:=Tryz.func108.trans (congrArg some (by kernel_rfl))
 f281:=Tryz.func109.trans (congrArg some (by kernel_rfl))
 f282:=Tryz.func110.trans (congrArg some (by kernel_rfl))
 f283:=Tryz.func138.trans (congrArg some (by kernel_rfl))
 f284:=Tryz.func139.trans (congrArg some (by kernel_rfl))
 f285:=Tryz.func140.trans (congrArg some (by kernel_rfl))
 f286:=Tryz.func141.trans (congrArg some (by kernel_rfl))
 f287:=Tryz.func124.trans (congrArg some (by kernel_rfl))
 f316:=Tryz.func125.trans (congrArg some (by kernel_rfl))
 f317:=Tryz.func152.trans (congrArg some (by kernel_rfl))
 f318:=Tryz.func154.trans (congrArg some (by kernel_rfl))
 f319:=Tryz.func155.trans (congrArg some (by kernel_rfl))
 f320:=Tryz.func156.trans (congrArg some (by kernel_rfl))
 f321:=Tryz.func142.trans (congrArg some (by kernel_rfl))
 f322:=Tryz.func143.trans (congrArg some (by kernel_rfl))
 f337:=Tryz.func161.trans (congrArg some (by kernel_rfl))
 f338:=Tryz.func162.trans (congrArg some (by kernel_rfl))
 t0:=Tryz.underlying0
 a0:=Tryz.isAgg0
 z0:=Tryz.sizeOf0
 v0:=Tryz.zeroValue0
 t2:=Tryz.underlying2
 a2:=Tryz.isAgg2
 z2:=Tryz.sizeOf2
 v2:=Tryz.zeroValue2
 t3:=Tryz.underlying3
 a3:=Tryz.isAgg3
 z3:=Tryz.sizeOf3
 v3:=Tryz.zeroValue3
 t4:=Tryz.underlying4
 a4:=Tryz.isAgg4
 z4:=Tryz.sizeOf4
 v4:=Tryz.zeroValue4
 t5:=Tryz.underlying5
 a5:=Tryz.isAgg5
 z5:=Tryz.sizeOf5
 v5:=Tryz.zeroValue5
 t9:=Tryz.underlying9
 a9:=Tryz.isAgg9
 z9:=Tryz.sizeOf9
 v9:=Tryz.zeroValue9
 t20:=Tryz.underlying20
 a20:=Tryz.isAgg20
 z20:=Tryz.sizeOf20
 v20:=Tryz.zeroValue20
 t21:=Tryz.underlying21
 a21:=Tryz.isAgg21
 z21:=Tryz.sizeOf21
 v21:=Tryz.zeroValue21
 t37:=Tryz.underlying22
 a37:=Tryz.isAgg22
 z37:=Tryz.sizeOf22
 v37:=Tryz.zeroValue22
 t46:=Tryz.underlying141
 a46:=Tryz.isAgg141
 z46:=Tryz.sizeOf141
 v46:=Tryz.zeroValue141
 t51:=Tryz.underlying156
 a51:=Tryz.isAgg156
 z51:=Tryz.sizeOf156
 v51:=Tryz.zeroValue156
 t53:=Tryz.underlying143
 a53:=Tryz.isAgg143
 z53:=Tryz.sizeOf143
 v53:=Tryz.zeroValue143
 t75:=Tryz.underlying98
 a75:=Tryz.isAgg98
 z75:=Tryz.sizeOf98
 v75:=Tryz.zeroValue98
 t76:=Tryz.underlying99
 a76:=Tryz.isAgg99
 z76:=Tryz.sizeOf99
 v76:=Tryz.zeroValue99
 t85:=Tryz.underlying124
 a85:=Tryz.isAgg124
 z85:=Tryz.sizeOf124
 v85:=Tryz.zeroValue124
 t127:=Tryz.underlying165
 a127:=Tryz.isAgg165
 z127:=Tryz.sizeOf165
 v127:=Tryz.zeroValue165
 t143:=Tryz.underlying166
 a143:=Tryz.isAgg166
 z143:=Tryz.sizeOf166
 v143:=Tryz.zeroValue166
 t145:=Tryz.underlying168
 a145:=Tryz.isAgg168
 z145:=Tryz.sizeOf168
 v145:=Tryz.zeroValue168
 t167:=Tryz.underlying123
 a167:=Tryz.isAgg123
 z167:=Tryz.sizeOf123
 v167:=Tryz.zeroValue123
 t168:=Tryz.underlying126
 a168:=Tryz.isAgg126
 z168:=Tryz.sizeOf126
 v168:=Tryz.zeroValue126
 t171:=Tryz.underlying159
 a171:=Tryz.isAgg159
 z171:=Tryz.sizeOf159
 v171:=Tryz.zeroValue159
 t173:=Tryz.underlying162
 a173:=Tryz.isAgg162
 z173:=Tryz.sizeOf162
 v173:=Tryz.zeroValue162
 t175:=Tryz.underlying144
 a175:=Tryz.isAgg144
 z175:=Tryz.sizeOf144
 v175:=Tryz.zeroValue144
 t210:=Tryz.underlying147
 a210:=Tryz.isAgg147
 z210:=Tryz.sizeOf147
 v210:=Tryz.zeroValue147
 t212:=Tryz.underlying173
 a212:=Tryz.isAgg173
 z212:=Tryz.sizeOf173
 v212:=Tryz.zeroValue173
 t213:=Tryz.underlying174
 a213:=Tryz.isAgg174
 z213:=Tryz.sizeOf174
 t232:=Tryz.underlying181
 a232:=Tryz.isAgg181
 z232:=Tryz.sizeOf181
 v232:=Tryz.zeroValue181
 t233:=Tryz.underlying182
 a233:=Tryz.isAgg182
 z233:=Tryz.sizeOf182
 v233:=Tryz.zeroValue182
 g15:=by kernel_rfl
 g16:=by kernel_rfl
 g17:=by kernel_rfl
 g18:=by kernel_rfl
 g19:=by kernel_rfl
 t80:=Tryz.underlying183
 a80:=Tryz.isAgg183
 z80:=Tryz.sizeOf183
 v80:=Tryz.zeroValue183
 i0:=by kernel_rfl
 i2:=by kernel_rfl
 i3:=by kernel_rfl
 i4:=by kernel_rfl
 i5:=by kernel_rfl
 i9:=by kernel_rfl
 i20:=by kernel_rfl
 i21:=by kernel_rfl
 i37:=by kernel_rfl
 i46:=by kernel_rfl
 i51:=by kernel_rfl
 i53:=by kernel_rfl
 i75:=by kernel_rfl
 i76:=by kernel_rfl
 i80:=by kernel_rfl
 i85:=by kernel_rfl
 i127:=by kernel_rfl
 i143:=by kernel_rfl
 i145:=by kernel_rfl
 i167:=by kernel_rfl
 i168:=by kernel_rfl
 i171:=by kernel_rfl
 i173:=by kernel_rfl
 i175:=by kernel_rfl
 i210:=by kernel_rfl
 i212:=by kernel_rfl
 i232:=by kernel_rfl
 i233:=by kernel_rfl
 m15:=by kernel_rfl
 m16:=by kernel_rfl
 m17:=by kernel_rfl
 m18:=by kernel_rfl
 m19:=by kernel_rfl
 c0:=by kernel_rfl
 c2:=by kernel_rfl
 c3:=by kernel_rfl
 c4:=by kernel_rfl
 c5:=by kernel_rfl
 c9:=by kernel_rfl
 c20:=by kernel_rfl
 c21:=by kernel_rfl
 c37:=by kernel_rfl
 c46:=by kernel_rfl
 c51:=by kernel_rfl
 c53:=by kernel_rfl
 c75:=by kernel_rfl
 c76:=by kernel_rfl
 c80:=by kernel_rfl
 c85:=by kernel_rfl
 c127:=by kernel_rfl
 c143:=by kernel_rfl
 c145:=by kernel_rfl
 c167:=by kernel_rfl
 c168:=by kernel_rfl
 c171:=by kernel_rfl
 c173:=by kernel_rfl
 c175:=by kernel_rfl
 c210:=by kernel_rfl
 c212:=by kernel_rfl
 c213:=by kernel_rfl
 c232:=by kernel_rfl
 c233:=by kernel_rfl}
def Tryz.itoaL_ren:Go.Shelf.Ren:=⟨fun|171=>90|243=>105|246=>123|283=>138|284=>139|285=>140|286=>141|129=>153|317=>152|318=>154|319=>155|320=>156|337=>161|338=>162|n=>n,fun|3=>3|9=>9|2=>2|4=>4|171=>159|0=>0|53=>143|37=>22|5=>5|173=>162|212=>173|51=>156|20=>20|213=>174|46=>141|232=>181|233=>182|n=>n,fun|17=>3|18=>4|19=>5|n=>n⟩
theorem Tryz.itoaL:Go.Proofs.LaysM.n171 Tryz.prog Tryz.itoaL_ren:={
 mixed:=by kernel_rfl
 f129:=Tryz.func153.trans (congrArg some (by kernel_rfl))
 f171:=Tryz.func90.trans (congrArg some (by kernel_rfl))
 f243:=Tryz.func105.trans (congrArg some (by kernel_rfl))
 f246:=Tryz.func123.trans (congrArg some (by kernel_rfl))
 f283:=Tryz.func138.trans (congrArg some (by kernel_rfl))
 f284:=Tryz.func139.trans (congrArg some (by kernel_rfl))
 f285:=Tryz.func140.trans (congrArg some (by kernel_rfl))
 f286:=Tryz.func141.trans (congrArg some (by kernel_rfl))
 f317:=Tryz.func152.trans (congrArg some (by kernel_rfl))
 f318:=Tryz.func154.trans (congrArg some (by kernel_rfl))
 f319:=Tryz.func155.trans (congrArg some (by kernel_rfl))
 f320:=Tryz.func156.trans (congrArg some (by kernel_rfl))
 f337:=Tryz.func161.trans (congrArg some (by kernel_rfl))
 f338:=Tryz.func162.trans (congrArg some (by kernel_rfl))
 t0:=Tryz.underlying0
 a0:=Tryz.isAgg0
 z0:=Tryz.sizeOf0
 v0:=Tryz.zeroValue0
 t2:=Tryz.underlying2
 a2:=Tryz.isAgg2
 z2:=Tryz.sizeOf2
 v2:=Tryz.zeroValue2
 t3:=Tryz.underlying3
 a3:=Tryz.isAgg3
 z3:=Tryz.sizeOf3
 v3:=Tryz.zeroValue3
 t4:=Tryz.underlying4
 a4:=Tryz.isAgg4
 z4:=Tryz.sizeOf4
 v4:=Tryz.zeroValue4
 t5:=Tryz.underlying5
 a5:=Tryz.isAgg5
 z5:=Tryz.sizeOf5
 v5:=Tryz.zeroValue5
 t9:=Tryz.underlying9
 a9:=Tryz.isAgg9
 z9:=Tryz.sizeOf9
 v9:=Tryz.zeroValue9
 t20:=Tryz.underlying20
 a20:=Tryz.isAgg20
 z20:=Tryz.sizeOf20
 v20:=Tryz.zeroValue20
 t37:=Tryz.underlying22
 a37:=Tryz.isAgg22
 z37:=Tryz.sizeOf22
 v37:=Tryz.zeroValue22
 t46:=Tryz.underlying141
 a46:=Tryz.isAgg141
 z46:=Tryz.sizeOf141
 v46:=Tryz.zeroValue141
 t51:=Tryz.underlying156
 a51:=Tryz.isAgg156
 z51:=Tryz.sizeOf156
 v51:=Tryz.zeroValue156
 t53:=Tryz.underlying143
 a53:=Tryz.isAgg143
 z53:=Tryz.sizeOf143
 v53:=Tryz.zeroValue143
 t171:=Tryz.underlying159
 a171:=Tryz.isAgg159
 z171:=Tryz.sizeOf159
 v171:=Tryz.zeroValue159
 t173:=Tryz.underlying162
 a173:=Tryz.isAgg162
 z173:=Tryz.sizeOf162
 v173:=Tryz.zeroValue162
 t212:=Tryz.underlying173
 a212:=Tryz.isAgg173
 z212:=Tryz.sizeOf173
 v212:=Tryz.zeroValue173
 t213:=Tryz.underlying174
 a213:=Tryz.isAgg174
 z213:=Tryz.sizeOf174
 t232:=Tryz.underlying181
 a232:=Tryz.isAgg181
 z232:=Tryz.sizeOf181
 v232:=Tryz.zeroValue181
 t233:=Tryz.underlying182
 a233:=Tryz.isAgg182
 z233:=Tryz.sizeOf182
 v233:=Tryz.zeroValue182
 g17:=by kernel_rfl
 g18:=by kernel_rfl
 g19:=by kernel_rfl
 i0:=by kernel_rfl
 i2:=by kernel_rfl
 i3:=by kernel_rfl
 i4:=by kernel_rfl
 i5:=by kernel_rfl
 i9:=by kernel_rfl
 i20:=by kernel_rfl
 i37:=by kernel_rfl
 i46:=by kernel_rfl
 i51:=by kernel_rfl
 i53:=by kernel_rfl
 i171:=by kernel_rfl
 i173:=by kernel_rfl
 i212:=by kernel_rfl
 i232:=by kernel_rfl
 i233:=by kernel_rfl
 m17:=by kernel_rfl
 m18:=by kernel_rfl
 m19:=by kernel_rfl}
end Go.Proofs
namespace PE.U
open Go PE Go.Proofs
def tab10:Array Value:=(Lib.pow10Tab.map fun z=>Value.int .u64 z).toArray
def tabs(c0 c1 c2:Array Value):Tabs:=[(0,c0),(1,c1),(2,c2),(3,tab10)]
structure TabsOk(c0 c1 c2:Array Value):Prop where
 n:∃m,c0[0]? =some (.int .i64 m)
 s:∃ev,c1[0]? =some ev/\(ev= .nilIface\/∃te pe,ev= .iface te pe)
 r:∃ev,c2[0]? =some ev/\(ev= .nilIface\/∃te pe,ev= .iface te pe)
theorem cell_at{w:World}{b:Nat}{cs:Array Value}{v:Value}(h:∃e fr,w.heap[b]? =some (.cells cs e fr))(hc:cs[0]? =some v):w.cell? ⟨b,0,none⟩=some v:=by
 obtain⟨e,fr,h⟩:=h;simp[World.cell?,h,hc]
theorem tab_is{w:World}(h:∃e fr,w.heap[3]? =some (.cells tab10 e fr)):Lib.TabIs Tryz.prog w "internal/strconv.uint64pow10" .u64 Lib.pow10Tab:=by
 obtain⟨e,fr,h⟩:=h;have hg:Tryz.prog.globalNamed "internal/strconv.uint64pow10" =some 3:=by kernel_rfl
 unfold Lib.TabIs World.var?;rw[hg];simp only[Option.bind_some,h];rfl
def extE:Nat->Option (List PV->ze->Option (CRes×ze))
 |48=>some (pureX hasPrefixG)
 |50=>some (pureX indexByteG)
 |89=>some (pureX containsG)
 |49=>some (pureX cutG)
 |58=>some (pureX (atoiG 126))
 |90=>some (pureX itoaG)
 |_=>none
noncomputable def E:Env:={fn:=fns,ext:=extE,hand:=hand}
set_option maxRecDepth 100000 in
theorem envOk{c0 c1 c2:Array Value}(ht:TabsOk c0 c1 c2):EnvOk Tryz.prog (tabs c0 c1 c2) E:=by
 obtain⟨⟨m,hm⟩,⟨es,hs,hes⟩,⟨er,hr,her⟩⟩:=ht;have t0:∀w:World,(tabs c0 c1 c2).lie w->w.cell? ⟨0,0,none⟩=some (.int .i64 m):=fun w h=>cell_at (h (0,c0) (by simp[tabs])) hm
 have t1:∀w:World,(tabs c0 c1 c2).lie w->w.cell? ⟨1,0,none⟩=some es:=fun w h=>cell_at (h (1,c1) (by simp[tabs])) hs
 have t2:∀w:World,(tabs c0 c1 c2).lie w->w.cell? ⟨2,0,none⟩=some er:=fun w h=>cell_at (h (2,c2) (by simp[tabs])) hr
 have t3:∀w:World,(tabs c0 c1 c2).lie w->Lib.TabIs Tryz.prog w "internal/strconv.uint64pow10" .u64 Lib.pow10Tab:=fun w h=>tab_is (h (3,tab10) (by simp[tabs]))
 refine⟨fnsOk,fun f g h args st r st' hg=>?_,handOk⟩;unfold E extE at h;simp only at h;split at h
 ·cases h;exact zOc ⟨_,_,Tryz.func48,by decide,rfl⟩ (hasPrefixG_calls fun s p w=>Any.strings_HasPrefix Tryz.prefixL s p w) args st r st' hg
 ·cases h;exact zOc ⟨_,_,Tryz.func50,by decide,rfl⟩ (indexByteG_calls fun s c w=>Any.strings_IndexByte Tryz.byteL s c w) args st r st' hg
 ·cases h;exact zOc ⟨_,_,Tryz.func89,by decide,rfl⟩ (containsG_calls fun s p w hT hl=>Any.strings_Contains Tryz.containsL s p m w hl (t0 w hT)) args st r st' hg
 ·cases h;exact zOc ⟨_,_,Tryz.func49,by decide,rfl⟩ (cutG_calls fun s p w hT hl=>Any.strings_Cut Tryz.cutL s p m w hl (t0 w hT)) args st r st' hg
 ·cases h;refine zOc ⟨_,_,Tryz.func58,by decide,rfl⟩ (atoiG_calls (fun s v w hl ha=>?_) (fun s w hT hl ha=>?_) (fun s w hT hl ha=>?_)) args st r st' hg
  ·refine(Any.strconv_Atoi_ok Tryz.atoiL s hl v ha w).mono ?_
   rintro e w' ⟨rfl,hw⟩
   refine⟨rfl,?_⟩;rcases hw with h|⟨t,h⟩
   ·exact .inl h
   ·exact .inr ⟨_,t,h⟩
  ·refine(Any.strconv_Atoi_syntax Tryz.atoiL s hl ha es w (t1 w hT) hes).mono ?_
   rintro e w' ⟨N,rfl,_,_,hb⟩
   exact⟨N,rfl,hb⟩
  ·refine(Any.strconv_Atoi_range Tryz.atoiL s hl ha er w (t2 w hT) her).mono ?_
   rintro e w' ⟨N,rfl,_,_,hb⟩
   exact⟨N,rfl,hb⟩
 ·cases h;exact zOc ⟨_,_,Tryz.func90,by decide,rfl⟩ (itoaG_calls fun n w hT h0 h1=>Any.strconv_Itoa Tryz.itoaL n h0 h1 w (t3 w hT)) args st r st' hg
 ·cases h
end PE.U

namespace PE.U
open Go PE
def zlb(c:Int):Bool:=(decide (97<=c)&&decide (c<=122))||(decide (65<=c)&&decide (c<=90))||decide (c=95)
def znc(c:Int):Bool:=decide (48<=c)&&decide (c<=57)
theorem zKb(c:Int)(σ:ze):zk E 54 [.int .i32 c] σ=some (.ret (.bool (zlb c)),σ):=by
 refine zc rfl rfl rfl (by simp) ?_
 (simp[*,F54,zlb])<;>(repeat' ((first|refine sP _ ?_ ?_|refine gP _ ?_ ?_|refine sN _ ?_ ?_|refine gN _ ?_ ?_|refine sM _ ?_ ?_|refine gM _ ?_ ?_|refine sB _ ?_ ?_|refine gB _ ?_ ?_)<;>intro hc<;>simp[*,F54,zlb]))
theorem digit_spec(c:Int)(σ:ze):zk E 88 [.int .i32 c] σ=some (.ret (.bool (znc c)),σ):=by
 refine zc rfl rfl rfl (by simp) ?_
 (simp[*,F88,znc])<;>(repeat' ((first|refine sP _ ?_ ?_|refine gP _ ?_ ?_|refine sN _ ?_ ?_|refine gN _ ?_ ?_|refine sM _ ?_ ?_|refine gM _ ?_ ?_|refine sB _ ?_ ?_|refine gB _ ?_ ?_)<;>intro hc<;>simp[*,F88,znc]))
theorem zmd(c:Int)(σ:ze):zk E 68 [.int .u8 c] σ=some (.ret (.bool (zlb c)),σ):=by
 refine zc rfl rfl rfl (by simp) ?_
 (simp[*,F68,zlb])<;>(repeat' ((first|refine sP _ ?_ ?_|refine gP _ ?_ ?_|refine sN _ ?_ ?_|refine gN _ ?_ ?_|refine sM _ ?_ ?_|refine gM _ ?_ ?_|refine sB _ ?_ ?_|refine gB _ ?_ ?_)<;>intro hc<;>simp[*,F68,zlb]))
theorem rdigit_spec(c:Int)(σ:ze):zk E 70 [.int .u8 c] σ=some (.ret (.bool (znc c)),σ):=by
 refine zc rfl rfl rfl (by simp) ?_
 (simp[*,F70,znc])<;>(repeat' ((first|refine sP _ ?_ ?_|refine gP _ ?_ ?_|refine sN _ ?_ ?_|refine gN _ ?_ ?_|refine sM _ ?_ ?_|refine gM _ ?_ ?_|refine sB _ ?_ ?_|refine gB _ ?_ ?_)<;>intro hc<;>simp[*,F70,znc]))
def words:List (List UInt8):=[[105,110,116],[98,111,111,108],[105,102],[101,108,115,101],[119,104,105,108,101],[98,114,101,97,107],[99,111,110,116,105,110,117,101],[114,101,116,117,114,110],
 [112,114,105,110,116],[114,101,97,100],[116,114,117,101],[102,97,108,115,101],[105,56],[105,49,54],[105,51,50],[117,56],[117,49,54],[117,51,50]]
def wordM(s:List UInt8):Bool:=words.contains s
theorem word_spec(s:List UInt8)(σ:ze):zk E 53 [.str s] σ=some (.ret (.bool (wordM s)),σ):=by
 refine zc rfl rfl rfl (by simp) ?_
 (simp[*,F53,wordM,words])<;>(repeat' ((first|refine sP _ ?_ ?_|refine gP _ ?_ ?_|refine sN _ ?_ ?_|refine gN _ ?_ ?_|refine sM _ ?_ ?_|refine gM _ ?_ ?_|refine sB _ ?_ ?_|refine gB _ ?_ ?_)<;>intro hc<;>simp[*,F53,wordM,words]))
theorem rword_spec(s:List UInt8)(σ:ze):zk E 69 [.str s] σ=some (.ret (.bool (wordM s)),σ):=by
 refine zc rfl rfl rfl (by simp) ?_
 (simp[*,F69,wordM,words])<;>(repeat' ((first|refine sP _ ?_ ?_|refine gP _ ?_ ?_|refine sN _ ?_ ?_|refine gN _ ?_ ?_|refine sM _ ?_ ?_|refine gM _ ?_ ?_|refine sB _ ?_ ?_|refine gB _ ?_ ?_)<;>intro hc<;>simp[*,F69,wordM,words]))
def zq(b:UInt8):Bool:=zlb b.toNat||znc b.toNat
def runM(s:List UInt8):List UInt8:=s.takeWhile zq
def zXa(s:List UInt8):Bool:=decide (s≠ [])&&(zlb ((s.head?.getD 0).toNat)&&(s.all zq&&(decide (s.length<=20)&& !wordM s)))
theorem nameByte_high{b:UInt8}(h:128<=b.toNat):zq b=false:=by
 simp[zq,zlb,znc];omega
theorem high_not{c:Nat}(h:128<=c):zlb c=false/\znc c=false:=by
 simp[zlb,znc];omega
theorem zvc{p:UInt8->Bool}:∀{s:List UInt8},s.takeWhile p=s<->s.all p=true
 | []=>by simp
 |b::r=>by
  rw[yT];cases h:p b
  ·simp[h]
  ·simp[h,zvc (s:=r)]
theorem run_spec(s:List UInt8)(σ:ze):zk E 51 [.str s] σ=some (.ret (.str (runM s)),σ):=by
 refine zc rfl rfl rfl (by simp) ?_;simp[F51];refine zmb K51_0 B51_0 (fun d=>s.length-d) (fun d=>[]) (fun d=>[(6,.iter s d)]) (fun _=>σ) (fun d=>d<=s.length/\(s.take d).all zq=true) 0 (by simp) ?_
 rintro d s1 ⟨hd,ha⟩ h1 h2 h3 h4 h5
 simp at h4;by_cases hlt:d<s.length
 ·have hs:d<(⟨s.toArray⟩:ByteArray).size:=by show d<s.toArray.size;simpa using hlt
  have hget:(⟨s.toArray⟩:ByteArray)[d]'hs=s[d]:=rfl;have htk:s.take (d+1)=s.take d++[s[d]]:=by simp
  by_cases hb:s[d].toNat<128
  ·have hdec:=decode_ascii ⟨s.toArray⟩ d hs (by rw[hget];exact hb);rw[hget]at hdec;cases hn:zq s[d]
   ·have e:runM s=s.take d:=by
     have:s=s.take d++(s[d]::s.drop (d+1)):=by simp
     unfold runM;rw[this,List.takeWhile_append_of_pos (by simpa using ha),yT,hn];simp
    have hn2:=hn;simp only[zq,ywa]at hn2;have hmin:min d s.length=d:=by omega
    simp[*,zKb,digit_spec]
   ·have hn2:=hn;simp only[zq,yF]at hn2;cases hl:zlb s[d].toNat
    ·rw[hl]at hn2;simp at hn2;simp[*,zKb,digit_spec];exact⟨d+1,by omega,rfl,by omega,by rw[<-yr,htk,yla,ha];simp[hn]⟩
    ·simp[*,zKb,digit_spec];exact⟨d+1,by omega,rfl,by omega,by rw[<-yr,htk,yla,ha];simp[hn]⟩
  ·obtain⟨hd1,hd2⟩:=decode_high ⟨s.toArray⟩ d hs (by rw[hget];omega);obtain⟨q1,q2⟩:=high_not hd1;have e:runM s=s.take d:=by
    have:s=s.take d++(s[d]::s.drop (d+1)):=by simp
    unfold runM;rw[this,List.takeWhile_append_of_pos (by simpa using ha),yT,nameByte_high (by omega)];simp
   simp[*,zKb,digit_spec]
 ·have hd':d=s.length:=by omega
  subst hd';simp at ha;have e:runM s=s:=by
   unfold runM;exact zvc.2 (by simpa using ha)
  simp[*]
theorem zId(s:List UInt8)(σ:ze):zk E 36 [.str s] σ=some (.ret (.bool (zXa s)),σ):=by
 refine zc rfl rfl rfl (by simp) ?_;have hr:decide (runM s=s)=s.all zq:=by
  unfold runM;simp only[zvc,Bool.decide_eq_true]
 by_cases hne:s=[]
 ·subst hne;simp[F36,zXa]
 obtain⟨b,r,hs⟩:=yoa hne;have hb:s[0]? =some b:=by rw[hs];rfl
 have hd:s.head? =some b:=by rw[hs];rfl
 clear hs;generalize ha:s.all zq=A at hr
 (simp[*,F36,zXa,zKb,run_spec,word_spec])<;>(repeat' ((first|refine sP _ ?_ ?_|refine gP _ ?_ ?_|refine sN _ ?_ ?_|refine gN _ ?_ ?_|refine sM _ ?_ ?_|refine gM _ ?_ ?_|refine sB _ ?_ ?_|refine gB _ ?_ ?_)<;>intro hc<;>simp[*,F36,zXa,zKb,run_spec,word_spec]))
 all_goals(try grind)
theorem zBd(s:List UInt8)(σ:ze):zk E 42 [.str s] σ=some (.ret (.bool (zXa s)),σ):=by
 refine zc rfl rfl rfl (by simp) ?_;by_cases hne:s=[]
 ·subst hne;simp[F42,zXa]
 obtain⟨b,r,hs⟩:=yoa hne;have hb:s[0]? =some b:=by rw[hs];rfl
 have hd:s.head? =some b:=by rw[hs];rfl
 clear hs
 (simp[*,F42,zXa,zmd,rword_spec])<;>(repeat' ((first|refine sP _ ?_ ?_|refine gP _ ?_ ?_|refine sN _ ?_ ?_|refine gN _ ?_ ?_|refine sM _ ?_ ?_|refine gM _ ?_ ?_|refine sB _ ?_ ?_|refine gB _ ?_ ?_)<;>intro hc<;>simp[*,F42,zXa,zmd,rword_spec]))
 all_goals first|refine zsa s K42_0 B42_0 (fun d=>[(3,.int .i64 d.length)]) (fun _=>σ) (fun d=>d.all zq=true) (by omega) (by simp) ?_ ?_|grind
 ·intros d x r' s hl' hlt hget hget' hw hp h1 h2 h3 h4;simp at h1 h3;have hx:=hl'.mem;clear h2
  (simp[*,zmd,rdigit_spec])<;>(repeat' ((first|refine sP _ ?_ ?_|refine gP _ ?_ ?_|refine sN _ ?_ ?_|refine gN _ ?_ ?_|refine sM _ ?_ ?_|refine gM _ ?_ ?_|refine sB _ ?_ ?_|refine gB _ ?_ ?_)<;>intro hc<;>simp[*,zmd,rdigit_spec]))
  all_goals grind [zq]
 ·intros s hp h1 h2 h3 h4;simp at h1 h3
  (simp[*])<;>(repeat' ((first|refine sP _ ?_ ?_|refine gP _ ?_ ?_|refine sN _ ?_ ?_|refine gN _ ?_ ?_|refine sM _ ?_ ?_|refine gM _ ?_ ?_|refine sB _ ?_ ?_|refine gB _ ?_ ?_)<;>intro hc<;>simp[*]))
  all_goals(try grind)
def zAc:Int->List UInt8->Option Int
 |n,[]=>some n
 |n,b::r=>if(9223372036854775807-((b.toNat:Int)-48))/10<n then none else zAc (n*10+((b.toNat:Int)-48)) r
def zwc(s:List UInt8):Int:=match zAc 0 s with
 |none=> -1
 |some n=>if s=[]\/(1<s.length/\s.head? =some 48)then-1 else n
def digs(s:List UInt8):Bool:=s.all fun b=>znc b.toNat
theorem zhd:∀(a b:List UInt8) (n:Int),zAc n (a++b)=(zAc n a).bind fun m=>zAc m b
 | [],b,n=>by simp[zAc]
 |x::a,b,n=>by
  simp only[yk,zAc];split
  ·simp
  ·exact zhd a b _
theorem valGo_range:∀(s:List UInt8) (n m:Int),digs s=true->0<=n->n<=9223372036854775807->zAc n s=some m->0<=m/\m<=9223372036854775807
 | [],n,m,_,h0,h1,h=>by simp[zAc]at h;omega
 |b::r,n,m,hd,h0,h1,h=>by
  simp only[zAc]at h;simp only[digs,List.all_cons,ya]at hd;split at h
  ·cases h
  ·rename_i hc;have:48<=(b.toNat:Int)/\(b.toNat:Int)<=57:=by simpa[znc]using hd.1
   exact valGo_range r _ m hd.2 (by omega) (by omega) h
theorem value_spec'(s:List UInt8)(σ:ze)(hs:digs s=true)(hl:s.length<1099511627776):zk E 82 [.str s] σ=some (.ret (.int .i64 (zwc s)),σ):=by
 refine zc rfl rfl rfl (by simp) ?_;simp[F82];refine zsa s K82_0 B82_0 (fun d=>[(4,.int .i64 d.length),(3,.int .i64 ((zAc 0 d).getD 0))]) (fun _=>σ) (fun d=>(zAc 0 d).isSome=true) (by omega) (by simp[zAc]) ?_ ?_
 ·intros d x r s1 hl' hlt hget hget' hw hp h1 h2 h3 h4;simp at h1 h3;obtain⟨n,hn⟩:=yX.1 hp;have hdd:digs d=true:=by
   have:=hl'.eq;rw[this]at hs;simp only[digs,yla,ya]at hs;exact hs.1
  have hdx:znc x.toNat=true:=by
   have:=hl'.eq;rw[this]at hs;simp only[digs,yla,List.all_cons,ya]at hs;exact hs.2.1
  have hx:48<=(x.toNat:Int)/\(x.toNat:Int)<=57:=by simpa[znc]using hdx
  obtain⟨n0,n1⟩:=valGo_range d 0 n hdd (by omega) (by omega) hn;have w1:zra .i64 ((x.toNat:Int)-48)=(x.toNat:Int)-48:=zp (by omega) (by omega);have w2:zra .i64 (9223372036854775807-((x.toNat:Int)-48))=9223372036854775807-((x.toNat:Int)-48):=zp (by omega) (by omega);have w3:(9223372036854775807-((x.toNat:Int)-48)).tdiv 10=(9223372036854775807-((x.toNat:Int)-48))/10:=Int.tdiv_eq_ediv_of_nonneg (by omega);have w4:zra .i64 ((9223372036854775807-((x.toNat:Int)-48))/10)=(9223372036854775807-((x.toNat:Int)-48))/10:=zp (by omega) (by omega);have e1:zAc 0 (d++[x])=if(9223372036854775807-((x.toNat:Int)-48))/10<n then none else some (n*10+((x.toNat:Int)-48)):=by
   rw[zhd,hn];simp only[Option.bind_some,zAc]
  rw[hn]at h3;simp at h3;clear h2 hp hs;by_cases hc:(9223372036854775807-((x.toNat:Int)-48))/10<n
  ·have hv:zwc s= -1:=by
    unfold zwc;have:zAc 0 s=none:=by
     rw[hl'.eq,show d++x::r=(d++[x])++r by simp,zhd,e1,if_pos hc];rfl
    rw[this]
   rw[if_pos hc]at e1
   (simp[*])<;>(repeat' (first|((first|refine sP _ ?_ ?_|refine gP _ ?_ ?_|refine sN _ ?_ ?_|refine gN _ ?_ ?_)<;>intro hc<;>(first|replace hc:=eqn hc|replace hc:=eqp hc)<;>simp[*])|((first|refine sM _ ?_ ?_|refine gM _ ?_ ?_|refine sB _ ?_ ?_|refine gB _ ?_ ?_)<;>intro hc<;>simp[*])))
  ·rw[if_neg hc]at e1;have w5:zra .i64 (n*10)=n*10:=zp (by omega) (by omega);have w6:zra .i64 (n*10+((x.toNat:Int)-48))=n*10+((x.toNat:Int)-48):=zp (by omega) (by omega)
   (simp[*])<;>(repeat' (first|((first|refine sP _ ?_ ?_|refine gP _ ?_ ?_|refine sN _ ?_ ?_|refine gN _ ?_ ?_)<;>intro hc<;>(first|replace hc:=eqn hc|replace hc:=eqp hc)<;>simp[*])|((first|refine sM _ ?_ ?_|refine gM _ ?_ ?_|refine sB _ ?_ ?_|refine gB _ ?_ ?_)<;>intro hc<;>simp[*])))
 ·intros s1 hp h1 h2 h3 h4;simp at h1 h3;obtain⟨n,hn⟩:=yX.1 hp;have hv:zwc s=if s=[]\/(1<s.length/\s.head? =some 48)then-1 else n:=by unfold zwc;rw[hn]
  rw[hn]at h3;simp at h3;clear h2 hp hs hn;by_cases he:s=[]
  ·subst he;(simp[*])<;>(repeat' (first|((first|refine sP _ ?_ ?_|refine gP _ ?_ ?_|refine sN _ ?_ ?_|refine gN _ ?_ ?_)<;>intro hc<;>(first|replace hc:=eqn hc|replace hc:=eqp hc)<;>simp[*])|((first|refine sM _ ?_ ?_|refine gM _ ?_ ?_|refine sB _ ?_ ?_|refine gB _ ?_ ?_)<;>intro hc<;>simp[*])))
  ·obtain⟨b,r,rfl⟩:=yoa he;simp at hv;have hbb:((b.toNat:Int)=48)=(b=48):=by
    apply propext;constructor
    ·intro h;apply UInt8.toNat_inj.1;simpa using(by omega:b.toNat=48)
    ·rintro rfl;rfl
   by_cases h1l:0<r.length
   ·have h1l':(1:Int)<(r.length:Int)+1:=by omega
    by_cases hb:b=48
    ·subst hb;(simp[*])<;>(repeat' (first|((first|refine sP _ ?_ ?_|refine gP _ ?_ ?_|refine sN _ ?_ ?_|refine gN _ ?_ ?_)<;>intro hc<;>(first|replace hc:=eqn hc|replace hc:=eqp hc)<;>simp[*])|((first|refine sM _ ?_ ?_|refine gM _ ?_ ?_|refine sB _ ?_ ?_|refine gB _ ?_ ?_)<;>intro hc<;>simp[*])))
    ·(simp[*])<;>(repeat' (first|((first|refine sP _ ?_ ?_|refine gP _ ?_ ?_|refine sN _ ?_ ?_|refine gN _ ?_ ?_)<;>intro hc<;>(first|replace hc:=eqn hc|replace hc:=eqp hc)<;>simp[*])|((first|refine sM _ ?_ ?_|refine gM _ ?_ ?_|refine sB _ ?_ ?_|refine gB _ ?_ ?_)<;>intro hc<;>simp[*])))
   ·have h1l':¬(1:Int)<(r.length:Int)+1:=by omega
    (simp[*])<;>(repeat' (first|((first|refine sP _ ?_ ?_|refine gP _ ?_ ?_|refine sN _ ?_ ?_|refine gN _ ?_ ?_)<;>intro hc<;>(first|replace hc:=eqn hc|replace hc:=eqp hc)<;>simp[*])|((first|refine sM _ ?_ ?_|refine gM _ ?_ ?_|refine sB _ ?_ ?_|refine gB _ ?_ ?_)<;>intro hc<;>simp[*])))
def zud(s:List UInt8):Bool:=digs s&&decide (0<=zwc s)
def signsL:List (List UInt8):=[[62,62,62],[60,60],[62,62],[60,61],[62,61],[61,61],[33,61],[38,38],[124,124],[40],[41],[123],[125],[91],[93],[44],[59],[61],[60],[62],[43],[45],[42],[47],[37],[38],[124],[94],[126],[33]]
def zsb(s:List UInt8):List UInt8:=(signsL.find? fun x=>x.isPrefixOf s).getD []
theorem prefix_take(x s:List UInt8):x.isPrefixOf s=(decide (x.length<=s.length)&&decide (s.take x.length=x)):=by
 rw[Bool.eq_iff_iff];simp only[List.isPrefixOf_iff_prefix,ya,decide_eq_true_eq];constructor
 ·intro h;exact⟨h.length_le,(List.prefix_iff_eq_take.1 h).symm⟩
 ·rintro⟨_,h⟩;rw[<-h];exact List.take_prefix _ _
def zBb(w:List UInt8)(b:UInt8):Int:=if wordM w then 2 else if zlb b.toNat then 1 else 0
def tokBad(w:List UInt8)(b:UInt8):Bool:=(decide (zBb w b=1)&& !zXa w)||(decide (zBb w b=0)&& !zud w)
def blank(b:UInt8):Bool:=b==32||b==9||b==13
def zZa:Nat->List UInt8->Int->List Tok->List Tok×Int×Int
 |0,_,_,acc=>(acc,0,0)
 |_+1,[],line,acc=>(acc++[⟨3,[],line⟩],0,0)
 |n+1,b::r,line,acc=>
  if b=10 then zZa n r (line+1) acc
  else if blank b then zZa n r line acc
  else if b=47/\r.head? =some 47 then zZa n ((b::r).dropWhile (· !=10)) line acc
  else if zq b then
   if tokBad ((b::r).takeWhile zq) b then([],20,line)
   else zZa n ((b::r).drop ((b::r).takeWhile zq).length) line (acc++[⟨zBb ((b::r).takeWhile zq) b,(b::r).takeWhile zq,line⟩])
  else if zsb (b::r)=[]then([],20,line)
  else zZa n ((b::r).drop (zsb (b::r)).length) line (acc++[⟨2,zsb (b::r),line⟩])
def zr(s:List UInt8):List Tok×Int×Int:=if 100000<s.length then([],2,0)else zZa (s.length+1) s 1 []
example:zr [105,110,116,32,120,61,49,59,10]=([⟨2,[105,110,116],1⟩,⟨1,[120],1⟩,⟨2,[61],1⟩,⟨0,[49],1⟩,⟨2,[59],1⟩,⟨3,[],2⟩],0,0):=by decide
theorem sign_len(s:List UInt8):(zsb s).length<=s.length:=by
 unfold zsb;cases h:signsL.find? (fun x=>x.isPrefixOf s)with
 |none=>simp
 |some x=>
  have:=List.find?_some h;simp only[List.isPrefixOf_iff_prefix]at this;simpa using this.length_le
theorem zwb(p:UInt8->Bool)(l:List UInt8):l.dropWhile p=l.drop (l.takeWhile p).length:=by
 induction l with
 |nil=>rfl
 |cons b r ih=>
  cases hp:p b<;>simp[hp,ih]
theorem takeWhile_eq_take(p:UInt8->Bool)(l:List UInt8):l.takeWhile p=l.take (l.takeWhile p).length:=by
 induction l with
 |nil=>rfl
 |cons b r ih=>
  cases hp:p b
  ·simp[hp]
  ·simp only[yT,hp,if_true,yd,List.take_succ_cons];rw[<-ih]
structure TS where
 at':Nat
 line:Nat
 acc:List Tok
abbrev encTokR(r:List Tok×Int×Int):List PV:=[toks r.1,.int .i64 r.2.1,.int .i64 r.2.2]
structure Plain(s:List UInt8)(i:Nat)(hi:i<s.length):Prop where
 nl:¬(s[i].toNat:Int)=10
 blank:blank s[i]=false
 com:¬(s[i]=47/\(s.drop (i+1)).head? =some 47)
abbrev KT:=Int×List UInt8
def kt(t:Tok):KT:=(t.kind,t.text)
def tokK:Nat->List UInt8->Option (List KT)
 |0,_=>none
 |_+1,[]=>some []
 |n+1,b::r=>
  if b=10 then tokK n r
  else if blank b then tokK n r
  else if b=47/\r.head? =some 47 then tokK n ((b::r).dropWhile (· !=10))
  else if zq b then
   if tokBad ((b::r).takeWhile zq) b then none
   else(tokK n ((b::r).drop ((b::r).takeWhile zq).length)).map fun l=>(zBb ((b::r).takeWhile zq) b,(b::r).takeWhile zq)::l
  else if zsb (b::r)=[]then none
  else(tokK n ((b::r).drop (zsb (b::r)).length)).map fun l=>(2,zsb (b::r))::l
def tokS(s:List UInt8):Option (List KT):=tokK (s.length+1) s
theorem zMd{b:UInt8}{r:List UInt8}(h:zq b=true):((b::r).drop ((b::r).takeWhile zq).length).length<=r.length:=by
 have hw:0<((b::r).takeWhile zq).length:=by rw[yT,h];simp
 rw[yU];simp only[yd];omega
theorem zLd{b:UInt8}{r:List UInt8}(h:¬zsb (b::r)=[]):((b::r).drop (zsb (b::r)).length).length<=r.length:=by
 have hp:0<(zsb (b::r)).length:=List.length_pos_iff.2 h;rw[yU];simp only[yd];omega
theorem drop_com{b:UInt8}{r:List UInt8}(h:b=47):((b::r).dropWhile (· !=10)).length<=r.length:=by
 rw[List.dropWhile_cons,h];simp only[show((47:UInt8) !=10)=true from rfl,if_true];rw[zwb,yU];omega
theorem tokK_fuel:∀n m (s:List UInt8),s.length<n->s.length<m->tokK n s=tokK m s:=by
 intro n
 induction n with
 |zero=>intro m s h;omega
 |succ n ih=>
  intro m s hn hm;obtain⟨m,rfl⟩:∃k,m=k+1:=⟨m-1,by omega⟩
  cases s with
  |nil=>rfl
  |cons b r=>
   simp only[yd]at hn hm;simp only[tokK];split
   ·exact ih m r (by omega) (by omega)
   split
   ·exact ih m r (by omega) (by omega)
   split
   ·rename_i h;have:=drop_com (r:=r) h.1;exact ih m _ (by omega) (by omega)
   split
   ·rename_i h;have:=zMd (r:=r) h;split
    ·rfl
    ·rw[ih m _ (by omega) (by omega)]
   split
   ·rfl
   ·rename_i h;have:=zLd h;rw[ih m _ (by omega) (by omega)]
theorem tokK_S{n:Nat}{s:List UInt8}(h:s.length<n):tokK n s=tokS s:=tokK_fuel n (s.length+1) s h (by omega)
theorem take_nl(s t:List UInt8):(s++10::t).takeWhile zq=s.takeWhile zq:=by
 induction s with
 |nil=>rfl
 |cons b r ih=>
  rw[yk,yT,yT,ih]
theorem drop_nl(s t:List UInt8):(s++10::t).dropWhile (· !=10)=s.dropWhile (· !=10)++10::t:=by
 induction s with
 |nil=>simp
 |cons b r ih=>
  rw[yk,List.dropWhile_cons,List.dropWhile_cons,ih];split<;>rfl
theorem prefix_nl:∀(x s t:List UInt8),(10:UInt8) ∉ x->x.isPrefixOf (s++10::t)=x.isPrefixOf s
 | [],s,t,_=>by simp
 |a::x,[],t,h=>by
  have:¬a=10:=fun e=>h (by rw[e];simp)
  simp[yga,this]
 |a::x,b::s,t,h=>by
  have h':(10:UInt8) ∉ x:=fun e=>h (by simp[e])
  simp[yga,prefix_nl x s t h']
theorem sign_nl(s t:List UInt8):zsb (s++10::t)=zsb s:=by
 have h:∀x∈signsL,(10:UInt8) ∉ x:=by decide
 unfold zsb;have e:signsL.find? (fun x=>x.isPrefixOf (s++10::t))=signsL.find? (fun x=>x.isPrefixOf s):=by
  have:∀l:List (List UInt8),(∀x∈l,(10:UInt8) ∉ x)->l.find? (fun x=>x.isPrefixOf (s++10::t))=l.find? (fun x=>x.isPrefixOf s):=by
   intro l
   induction l with
   |nil=>intro _;rfl
   |cons x r ih=>
    intro hl;rw[yra,yra,prefix_nl x s t (hl x (by simp)),ih (fun y hy=>hl y (by simp[hy]))]
  exact this _ h
 rw[e]
theorem sign_le(s:List UInt8):(zsb s).length<=s.length:=sign_len s
theorem tokS_nl':∀n (s t:List UInt8),s.length<n->tokS (s++10::t)=(tokS s).bind fun a=>(tokS t).map (a++ ·):=by
 intro n
 induction n with
 |zero=>intro s t h;omega
 |succ n ih=>
  intro s t hn;cases s with
  |nil=>
   have e1:tokS ([]++10::t)=tokS t:=by
    unfold tokS;simp only[yp,yd,tokK,if_true]
   have e2:tokS []=some []:=rfl;rw[e1,e2];simp only[Option.bind_some,yp];cases tokS t<;>rfl
  |cons b r=>
   simp only[yd]at hn;have hlen:(r++10::t).length=r.length+t.length+1:=by simp;omega
   have hh:(r++10::t).head? =some 47<->r.head? =some 47:=by
    cases r with
    |nil=>simp
    |cons c q=>simp
   have hnl:=take_nl (b::r) t;have hdl:=drop_nl (b::r) t;have hsl:=sign_nl (b::r) t;have e1:tokS ((b::r)++10::t)=tokK (r.length+t.length+1+1+1) (b::(r++10::t)):=by
    unfold tokS;rw[show((b::r)++10::t).length=r.length+t.length+1+1 from by simp;omega];rfl
   have e2:tokS (b::r)=tokK (r.length+1+1) (b::r):=rfl;rw[e1,e2];rw[yk]at hnl hdl hsl;simp only[tokK,hnl,hdl,hsl,hh];split
   ·rw[tokK_S (by rw[hlen];omega),tokK_S (by omega)];exact ih r t (by omega)
   split
   ·rw[tokK_S (by rw[hlen];omega),tokK_S (by omega)];exact ih r t (by omega)
   split
   ·rename_i h;have:=drop_com (r:=r) h.1;rw[tokK_S (by simp;omega),tokK_S (by omega)];exact ih _ t (by omega)
   split
   ·rename_i h;have hd:=zMd (r:=r) h;have hle:=(List.takeWhile_prefix (l:=b::r) (p:=zq)).length_le;split
    ·rfl
    ·rw[<-yk,List.drop_append_of_le_length hle,tokK_S (by simp at hd ⊢;omega),tokK_S (by omega),ih _ t (by omega)];cases tokS (List.drop (List.takeWhile zq (b::r)).length (b::r))with
     |none=>rfl
     |some a=>cases tokS t<;>simp
   split
   ·rfl
   ·rename_i h;have hd:=zLd h;have hle:=sign_le (b::r);rw[<-yk,List.drop_append_of_le_length hle,tokK_S (by simp at hd ⊢;omega),tokK_S (by omega),ih _ t (by omega)];cases tokS (List.drop (zsb (b::r)).length (b::r))with
    |none=>rfl
    |some a=>cases tokS t<;>simp
theorem tokS_nl(s t:List UInt8):tokS (s++10::t)=(tokS s).bind fun a=>(tokS t).map (a++ ·):=tokS_nl' _ s t (yK _)
theorem tokGo_K:∀n (s:List UInt8) line acc,s.length<n→
  (tokK n s=none->(zZa n s line acc).2.1=20)/\(∀L,tokK n s=some L->(zZa n s line acc).2=(0,0)/\(zZa n s line acc).1.map kt=acc.map kt++L++[(3,[])]):=by
 intro n
 induction n with
 |zero=>intro s line acc h;omega
 |succ n ih=>
  intro s line acc hn;cases s with
  |nil=>
   refine⟨fun h=>by simp[tokK]at h,fun L h=>?_⟩;simp only[tokK,Option.some.injEq]at h;subst h;simp[zZa,kt]
  |cons b r=>
   simp only[yd]at hn;simp only[tokK,zZa];split
   ·exact ih r _ _ (by omega)
   split
   ·exact ih r _ _ (by omega)
   split
   ·rename_i h;have:=drop_com (r:=r) h.1;exact ih _ _ _ (by omega)
   split
   ·rename_i h;have hd:=zMd (r:=r) h;split
    ·exact⟨fun _=>rfl,fun L h=>by cases h⟩
    ·obtain⟨i1,i2⟩:=ih ((b::r).drop ((b::r).takeWhile zq).length) line (acc++[⟨zBb ((b::r).takeWhile zq) b,(b::r).takeWhile zq,line⟩]) (by omega);refine⟨fun h=>i1 (by simpa using h),fun L h=>?_⟩;rw[yb]at h;obtain⟨L',h1,rfl⟩:=h;obtain⟨j1,j2⟩:=i2 L' h1;refine⟨j1,?_⟩;rw[j2];simp[kt]
   split
   ·exact⟨fun _=>rfl,fun L h=>by cases h⟩
   ·rename_i h;have hd:=zLd h;obtain⟨i1,i2⟩:=ih ((b::r).drop (zsb (b::r)).length) line (acc++[⟨2,zsb (b::r),line⟩]) (by omega);refine⟨fun h=>i1 (by simpa using h),fun L h=>?_⟩;rw[yb]at h;obtain⟨L',h1,rfl⟩:=h;obtain⟨j1,j2⟩:=i2 L' h1;refine⟨j1,?_⟩;rw[j2];simp[kt]
theorem tokens_K(s:List UInt8)(h:s.length<=100000)(h0:(zr s).2.1=0):∃L,tokS s=some L/\(zr s).1.map kt=L++[(3,[])]:=by
 unfold zr at h0 ⊢;rw[if_neg (by omega)]at h0 ⊢;obtain⟨i1,i2⟩:=tokGo_K (s.length+1) s 1 [] (by omega);cases hk:tokK (s.length+1) s with
 |none=>rw[i1 hk]at h0;exact absurd h0 (by decide)
 |some L=>
  exact⟨L,hk,by rw[(i2 L hk).2];simp⟩
@[simp] theorem rebuild_agg(a l:List PV):zCa (.agg a) l= .agg l:=yf rfl rfl
structure PS where
 at':Nat
 bad:Bool
 deep:Bool
def pob(T:List Tok)(p:PS):ze:=[.arr 4 [.agg [toks T,.int .i64 p.at',.bool p.bad,.bool p.deep]]]
def tk(T:List Tok)(i:Nat):Tok:=T[i]?.getD ⟨3,[],0⟩
def zf(p:PS):Bool:=p.bad||p.deep
def isF(T:List Tok)(s:List UInt8)(p:PS):Bool:= !zf p&&(decide ((tk T p.at').kind=2)&&decide ((tk T p.at').text=s))
def takeF(T:List Tok)(s:List UInt8)(p:PS):Bool×PS:=if isF T s p then(true,{p with at':=p.at'+1})else(false,p)
def zC(T:List Tok)(s:List UInt8)(p:PS):PS:=if isF T s p then{p with at':=p.at'+1}else if p.deep then p else{p with bad:=true}
def zy(T:List Tok)(k:Int)(p:PS):List UInt8×PS:=if zf p then([],p)else if(tk T p.at').kind=k then((tk T p.at').text,{p with at':=p.at'+1})else([],{p with bad:=true})
def zx(T:List Tok)(p:PS):Int×PS:=if isF T [105,110,116] p then(1,{p with at':=p.at'+1})else(2,zC T [98,111,111,108] p)
structure Inv1(T:List Tok)(p:PS):Prop where
 lt:p.at'<T.length
 last:∃t,T[T.length-1]? =some t/\t.kind=3
 sm:T.length<1000000
 num:∀t∈T,t.kind=0->digs t.text=true/\t.text.length<1000000
theorem tk_get{T:List Tok}{i:Nat}(h:i<T.length):T[i]? =some (tk T i):=by unfold tk;simp[h]
theorem tk_get'{T:List Tok}{i:Nat}(h:i<T.length):T[i]'h=tk T i:=by unfold tk;simp[h]
theorem Inv1.next{T:List Tok}{p:PS}(h:Inv1 T p)(hk:(tk T p.at').kind≠3)(b d:Bool):Inv1 T ⟨p.at'+1,b,d⟩:=by
 obtain⟨h1,⟨t,h2,h3⟩,h4,h5⟩:=h;refine⟨?_,⟨t,h2,h3⟩,h4,h5⟩;show p.at'+1<T.length
 rcases yA (p.at'+1) T.length with h|h
 ·exact h
 ·have:p.at'=T.length-1:=by omega
  unfold tk at hk;rw[this,h2]at hk;exact absurd h3 hk
theorem isF_kind{T:List Tok}{s:List UInt8}{p:PS}(h:isF T s p=true):(tk T p.at').kind=2/\(tk T p.at').text=s/\p.bad=false/\p.deep=false:=by
 simp[isF,zf]at h;grind
def adv(p:PS):PS:={p with at':=p.at'+1}
theorem zaa(T:List Tok)(s:List UInt8)(p:PS):takeF T s p=if isF T s p then(true,adv p)else(false,p):=rfl
theorem Inv1.adv{T:List Tok}{p:PS}(I:Inv1 T p)(s:List UInt8)(h:isF T s p=true):Inv1 T (adv p):=I.next (by rw[(isF_kind h).1];decide) _ _
section
variable {T:List Tok} {p:PS}
theorem zxc(I:Inv1 T p):zk E 78 [.ptr 0 0 0] (pob T p)=some (.ret (.bool (zf p)),pob T p):=by
 refine zc rfl rfl rfl (by simp) ?_;unfold zf;cases hb:p.bad<;>(simp[*,F78,pob,toks])<;>(repeat' ((first|refine sP _ ?_ ?_|refine gP _ ?_ ?_|refine sN _ ?_ ?_|refine gN _ ?_ ?_|refine sM _ ?_ ?_|refine gM _ ?_ ?_|refine sB _ ?_ ?_|refine gB _ ?_ ?_)<;>intro hc<;>simp[*,F78,pob,toks]))
theorem is_spec(I:Inv1 T p)(s:List UInt8):zk E 100 [.ptr 0 0 0,.str s] (pob T p)=some (.ret (.bool (isF T s p)),pob T p):=by
 refine zc rfl rfl rfl (by simp) ?_;have h1:=zxc I;have hlt:=I.lt;have hg:=tk_get hlt;have hg':=tk_get' hlt;unfold isF;cases ho:zf p
 ·rw[ho]at h1;by_cases hk:(tk T p.at').kind=2
  ·have hk':decide ((tk T p.at').kind=2)=true:=decide_eq_true hk;replace hk:=eqp hk;simp[pob,toks]at h1
   (simp[*,F100,pob,toks,zK])<;>(repeat' (first|((first|refine sP _ ?_ ?_|refine gP _ ?_ ?_|refine sN _ ?_ ?_|refine gN _ ?_ ?_)<;>intro hc<;>(first|replace hc:=eqn hc|replace hc:=eqp hc)<;>simp[*,F100,pob,toks,zK])|((first|refine sM _ ?_ ?_|refine gM _ ?_ ?_|refine sB _ ?_ ?_|refine gB _ ?_ ?_)<;>intro hc<;>simp[*,F100,pob,toks,zK])))
  ·have hk':decide ((tk T p.at').kind=2)=false:=decide_eq_false hk;replace hk:=eqn hk;simp[pob,toks]at h1
   (simp[*,F100,pob,toks,zK])<;>(repeat' (first|((first|refine sP _ ?_ ?_|refine gP _ ?_ ?_|refine sN _ ?_ ?_|refine gN _ ?_ ?_)<;>intro hc<;>(first|replace hc:=eqn hc|replace hc:=eqp hc)<;>simp[*,F100,pob,toks,zK])|((first|refine sM _ ?_ ?_|refine gM _ ?_ ?_|refine sB _ ?_ ?_|refine gB _ ?_ ?_)<;>intro hc<;>simp[*,F100,pob,toks,zK])))
 ·rw[ho]at h1;simp[pob,toks]at h1
  (simp[*,F100,pob,toks,zK])<;>(repeat' (first|((first|refine sP _ ?_ ?_|refine gP _ ?_ ?_|refine sN _ ?_ ?_|refine gN _ ?_ ?_)<;>intro hc<;>(first|replace hc:=eqn hc|replace hc:=eqp hc)<;>simp[*,F100,pob,toks,zK])|((first|refine sM _ ?_ ?_|refine gM _ ?_ ?_|refine sB _ ?_ ?_|refine gB _ ?_ ?_)<;>intro hc<;>simp[*,F100,pob,toks,zK])))
theorem Inv1.bad'(I:Inv1 T p):Inv1 T {p with bad:=true}:=⟨I.lt,I.last,I.sm,I.num⟩
theorem Inv1.deep'(I:Inv1 T p):Inv1 T {p with deep:=true}:=⟨I.lt,I.last,I.sm,I.num⟩
theorem Inv1.must(I:Inv1 T p)(s:List UInt8):Inv1 T (zC T s p):=by
 unfold zC;split
 ·rename_i h;exact I.next (by rw[(isF_kind h).1];decide) _ _
 ·split
  ·exact I
  ·exact I.bad'
theorem Inv1.text(I:Inv1 T p)(k:Int)(hk:k≠3):Inv1 T (zy T k p).2:=by
 unfold zy;split
 ·exact I
 ·split
  ·rename_i h;exact I.next (by rw[h];exact hk) _ _
  ·exact I.bad'
theorem Inv1.typed(I:Inv1 T p):Inv1 T (zx T p).2:=by
 unfold zx;split
 ·rename_i h;exact I.next (by rw[(isF_kind h).1];decide) _ _
 ·exact I.must _
theorem zL(I:Inv1 T p)(s:List UInt8):zk E 81 [.ptr 0 0 0,.str s] (pob T p)=some (.ret (.bool (takeF T s p).1),pob T (takeF T s p).2):=by
 refine zc rfl rfl rfl (by simp) ?_;have h1:=is_spec I s;have hw:zra .i64 ((p.at':Int)+1)=(p.at':Int)+1:=zp (by omega) (by have:=I.lt;have:=I.sm;omega);unfold takeF;cases ho:isF T s p
 ·rw[ho]at h1;simp[pob,toks]at h1
  (simp[*,F81,pob,toks])<;>(repeat' (first|((first|refine sP _ ?_ ?_|refine gP _ ?_ ?_|refine sN _ ?_ ?_|refine gN _ ?_ ?_)<;>intro hc<;>(first|replace hc:=eqn hc|replace hc:=eqp hc)<;>simp[*,F81,pob,toks])|((first|refine sM _ ?_ ?_|refine gM _ ?_ ?_|refine sB _ ?_ ?_|refine gB _ ?_ ?_)<;>intro hc<;>simp[*,F81,pob,toks])))
 ·rw[ho]at h1;simp[pob,toks]at h1
  (simp[*,F81,pob,toks])<;>(repeat' (first|((first|refine sP _ ?_ ?_|refine gP _ ?_ ?_|refine sN _ ?_ ?_|refine gN _ ?_ ?_)<;>intro hc<;>(first|replace hc:=eqn hc|replace hc:=eqp hc)<;>simp[*,F81,pob,toks])|((first|refine sM _ ?_ ?_|refine gM _ ?_ ?_|refine sB _ ?_ ?_|refine gB _ ?_ ?_)<;>intro hc<;>simp[*,F81,pob,toks])))
theorem zF(I:Inv1 T p)(s:List UInt8):zk E 83 [.ptr 0 0 0,.str s] (pob T p)=some (.ret (.tup []),pob T (zC T s p)):=by
 refine zc rfl rfl rfl (by simp) ?_;have h1:=zL I s;unfold zC;unfold takeF at h1;cases ho:isF T s p
 ·rw[ho]at h1;simp[pob,toks]at h1;cases hd:p.deep
  ·rw[hd]at h1
   (simp[*,F83,pob,toks])<;>(repeat' (first|((first|refine sP _ ?_ ?_|refine gP _ ?_ ?_|refine sN _ ?_ ?_|refine gN _ ?_ ?_)<;>intro hc<;>(first|replace hc:=eqn hc|replace hc:=eqp hc)<;>simp[*,F83,pob,toks])|((first|refine sM _ ?_ ?_|refine gM _ ?_ ?_|refine sB _ ?_ ?_|refine gB _ ?_ ?_)<;>intro hc<;>simp[*,F83,pob,toks])))
  ·rw[hd]at h1
   (simp[*,F83,pob,toks])<;>(repeat' (first|((first|refine sP _ ?_ ?_|refine gP _ ?_ ?_|refine sN _ ?_ ?_|refine gN _ ?_ ?_)<;>intro hc<;>(first|replace hc:=eqn hc|replace hc:=eqp hc)<;>simp[*,F83,pob,toks])|((first|refine sM _ ?_ ?_|refine gM _ ?_ ?_|refine sB _ ?_ ?_|refine gB _ ?_ ?_)<;>intro hc<;>simp[*,F83,pob,toks])))
 ·rw[ho]at h1;simp[pob,toks]at h1
  (simp[*,F83,pob,toks])<;>(repeat' (first|((first|refine sP _ ?_ ?_|refine gP _ ?_ ?_|refine sN _ ?_ ?_|refine gN _ ?_ ?_)<;>intro hc<;>(first|replace hc:=eqn hc|replace hc:=eqp hc)<;>simp[*,F83,pob,toks])|((first|refine sM _ ?_ ?_|refine gM _ ?_ ?_|refine sB _ ?_ ?_|refine gB _ ?_ ?_)<;>intro hc<;>simp[*,F83,pob,toks])))
theorem zwd(I:Inv1 T p)(k:Int):zk E 80 [.ptr 0 0 0,.int .i64 k] (pob T p)=some (.ret (.str (zy T k p).1),pob T (zy T k p).2):=by
 refine zc rfl rfl rfl (by simp) ?_;have h1:=zxc I;have hlt:=I.lt;have hg:=tk_get hlt;have hg':=tk_get' hlt;have hw:zra .i64 ((p.at':Int)+1)=(p.at':Int)+1:=zp (by omega) (by have:=I.lt;have:=I.sm;omega);unfold zy;cases ho:zf p
 ·rw[ho]at h1;simp[pob,toks]at h1;by_cases hk:(tk T p.at').kind=k
  ·replace hk:=eqp hk
   (simp[*,F80,pob,toks,zK])<;>(repeat' (first|((first|refine sP _ ?_ ?_|refine gP _ ?_ ?_|refine sN _ ?_ ?_|refine gN _ ?_ ?_)<;>intro hc<;>(first|replace hc:=eqn hc|replace hc:=eqp hc)<;>simp[*,F80,pob,toks,zK])|((first|refine sM _ ?_ ?_|refine gM _ ?_ ?_|refine sB _ ?_ ?_|refine gB _ ?_ ?_)<;>intro hc<;>simp[*,F80,pob,toks,zK])))
  ·replace hk:=eqn hk
   (simp[*,F80,pob,toks,zK])<;>(repeat' (first|((first|refine sP _ ?_ ?_|refine gP _ ?_ ?_|refine sN _ ?_ ?_|refine gN _ ?_ ?_)<;>intro hc<;>(first|replace hc:=eqn hc|replace hc:=eqp hc)<;>simp[*,F80,pob,toks,zK])|((first|refine sM _ ?_ ?_|refine gM _ ?_ ?_|refine sB _ ?_ ?_|refine gB _ ?_ ?_)<;>intro hc<;>simp[*,F80,pob,toks,zK])))
 ·rw[ho]at h1;simp[pob,toks]at h1
  (simp[*,F80,pob,toks,zK])<;>(repeat' (first|((first|refine sP _ ?_ ?_|refine gP _ ?_ ?_|refine sN _ ?_ ?_|refine gN _ ?_ ?_)<;>intro hc<;>(first|replace hc:=eqn hc|replace hc:=eqp hc)<;>simp[*,F80,pob,toks,zK])|((first|refine sM _ ?_ ?_|refine gM _ ?_ ?_|refine sB _ ?_ ?_|refine gB _ ?_ ?_)<;>intro hc<;>simp[*,F80,pob,toks,zK])))
theorem typed_spec(I:Inv1 T p):zk E 79 [.ptr 0 0 0] (pob T p)=some (.ret (.int .i64 (zx T p).1),pob T (zx T p).2):=by
 refine zc rfl rfl rfl (by simp) ?_;have h1:=zL I [105,110,116];have h2:=zF I [98,111,111,108];unfold zx;unfold takeF at h1;cases ho:isF T [105,110,116] p
 ·rw[ho]at h1
  (simp[*,F79])<;>(repeat' (first|((first|refine sP _ ?_ ?_|refine gP _ ?_ ?_|refine sN _ ?_ ?_|refine gN _ ?_ ?_)<;>intro hc<;>(first|replace hc:=eqn hc|replace hc:=eqp hc)<;>simp[*,F79])|((first|refine sM _ ?_ ?_|refine gM _ ?_ ?_|refine sB _ ?_ ?_|refine gB _ ?_ ?_)<;>intro hc<;>simp[*,F79])))
 ·rw[ho]at h1
  (simp[*,F79])<;>(repeat' (first|((first|refine sP _ ?_ ?_|refine gP _ ?_ ?_|refine sN _ ?_ ?_|refine gN _ ?_ ?_)<;>intro hc<;>(first|replace hc:=eqn hc|replace hc:=eqp hc)<;>simp[*,F79])|((first|refine sM _ ?_ ?_|refine gM _ ?_ ?_|refine sB _ ?_ ?_|refine gB _ ?_ ?_)<;>intro hc<;>simp[*,F79])))
end
def signsR:List (List UInt8):=[[43],[45],[42],[47],[37],[38],[124],[94],[60,60],[62,62],[62,62,62],[60],[60,61],[62],[62,61],[61,61],[33,61],[38,38],[124,124],[45],[126],[33],[105,56],[105,49,54],[105,51,50],[117,56],[117,49,54],[117,51,50]]
def zP(op:Int):List UInt8:=if op<1\/28<op then[]else signsR[(op-1).toNat]?.getD []
def zI(op:Int):Int:=
 if op=19 then 1 else if op=18 then 2 else if op=7 then 3 else if op=8 then 4 else if op=6 then 5
 else if op=16\/op=17 then 6 else if op=12\/op=13\/op=14\/op=15 then 7 else if op=9\/op=10\/op=11 then 8
 else if op=1\/op=2 then 9 else if op=3\/op=4\/op=5 then 10 else 0
def oneR(op:Int):Bool:=decide (20<=op)&&decide (op<=28)
theorem signs_spec:zk E 99 [] []=some (.ret (.slice .plain 1 (signsR.map PV.str)),[]):=by
 refine zc rfl rfl rfl (by simp) ?_;have:signsR.map PV.str=[PV.str [43],PV.str [45],PV.str [42],PV.str [47],PV.str [37],PV.str [38],PV.str [124],PV.str [94],PV.str [60,60],PV.str [62,62],PV.str [62,62,62],PV.str [60],PV.str [60,61],PV.str [62],PV.str [62,61],PV.str [61,61],PV.str [33,61],PV.str [38,38],PV.str [124,124],PV.str [45],PV.str [126],PV.str [33],PV.str [105,56],PV.str [105,49,54],PV.str [105,51,50],PV.str [117,56],PV.str [117,49,54],PV.str [117,51,50]]:=rfl;rw[this];simp[F99]
theorem zNc(op:Int):zk E 73 [.int .i64 op] []=some (.ret (.str (zP op)),[]):=by
 refine zc rfl rfl rfl (by simp) ?_;have hs:=signs_spec;unfold zP;by_cases h1:op<1
 ·(simp[*,F73])<;>(repeat' ((first|refine sP _ ?_ ?_|refine gP _ ?_ ?_|refine sN _ ?_ ?_|refine gN _ ?_ ?_|refine sM _ ?_ ?_|refine gM _ ?_ ?_|refine sB _ ?_ ?_|refine gB _ ?_ ?_)<;>intro hc<;>simp[*,F73]))
 ·by_cases h2:28<op
  ·(simp[*,F73])<;>(repeat' ((first|refine sP _ ?_ ?_|refine gP _ ?_ ?_|refine sN _ ?_ ?_|refine gN _ ?_ ?_|refine sM _ ?_ ?_|refine gM _ ?_ ?_|refine sB _ ?_ ?_|refine gB _ ?_ ?_)<;>intro hc<;>simp[*,F73]))
  ·have hw:zra .i64 (op-1)=op-1:=zp (by omega) (by omega);have h3:0<=op-1:=by omega
   have hl:signsR.length=28:=rfl;have h4:op.toNat-1<signsR.length:=by omega
   have h6:(op-1).toNat=op.toNat-1:=by omega
   rw[h6];have h5:signsR[op.toNat-1]? =some (signsR[op.toNat-1]'h4):=by simp[h4]
   clear h6;generalize hx:op.toNat-1=n at*;have h3':1<=op:=by omega
   clear hl;generalize signsR=l at*
   (simp[*,F73])<;>(repeat' ((first|refine sP _ ?_ ?_|refine gP _ ?_ ?_|refine sN _ ?_ ?_|refine gN _ ?_ ?_|refine sM _ ?_ ?_|refine gM _ ?_ ?_|refine sB _ ?_ ?_|refine gB _ ?_ ?_)<;>intro hc<;>simp[*,F73]))
theorem zVd(op:Int):zk E 75 [.int .i64 op] []=some (.ret (.int .i64 (zI op)),[]):=by
 refine zc rfl rfl rfl (by simp) ?_;unfold zI
 (simp[*,F75])<;>(repeat' ((first|refine sP _ ?_ ?_|refine gP _ ?_ ?_|refine sN _ ?_ ?_|refine gN _ ?_ ?_|refine sM _ ?_ ?_|refine gM _ ?_ ?_|refine sB _ ?_ ?_|refine gB _ ?_ ?_)<;>intro hc<;>simp[*,F75]))
theorem roneR_spec(op:Int):zk E 98 [.int .i64 op] []=some (.ret (.bool (oneR op)),[]):=by
 refine zc rfl rfl rfl (by simp) ?_;unfold oneR
 (simp[*,F98])<;>(repeat' ((first|refine sP _ ?_ ?_|refine gP _ ?_ ?_|refine sN _ ?_ ?_|refine gN _ ?_ ?_|refine sM _ ?_ ?_|refine gM _ ?_ ?_|refine sB _ ?_ ?_|refine gB _ ?_ ?_)<;>intro hc<;>simp[*,F98]))
def zNa(T:List Tok)(L:Int)(p:PS)(i:Nat):Bool:=decide (zI (i+1:Nat)=L)&&isF T (zP (i+1:Nat)) p
def opF(T:List Tok)(L:Int)(p:PS):Int:=match(yQ 19).find? (zNa T L p)with
 |some i=>((i+1:Nat):Int)
 |none=>0
theorem op_spec{T:List Tok}{p:PS}(I:Inv1 T p)(L:Int):zk E 150 [.ptr 0 0 0,.int .i64 L] (pob T p)=some (.ret (.int .i64 (opF T L p)),pob T p):=by
 refine zc rfl rfl rfl (by simp) ?_;simp[F150];refine zsa (yQ 19) K150_0 B150_0 (fun d=>[(5,.int .i64 ((d.length+1:Nat):Int))]) (fun _=>pob T p) (fun d=>∀i∈d,zNa T L p i=false) (by simp) (by simp) ?_ ?_
 ·intros d x r s1 hl' hlt hget hget' hw hp h1 h2 h3 h4;simp at h1 h3 hlt;have hx:x=d.length:=by rw[<-hget',yqa]
  subst hx;have e1:=zVd ((d.length+1:Nat):Int);have e2:=zNc ((d.length+1:Nat):Int);have e3:=is_spec I (zP ((d.length+1:Nat):Int));have hle:(d.length:Int)+1<=19:=by omega
  have hw2:zra .i64 ((d.length:Int)+1+1)=(d.length:Int)+1+1:=zp (by omega) (by omega);have hf:zNa T L p d.length=true->opF T L p=((d.length+1:Nat):Int):=by
   intro h;unfold opF;rw[hl'.eq,yDa];have:d.find? (zNa T L p)=none:=by rw[yO];intro y hy;simp[hp y hy]
   rw[this];simp[yra,h]
  have ho:zNa T L p d.length=(decide (zI ((d.length+1:Nat):Int)=L)&&isF T (zP ((d.length+1:Nat):Int)) p):=rfl;have hn:=fun(h:zNa T L p d.length=false)=>(fun i (hi:i∈d++[d.length])=>by
   rcases yw.1 hi with h'|h'
   ·exact hp i h'
   ·rw[yJ.1 h'];exact h:∀i∈d++[d.length],zNa T L p i=false)
  clear h2 hget hget' hl' hp;simp at e1 e2 e3 ho hf;by_cases hL:zI ((d.length:Int)+1)=L
  ·have hL':decide (zI ((d.length:Int)+1)=L)=true:=decide_eq_true hL;rw[hL',yca]at ho;replace hL:=eqp hL;cases hi:isF T (zP ((d.length:Int)+1)) p
   ·replace hn:=hn (ho.trans hi);rw[hi]at ho e3;clear hf ho;simp[*];grind
   ·replace hf:=hf (ho.trans hi);rw[hi]at ho e3;clear hn ho;simp[*]
  ·have hL':decide (zI ((d.length:Int)+1)=L)=false:=decide_eq_false hL;rw[hL',Bool.false_and]at ho;replace hL:=eqn hL;replace hn:=hn ho;clear hf ho;simp[*];grind
 ·intros s1 hp h1 h2 h3 h4;simp at h1 h3;have hf:opF T L p=0:=by
   unfold opF;have:(yQ 19).find? (zNa T L p)=none:=by rw[yO];intro y hy;simp[hp y hy]
   rw[this]
  clear h2 hp;simp[*]
def zJa(T:List Tok)(p:PS)(i:Nat):Bool:=isF T (zP ((i+20:Nat):Int)) p
def deepF(d:Int)(p:PS):PS:=if 100<d then if p.bad then p else{p with deep:=true}else p
theorem Inv1.deepF{T:List Tok}{p:PS}(I:Inv1 T p)(d:Int):Inv1 T (deepF d p):=by
 unfold PE.U.deepF;split
 ·split
  ·exact I
  ·exact I.deep'
 ·exact I
def unF(T:List Tok)(p:PS):Option Nat:=(yQ 9).find? (zJa T p)
mutual
def zV(T:List Tok):Nat->Int->PS->Option (Expr×PS)
 |0,_,_=>none
 |n+1,d,p=>
  if zf p then some (⟨0,0,0,[],[]⟩,p)
  else if isF T [40] p then
   match zda T n 1 (d+1) (adv p)with
   |none=>none
   |some q=>some (q.1,zC T [41] q.2)
  else if isF T [116,114,117,101] p then some (⟨2,0,1,[],[]⟩,adv p)
  else if isF T [102,97,108,115,101] p then some (⟨2,0,0,[],[]⟩,adv p)
  else if isF T [114,101,97,100] p then some (⟨8,0,0,[],[]⟩,zC T [41] (zC T [40] (adv p)))
  else if(tk T p.at').kind=0 then some (⟨1,0,zwc (tk T p.at').text,[],[]⟩,adv p)
  else if isF T [40] (zy T 1 p).2 then
   match zMb T n (d+1) (adv (zy T 1 p).2)with
   |none=>none
   |some q=>some (⟨7,0,0,(zy T 1 p).1,q.1⟩,q.2)
  else if isF T [91] (zy T 1 p).2 then
   match zda T n 1 (d+1) (adv (zy T 1 p).2)with
   |none=>none
   |some q=>some (⟨6,0,0,(zy T 1 p).1,[q.1]⟩,zC T [93] q.2)
  else some (⟨3,0,0,(zy T 1 p).1,[]⟩,(zy T 1 p).2)
def zFa(T:List Tok):Nat->Int->PS->Option (Expr×PS)
 |0,_,_=>none
 |n+1,d,p=>
  match unF T (deepF d p)with
  |some i=>
   if 3<=i then
    match zda T n 1 (d+1) (zC T [40] (adv (deepF d p)))with
    |none=>none
    |some q=>some (⟨4,((i+20:Nat):Int),0,[],[q.1]⟩,zC T [41] q.2)
   else
    match zFa T n (d+1) (adv (deepF d p))with
    |none=>none
    |some q=>some (⟨4,((i+20:Nat):Int),0,[],[q.1]⟩,q.2)
  |none=>zV T n d (deepF d p)
def zda(T:List Tok):Nat->Int->Int->PS->Option (Expr×PS)
 |0,_,_,_=>none
 |n+1,L,d,p=>
  if 10<L then zFa T n d p
  else match zda T n (L+1) d p with
   |none=>none
   |some q=>zB T n L d q.1 q.2
def zB(T:List Tok):Nat->Int->Int->Expr->PS->Option (Expr×PS)
 |0,_,_,_,_=>none
 |n+1,L,d,a,p=>
  if opF T L p=0 then some (a,p)
  else match zda T n (L+1) d (adv p)with
   |none=>none
   |some q=>zB T n L d ⟨5,opF T L p,0,[],[a,q.1]⟩ q.2
def zMb(T:List Tok):Nat->Int->PS->Option (List Expr×PS)
 |0,_,_=>none
 |n+1,d,p=>
  if isF T [41] p then some ([],adv p)
  else match zw T n d [] true p with
   |none=>none
   |some q=>some (q.1,zC T [41] q.2)
def zw(T:List Tok):Nat->Int->List Expr->Bool->PS->Option (List Expr×PS)
 |0,_,_,_,_=>none
 |n+1,d,l,first,p=>
  if first||isF T [44] p then
   if zf (if first then p else adv p)then some (l,if first then p else adv p)
   else match zda T n 1 d (if first then p else adv p)with
    |none=>none
    |some q=>zw T n d (l++[q.1]) false q.2
  else some (l,p)
end
structure ESpec(T:List Tok)(n:Nat):Prop where
 primary:∀d p v p',zV T n d p=some (v,p')->Inv1 T p->0<=d->d+n<=1000000000->zk E 160 [.ptr 0 0 0,.int .i64 d] (pob T p)=some (.ret (zA v),pob T p')/\Inv1 T p'
 unary:∀d p v p',zFa T n d p=some (v,p')->Inv1 T p->0<=d->d+n<=1000000000->zk E 149 [.ptr 0 0 0,.int .i64 d] (pob T p)=some (.ret (zA v),pob T p')/\Inv1 T p'
 expr:∀L d p v p',zda T n L d p=some (v,p')->Inv1 T p->1<=L->L<=11->0<=d->d+n<=1000000000->zk E 134 [.ptr 0 0 0,.int .i64 L,.int .i64 d] (pob T p)=some (.ret (zA v),pob T p')/\Inv1 T p'
 args:∀d p v p',zMb T n d p=some (v,p')->Inv1 T p->0<=d->d+n<=1000000000->zk E 151 [.ptr 0 0 0,.int .i64 d] (pob T p)=some (.ret (zd v),pob T p')/\Inv1 T p'
set_option maxHeartbeats 4000000 in
theorem primary_of{T:List Tok}{n:Nat}(S:ESpec T n):∀d p v p',zV T (n+1) d p=some (v,p')->Inv1 T p->0<=d->d+(n+1:Nat)<=1000000000->zk E 160 [.ptr 0 0 0,.int .i64 d] (pob T p)=some (.ret (zA v),pob T p')/\Inv1 T p':=by
 intro d p v p' h I hd hn;have hw:zra .i64 (d+1)=d+1:=zp (by omega) (by omega);simp only[zV]at h;have ho:=zxc I;cases o:zf p
 case true=>
  rw[if_pos o]at h;cases h;refine⟨?_,I⟩;refine zc rfl rfl rfl (by simp) ?_;rw[o]at ho;simp[pob,toks]at ho;simp[*,F160,zA,encEs,pob,toks]
 rw[if_neg (by rw[o];decide)]at h;rw[o]at ho;have t1:=zL I [40];rw[zaa]at t1;cases c1:isF T [40] p
 case true=>
  rw[if_pos c1]at h;rw[c1]at t1;split at h
  ·cases h
  ·rename_i q hq;obtain⟨e,p2⟩:=q;cases h;have IA:=I.adv _ c1;obtain⟨x1,I3⟩:=S.expr 1 (d+1) _ e p2 hq IA (by omega) (by omega) (by omega) (by omega);have m2:=zF I3 [41];refine⟨?_,I3.must _⟩;refine zc rfl rfl rfl (by simp) ?_;clear hq o c1;rw[za]at x1 ⊢;simp[pob,toks,adv,zd]at ho t1 x1 m2;simp[*,F160,zd,pob,toks]
 rw[if_neg (by rw[c1];decide)]at h;rw[c1]at t1;have t2:=zL I [116,114,117,101];rw[zaa]at t2;cases c2:isF T [116,114,117,101] p
 case true=>
  rw[if_pos c2]at h;rw[c2]at t2;cases h;refine⟨?_,I.adv _ c2⟩;refine zc rfl rfl rfl (by simp) ?_;clear o c1 c2;simp[pob,toks,adv]at ho t1 t2;simp[*,F160,zA,encEs,pob,toks,adv]
 rw[if_neg (by rw[c2];decide)]at h;rw[c2]at t2;have t3:=zL I [102,97,108,115,101];rw[zaa]at t3;cases c3:isF T [102,97,108,115,101] p
 case true=>
  rw[if_pos c3]at h;rw[c3]at t3;cases h;refine⟨?_,I.adv _ c3⟩;refine zc rfl rfl rfl (by simp) ?_;clear o c1 c2 c3;simp[pob,toks,adv]at ho t1 t2 t3;simp[*,F160,zA,encEs,pob,toks,adv]
 rw[if_neg (by rw[c3];decide)]at h;rw[c3]at t3;have t4:=zL I [114,101,97,100];rw[zaa]at t4;cases c4:isF T [114,101,97,100] p
 case true=>
  rw[if_pos c4]at h;rw[c4]at t4;cases h;have IA:=I.adv _ c4;have m1:=zF IA [40];have m2:=zF (IA.must [40]) [41];refine⟨?_,(IA.must _).must _⟩;refine zc rfl rfl rfl (by simp) ?_;clear o c1 c2 c3 c4;simp[pob,toks,adv]at ho t1 t2 t3 t4 m1 m2;simp[*,F160,zA,encEs,pob,toks,adv]
 rw[if_neg (by rw[c4];decide)]at h;rw[c4]at t4;have hlt:=I.lt;have hg:=tk_get hlt;have hg':=tk_get' hlt;by_cases c5:(tk T p.at').kind=0
 ·rw[if_pos c5]at h;have tx:=zwd I 0;have hnum:=I.num (tk T p.at') (by rw[<-hg'];exact List.getElem_mem hlt) c5;have vv:=value_spec' (tk T p.at').text [] hnum.1 (by omega);have htx:zy T 0 p=((tk T p.at').text,adv p):=by unfold zy;rw[if_neg (by rw[o];decide),if_pos c5];rfl
  have IA:Inv1 T (adv p):=I.next (by rw[c5];decide) _ _;rw[htx]at tx;cases h;refine⟨?_,IA⟩;refine zc rfl rfl rfl (by simp) ?_;clear o c1 c2 c3 c4 htx;replace c5:=eqp c5;simp[pob,toks,adv]at ho t1 t2 t3 t4 tx;simp[*,F160,zA,encEs,pob,toks,adv,zK]
 rw[if_neg c5]at h;replace c5:=eqn c5;have tx:=zwd I 1;have I1:=I.text 1 (by decide);have t6:=zL I1 [40];rw[zaa]at t6;generalize htt:zy T 1 p=tt at*;obtain⟨s,p1⟩:=tt;simp only at h tx I1 t6;clear htt;cases c6:isF T [40] p1
 case true=>
  rw[if_pos c6]at h;rw[c6]at t6;split at h
  ·cases h
  ·rename_i q hq;obtain⟨l,p2⟩:=q;cases h;have IA:=I1.adv _ c6;obtain⟨x1,I3⟩:=S.args (d+1) _ l p2 hq IA (by omega) (by omega);refine⟨?_,I3⟩;refine zc rfl rfl rfl (by simp) ?_;clear hq o c1 c2 c3 c4 c6;rw[za];simp[pob,toks,adv,zd]at ho t1 t2 t3 t4 tx t6 x1;simp[*,F160,zd,pob,toks,zK]
 rw[if_neg (by rw[c6];decide)]at h;rw[c6]at t6;have t7:=zL I1 [91];rw[zaa]at t7;cases c7:isF T [91] p1
 case true=>
  rw[if_pos c7]at h;rw[c7]at t7;split at h
  ·cases h
  ·rename_i q hq;obtain⟨e,p2⟩:=q;cases h;have IA:=I1.adv _ c7;obtain⟨x1,I3⟩:=S.expr 1 (d+1) _ e p2 hq IA (by omega) (by omega) (by omega) (by omega);have m2:=zF I3 [93];refine⟨?_,I3.must _⟩;refine zc rfl rfl rfl (by simp) ?_;clear hq o c1 c2 c3 c4 c6 c7;rw[za]at x1;rw[za];simp[pob,toks,adv,zd]at ho t1 t2 t3 t4 tx t6 t7 x1 m2;simp[*,F160,zd,pob,toks,zK,za]
 rw[if_neg (by rw[c7];decide)]at h;rw[c7]at t7;cases h;refine⟨?_,I1⟩;refine zc rfl rfl rfl (by simp) ?_;clear o c1 c2 c3 c4 c6 c7;simp[pob,toks,adv]at ho t1 t2 t3 t4 tx t6 t7;simp[*,F160,zA,encEs,pob,toks,zK]
structure LS where
 m:Nat
 a:Expr
 p:PS
theorem opF_pos{T:List Tok}{L:Int}{p:PS}(h:¬opF T L p=0):∃s,isF T s p=true:=by
 unfold opF at h;cases hf:(yQ 19).find? (zNa T L p)with
 |none=>rw[hf]at h;exact absurd rfl h
 |some i=>
  have:=List.find?_some hf;simp only[zNa,ya]at this;exact⟨_,this.2⟩
set_option maxHeartbeats 2000000 in
theorem expr_of{T:List Tok}{n:Nat}(S:∀k,k<=n->ESpec T k):∀L d p v p',zda T (n+1) L d p=some (v,p')->Inv1 T p->1<=L->L<=11->0<=d->d+(n+1:Nat)<=1000000000->zk E 134 [.ptr 0 0 0,.int .i64 L,.int .i64 d] (pob T p)=some (.ret (zA v),pob T p')/\Inv1 T p':=by
 intro L d p v p' h I h1 h11 hd hn;have hw:zra .i64 (L+1)=L+1:=zp (by omega) (by omega);simp only[zda]at h;by_cases hL:10<L
 ·rw[if_pos hL]at h;obtain⟨e,I'⟩:=(S n (by omega)).unary d p v p' h I hd (by omega);refine⟨?_,I'⟩;refine zc rfl rfl rfl (by simp) ?_;rw[za]at e ⊢
  (simp[*,F134])<;>(repeat' (first|((first|refine sP _ ?_ ?_|refine gP _ ?_ ?_|refine sN _ ?_ ?_|refine gN _ ?_ ?_)<;>intro hc<;>(first|replace hc:=eqn hc|replace hc:=eqp hc)<;>simp[*,F134])|((first|refine sM _ ?_ ?_|refine gM _ ?_ ?_|refine sB _ ?_ ?_|refine gB _ ?_ ?_)<;>intro hc<;>simp[*,F134])))
 rw[if_neg hL]at h;cases hx:zda T n (L+1) d p with
 |none=>rw[hx]at h;cases h
 |some q=>
  obtain⟨a,p1⟩:=q;rw[hx]at h;simp only at h;obtain⟨e1,I1⟩:=(S n (by omega)).expr (L+1) d p a p1 hx I (by omega) (by omega) hd (by omega);have hI:∀m a p v p',m<=n->zB T m L d a p=some (v,p')->Inv1 T p->Inv1 T p':=by
   intro m
   induction m with
   |zero=>intro a p v p' _ h;simp[zB]at h
   |succ m ih=>
    intro a p v p' hm h I;simp only[zB]at h;split at h
    ·cases h;exact I
    ·rename_i hne;obtain⟨s,hs⟩:=opF_pos hne;split at h
     ·cases h
     ·rename_i q hq;exact ih _ _ _ _ (by omega) h ((S m (by omega)).expr _ _ _ _ _ hq (I.adv s hs) (by omega) (by omega) hd (by omega)).2
  have I':=hI n a p1 v p' (by omega) h I1;refine⟨?_,I'⟩;refine zc rfl rfl rfl (by simp) ?_;rw[za]at e1 ⊢;simp[F134,hL,hw,e1,zd];refine zmb K134_0 B134_0 (fun c:LS=>c.m) (fun c=>[]) (fun c=>[(6,.cells [.int .i64 0,.int .i64 0,.int .i64 0,.str [],.slice .fit 5 []]),(7,.cells [.int .i64 c.a.kind,.int .i64 c.a.op,.int .i64 c.a.n,.str c.a.name,zd c.a.args])]) (fun c=>pob T c.p) (fun c=>c.m<=n/\zB T c.m L d c.a c.p=some (v,p')/\Inv1 T c.p) ⟨n,a,p1⟩ ⟨by simp,by simp[zd],by simp,yh _,h,I1⟩ ?_
  rintro⟨m,a,p⟩ s1 ⟨hm,hr,I⟩ g1 g2 g3 g4 g5
  simp at g1 g4 g5 hm hr I;clear g2 g3 e1 hx h I1 I' hI;cases m with
  |zero=>simp[zB]at hr
  |succ m=>
   simp only[zB]at hr;have ho:=op_spec I L;by_cases hne:opF T L p=0
   ·rw[if_pos hne]at hr;cases hr;replace hne:=eqp hne;simp[pob,toks,zd]at ho g4 g5 ⊢
    (simp[*])<;>(repeat' (first|((first|refine sP _ ?_ ?_|refine gP _ ?_ ?_|refine sN _ ?_ ?_|refine gN _ ?_ ?_)<;>intro hc<;>(first|replace hc:=eqn hc|replace hc:=eqp hc)<;>simp[*])|((first|refine sM _ ?_ ?_|refine gM _ ?_ ?_|refine sB _ ?_ ?_|refine gB _ ?_ ?_)<;>intro hc<;>simp[*])))
   ·rw[if_neg hne]at hr;obtain⟨s,hs⟩:=opF_pos hne;split at hr
    ·cases hr
    ·rename_i q hq;obtain⟨b,p2⟩:=q;simp only at hr;obtain⟨e2,I2⟩:=(S m (by omega)).expr (L+1) d _ b p2 hq (I.adv s hs) (by omega) (by omega) hd (by omega);have hwa:zra .i64 ((p.at':Int)+1)=(p.at':Int)+1:=zp (by omega) (by have:=I.lt;have:=I.sm;omega);replace hne:=eqn hne;rw[za]at e2;simp[pob,toks,zd,adv]at ho g4 g5 e2 ⊢;clear hq hs
     (simp[*])<;>(repeat' (first|((first|refine sP _ ?_ ?_|refine gP _ ?_ ?_|refine sN _ ?_ ?_|refine gN _ ?_ ?_)<;>intro hc<;>(first|replace hc:=eqn hc|replace hc:=eqp hc)<;>simp[*])|((first|refine sM _ ?_ ?_|refine gM _ ?_ ?_|refine sB _ ?_ ?_|refine gB _ ?_ ?_)<;>intro hc<;>simp[*])))
     refine⟨⟨m,⟨5,opF T L p,0,[],[a,b]⟩,p2⟩,yK m,⟨rfl,rfl,rfl,rfl,?_⟩,⟨rfl,rfl,rfl⟩,by simp only;omega,hr,I2⟩;simp[za,zd]
theorem unF_get{T:List Tok}{p:PS}{i:Nat}(h:unF T p=some i):i<9/\zJa T p i=true/\∀j,j<i->zJa T p j=false:=by
 unfold unF at h;refine⟨yta.1 (List.mem_of_find?_eq_some h),List.find?_some h,?_⟩;intro j hj;rw[List.find?_eq_some_iff_getElem]at h;obtain⟨_,k,hk,h1,h2⟩:=h;simp at h1;have:=h2 j (by omega);simpa using this
set_option maxHeartbeats 2000000 in
theorem unary_of{T:List Tok}{n:Nat}(S:ESpec T n):∀d p v p',zFa T (n+1) d p=some (v,p')->Inv1 T p->0<=d->d+(n+1:Nat)<=1000000000->zk E 149 [.ptr 0 0 0,.int .i64 d] (pob T p)=some (.ret (zA v),pob T p')/\Inv1 T p':=by
 intro d p v p' h I hd hn;have hw:zra .i64 (d+1)=d+1:=zp (by omega) (by omega);simp only[zFa]at h;have key:∀q,Inv1 T q->q=deepF d p->∃Q:Prop,True:=fun _ _ _=>⟨True,trivial⟩
 clear key;have I2:Inv1 T (deepF d p):=I.deepF d;have hI:Inv1 T p':=by
  cases hu:unF T (deepF d p)with
  |none=>rw[hu]at h;exact(S.primary _ _ _ _ h I2 hd (by omega)).2
  |some i=>
   rw[hu]at h;simp only at h;have hi:=(unF_get hu).2.1;split at h
   ·split at h
    ·cases h
    ·rename_i q hq;cases h;exact(S.expr _ _ _ _ _ hq ((I2.adv _ hi).must _) (by omega) (by omega) (by omega) (by omega)).2.must _
   ·split at h
    ·cases h
    ·rename_i q hq;cases h;exact(S.unary _ _ _ _ hq (I2.adv _ hi) (by omega) (by omega)).2
 refine⟨?_,hI⟩;refine zc rfl rfl rfl (by simp) ?_;rw[za];have hdp:deepF d p=if 100<d then if p.bad then p else{p with deep:=true}else p:=rfl
 obtain⟨pa,pb,pd⟩:=p;by_cases h100:100<d
 ·cases pb
  ·simp[h100]at hdp;rw[hdp]at h I2;clear hdp I;replace h100:=eqp h100;simp[F149,h100,hw,pob,toks];refine wp_eachB (yQ 9) K149_0 B149_0 (fun c=>[(5,.int .i64 ((c.length+20:Nat):Int))]) (fun _=>[(4,.cells [.int .i64 0,.int .i64 0,.int .i64 0,.str [],.slice .fit 5 []])]) (fun _=>pob T ⟨pa,false,true⟩) (fun c=>∀i∈c,zJa T ⟨pa,false,true⟩ i=false) (by simp) (by simp[pob,toks]) ?_ ?_
   ·intros c x r s1 hl' hlt hget hget' hw1 hp g1 g2 g3 g3' g4;simp at g1 g3 g3' hlt;have hx:x=c.length:=by rw[<-hget',yqa]
    subst hx;have e2:=zNc ((c.length+20:Nat):Int);have e3:=zL I2 (zP ((c.length+20:Nat):Int));rw[zaa]at e3;have hle:(c.length:Int)+20<=28:=by omega
    have hw2:zra .i64 ((c.length:Int)+20+1)=(c.length:Int)+1+20:=by rw[zp (by omega) (by omega)];omega
    have hf:zJa T ⟨pa,false,true⟩ c.length=true->unF T ⟨pa,false,true⟩=some c.length:=by
     intro h;unfold unF;rw[hl'.eq,yDa];have:c.find? (zJa T ⟨pa,false,true⟩)=none:=by rw[yO];intro y hy;simp[hp y hy]
     rw[this];simp[yra,h]
    have hu:zJa T ⟨pa,false,true⟩ c.length=isF T (zP ((c.length+20:Nat):Int)) ⟨pa,false,true⟩:=rfl;have hnx:=fun(h:zJa T ⟨pa,false,true⟩ c.length=false)=>(fun i (hi:i∈c++[c.length])=>by
     rcases yw.1 hi with h'|h'
     ·exact hp i h'
     ·rw[yJ.1 h'];exact h:∀i∈c++[c.length],zJa T ⟨pa,false,true⟩ i=false)
    clear g2 hget hget' hl' hp;cases hi:isF T (zP ((c.length+20:Nat):Int)) ⟨pa,false,true⟩
    ·replace hnx:=hnx (hu.trans hi);rw[hi]at e3;clear hf hu h;simp[pob,toks]at e2 e3 g4;simp[*];exact⟨rfl,fun i hi=>hnx i (by simpa using hi)⟩
    ·replace hf:=hf (hu.trans hi);have IA:=I2.adv _ hi;rw[hi]at e3;rw[hf]at h;simp only at h;clear hnx hu hf;by_cases h3:3<=c.length
     ·rw[if_pos h3]at h;have h23:(23:Int)<=(c.length:Int)+20:=by omega
      have m1:=zF IA [40];split at h
      ·cases h
      ·rename_i x hq;obtain⟨e,p2⟩:=x;cases h;obtain⟨x1,I3⟩:=S.expr 1 (d+1) _ e p2 hq (IA.must _) (by omega) (by omega) (by omega) (by omega);have m2:=zF I3 [41];clear hi;rw[za]at x1;simp[pob,toks,zd,adv]at e2 e3 g4 m1 m2 x1;clear hq;simp[*,zd,pob,toks,za]
     ·rw[if_neg h3]at h;have h23:¬(23:Int)<=(c.length:Int)+20:=by omega
      split at h
      ·cases h
      ·rename_i x hq;obtain⟨e,p2⟩:=x;cases h;obtain⟨x1,I3⟩:=S.unary (d+1) _ e p2 hq IA (by omega) (by omega);clear hi;rw[za]at x1;simp[pob,toks,zd,adv]at e2 e3 g4 x1;clear hq;simp[*,zd,pob,toks,za]
   ·intros s1 hp g1 g2 g3 g3' g4;simp at g1 g3 g3';have hf:unF T ⟨pa,false,true⟩=none:=by
     unfold unF;rw[yO];intro y hy;simp[hp y hy]
    rw[hf]at h;simp only at h;obtain⟨x1,I3⟩:=S.primary _ _ _ _ h I2 hd (by omega);rw[za]at x1;clear g2 hp hf h;simp[pob,toks,zd]at x1 g4;simp[*,zd]
  ·simp[h100]at hdp;rw[hdp]at h I2;clear hdp I;replace h100:=eqp h100;simp[F149,h100,hw,pob,toks];refine wp_eachB (yQ 9) K149_0 B149_0 (fun c=>[(5,.int .i64 ((c.length+20:Nat):Int))]) (fun _=>[(4,.cells [.int .i64 0,.int .i64 0,.int .i64 0,.str [],.slice .fit 5 []])]) (fun _=>pob T ⟨pa,true,pd⟩) (fun c=>∀i∈c,zJa T ⟨pa,true,pd⟩ i=false) (by simp) (by simp[pob,toks]) ?_ ?_
   ·intros c x r s1 hl' hlt hget hget' hw1 hp g1 g2 g3 g3' g4;simp at g1 g3 g3' hlt;have hx:x=c.length:=by rw[<-hget',yqa]
    subst hx;have e2:=zNc ((c.length+20:Nat):Int);have e3:=zL I2 (zP ((c.length+20:Nat):Int));rw[zaa]at e3;have hle:(c.length:Int)+20<=28:=by omega
    have hw2:zra .i64 ((c.length:Int)+20+1)=(c.length:Int)+1+20:=by rw[zp (by omega) (by omega)];omega
    have hf:zJa T ⟨pa,true,pd⟩ c.length=true->unF T ⟨pa,true,pd⟩=some c.length:=by
     intro h;unfold unF;rw[hl'.eq,yDa];have:c.find? (zJa T ⟨pa,true,pd⟩)=none:=by rw[yO];intro y hy;simp[hp y hy]
     rw[this];simp[yra,h]
    have hu:zJa T ⟨pa,true,pd⟩ c.length=isF T (zP ((c.length+20:Nat):Int)) ⟨pa,true,pd⟩:=rfl;have hnx:=fun(h:zJa T ⟨pa,true,pd⟩ c.length=false)=>(fun i (hi:i∈c++[c.length])=>by
     rcases yw.1 hi with h'|h'
     ·exact hp i h'
     ·rw[yJ.1 h'];exact h:∀i∈c++[c.length],zJa T ⟨pa,true,pd⟩ i=false)
    clear g2 hget hget' hl' hp;cases hi:isF T (zP ((c.length+20:Nat):Int)) ⟨pa,true,pd⟩
    ·replace hnx:=hnx (hu.trans hi);rw[hi]at e3;clear hf hu h;simp[pob,toks]at e2 e3 g4;simp[*];exact⟨rfl,fun i hi=>hnx i (by simpa using hi)⟩
    ·replace hf:=hf (hu.trans hi);have IA:=I2.adv _ hi;rw[hi]at e3;rw[hf]at h;simp only at h;clear hnx hu hf;by_cases h3:3<=c.length
     ·rw[if_pos h3]at h;have h23:(23:Int)<=(c.length:Int)+20:=by omega
      have m1:=zF IA [40];split at h
      ·cases h
      ·rename_i x hq;obtain⟨e,p2⟩:=x;cases h;obtain⟨x1,I3⟩:=S.expr 1 (d+1) _ e p2 hq (IA.must _) (by omega) (by omega) (by omega) (by omega);have m2:=zF I3 [41];clear hi;rw[za]at x1;simp[pob,toks,zd,adv]at e2 e3 g4 m1 m2 x1;clear hq;simp[*,zd,pob,toks,za]
     ·rw[if_neg h3]at h;have h23:¬(23:Int)<=(c.length:Int)+20:=by omega
      split at h
      ·cases h
      ·rename_i x hq;obtain⟨e,p2⟩:=x;cases h;obtain⟨x1,I3⟩:=S.unary (d+1) _ e p2 hq IA (by omega) (by omega);clear hi;rw[za]at x1;simp[pob,toks,zd,adv]at e2 e3 g4 x1;clear hq;simp[*,zd,pob,toks,za]
   ·intros s1 hp g1 g2 g3 g3' g4;simp at g1 g3 g3';have hf:unF T ⟨pa,true,pd⟩=none:=by
     unfold unF;rw[yO];intro y hy;simp[hp y hy]
    rw[hf]at h;simp only at h;obtain⟨x1,I3⟩:=S.primary _ _ _ _ h I2 hd (by omega);rw[za]at x1;clear g2 hp hf h;simp[pob,toks,zd]at x1 g4;simp[*,zd]
 ·simp[h100]at hdp;rw[hdp]at h I2;clear hdp I;replace h100:=eqn h100;simp[F149,h100,hw,pob,toks];refine wp_eachB (yQ 9) K149_0 B149_0 (fun c=>[(5,.int .i64 ((c.length+20:Nat):Int))]) (fun _=>[(4,.cells [.int .i64 0,.int .i64 0,.int .i64 0,.str [],.slice .fit 5 []])]) (fun _=>pob T ⟨pa,pb,pd⟩) (fun c=>∀i∈c,zJa T ⟨pa,pb,pd⟩ i=false) (by simp) (by simp[pob,toks]) ?_ ?_
  ·intros c x r s1 hl' hlt hget hget' hw1 hp g1 g2 g3 g3' g4;simp at g1 g3 g3' hlt;have hx:x=c.length:=by rw[<-hget',yqa]
   subst hx;have e2:=zNc ((c.length+20:Nat):Int);have e3:=zL I2 (zP ((c.length+20:Nat):Int));rw[zaa]at e3;have hle:(c.length:Int)+20<=28:=by omega
   have hw2:zra .i64 ((c.length:Int)+20+1)=(c.length:Int)+1+20:=by rw[zp (by omega) (by omega)];omega
   have hf:zJa T ⟨pa,pb,pd⟩ c.length=true->unF T ⟨pa,pb,pd⟩=some c.length:=by
    intro h;unfold unF;rw[hl'.eq,yDa];have:c.find? (zJa T ⟨pa,pb,pd⟩)=none:=by rw[yO];intro y hy;simp[hp y hy]
    rw[this];simp[yra,h]
   have hu:zJa T ⟨pa,pb,pd⟩ c.length=isF T (zP ((c.length+20:Nat):Int)) ⟨pa,pb,pd⟩:=rfl;have hnx:=fun(h:zJa T ⟨pa,pb,pd⟩ c.length=false)=>(fun i (hi:i∈c++[c.length])=>by
    rcases yw.1 hi with h'|h'
    ·exact hp i h'
    ·rw[yJ.1 h'];exact h:∀i∈c++[c.length],zJa T ⟨pa,pb,pd⟩ i=false)
   clear g2 hget hget' hl' hp;cases hi:isF T (zP ((c.length+20:Nat):Int)) ⟨pa,pb,pd⟩
   ·replace hnx:=hnx (hu.trans hi);rw[hi]at e3;clear hf hu h;simp[pob,toks]at e2 e3 g4;simp[*];exact⟨rfl,fun i hi=>hnx i (by simpa using hi)⟩
   ·replace hf:=hf (hu.trans hi);have IA:=I2.adv _ hi;rw[hi]at e3;rw[hf]at h;simp only at h;clear hnx hu hf;by_cases h3:3<=c.length
    ·rw[if_pos h3]at h;have h23:(23:Int)<=(c.length:Int)+20:=by omega
     have m1:=zF IA [40];split at h
     ·cases h
     ·rename_i x hq;obtain⟨e,p2⟩:=x;cases h;obtain⟨x1,I3⟩:=S.expr 1 (d+1) _ e p2 hq (IA.must _) (by omega) (by omega) (by omega) (by omega);have m2:=zF I3 [41];clear hi;rw[za]at x1;simp[pob,toks,zd,adv]at e2 e3 g4 m1 m2 x1;clear hq;simp[*,zd,pob,toks,za]
    ·rw[if_neg h3]at h;have h23:¬(23:Int)<=(c.length:Int)+20:=by omega
     split at h
     ·cases h
     ·rename_i x hq;obtain⟨e,p2⟩:=x;cases h;obtain⟨x1,I3⟩:=S.unary (d+1) _ e p2 hq IA (by omega) (by omega);clear hi;rw[za]at x1;simp[pob,toks,zd,adv]at e2 e3 g4 x1;clear hq;simp[*,zd,pob,toks,za]
  ·intros s1 hp g1 g2 g3 g3' g4;simp at g1 g3 g3';have hf:unF T ⟨pa,pb,pd⟩=none:=by
    unfold unF;rw[yO];intro y hy;simp[hp y hy]
   rw[hf]at h;simp only at h;obtain⟨x1,I3⟩:=S.primary _ _ _ _ h I2 hd (by omega);rw[za]at x1;clear g2 hp hf h;simp[pob,toks,zd]at x1 g4;simp[*,zd]
structure AS where
 m:Nat
 l:List Expr
 f:Bool
 p:PS
set_option maxHeartbeats 2000000 in
theorem args_of{T:List Tok}{n:Nat}(S:∀k,k<=n->ESpec T k):∀d p v p',zMb T (n+1) d p=some (v,p')->Inv1 T p->0<=d->d+(n+1:Nat)<=1000000000->zk E 151 [.ptr 0 0 0,.int .i64 d] (pob T p)=some (.ret (zd v),pob T p')/\Inv1 T p':=by
 intro d p v p' h I hd hn;simp only[zMb]at h;have t1:=zL I [41];rw[zaa]at t1;cases c1:isF T [41] p
 case true=>
  rw[if_pos c1]at h;rw[c1]at t1;cases h;refine⟨?_,I.adv _ c1⟩;refine zc rfl rfl rfl (by simp) ?_;clear c1;simp[*,F151,zd]
 rw[if_neg (by rw[c1];decide)]at h;rw[c1]at t1;split at h
 ·cases h
 rename_i q hq;obtain⟨l',p1⟩:=q;cases h;have hI:∀m l f p v p',m<=n->zw T m d l f p=some (v,p')->Inv1 T p->Inv1 T p':=by
  intro m
  induction m with
  |zero=>intro l f p v p' _ h;simp[zw]at h
  |succ m ih=>
   intro l f p v p' hm h I;simp only[zw]at h;have fin:∀q:PS,Inv1 T q->(if zf q then some (l,q)else match zda T m 1 d q with|none=>none|some x=>zw T m d (l++[x.1]) false x.2)=some (v,p')->Inv1 T p':=by
    intro q Iq h;cases ho:zf q
    ·rw[if_neg (by rw[ho];decide)]at h;split at h
     ·cases h
     ·rename_i x hx;exact ih _ _ _ _ _ (by omega) h ((S m (by omega)).expr _ _ _ _ _ hx Iq (by omega) (by omega) hd (by omega)).2
    ·rw[if_pos ho]at h;cases h;exact Iq
   cases f
   ·cases c2:isF T [44] p
    ·rw[c2]at h;simp at h;exact h.2 ▸ I
    ·rw[c2]at h;simp at h;exact fin _ (I.adv _ c2) h
   ·simp at h;exact fin _ I h
 have I':=hI n _ _ _ _ _ (yh _) hq I;refine⟨?_,I'.must _⟩;refine zc rfl rfl rfl (by simp) ?_;have m1:=zF I' [41];simp[*,F151,zd];refine zmb K151_0 B151_0 (fun c:AS=>c.m) (fun c=>[(5,acc 5 (c.l.map zA)),(6,.bool c.f)]) (fun c=>[]) (fun c=>pob T c.p) (fun c=>c.m<=n/\c.l.length+c.m<=n/\zw T c.m d c.l c.f c.p=some (l',p1)/\Inv1 T c.p) ⟨n,[],true,p⟩ ⟨by simp,by simp,by simp,yh _,by simp,hq,I⟩ ?_
 rintro⟨m,l,f,p⟩ s1 ⟨hm,hlm,hr,I⟩ g1 g2 g3 g4 g5
 simp at g1 g3 g5 hm hlm hr I;clear g2 g4 t1 hq I' hI;cases m with
 |zero=>simp[zw]at hr
 |succ m=>
  simp only[zw]at hr;have hroom:(l.length+1)*64<=zU:=by simp only[zU];omega
  have t2:=zL I [44];rw[zaa]at t2;have key:∀q:PS,Inv1 T q->(if zf q then some (l,q)else match zda T m 1 d q with|none=>none|some x=>zw T m d (l++[x.1]) false x.2)=some (l',p1)→
    (zf q=true/\l=l'/\q=p1)\/(zf q=false/\∃e p2,zk E 134 [.ptr 0 0 0,.int .i64 1,.int .i64 d] (pob T q)=some (.ret (zA e),pob T p2)/\Inv1 T p2/\zw T m d (l++[e]) false p2=some (l',p1)):=by
   intro q Iq h;cases ho:zf q
   ·right;rw[if_neg (by rw[ho];decide)]at h;split at h
    ·cases h
    ·rename_i x hx;obtain⟨e,p2⟩:=x;obtain⟨x1,I3⟩:=(S m (by omega)).expr 1 d _ e p2 hx Iq (by omega) (by omega) hd (by omega);exact⟨rfl,e,p2,x1,I3,h⟩
   ·left;rw[if_pos ho]at h;cases h;exact⟨rfl,rfl,rfl⟩
  cases f
  ·cases c2:isF T [44] p
   ·rw[c2]at hr t2;simp at hr;obtain⟨rfl,rfl⟩:=hr;clear key c2;simp[*]
   ·have IA:=I.adv _ c2;rw[c2]at hr t2;simp at hr;have ho:=zxc IA;rcases key _ IA hr with⟨k1,rfl,rfl⟩|⟨k1,e,p2,x1,I3,hr2⟩
    ·rw[k1]at ho;clear key c2 hr;simp[*]
    ·rw[k1]at ho;rw[za]at x1;clear key c2 hr k1;simp[*];exact⟨⟨m,l++[e],false,p2⟩,yK m,⟨by simp[za],rfl⟩,rfl,by simp only;omega,by simp only[ye,yd,yg];omega,hr2,I3⟩
  ·simp at hr;have ho:=zxc I;rcases key _ I hr with⟨k1,rfl,rfl⟩|⟨k1,e,p2,x1,I3,hr2⟩
   ·rw[k1]at ho;clear key hr t2;simp[*]
   ·rw[k1]at ho;rw[za]at x1;clear key hr k1 t2;simp[*];exact⟨⟨m,l++[e],false,p2⟩,yK m,⟨by simp[za],rfl⟩,rfl,by simp only;omega,by simp only[ye,yd,yg];omega,hr2,I3⟩
end PE.U
