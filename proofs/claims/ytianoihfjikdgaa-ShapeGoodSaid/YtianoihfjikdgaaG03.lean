/-
  Texts joined by program: PfWp, PfOps, Tg81Fnsa, Tg81Fnsb, Tg81Fns, AGX10, AGW1, AGU0, AGU1, AGU1b, AGU2, AGU3, AGU4, AGU5, AGU6, AGU6r, AGU7, AGU8, AGU9, AGU10, AGU11, AGU12, AGU13, AGA1, AGU14.
-/
import Derived.Test.YtianoihfjikdgaaG02
import Derived.Test.YtianoihfjikdgaaProg
import Derived.Laws.BitsLemmas
import Derived.Laws.RangeAny
import Derived.Laws.RangeString
set_option linter.unusedVariables false
set_option linter.unusedSectionVars false
set_option linter.unusedSimpArgs false
open Bool renaming and_eq_true→ya,or_eq_true→yK
open Eq renaming trans→yd
open List renaming all_eq_true→yo,append_assoc→yV,cons_append→yha,findIdx?_eq_none_iff→yfa,getElem?_eq_none→yZ,length_nil→yP,map_cons→yN,map_set→ysa,mem_cons→yJ,range→yR,replicate→yC
open Nat renaming le_refl→yk,strongRecOn→yca,zero_add→yD
namespace PE
open Go
def zX(x:Option (Ex×St))(Q:Ex->St->Prop):Prop:=match x with
 |some (e,s)=>Q e s
 |none=>False
@[simp] theorem holds_some(e:Ex)(s:St)(Q:Ex->St->Prop):zX (some (e,s)) Q=Q e s:=yd rfl rfl
theorem holds_iff{x:Option (Ex×St)}{Q:Ex->St->Prop}:zX x Q<->∃e s,x=some (e,s)/\Q e s:=by
 cases x with
 |none=>exact⟨fun h=>h.elim,fun⟨_,_,h,_⟩=>by cases h⟩
 |some q=>obtain⟨e,s⟩:=q;exact⟨fun h=>⟨e,s,rfl,h⟩,fun⟨_,_,h,h'⟩=>by cases h;exact h'⟩
theorem zX.mono{x:Option (Ex×St)}{Q R:Ex->St->Prop}(h:zX x Q)(hq:∀e s,Q e s->R e s):zX x R:=by
 cases x with
 |none=>exact h
 |some q=>obtain⟨e,s⟩:=q;exact hq e s h
def seqQ(k:St->Option (Ex×St))(Q:Ex->St->Prop):Ex->St->Prop
 | .normal,s=>zX (k s) Q
 |e,s=>Q e s
@[simp] theorem seqQ_normal(k:St->Option (Ex×St))(Q:Ex->St->Prop)(s:St):seqQ k Q .normal s=zX (k s) Q:=yd rfl rfl
@[simp] theorem seqQ_exit(k:St->Option (Ex×St))(Q:Ex->St->Prop)(s:St)(i:Nat):seqQ k Q (.exit i) s=Q (.exit i) s:=yd rfl rfl
@[simp] theorem seqQ_ret(k:St->Option (Ex×St))(Q:Ex->St->Prop)(s:St):seqQ k Q .ret s=Q .ret s:=yd rfl rfl
@[simp] theorem holds_thenSeq(k:St->Option (Ex×St))(x:Option (Ex×St))(Q:Ex->St->Prop):zX (thenSeq k x) Q=zX x (seqQ k Q):=by
 cases x with
 |none=>rfl
 |some q=>obtain⟨e,s⟩:=q;cases e<;>rfl
def blkQ(id:Nat)(Q:Ex->St->Prop):Ex->St->Prop
 | .exit i,s=>if i=id then Q .normal s else Q (.exit i) s
 |e,s=>Q e s
@[simp] theorem blkQ_normal(id:Nat)(Q:Ex->St->Prop)(s:St):blkQ id Q .normal s=Q .normal s:=yd rfl rfl
@[simp] theorem blkQ_exit(id i:Nat)(Q:Ex->St->Prop)(s:St):blkQ id Q (.exit i) s=if i=id then Q .normal s else Q (.exit i) s:=yd rfl rfl
@[simp] theorem blkQ_ret(id:Nat)(Q:Ex->St->Prop)(s:St):blkQ id Q .ret s=Q .ret s:=yd rfl rfl
@[simp] theorem holds_leaveBlock(id:Nat)(x:Option (Ex×St))(Q:Ex->St->Prop):zX (leaveBlock id x) Q=zX x (blkQ id Q):=by
 cases x with
 |none=>rfl
 |some q=>
  obtain⟨e,s⟩:=q;cases e<;>try rfl
  rename_i i;by_cases h:i=id<;>simp[leaveBlock,h]
noncomputable def wpS(cf:zu)(s0:St)(ops:List GOp)(s:St)(Q:Ex->St->Prop):Prop:=zX (regionEnd s0 (zjb cf ops s)) Q
def after(cf:zu)(s0:St)(r:List GOp)(Q:Ex->St->Prop):Option SR->Prop
 |some (.ok s')=>wpS cf s0 r s' Q
 |some (.pan v st)=>Q (.pan v) {s0 with st:=st}
 |none=>False
@[simp] theorem after_ok(cf:zu)(s0:St)(r:List GOp)(Q:Ex->St->Prop)(s:St):after cf s0 r Q (some (.ok s))=wpS cf s0 r s Q:=yd rfl rfl
@[simp] theorem wpS_nil(cf:zu)(s0 s:St)(Q:Ex->St->Prop):wpS cf s0 [] s Q=Q .normal s:=yd rfl rfl
noncomputable def zP(cf:zu)(w:Bool)(d:Option Nat)(o:IOp)(s:St):PV->Option SR
 | .bool b=>if b=w then zw cf d o s else some (.ok {s with fr:=zfa s.fr d (.tup [])})
 | .tup []=>some (.ok {s with fr:=zfa s.fr d (.tup [])})
 |_=>none
theorem step_guarded(cf:zu)(g:Nat)(w:Bool)(d:Option Nat)(o:IOp)(s:St):step cf ⟨some (g,w),d,o⟩ s=zP cf w d o s (s.fr g):=by
 simp only[step];generalize s.fr g=v;cases v<;>try rfl
 ·rename_i b;cases b<;>cases w<;>rfl
 ·rename_i l;cases l<;>rfl
@[simp] theorem wpS_free(cf:zu)(s0:St)(d:Option Nat)(o:IOp)(r:List GOp)(s:St)(Q:Ex->St->Prop):wpS cf s0 (⟨none,d,o⟩::r) s Q=after cf s0 r Q (zw cf d o s):=by
 have:step cf ⟨none,d,o⟩ s=zw cf d o s:=rfl;simp only[wpS,zjb,this];cases zw cf d o s with
 |none=>rfl
 |some q=>cases q<;>rfl
@[simp] theorem wpS_guard(cf:zu)(s0:St)(g:Nat)(w:Bool)(d:Option Nat)(o:IOp)(r:List GOp)(s:St)(Q:Ex->St->Prop):wpS cf s0 (⟨some (g,w),d,o⟩::r) s Q=after cf s0 r Q (zP cf w d o s (s.fr g)):=by
 simp only[wpS,zjb,step_guarded];cases zP cf w d o s (s.fr g)with
 |none=>rfl
 |some q=>cases q<;>rfl
@[simp] theorem guarded_tt(cf:zu)(d:Option Nat)(o:IOp)(s:St):zP cf true d o s (.bool true)=zw cf d o s:=yd rfl rfl
@[simp] theorem guarded_ff(cf:zu)(d:Option Nat)(o:IOp)(s:St):zP cf false d o s (.bool false)=zw cf d o s:=yd rfl rfl
@[simp] theorem guarded_tf(cf:zu)(d:Option Nat)(o:IOp)(s:St):zP cf true d o s (.bool false)=some (.ok {s with fr:=zfa s.fr d (.tup [])}):=yd rfl rfl
@[simp] theorem guarded_ft(cf:zu)(d:Option Nat)(o:IOp)(s:St):zP cf false d o s (.bool true)=some (.ok {s with fr:=zfa s.fr d (.tup [])}):=yd rfl rfl
@[simp] theorem guarded_nil(cf:zu)(w:Bool)(d:Option Nat)(o:IOp)(s:St):zP cf w d o s (.tup [])=some (.ok {s with fr:=zfa s.fr d (.tup [])}):=yd rfl rfl
theorem wp_region(cf:zu)(ops:List GOp)(s:St)(Q:Ex->St->Prop):zX (exec cf (.region ops) s) Q=wpS cf s ops s Q:=by
 rw[exec_region];rfl
theorem guard_split{cf:zu}{s0:St}{r:List GOp}{Q:Ex->St->Prop}{w:Bool}{d:Option Nat}{o:IOp}{s:St}(b:Bool)
  (h1:b=true->after cf s0 r Q (zP cf w d o s (.bool true))) (h2:b=false->after cf s0 r Q (zP cf w d o s (.bool false))):after cf s0 r Q (zP cf w d o s (.bool b)):=by
 cases b
 ·exact h2 rfl
 ·exact h1 rfl
theorem guard_splitP{cf:zu}{s0:St}{r:List GOp}{Q:Ex->St->Prop}{w:Bool}{d:Option Nat}{o:IOp}{s:St}(p:Prop)[Decidable p]
  (h1:p->after cf s0 r Q (zP cf w d o s (.bool true))) (h2:¬p->after cf s0 r Q (zP cf w d o s (.bool false))):after cf s0 r Q (zP cf w d o s (.bool (decide p))):=by
 by_cases h:p
 ·simpa[h]using h1 h
 ·simpa[h]using h2 h
noncomputable def condX(cf:zu)(a b:ICode)(s:St):PV->Option (Ex×St)
 | .bool true=>exec cf a s
 | .bool false=>exec cf b s
 |_=>none
@[simp] theorem condX_true(cf:zu)(a b:ICode)(s:St):condX cf a b s (.bool true)=exec cf a s:=yd rfl rfl
@[simp] theorem condX_false(cf:zu)(a b:ICode)(s:St):condX cf a b s (.bool false)=exec cf b s:=yd rfl rfl
@[simp] theorem wp_cond(cf:zu)(c:Arg)(a b:ICode)(s:St):exec cf (.cond c a b) s=condX cf a b s (c.val s.fr):=by
 rw[exec_cond];generalize c.val s.fr=v;cases v with
 |bool x=>cases x<;>rfl
 |_=>rfl
theorem cond_split{cf:zu}{x y:ICode}{s:St}{Q:Ex->St->Prop}(b:Bool)(h1:b=true->zX (exec cf x s) Q)(h2:b=false->zX (exec cf y s) Q):zX (condX cf x y s (.bool b)) Q:=by
 cases b
 ·exact h2 rfl
 ·exact h1 rfl
theorem cond_splitP{cf:zu}{x y:ICode}{s:St}{Q:Ex->St->Prop}(p:Prop)[Decidable p](h1:p->zX (exec cf x s) Q)(h2:¬p->zX (exec cf y s) Q):zX (condX cf x y s (.bool (decide p))) Q:=by
 by_cases h:p
 ·have:decide p=true:=decide_eq_true h;rw[this];exact h1 h
 ·have:decide p=false:=decide_eq_false h;rw[this];exact h2 h
theorem guard_splitN{cf:zu}{s0:St}{r:List GOp}{Q:Ex->St->Prop}{w:Bool}{d:Option Nat}{o:IOp}{s:St}(p:Prop)[Decidable p]
  (h1:¬p->after cf s0 r Q (zP cf w d o s (.bool true))) (h2:p->after cf s0 r Q (zP cf w d o s (.bool false))):after cf s0 r Q (zP cf w d o s (.bool (!decide p))):=by
 by_cases h:p
 ·simpa[h]using h2 h
 ·simpa[h]using h1 h
theorem guard_splitM{cf:zu}{s0:St}{r:List GOp}{Q:Ex->St->Prop}{w:Bool}{d:Option Nat}{o:IOp}{s:St}(b:Bool)
  (h1:b=false->after cf s0 r Q (zP cf w d o s (.bool true))) (h2:b=true->after cf s0 r Q (zP cf w d o s (.bool false))):after cf s0 r Q (zP cf w d o s (.bool (!b))):=by
 cases b
 ·exact h1 rfl
 ·exact h2 rfl
theorem cond_splitN{cf:zu}{x y:ICode}{s:St}{Q:Ex->St->Prop}(p:Prop)[Decidable p](h1:¬p->zX (exec cf x s) Q)(h2:p->zX (exec cf y s) Q):zX (condX cf x y s (.bool (!decide p))) Q:=by
 by_cases h:p
 ·have:decide p=true:=decide_eq_true h;rw[this];exact h2 h
 ·have:decide p=false:=decide_eq_false h;rw[this];exact h1 h
theorem cond_splitM{cf:zu}{x y:ICode}{s:St}{Q:Ex->St->Prop}(b:Bool)(h1:b=false->zX (exec cf x s) Q)(h2:b=true->zX (exec cf y s) Q):zX (condX cf x y s (.bool (!b))) Q:=by
 cases b
 ·exact h1 rfl
 ·exact h2 rfl
theorem sP{cf:zu}{x y:ICode}{s:St}{Q:Ex->St->Prop}(p:Prop)[Decidable p](h1:p->zX (exec cf x s) Q)(h2:¬p->zX (exec cf y s) Q):zX (condX cf x y s (.bool (decide p))) Q:=cond_splitP p h1 h2
theorem gP{cf:zu}{s0:St}{r:List GOp}{Q:Ex->St->Prop}{w:Bool}{d:Option Nat}{o:IOp}{s:St}(p:Prop)[Decidable p]
  (h1:p->after cf s0 r Q (zP cf w d o s (.bool true))) (h2:¬p->after cf s0 r Q (zP cf w d o s (.bool false))):after cf s0 r Q (zP cf w d o s (.bool (decide p))):=guard_splitP p h1 h2
theorem sN{cf:zu}{x y:ICode}{s:St}{Q:Ex->St->Prop}(p:Prop)[Decidable p](h1:¬p->zX (exec cf x s) Q)(h2:p->zX (exec cf y s) Q):zX (condX cf x y s (.bool (!decide p))) Q:=cond_splitN p h1 h2
theorem gN{cf:zu}{s0:St}{r:List GOp}{Q:Ex->St->Prop}{w:Bool}{d:Option Nat}{o:IOp}{s:St}(p:Prop)[Decidable p]
  (h1:¬p->after cf s0 r Q (zP cf w d o s (.bool true))) (h2:p->after cf s0 r Q (zP cf w d o s (.bool false))):after cf s0 r Q (zP cf w d o s (.bool (!decide p))):=guard_splitN p h1 h2
theorem sM{cf:zu}{x y:ICode}{s:St}{Q:Ex->St->Prop}(b:Bool)(h1:b=false->zX (exec cf x s) Q)(h2:b=true->zX (exec cf y s) Q):zX (condX cf x y s (.bool (!b))) Q:=cond_splitM b h1 h2
theorem gM{cf:zu}{s0:St}{r:List GOp}{Q:Ex->St->Prop}{w:Bool}{d:Option Nat}{o:IOp}{s:St}(b:Bool)
  (h1:b=false->after cf s0 r Q (zP cf w d o s (.bool true))) (h2:b=true->after cf s0 r Q (zP cf w d o s (.bool false))):after cf s0 r Q (zP cf w d o s (.bool (!b))):=guard_splitM b h1 h2
theorem sB{cf:zu}{x y:ICode}{s:St}{Q:Ex->St->Prop}(b:Bool)(h1:b=true->zX (exec cf x s) Q)(h2:b=false->zX (exec cf y s) Q):zX (condX cf x y s (.bool b)) Q:=cond_split b h1 h2
theorem gB{cf:zu}{s0:St}{r:List GOp}{Q:Ex->St->Prop}{w:Bool}{d:Option Nat}{o:IOp}{s:St}(b:Bool)
  (h1:b=true->after cf s0 r Q (zP cf w d o s (.bool true))) (h2:b=false->after cf s0 r Q (zP cf w d o s (.bool false))):after cf s0 r Q (zP cf w d o s (.bool b)):=guard_split b h1 h2
theorem eqp{p:Prop}(h:p):p=True:=eq_true h
theorem eqn{p:Prop}(h:¬p):p=False:=eq_false h
def loopQ(I:St->Prop)(Q:Ex->St->Prop):Ex->St->Prop
 | .normal,s=>I s
 |e,s=>Q e s
@[simp] theorem loopQ_normal(I:St->Prop)(Q:Ex->St->Prop)(s:St):loopQ I Q .normal s=I s:=yd rfl rfl
@[simp] theorem loopQ_exit(I:St->Prop)(Q:Ex->St->Prop)(s:St)(i:Nat):loopQ I Q (.exit i) s=Q (.exit i) s:=yd rfl rfl
@[simp] theorem loopQ_ret(I:St->Prop)(Q:Ex->St->Prop)(s:St):loopQ I Q .ret s=Q .ret s:=yd rfl rfl
def round(cf:zu)(keep dead:List Nat)(b:ICode)(s:St)(Q:Ex->St->Prop):Prop:=match havoc keep dead s with
 |some s0=>zX (exec cf b s0) Q
 |none=>False
theorem round_eq(cf:zu)(keep dead:List Nat)(b:ICode)(s:St)(Q:Ex->St->Prop):
  round cf keep dead b s Q=(keep.all (fun t=>avoids dead (s.fr t))=true/\zX (exec cf b {fr:=keepFr s.fr keep,bx:=dropBx s.bx dead,st:=s.st}) Q):=by
 unfold round havoc;generalize keep.all (fun t=>avoids dead (s.fr t))=c;cases c<;>simp
theorem holds_loop(cf:zu)(keep dead:List Nat)(b:ICode)(s:St)(Q:Ex->St->Prop):
  zX (exec cf (.loop keep dead b) s) Q=round cf keep dead b s (seqQ (exec cf (.loop keep dead b)) Q):=by
 rw[exec_loop];unfold round;cases havoc keep dead s with
 |none=>rfl
 |some s0=>exact holds_thenSeq _ _ _
theorem wp_loop{cf:zu}{keep dead:List Nat}{b:ICode}{Q:Ex->St->Prop}(I:Nat->St->Prop)
  (hstep:∀n s,I n s->round cf keep dead b s (loopQ (fun s'=>∃m,m<n/\I m s') Q)):∀n s,I n s->zX (exec cf (.loop keep dead b) s) Q:=by
 intro n
 induction n using yca with
 |ind n ih=>
  intro s hI;rw[holds_loop];have h:=hstep n s hI;unfold round at h ⊢;cases hh:havoc keep dead s with
  |none=>rw[hh]at h;exact h
  |some s0=>
   rw[hh]at h;refine zX.mono h ?_;intro e s' h';cases e with
   |normal=>obtain⟨m,hm,hI'⟩:=h';exact ih m hm s' hI'
   |exit i=>exact h'
   |ret=>exact h'
   |pan v=>exact h'
theorem zn{n:Int}(h0: -9223372036854775808<=n)(h1:n<=9223372036854775807):zT .i64 n=n:=by
 rw[zmc];simp only[IntKind.wrap,IntKind.bits,IntKind.signed,Bool.true_and];split
 ·rename_i h;have:=of_decide_eq_true h;omega
 ·rename_i h;have:¬(n%2^64>=2^(64-1)):=fun hh=>h (decide_eq_true hh)
  omega
theorem wp_list{α:Type}{cf:zu}{keep dead:List Nat}{b:ICode}{Q:Ex->St->Prop}{s:St}(l:List α)(I:List α->St->Prop)(hb:l.length<2^62)(h0:I [] s)
  (hstep:∀d x r s,l=d++x::r->(hlt:d.length<l.length)->l[d.length]? =some x->l[d.length]'hlt=x->zT .i64 ((d.length:Int)+1)=(d.length:Int)+1->I d s->round cf keep dead b s (loopQ (I (d++[x])) Q))
  (hend:∀s,I l s->round cf keep dead b s (loopQ (fun _=>False) Q)):zX (exec cf (.loop keep dead b) s) Q:=by
 have key:∀(r d:List α) (s:St),l=d++r->I d s->zX (exec cf (.loop keep dead b) s) Q:=by
  intro r
  induction r with
  |nil=>
   intro d s hl hI;rw[List.append_nil]at hl;subst hl;rw[holds_loop];have h:=hend s hI;unfold round at h ⊢;cases hh:havoc keep dead s with
   |none=>rw[hh]at h;exact h
   |some s0=>
    rw[hh]at h;refine zX.mono h ?_;intro e s' h';cases e with
    |normal=>exact h'.elim
    |exit i=>exact h'
    |ret=>exact h'
    |pan v=>exact h'
  |cons x r ih=>
   intro d s hl hI;rw[holds_loop];have h:=hstep d x r s hl (by rw[hl];simp) (by rw[hl];simp) (by simp[hl]) (zn (by omega) (by have:=congrArg List.length hl;simp at this;omega)) hI;unfold round at h ⊢;cases hh:havoc keep dead s with
   |none=>rw[hh]at h;exact h
   |some s0=>
    rw[hh]at h;refine zX.mono h ?_;intro e s' h';cases e with
    |normal=>exact ih (d++[x]) s' (by simpa using hl) h'
    |exit i=>exact h'
    |ret=>exact h'
    |pan v=>exact h'
 exact key l [] s rfl h0
def Split{α:Type}(l d:List α)(x:α)(r:List α):Prop:=l=d++x::r
def kept(K B:List Nat)(s0 s:St):Prop:=(∀t∈K,s.fr t=s0.fr t)/\(∀k∈B,s.bx k=s0.bx k)
def has(V:List (Nat×PV))(s:St):Prop:=∀p∈V,s.fr p.1=p.2
@[simp] theorem kept_eq(K B:List Nat)(s0 s:St):kept K B s0 s=((∀t∈K,s.fr t=s0.fr t)/\(∀k∈B,s.bx k=s0.bx k)):=yd rfl rfl
@[simp] theorem has_nil(s:St):has [] s=True:=by simp[has]
@[simp] theorem has_cons(t:Nat)(v:PV)(V:List (Nat×PV))(s:St):has ((t,v)::V) s=(s.fr t=v/\has V s):=by simp[has]
def hasB(W:List (Nat×Bx))(s:St):Prop:=∀p∈W,s.bx p.1=p.2
@[simp] theorem hasB_nil(s:St):hasB [] s=True:=by simp[hasB]
@[simp] theorem hasB_cons(t:Nat)(v:Bx)(W:List (Nat×Bx))(s:St):hasB ((t,v)::W) s=(s.bx t=v/\hasB W s):=by simp[hasB]
def Inv(K B:List Nat)(s0:St)(V:List (Nat×PV))(W:List (Nat×Bx))(σ:zb)(P:Prop)(s:St):Prop:=kept K B s0 s/\has V s/\hasB W s/\s.st=σ/\P
@[simp] theorem Inv_eq(K B:List Nat)(s0:St)(V:List (Nat×PV))(W:List (Nat×Bx))(σ:zb)(P:Prop)(s:St):Inv K B s0 V W σ P s=(kept K B s0 s/\has V s/\hasB W s/\s.st=σ/\P):=yd rfl rfl
theorem wp_eachB{α:Type}{cf:zu}{keep dead:List Nat}{b:ICode}{Q:Ex->St->Prop}{s0:St}(l:List α)(K B:List Nat)(V:List α->List (Nat×PV))(W:List α->List (Nat×Bx))(σ:List α->zb)(P:List α->Prop)
  (hb:l.length<2^62) (h0:has (V []) s0/\hasB (W []) s0/\s0.st=σ []/\P [])
  (hstep:∀d x r s,Split l d x r->(hlt:d.length<l.length)->l[d.length]? =some x->l[d.length]'hlt=x->zT .i64 ((d.length:Int)+1)=(d.length:Int)+1->P d→
   (∀t∈K,s.fr t=s0.fr t)->(∀k∈B,s.bx k=s0.bx k)->has (V d) s->hasB (W d) s->s.st=σ d->round cf keep dead b s (loopQ (Inv K B s0 (V (d++[x])) (W (d++[x])) (σ (d++[x])) (P (d++[x]))) Q))
  (hend:∀s,P l->(∀t∈K,s.fr t=s0.fr t)->(∀k∈B,s.bx k=s0.bx k)->has (V l) s->hasB (W l) s->s.st=σ l->round cf keep dead b s (loopQ (fun _=>False) Q)):zX (exec cf (.loop keep dead b) s0) Q:=by
 refine wp_list l (fun d s=>Inv K B s0 (V d) (W d) (σ d) (P d) s) hb ?_ ?_ ?_
 ·exact⟨⟨fun _ _=>rfl,fun _ _=>rfl⟩,h0⟩
 ·rintro d x r s hl hlt hg hg' hw ⟨⟨h1,h2⟩,h3,h3',h4,h5⟩
  exact hstep d x r s hl hlt hg hg' hw h5 h1 h2 h3 h3' h4
 ·rintro s ⟨⟨h1,h2⟩,h3,h3',h4,h5⟩
  exact hend s h5 h1 h2 h3 h3' h4
theorem zH{α:Type}{cf:zu}{keep dead:List Nat}{b:ICode}{Q:Ex->St->Prop}{s0:St}(l:List α)(K B:List Nat)(V:List α->List (Nat×PV))(σ:List α->zb)(P:List α->Prop)
  (hb:l.length<2^62) (h0:has (V []) s0/\s0.st=σ []/\P [])
  (hstep:∀d x r s,Split l d x r->(hlt:d.length<l.length)->l[d.length]? =some x->l[d.length]'hlt=x->zT .i64 ((d.length:Int)+1)=(d.length:Int)+1->P d→
   (∀t∈K,s.fr t=s0.fr t)->(∀k∈B,s.bx k=s0.bx k)->has (V d) s->s.st=σ d->round cf keep dead b s (loopQ (Inv K B s0 (V (d++[x])) [] (σ (d++[x])) (P (d++[x]))) Q))
  (hend:∀s,P l->(∀t∈K,s.fr t=s0.fr t)->(∀k∈B,s.bx k=s0.bx k)->has (V l) s->s.st=σ l->round cf keep dead b s (loopQ (fun _=>False) Q)):zX (exec cf (.loop keep dead b) s0) Q:=
 wp_eachB l K B V (fun _=>[]) σ P hb ⟨h0.1,by simp,h0.2⟩ (fun d x r s a1 a2 a3 a4 a5 a6 a7 a8 a9 _ a10=>hstep d x r s a1 a2 a3 a4 a5 a6 a7 a8 a9 a10) (fun s a1 a2 a3 a4 _ a5=>hend s a1 a2 a3 a4 a5)
theorem wp_while{β:Type}{cf:zu}{keep dead:List Nat}{b:ICode}{Q:Ex->St->Prop}{s0:St}(K B:List Nat)(μ:β->Nat)(V:β->List (Nat×PV))(W:β->List (Nat×Bx))(σ:β->zb)(P:β->Prop)(c0:β)
  (h0:has (V c0) s0/\hasB (W c0) s0/\s0.st=σ c0/\P c0)
  (hstep:∀c s,P c->(∀t∈K,s.fr t=s0.fr t)->(∀k∈B,s.bx k=s0.bx k)->has (V c) s->hasB (W c) s->s.st=σ c→
   round cf keep dead b s (loopQ (fun s'=>∃c',μ c'<μ c/\Inv K B s0 (V c') (W c') (σ c') (P c') s') Q)):zX (exec cf (.loop keep dead b) s0) Q:=by
 refine wp_loop (fun n s=>∃c,μ c=n/\Inv K B s0 (V c) (W c) (σ c) (P c) s) ?_ (μ c0) s0 ⟨c0,rfl,⟨fun _ _=>rfl,fun _ _=>rfl⟩,h0⟩
 rintro n s ⟨c,rfl,⟨h1,h2⟩,h3,h3',h4,h5⟩
 have h:=hstep c s h5 h1 h2 h3 h3' h4;unfold round at h ⊢;cases hh:havoc keep dead s with
 |none=>rw[hh]at h;exact h
 |some s1=>
  rw[hh]at h;refine zX.mono h ?_;intro e s' h';cases e with
  |normal=>obtain⟨c',q1,q2⟩:=h';exact⟨μ c',q1,c',rfl,q2⟩
  |exit i=>exact h'
  |ret=>exact h'
  |pan v=>exact h'
def PC(x:Option (CRes×zb))(R:CRes->zb->Prop):Prop:=match x with
 |some (r,st)=>R r st
 |none=>False
theorem PC_iff{x:Option (CRes×zb)}{R:CRes->zb->Prop}:PC x R<->∃r st,x=some (r,st)/\R r st:=by
 cases x with
 |none=>exact⟨fun h=>h.elim,fun⟨_,_,h,_⟩=>by cases h⟩
 |some q=>obtain⟨e,s⟩:=q;exact⟨fun h=>⟨e,s,rfl,h⟩,fun⟨_,_,h,h'⟩=>by cases h;exact h'⟩
def fin(res:List IRes)(fz:Bool)(n:Nat)(s:St):Option (CRes×zb):=
 match getAll s res with
 |none=>none
 |some vs=>if vs.all zq then
   if fz then
    if zD n (vs.map (zac n s.st))&&zb.wf n (s.st.take n)&&decide (n<=s.st.length)then some (.ret (zNc (vs.map (zac n s.st))),s.st.take n)else none
   else some (.ret (zNc vs),s.st)
  else none
def finPan(fz:Bool)(n:Nat)(v:PV)(s:St):Option (CRes×zb):=
 if fz then
  if zp n v&&zb.wf n (s.st.take n)&&decide (n<=s.st.length)then some (.pan v,s.st.take n)else none
 else some (.pan v,s.st)
def leaveQ(res:List IRes)(fz:Bool)(n:Nat)(R:CRes->zb->Prop):Ex->St->Prop
 | .normal,s=>PC (fin res fz n s) R
 | .ret,s=>PC (fin res fz n s) R
 | .pan v,s=>PC (finPan fz n v s) R
 |_,_=>False
section
variable (res:List IRes) (fz:Bool) (n:Nat) (R:CRes->zb->Prop) (s:St)
@[simp] theorem leaveQ_normal:leaveQ res fz n R .normal s=PC (fin res fz n s) R:=yd rfl rfl
@[simp] theorem leaveQ_ret:leaveQ res fz n R .ret s=PC (fin res fz n s) R:=yd rfl rfl
@[simp] theorem fin_false:fin res false n s=match getAll s res with
 |none=>none
 |some vs=>if vs.all zq then some (.ret (zNc vs),s.st)else none:=yd rfl rfl
@[simp] theorem PC_some(r:CRes)(st:zb):PC (some (r,st)) R=R r st:=yd rfl rfl
end
section
variable (res:List IRes) (n:Nat) (R:CRes->zb->Prop) (s:St)
end
theorem pcall_wpP{E:Env}{f:Nat}{F:IFn}{args:List PV}{st:zb}{R:CRes->zb->Prop}(hx:E.ext f=none)(hf:E.fn f=some F)(hl:args.length=F.nargs)(hv:args.all zq=true)
  (h:zX (exec (zm E) F.body {fr:=frOf args 0,bx:=fun _=> .no,st:=st}) (leaveQ F.res F.freeze st.length R)) (hh:E.hand f=none:=by rfl) (hd:F.deep=false:=by rfl) (ho:F.own=none:=by rfl):PC (zm E f args st) R:=by
 rw[holds_iff]at h;obtain⟨e,s,h1,h2⟩:=h;have h3:PC (leave F st.length (some (e,s))) R:=by
  cases e with
  |normal=>show PC (zwc F st.length s) R;unfold zwc;rw[ho,hd];exact h2
  |ret=>show PC (zwc F st.length s) R;unfold zwc;rw[ho,hd];exact h2
  |pan v=>exact h2
  |exit i=>exact h2.elim
 rw[PC_iff]at h3;obtain⟨r,st',h4,h5⟩:=h3;rw[pcall_body hx hf hl hv hh (by rw[h1];exact h4)];exact h5
def isR(r:CRes×zb):CRes->zb->Prop:=fun r' st'=>r'=r.1/\st'=r.2
theorem zc{E:Env}{f:Nat}{F:IFn}{args:List PV}{st:zb}{r:CRes×zb}(hx:E.ext f=none)(hf:E.fn f=some F)(hl:args.length=F.nargs)(hv:args.all zq=true)
  (h:zX (exec (zm E) F.body {fr:=frOf args 0,bx:=fun _=> .no,st:=st}) (leaveQ F.res F.freeze st.length (isR r))) (hh:E.hand f=none:=by rfl) (hd:F.deep=false:=by rfl) (ho:F.own=none:=by rfl):zm E f args st=some r:=by
 have h1:=pcall_wpP (R:=isR r) hx hf hl hv h hh hd ho;rw[PC_iff]at h1;obtain⟨r',st',e,q1,q2⟩:=h1;rw[e,q1,q2]
def finO(t:Nat)(s:St):Option (CRes×zb):=if zq (s.fr t)then some (.ret (s.fr t),s.st)else none
def leaveO(t:Nat)(R:CRes->zb->Prop):Ex->St->Prop
 | .normal,s=>PC (finO t s) R
 | .ret,s=>PC (finO t s) R
 | .pan v,s=>PC (some (.pan v,s.st)) R
 |_,_=>False
section
variable (t:Nat) (R:CRes->zb->Prop) (s:St)
@[simp] theorem leaveO_ret:leaveO t R .ret s=PC (finO t s) R:=yd rfl rfl
@[simp] theorem finO_eq:finO t s=if zq (s.fr t)then some (.ret (s.fr t),s.st)else none:=yd rfl rfl
end
theorem pcall_wpO{E:Env}{f:Nat}{F:IFn}{args:List PV}{st:zb}{r:CRes×zb}(t:Nat)(hx:E.ext f=none)(hf:E.fn f=some F)(hl:args.length=F.nargs)(hv:args.all zq=true)
  (h:zX (exec (zm E) F.body {fr:=frOf args 0,bx:=fun _=> .no,st:=st}) (leaveO t (isR r))) (hh:E.hand f=none:=by rfl) (hz:F.freeze=false:=by rfl) (ho:F.own=some t:=by rfl):zm E f args st=some r:=by
 rw[holds_iff]at h;obtain⟨e,s,h1,h2⟩:=h;have h3:PC (leave F st.length (some (e,s))) (isR r):=by
  cases e with
  |normal=>show PC (zwc F st.length s) (isR r);unfold zwc;rw[ho];exact h2
  |ret=>show PC (zwc F st.length s) (isR r);unfold zwc;rw[ho];exact h2
  |pan v=>show PC (finishPan F st.length v s) (isR r);unfold finishPan;rw[hz];exact h2
  |exit i=>exact h2.elim
 rw[PC_iff]at h3;obtain⟨r',st',h4,q1,q2⟩:=h3;rw[pcall_body hx hf hl hv hh (by rw[h1];exact h4),q1,q2]
@[simp] theorem isR_mk(r r':CRes)(st st':zb):isR (r,st) r' st'=(r'=r/\st'=st):=yd rfl rfl
attribute [simp] wp_region round_eq exec_sealK
section
variable (n:Nat)
@[simp] theorem below_bool(b:Bool):zp n (.bool b)=true:=yd rfl rfl
@[simp] theorem below_int(k:IntKind)(m:Int):zp n (.int k m)=true:=yd rfl rfl
@[simp] theorem below_str(m:List UInt8):zp n (.str m)=true:=yd rfl rfl
@[simp] theorem below_slice(k:SK)(z:Nat)(l:List PV):zp n (.slice k z l)=zD n l:=yd rfl rfl
@[simp] theorem below_agg(l:List PV):zp n (.agg l)=zD n l:=yd rfl rfl
@[simp] theorem below_tup(l:List PV):zp n (.tup l)=zD n l:=yd rfl rfl
@[simp] theorem belowL_nil:zD n []=true:=yd rfl rfl
@[simp] theorem belowL_cons(v:PV)(l:List PV):zD n (v::l)=(zp n v&&zD n l):=yd rfl rfl
end
@[simp] theorem zSb{α:Type}(n:Nat)(f:α->PV)(l:List α)(h:∀x,zp n (f x)=true):zD n (l.map f)=true:=by
 induction l with
 |nil=>rfl
 |cons x r ih=>simp[h,ih]
theorem Split.mem{α:Type}{l d:List α}{x:α}{r:List α}(h:Split l d x r):x∈l:=by
 have h:l=d++x::r:=h;rw[h];simp
theorem Split.eq{α:Type}{l d:List α}{x:α}{r:List α}(h:Split l d x r):l=d++x::r:=h
theorem byte_lt(b:UInt8):(b.toNat:Int)<256:=by
 have:=b.toNat_lt;omega
@[simp] theorem wrapK_byte(k:IntKind)(h:k≠ .i8)(b:UInt8):zT k b.toNat=b.toNat:=by
 have:=byte_lt b;have h0:(0:Int)<=b.toNat:=by omega
 rw[zmc];cases k<;>first|exact absurd rfl h|(simp only[IntKind.wrap,IntKind.bits,IntKind.signed,Bool.true_and,Bool.false_and];split<;>rename_i h<;>first|omega|(have:=of_decide_eq_true h;omega)|(exact absurd h (by simp)))
section
variable (n:Nat) (st:zb)
@[simp] theorem frA_bool(b:Bool):zac n st (.bool b)=(.bool b):=yd rfl rfl
end
@[simp] theorem fin_true0(res:List IRes)(s:St):fin res true 0 s=match getAll s res with
 |none=>none
 |some vs=>if vs.all zq then if zD 0 (vs.map (zac 0 s.st))then some (.ret (zNc (vs.map (zac 0 s.st))),[])else none else none:=by
 unfold fin;cases getAll s res with
 |none=>rfl
 |some vs=>simp[zb.wf]
def acc(sz:Nat)(l:List PV):PV:=match l with
 | []=> .slice .fit sz []
 |x::r=> .slice .own sz (x::r)
@[simp] theorem acc_nil(sz:Nat):acc sz []= .slice .fit sz []:=yd rfl rfl
@[simp] theorem acc_cons(sz:Nat)(x:PV)(r:List PV):acc sz (x::r)= .slice .own sz (x::r):=yd rfl rfl
@[simp] theorem stripA_acc(sz:Nat)(l:List PV):stripA (acc sz l)= .slice .plain sz l:=by cases l<;>rfl
@[simp] theorem isVar_acc(sz:Nat)(l:List PV):zq (acc sz l)=true:=by cases l<;>rfl
@[simp] theorem avoids_acc(dead:List Nat)(sz:Nat)(l:List PV):avoids dead (acc sz l)=true:=by cases l<;>rfl
@[simp] theorem appendS_acc(sz bytes:Nat)(b:Bx)(st:zb)(l l':List PV)(h:(l.length+l'.length)*bytes<=zk):appendS sz bytes b st (some l') (acc sz l)=some (acc sz (l++l'),b,st):=by
 cases l with
 |nil=>
  cases l' with
  |nil=>simp
  |cons y r=>
   simp at h;simp;exact h
 |cons x r=>simp at h;simp;exact h
@[simp high] theorem appendS_nil(sz bytes:Nat)(b:Bx)(st:zb)(l':List PV)(h:l'.length*bytes<=zk):appendS sz bytes b st (some l') (.slice .fit sz [])=some (acc sz l',b,st):=by
 have:=appendS_acc sz bytes b st [] l' (by simpa using h);simpa using this
@[simp] theorem canon1_sacc(sz:Nat)(l:List PV):canon1 (strip (acc sz l))= .slice .plain sz l:=by cases l<;>rfl
@[simp] theorem stripA_sacc(sz:Nat)(l:List PV):stripA (strip (acc sz l))= .slice .plain sz l:=by cases l<;>rfl
@[simp] theorem isVar_sacc(sz:Nat)(l:List PV):zq (strip (acc sz l))=true:=by cases l<;>rfl
@[simp] theorem cellsOf_sacc(sz:Nat)(l:List PV):cellsOf (strip (acc sz l))=[strip (acc sz l)]:=by cases l<;>rfl
@[simp] theorem src_sacc(st:zb)(sz z:Nat)(l:List PV):zja st sz (strip (acc z l))=if sz=z then some l else none:=by cases l<;>rfl
@[simp] def cI(n:Int):Arg:= .c (.int .i64 n)
@[simp] def oM(a b:Nat):GOp:=⟨none,some a,.mv (.t b)⟩
@[simp] def oC(a:Nat)(v:PV):GOp:=⟨none,some a,.mv (.c v)⟩
@[simp] def oO(a:Nat)(x:IOp):GOp:=⟨none,some a,x⟩
@[simp] def oN(x:IOp):GOp:=⟨none,none,x⟩
@[simp] def oT(g a:Nat)(x:IOp):GOp:=⟨some (g,true),some a,x⟩
@[simp] def oF(g a:Nat)(x:IOp):GOp:=⟨some (g,false),some a,x⟩
@[simp] def oA(a off t:Nat):GOp:=⟨none,some a,.faddr off (.t t)⟩
@[simp] def oX(a t i:Nat):GOp:=⟨none,some a,.ext (.t t) i⟩
@[simp] def oL(a k t:Nat):GOp:=⟨none,some a,.load (.box k) false 1 (.t t)⟩
@[simp] def oLa(a k sz t:Nat):GOp:=⟨none,some a,.load (.box k) true sz (.t t)⟩
@[simp] def oG(a t:Nat):GOp:=⟨none,some a,.load .any false 1 (.t t)⟩
@[simp] def oS(k sz t v:Nat):GOp:=⟨none,none,.store (.box k) sz (.t t) (.t v)⟩
@[simp] def oB(a:Nat)(op:BinOp)(x y:Arg):GOp:=⟨none,some a,.bin 0 [] op x y⟩
@[simp] def bF:PV:= .bool false
@[simp] def bT:PV:= .bool true
@[simp] def sr(o:List GOp)(r:ICode):ICode:= .seq (.region o) r
@[simp] def cP(a f:Nat)(l:List Arg):GOp:=⟨none,some a,.callP false (.c (.fn f [] [])) l⟩
@[simp] def cF(a f:Nat)(l:List Arg):GOp:=⟨none,some a,.call false (.c (.fn f [] [])) l⟩
@[simp] def oK(a t:Nat):GOp:=⟨none,some a,.nilck (.t t)⟩
@[simp] def oI(a z t i:Nat):GOp:=⟨none,some a,.iaddr z (.t t) (.t i)⟩
@[simp] def oE(a t:Nat):GOp:=⟨none,some a,.take t⟩
@[simp] def oZ(a:Nat)(n:Int):GOp:=⟨none,some a,.mv (.c (.int .i64 n))⟩
@[simp] def oY(a t:Nat):GOp:=⟨none,some a,.len 1 (.t t)⟩
@[simp] def oW(a z t:Nat):GOp:=⟨none,some a,.load .any true z (.t t)⟩
@[simp] def oH(a t:Nat):GOp:=⟨none,some a,.load .imm false 1 (.t t)⟩
@[simp] def oU(a t:Nat):GOp:=⟨none,some a,.un .not (.t t)⟩
@[simp] def oV(t v:Nat):GOp:=⟨none,none,.store .any 1 (.t t) (.t v)⟩
@[simp] def oP(a:Nat)(op:BinOp)(x y:Nat):GOp:=⟨none,some a,.bin 0 [] op (.t x) (.t y)⟩
@[simp] def oD(a:Nat)(op:BinOp)(x:Nat)(y:Int):GOp:=⟨none,some a,.bin 0 [] op (.t x) (.c (.int .i64 y))⟩
@[simp] def oTm(g a t:Nat):GOp:=⟨some (g,true),some a,.mv (.t t)⟩
@[simp] def oFm(g a t:Nat):GOp:=⟨some (g,false),some a,.mv (.t t)⟩
@[simp] def pP(n:Nat)(l:List Arg):IOp:= .callP false (.c (.fn n [] [])) l
@[simp] def pF(n:Nat)(l:List Arg):IOp:= .call false (.c (.fn n [] [])) l
end PE

set_option maxRecDepth 100000
namespace PE.U
open Go PE Go.Proofs
def F36:IFn:=⟨21,2,[.tmp 4],false,false,none,(sr [oZ 4 0] (sr [oM 5 0,oM 6 0,oK 7 6,oA 8 2 7,oO 9 (.loadT .any (.t 8)),oM 10 1,oO 11 (.bslice 1 (.int .i64 0) 1 [(0,(.t 10))]),oO 12 (.append 1 8 (.t 9) (.t 11)),oK 13 5,oA 14 2 13,oN (.storeT .any (.t 14) 12)] (sr [oM 15 0,oK 16 15,oA 17 2 16,oG 18 17,oY 19 18,oD 20 .sub 19 1,oM 4 20] .ret)))⟩
theorem ok36:zi Try.prog Try.f36 F36=true:=by kernel_rfl
def L35_0:ICode:= .loop [0,1,5,6] []
 (.seq
 (sr [
 oM 7 6,
 oM 8 1,
 oY 9 8,
 oP 10 .lss 7 9]
 (.cond (.t 10)
 .skip
 (.exit 0)))
 (.seq
 (.block 1
 (.region [
 oE 13 5,
 oM 14 0,
 oM 15 1,
 oM 16 6,
 oI 17 1 15 16,
 oG 18 17,
 cF 19 36 [.t 14,.t 18],
 oO 20 (.bslice 1 (.int .i64 0) 1 [(0,(.t 19))]),
 oO 21 (.append 1 8 (.t 13) (.t 20)),
 oE 5 21]))
 (.region [
 oM 11 6,
 oD 12 .add 11 1,
 oM 6 12])))
abbrev K35_0:List Nat:=[0,1]
abbrev B35_0:List Nat:=[]
def F35:IFn:=⟨23,2,[.tmp 4],false,false,some 4,(sr [oC 4 (.slice .fit 1 [])] (sr [oC 5 (.slice .fit 1 [])] (.seq (sr [oZ 6 0] (.block 0 L35_0)) (sr [oE 22 5,oE 4 22] .ret))))⟩
theorem ok35:zi Try.prog Try.f35 F35=true:=by kernel_rfl
def F54:IFn:=⟨43,2,[.tmp 4],false,false,none,(sr [oZ 4 0] (sr [oM 5 0,oK 6 5,oA 7 1 6,oG 8 7,oD 9 .add 8 1,oK 10 5,oA 11 1 10,oV 11 9] (.seq (sr [oM 12 0,oK 13 12,oA 14 1 13,oG 15 14,oM 16 0,oK 17 16,oA 18 0 17,oG 19 18,oY 20 19,oP 21 .gtr 15 20,oM 22 21,oFm 22 23 0,oF 22 24 (.nilck (.t 23)),oF 22 25 (.faddr 1 (.t 24)),oF 22 26 (.load .any false 1 (.t 25)),oF 22 27 (.bin 0 [] .gtr (.t 26) (cI 150)),oO 28 (.pick (.t 22) (.c bT) (.t 27))] (.cond (.t 28) (sr [oZ 4 0] .ret) .skip)) (sr [oM 29 0,oK 30 29,oA 31 0 30,oG 32 31,oM 33 0,oK 34 33,oA 35 1 34,oG 36 35,oD 37 .sub 36 1,oI 38 1 32 37,oH 39 38,oO 40 (.conv .i64 (.t 39)),oM 41 1,oP 42 .rem 40 41,oM 4 42] .ret))))⟩
theorem ok54:zi Try.prog Try.f54 F54=true:=by kernel_rfl
def L76_0:ICode:= .loop [0,1,2,7,8,9] []
 (.seq
 (sr [
 oM 13 9,
 oM 14 1,
 oY 15 14,
 oP 16 .lss 13 15]
 (.cond (.t 16)
 .skip
 (.exit 0)))
 (.seq
 (.block 1
 (sr [
 oM 19 0,
 oK 20 19,
 oA 21 2 20,
 oG 22 21,
 oM 23 1,
 oM 24 9,
 oI 25 1 23 24,
 oH 26 25,
 oI 27 1 22 26,
 oH 28 27,
 oM 29 2,
 oP 30 .eql 28 29,
 oM 31 30,
 oTm 31 32 9,
 oT 31 33 (.bin 0 [] .eql (.t 32) (cI 0)),
 oTm 31 34 33,
 oFm 34 35 7,
 oF 34 36 (.bin 0 [] .gtr (.t 35) (cI 0)),
 oT 31 37 (.pick (.t 34) (.c bT) (.t 36)),
 oO 38 (.pick (.t 31) (.t 37) (.c bF))]
 (.cond (.t 38)
 (sr [
 oM 39 1,
 oM 40 9,
 oI 41 1 39 40,
 oG 42 41,
 oM 8 42]
 (.region [
 oM 43 7,
 oD 44 .sub 43 1,
 oM 7 44]))
 .skip)))
 (.region [
 oM 17 9,
 oD 18 .add 17 1,
 oM 9 18])))
def L76_1:ICode:= .loop [0,1,2,8,10] []
 (.seq
 (sr [
 oM 45 10,
 oM 46 1,
 oY 47 46,
 oP 48 .lss 45 47,
 oM 49 48,
 oTm 49 50 0,
 oT 49 51 (.nilck (.t 50)),
 oT 49 52 (.faddr 2 (.t 51)),
 oT 49 53 (.load .any false 1 (.t 52)),
 oTm 49 54 8,
 oT 49 55 (.iaddr 1 (.t 53) (.t 54)),
 oT 49 56 (.load .any false 1 (.t 55)),
 oTm 49 57 2,
 oT 49 58 (.bin 0 [] .neq (.t 56) (.t 57)),
 oO 59 (.pick (.t 49) (.t 58) (.c bF))]
 (.cond (.t 59)
 .skip
 (.exit 2)))
 (.seq
 (.block 3
 (sr [
 oM 62 0,
 oK 63 62,
 oA 64 2 63,
 oG 65 64,
 oM 66 1,
 oM 67 10,
 oI 68 1 66 67,
 oH 69 68,
 oI 70 1 65 69,
 oH 71 70,
 oM 72 2,
 oP 73 .eql 71 72]
 (.cond (.t 73)
 (.region [
 oM 74 1,
 oM 75 10,
 oI 76 1 74 75,
 oG 77 76,
 oM 8 77])
 .skip)))
 (.region [
 oM 60 10,
 oD 61 .add 60 1,
 oM 10 61])))
abbrev K76_0:List Nat:=[0,1,2]
abbrev B76_0:List Nat:=[]
abbrev K76_1:List Nat:=[0,1,2]
abbrev B76_1:List Nat:=[]
def F76:IFn:=⟨79,3,[.tmp 6],false,false,none,(sr [oZ 6 0] (sr [oM 11 0,cF 12 54 [.t 11,cI 8],oM 7 12] (sr [oZ 8 0] (.seq (sr [oZ 9 0] (.block 0 L76_0)) (.seq (sr [oZ 10 0] (.block 2 L76_1)) (sr [oM 78 8,oM 6 78] .ret))))))⟩
theorem ok76:zi Try.prog Try.f76 F76=true:=by kernel_rfl
def L57_0:ICode:= .loop [0,1,2,7,8] []
 (.seq
 (sr [
 oM 9 8,
 oM 10 2,
 oY 11 10,
 oP 12 .lss 9 11]
 (.cond (.t 12)
 .skip
 (.exit 0)))
 (.seq
 (.block 1
 (.region [
 oE 15 7,
 oM 16 0,
 oM 17 1,
 oM 18 2,
 oM 19 8,
 oI 20 1 18 19,
 oG 21 20,
 cF 22 76 [.t 16,.t 17,.t 21],
 oO 23 (.bslice 1 (.int .i64 0) 1 [(0,(.t 22))]),
 oO 24 (.append 1 8 (.t 15) (.t 23)),
 oE 7 24]))
 (.region [
 oM 13 8,
 oD 14 .add 13 1,
 oM 8 14])))
abbrev K57_0:List Nat:=[0,1,2]
abbrev B57_0:List Nat:=[]
def F57:IFn:=⟨26,3,[.tmp 6],false,false,none,(sr [oC 6 (.slice .fit 1 [])] (sr [oC 7 (.slice .fit 1 [])] (.seq (sr [oZ 8 0] (.block 0 L57_0)) (sr [oE 25 7,oE 6 25] .ret))))⟩
theorem ok57:zi Try.prog Try.f57 F57=true:=by kernel_rfl
def F55:IFn:=⟨137,2,[.cell 4 true 8],false,false,none,(sr [oO 4 (.boxL 4 (.c (.agg [.int .i64 0,.int .i64 0,.int .i64 0,.str [],.slice .fit 1 [],.slice .fit 1 [],.slice .fit 1 [],.slice .firm 1 []])))] (sr [oZ 5 1] (.seq (sr [oM 6 0,cF 7 54 [.t 6,cI 12]] (.block 0 (sr [oD 9 .eql 7 0,oM 8 9] (.cond (.t 8) (sr [oO 10 (.bslice 1 (.int .i64 0) 6 [(0,(cI 0)),(1,(cI 1)),(2,(cI 2)),(3,(cI 3)),(4,(cI (-1))),(5,(cI 100))]),oM 11 0,cF 12 54 [.t 11,cI 6],oI 13 1 10 12,oH 14 13,oM 15 0,oM 16 5,oO 17 (.bslice 1 (.int .i64 0) 1 [(0,(.t 16))]),cF 18 35 [.t 15,.t 17],oO 19 (.build [.int .i64 0,.int .i64 0,.int .i64 0,.str [],.slice .fit 1 [],.slice .fit 1 [],.slice .fit 1 [],.slice .firm 1 []] [(0,1,(cI 1)),(2,1,(.t 14)),(5,1,(.t 18))]),oS 4 8 4 19] .ret) (sr [oD 21 .eql 7 1,oM 20 21] (.cond (.t 20) (sr [oM 22 0,cF 23 54 [.t 22,cI 2],oM 24 0,oO 25 (.bslice 1 (.int .i64 0) 1 [(0,(cI 2))]),cF 26 35 [.t 24,.t 25],oO 27 (.build [.int .i64 0,.int .i64 0,.int .i64 0,.str [],.slice .fit 1 [],.slice .fit 1 [],.slice .fit 1 [],.slice .firm 1 []] [(0,1,(cI 2)),(2,1,(.t 23)),(5,1,(.t 26))]),oS 4 8 4 27] .ret) (sr [oD 29 .eql 7 2,oM 28 29] (.cond (.t 28) (sr [oO 30 (.bslice 1 (.int .i64 0) 4 [(0,(cI 20)),(1,(cI 21)),(2,(cI 23)),(3,(cI 27))]),oM 31 0,cF 32 54 [.t 31,cI 4],oI 33 1 30 32,oH 34 33,oM 35 0,oE 36 1,oM 37 5,oO 38 (.bslice 1 (.int .i64 0) 1 [(0,(.t 37))]),cF 39 57 [.t 35,.t 36,.t 38],oM 40 0,oM 41 5,oO 42 (.bslice 1 (.int .i64 0) 1 [(0,(.t 41))]),cF 43 35 [.t 40,.t 42],oO 44 (.build [.int .i64 0,.int .i64 0,.int .i64 0,.str [],.slice .fit 1 [],.slice .fit 1 [],.slice .fit 1 [],.slice .firm 1 []] [(0,1,(cI 3)),(1,1,(.t 34)),(4,1,(.t 39)),(5,1,(.t 43))]),oS 4 8 4 44] .ret) (sr [oD 46 .eql 7 3,oM 45 46] (.cond (.t 45) (sr [oM 47 0,oE 48 1,oO 49 (.bslice 1 (.int .i64 0) 1 [(0,(cI 2))]),cF 50 57 [.t 47,.t 48,.t 49],oM 51 0,oO 52 (.bslice 1 (.int .i64 0) 1 [(0,(cI 2))]),cF 53 35 [.t 51,.t 52],oO 54 (.build [.int .i64 0,.int .i64 0,.int .i64 0,.str [],.slice .fit 1 [],.slice .fit 1 [],.slice .fit 1 [],.slice .firm 1 []] [(0,1,(cI 3)),(1,1,(cI 22)),(4,1,(.t 50)),(5,1,(.t 53))]),oS 4 8 4 54] .ret) (.seq (sr [oD 56 .eql 7 4,oM 55 56] (.cond (.t 55) .skip (sr [oD 57 .eql 7 5,oM 55 57] (.cond (.t 55) .skip (.region [oD 58 .eql 7 6,oM 55 58]))))) (.cond (.t 55) (sr [oM 59 0,cF 60 54 [.t 59,cI 11],oB 61 .add (cI 1) (.t 60),oM 62 0,oE 63 1,oM 64 5,oM 65 5,oO 66 (.bslice 1 (.int .i64 0) 2 [(0,(.t 64)),(1,(.t 65))]),cF 67 57 [.t 62,.t 63,.t 66],oM 68 0,oM 69 5,oO 70 (.bslice 1 (.int .i64 0) 1 [(0,(.t 69))]),cF 71 35 [.t 68,.t 70],oO 72 (.build [.int .i64 0,.int .i64 0,.int .i64 0,.str [],.slice .fit 1 [],.slice .fit 1 [],.slice .fit 1 [],.slice .firm 1 []] [(0,1,(cI 4)),(1,1,(.t 61)),(4,1,(.t 67)),(5,1,(.t 71))]),oS 4 8 4 72] .ret) (.seq (sr [oD 74 .eql 7 7,oM 73 74] (.cond (.t 73) .skip (.region [oD 75 .eql 7 8,oM 73 75]))) (.cond (.t 73) (sr [oM 76 0,cF 77 54 [.t 76,cI 6],oB 78 .add (cI 12) (.t 77),oM 79 0,oE 80 1,oM 81 5,oM 82 5,oO 83 (.bslice 1 (.int .i64 0) 2 [(0,(.t 81)),(1,(.t 82))]),cF 84 57 [.t 79,.t 80,.t 83],oM 85 0,oO 86 (.bslice 1 (.int .i64 0) 1 [(0,(cI 2))]),cF 87 35 [.t 85,.t 86],oO 88 (.build [.int .i64 0,.int .i64 0,.int .i64 0,.str [],.slice .fit 1 [],.slice .fit 1 [],.slice .fit 1 [],.slice .firm 1 []] [(0,1,(cI 4)),(1,1,(.t 78)),(4,1,(.t 84)),(5,1,(.t 87))]),oS 4 8 4 88] .ret) (sr [oD 90 .eql 7 9,oM 89 90] (.cond (.t 89) (sr [oM 91 0,oE 92 1,oM 93 5,oO 94 (.bslice 1 (.int .i64 0) 1 [(0,(.t 93))]),cF 95 57 [.t 91,.t 92,.t 94],oM 96 0,oM 97 5,oO 98 (.bslice 1 (.int .i64 0) 1 [(0,(.t 97))]),cF 99 35 [.t 96,.t 98],oO 100 (.build [.int .i64 0,.int .i64 0,.int .i64 0,.str [],.slice .fit 1 [],.slice .fit 1 [],.slice .fit 1 [],.slice .firm 1 []] [(0,1,(cI 5)),(3,1,(.c (.str [97]))),(4,1,(.t 95)),(5,1,(.t 99))]),oS 4 8 4 100] .ret) (sr [oD 102 .eql 7 10,oM 101 102] (.cond (.t 101) (sr [oM 103 0,oE 104 1,oM 105 5,oM 106 5,oO 107 (.bslice 1 (.int .i64 0) 2 [(0,(.t 105)),(1,(.t 106))]),cF 108 57 [.t 103,.t 104,.t 107],oO 109 (.build [.int .i64 0,.int .i64 0,.int .i64 0,.str [],.slice .fit 1 [],.slice .fit 1 [],.slice .fit 1 [],.slice .firm 1 []] [(0,1,(cI 6)),(3,1,(.c (.str [97]))),(4,1,(.t 108))]),oS 4 8 4 109] .ret) .skip)))))))))))))))))) (.seq (sr [oM 110 0,cF 111 54 [.t 110,cI 4]] (.block 1 (sr [oD 113 .eql 111 0,oM 112 113] (.cond (.t 112) (sr [oM 114 0,oE 115 1,oM 116 5,oO 117 (.bslice 1 (.int .i64 0) 2 [(0,(.t 116)),(1,(cI 2))]),cF 118 57 [.t 114,.t 115,.t 117],oM 119 0,oM 120 5,oO 121 (.bslice 1 (.int .i64 0) 1 [(0,(.t 120))]),cF 122 35 [.t 119,.t 121],oO 123 (.build [.int .i64 0,.int .i64 0,.int .i64 0,.str [],.slice .fit 1 [],.slice .fit 1 [],.slice .fit 1 [],.slice .firm 1 []] [(0,1,(cI 7)),(3,1,(.c (.str [102]))),(4,1,(.t 118)),(5,1,(.t 122))]),oS 4 8 4 123] .ret) (sr [oD 125 .eql 111 1,oM 124 125] (.cond (.t 124) (sr [oM 126 0,oM 127 5,oO 128 (.bslice 1 (.int .i64 0) 1 [(0,(.t 127))]),cF 129 35 [.t 126,.t 128],oO 130 (.build [.int .i64 0,.int .i64 0,.int .i64 0,.str [],.slice .fit 1 [],.slice .fit 1 [],.slice .fit 1 [],.slice .firm 1 []] [(0,1,(cI 8)),(5,1,(.t 129))]),oS 4 8 4 130] .ret) .skip)))))) (sr [oM 131 0,oE 132 1,oM 133 5,oO 134 (.bslice 1 (.int .i64 0) 1 [(0,(.t 133))]),cF 135 57 [.t 131,.t 132,.t 134],oO 136 (.build [.int .i64 0,.int .i64 0,.int .i64 0,.str [],.slice .fit 1 [],.slice .fit 1 [],.slice .fit 1 [],.slice .firm 1 []] [(0,1,(cI 9)),(4,1,(.t 135))]),oS 4 8 4 136] .ret)))))⟩
theorem ok55:zi Try.prog Try.f55 F55=true:=by kernel_rfl
def L56_0:ICode:= .loop [0,3,4] []
 (.seq
 (sr [
 oM 7 4,
 oD 8 .gtr 7 0]
 (.cond (.t 8)
 .skip
 (.exit 0)))
 (.seq
 (.block 1
 (.region [
 oE 11 3,
 oM 12 0,
 cF 13 54 [.t 12,cI 2],
 oB 14 .add (cI 1) (.t 13),
 oO 15 (.bslice 1 (.int .i64 0) 1 [(0,(.t 14))]),
 oO 16 (.append 1 8 (.t 11) (.t 15)),
 oE 3 16]))
 (.region [
 oM 9 4,
 oD 10 .sub 9 1,
 oM 4 10])))
abbrev K56_0:List Nat:=[0]
abbrev B56_0:List Nat:=[]
def F56:IFn:=⟨18,1,[.tmp 2],false,false,none,(sr [oC 2 (.slice .fit 1 [])] (sr [oC 3 (.slice .fit 1 [])] (.seq (sr [oM 5 0,cF 6 54 [.t 5,cI 3],oM 4 6] (.block 0 L56_0)) (sr [oE 17 3,oE 2 17] .ret))))⟩
theorem ok56:zi Try.prog Try.f56 F56=true:=by kernel_rfl
def F79:IFn:=⟨11,1,[.tmp 2],false,false,none,(sr [oO 1 (.boxL 1 (.t 0)),oC 2 bF] (sr [oA 3 0 1,oL 4 1 3,oD 5 .geq 4 12,oM 6 5,oT 6 7 (.faddr 0 (.t 1)),oT 6 8 (.load (.box 1) false 1 (.t 7)),oT 6 9 (.bin 0 [] .leq (.t 8) (cI 15)),oO 10 (.pick (.t 6) (.t 9) (.c bF)),oM 2 10] .ret))⟩
theorem ok79:zi Try.prog Try.f79 F79=true:=by kernel_rfl
def F77:IFn:=⟨23,1,[.tmp 2],false,false,none,(sr [oZ 2 0] (.seq (sr [oM 3 0,oY 4 3,oD 5 .eql 4 0,oM 6 5,oFm 6 7 0,oFm 6 8 0,oF 6 9 (.len 1 (.t 8)),oF 6 10 (.bin 0 [] .sub (.t 9) (cI 1)),oF 6 11 (.iaddr 8 (.t 7) (.t 10)),oF 6 12 (.load .any true 8 (.t 11)),oF 6 13 (pP 79 [.t 12]),oF 6 14 (.un .not (.t 13)),oO 15 (.pick (.t 6) (.c bT) (.t 14))] (.cond (.t 15) (sr [oZ 2 0] .ret) .skip)) (sr [oM 16 0,oE 17 0,oY 18 17,oD 19 .sub 18 1,oI 20 8 16 19,oA 21 0 20,oG 22 21,oM 2 22] .ret)))⟩
theorem ok77:zi Try.prog Try.f77 F77=true:=by kernel_rfl
def L78_0:ICode:= .loop [0,3,4] []
 (.seq
 (sr [
 oM 17 4,
 oM 18 0,
 oM 19 3,
 oI 20 8 18 19,
 oA 21 7 20,
 oG 22 21,
 oY 23 22,
 oP 24 .lss 17 23,
 oM 25 24,
 oTm 25 26 0,
 oTm 25 27 3,
 oT 25 28 (.iaddr 8 (.t 26) (.t 27)),
 oT 25 29 (.faddr 0 (.t 28)),
 oT 25 30 (.load .any false 1 (.t 29)),
 oT 25 31 (.bin 0 [] .eql (.t 30) (cI 10)),
 oO 32 (.pick (.t 25) (.t 31) (.c bF))]
 (.cond (.t 32)
 .skip
 (.exit 2)))
 (.seq
 (.block 3
 (sr [
 oM 35 0,
 oM 36 3,
 oI 37 8 35 36,
 oA 38 7 37,
 oG 39 38,
 oM 40 4,
 oI 41 1 39 40,
 oG 42 41,
 cP 43 78 [.t 42]]
 (.cond (.t 43)
 (sr [
 oC 2 bT]
 .ret)
 .skip)))
 (.region [
 oM 33 4,
 oD 34 .add 33 1,
 oM 4 34])))
def L78_1:ICode:= .loop [0,3] []
 (.seq
 (sr [
 oM 5 3,
 oM 6 0,
 oY 7 6,
 oP 8 .lss 5 7]
 (.cond (.t 8)
 .skip
 (.exit 0)))
 (.seq
 (.block 1
 (.seq
 (sr [
 oM 11 0,
 oM 12 3,
 oI 13 8 11 12,
 oA 14 0 13,
 oG 15 14,
 oD 16 .eql 15 14]
 (.cond (.t 16)
 (sr [
 oC 2 bT]
 .ret)
 .skip))
 (sr [
 oZ 4 0]
 (.block 2
 L78_0))))
 (.region [
 oM 9 3,
 oD 10 .add 9 1,
 oM 3 10])))
abbrev K78_0:List Nat:=[0,3]
abbrev B78_0:List Nat:=[]
abbrev K78_1:List Nat:=[0]
abbrev B78_1:List Nat:=[]
def F78:IFn:=⟨44,1,[.tmp 2],false,false,none,(sr [oC 2 bF] (.seq (sr [oZ 3 0] (.block 0 L78_1)) (sr [oC 2 bF] .ret)))⟩
theorem ok78:zi Try.prog Try.f78 F78=true:=by kernel_rfl
def F58:IFn:=⟨45,1,[.tmp 2],false,false,none,(sr [oO 1 (.boxL 1 (.t 0)),oC 2 bF] (.seq (.block 0 (sr [oA 4 0 1,oL 5 1 4,oD 6 .eql 5 10,oM 7 6,oT 7 8 (.faddr 7 (.t 1)),oT 7 9 (.load (.box 1) false 1 (.t 8)),oT 7 10 (.len 1 (.t 9)),oT 7 11 (.bin 0 [] .eql (.t 10) (cI 2)),oO 12 (.pick (.t 7) (.t 11) (.c bF)),oM 3 12] (.cond (.t 3) (sr [oA 13 7 1,oL 14 1 13,oO 15 (.iaddr 1 (.t 14) (cI 0)),oG 16 15,cP 17 77 [.t 16],oD 18 .neq 17 12,oM 19 18,oT 19 20 (.faddr 7 (.t 1)),oT 19 21 (.load (.box 1) false 1 (.t 20)),oT 19 22 (.iaddr 1 (.t 21) (cI 1)),oT 19 23 (.load .any false 1 (.t 22)),oT 19 24 (pP 77 [.t 23]),oT 19 25 (.bin 0 [] .neq (.t 24) (cI 12)),oO 26 (.pick (.t 19) (.t 25) (.c bF)),oM 2 26] .ret) (sr [oA 28 0 1,oL 29 1 28,oD 30 .eql 29 11,oM 31 30,oT 31 32 (.faddr 7 (.t 1)),oT 31 33 (.load (.box 1) false 1 (.t 32)),oT 31 34 (.len 1 (.t 33)),oT 31 35 (.bin 0 [] .eql (.t 34) (cI 1)),oO 36 (.pick (.t 31) (.t 35) (.c bF)),oM 27 36] (.cond (.t 27) (sr [oA 37 7 1,oL 38 1 37,oO 39 (.iaddr 1 (.t 38) (cI 0)),oG 40 39,cP 41 78 [.t 40],oU 42 41,oM 2 42] .ret) .skip))))) (sr [oLa 43 1 8 1,cP 44 79 [.t 43],oM 2 44] .ret)))⟩
theorem ok58:zi Try.prog Try.f58 F58=true:=by kernel_rfl
def F59:IFn:=⟨51,3,[.cell 6 true 8],false,false,none,(sr [oO 5 (.boxL 5 (.t 2)),oO 6 (.boxL 6 (.c (.agg [.int .i64 0,.int .i64 0,.int .i64 0,.str [],.slice .fit 1 [],.slice .fit 1 [],.slice .fit 1 [],.slice .firm 1 []])))] (sr [oM 8 0,cF 9 54 [.t 8,cI 6],oM 7 9] (.seq (.block 0 (sr [oA 11 0 5,oL 12 5 11,oM 13 12,oTm 13 14 7,oT 13 15 (.bin 0 [] .lss (.t 14) (cI 4)),oO 16 (.pick (.t 13) (.t 15) (.c bF)),oM 10 16] (.cond (.t 10) (sr [oM 17 0,oE 18 1,oA 19 2 5,oL 20 5 19,cF 21 57 [.t 17,.t 18,.t 20],oO 22 (.build [.int .i64 0,.int .i64 0,.int .i64 0,.str [],.slice .fit 1 [],.slice .fit 1 [],.slice .fit 1 [],.slice .firm 1 []] [(0,1,(cI 12)),(4,1,(.t 21))]),oS 6 8 6 22] .ret) (sr [oA 24 1 5,oL 25 5 24,oM 26 25,oTm 26 27 7,oT 26 28 (.bin 0 [] .rem (.t 27) (cI 2)),oT 26 29 (.bin 0 [] .eql (.t 28) (cI 0)),oO 30 (.pick (.t 26) (.t 29) (.c bF)),oM 23 30] (.cond (.t 23) (sr [oM 31 0,oE 32 1,oA 33 3 5,oL 34 5 33,cF 35 57 [.t 31,.t 32,.t 34],oO 36 (.build [.int .i64 0,.int .i64 0,.int .i64 0,.str [],.slice .fit 1 [],.slice .fit 1 [],.slice .fit 1 [],.slice .firm 1 []] [(0,1,(cI 13)),(4,1,(.t 35))]),oS 6 8 6 36] .ret) (sr [oA 38 1 5,oL 39 5 38,oM 37 39] (.cond (.t 37) (sr [oM 40 0,oE 41 1,oA 42 4 5,oL 43 5 42,cF 44 57 [.t 40,.t 41,.t 43],oO 45 (.build [.int .i64 0,.int .i64 0,.int .i64 0,.str [],.slice .fit 1 [],.slice .fit 1 [],.slice .fit 1 [],.slice .firm 1 []] [(0,1,(cI 14)),(4,1,(.t 44))]),oS 6 8 6 45] .ret) .skip))))))) (sr [oM 46 0,oE 47 1,oO 48 (.bslice 1 (.int .i64 0) 1 [(0,(cI 1))]),cF 49 57 [.t 46,.t 47,.t 48],oO 50 (.build [.int .i64 0,.int .i64 0,.int .i64 0,.str [],.slice .fit 1 [],.slice .fit 1 [],.slice .fit 1 [],.slice .firm 1 []] [(0,1,(cI 15)),(4,1,(.t 49))]),oS 6 8 6 50] .ret))))⟩
theorem ok59:zi Try.prog Try.f59 F59=true:=by kernel_rfl
def L37_0:ICode:= .loop [0,3,6,9,10,11] [12,15]
 (.seq
 (sr [
 oM 25 11,
 oD 26 .gtr 25 0,
 oM 27 26,
 oTm 27 28 0,
 oT 27 29 (.nilck (.t 28)),
 oT 27 30 (.faddr 3 (.t 29)),
 oT 27 31 (.load .any false 1 (.t 30)),
 oT 27 32 (.bin 0 [] .gtr (.t 31) (cI 0)),
 oO 33 (.pick (.t 27) (.t 32) (.c bF))]
 (.cond (.t 33)
 .skip
 (.exit 0)))
 (.seq
 (.block 1
 (sr [
 oM 36 0,
 oM 37 0,
 oK 38 37,
 oA 39 3 38,
 oG 40 39,
 oD 41 .sub 40 1,
 oK 42 36,
 oA 43 3 42,
 oV 43 41]
 (sr [
 oM 44 0,
 oM 45 10,
 cF 46 55 [.t 44,.t 45],
 oO 12 (.boxL 12 (.c (.agg [.int .i64 0,.int .i64 0,.int .i64 0,.str [],.slice .fit 1 [],.slice .fit 1 [],.slice .fit 1 [],.slice .firm 1 []]))),
 oS 12 8 12 46]
 (sr [
 oM 47 0,
 cF 48 54 [.t 47,cI 6],
 oM 13 48]
 (.seq
 (.block 2
 (sr [
 oM 50 13,
 oD 51 .eql 50 0,
 oM 52 51,
 oTm 52 53 3,
 oT 52 54 (.bin 0 [] .gtr (.t 53) (cI 0)),
 oO 55 (.pick (.t 52) (.t 54) (.c bF)),
 oM 49 55]
 (.cond (.t 49)
 (sr [
 oM 56 0,
 cF 57 56 [.t 56],
 oE 14 57]
 (sr [
 oA 58 1 6,
 oL 59 6 58,
 oM 60 14,
 oA 61 3 6,
 oL 62 6 61,
 oA 63 4 6,
 oL 64 6 63,
 oO 65 (.build [.bool false,.bool false,.slice .fit 1 [],.slice .fit 1 [],.slice .fit 1 []] [(0,1,(.c bT)),(1,1,(.t 59)),(2,1,(.t 60)),(3,1,(.t 62)),(4,1,(.t 64))]),
 oO 15 (.boxL 15 (.c (.agg [.bool false,.bool false,.slice .fit 1 [],.slice .fit 1 [],.slice .fit 1 []]))),
 oS 15 5 15 65]
 (sr [
 oM 66 0,
 oM 67 10,
 oO 68 (.bslice 1 (.int .i64 0) 1 [(0,(cI 2))]),
 cF 69 57 [.t 66,.t 67,.t 68],
 oO 70 (.build [.int .i64 0,.int .i64 0,.int .i64 0,.str [],.slice .fit 1 [],.slice .fit 1 [],.slice .fit 1 [],.slice .firm 1 []] [(0,1,(cI 10)),(4,1,(.t 69))]),
 oS 12 8 12 70]
 (sr [
 oM 71 0,
 oM 72 10,
 oLa 73 15 5 15,
 oM 74 3,
 oD 75 .sub 74 1,
 cF 76 37 [.t 71,.t 72,.t 73,.t 75],
 oE 16 76]
 (sr [
 oE 77 16,
 oM 78 0,
 oM 79 10,
 oLa 80 15 5 15,
 oM 81 3,
 oD 82 .sub 81 1,
 cF 83 37 [.t 78,.t 79,.t 80,.t 82],
 oO 84 (.bslice 1 (.slice .firm 8 []) 2 [(0,(.t 77)),(1,(.t 83))]),
 oA 85 7 12,
 oS 12 1 85 84]
 (sr [
 oLa 86 12 8 12,
 oO 87 (.callV (.c (.fn 58 [] [])) [.t 86]),
 oU 88 87]
 (.cond (.t 88)
 (.region [
 oM 89 0,
 oE 90 14,
 cF 91 35 [.t 89,.t 90],
 oA 92 5 12,
 oS 12 1 92 91])
 .skip)))))))
 (sr [
 oM 94 13,
 oD 95 .eql 94 1,
 oM 96 95,
 oTm 96 97 3,
 oT 96 98 (.bin 0 [] .gtr (.t 97) (cI 0)),
 oO 99 (.pick (.t 96) (.t 98) (.c bF)),
 oM 93 99]
 (.cond (.t 93)
 (sr [
 oM 100 0,
 cF 101 56 [.t 100],
 oM 102 0,
 cF 103 56 [.t 102],
 oE 17 101,
 oE 18 103]
 (sr [
 oM 104 0,
 oM 105 10,
 oM 106 17,
 cF 107 57 [.t 104,.t 105,.t 106],
 oM 108 0,
 oM 109 17,
 cF 110 35 [.t 108,.t 109],
 oO 111 (.build [.int .i64 0,.int .i64 0,.int .i64 0,.str [],.slice .fit 1 [],.slice .fit 1 [],.slice .fit 1 [],.slice .firm 1 []] [(0,1,(cI 11)),(4,1,(.t 107)),(6,1,(.t 110))]),
 oS 12 8 12 111]
 (sr [
 oC 19 (.slice .fit 1 [])]
 (sr [
 oE 112 19,
 oM 113 10,
 oO 114 (.append 1 8 (.t 112) (.t 113)),
 oE 19 114]
 (sr [
 oE 115 19,
 oA 116 6 12,
 oL 117 12 116,
 oO 118 (.append 1 8 (.t 115) (.t 117)),
 oE 19 118]
 (sr [
 oM 119 0,
 oE 120 19,
 oE 121 17,
 oM 122 18,
 oO 123 (.build [.bool false,.bool false,.slice .fit 1 [],.slice .fit 1 [],.slice .fit 1 []] [(1,1,(.c bT)),(3,1,(.t 121)),(4,1,(.t 122))]),
 oM 124 3,
 oD 125 .sub 124 1,
 cF 126 37 [.t 119,.t 120,.t 123,.t 125],
 oO 127 (.bslice 1 (.slice .firm 8 []) 1 [(0,(.t 126))]),
 oA 128 7 12,
 oS 12 1 128 127]
 (sr [
 oLa 129 12 8 12,
 oO 130 (.callV (.c (.fn 58 [] [])) [.t 129]),
 oU 131 130]
 (.cond (.t 131)
 (.region [
 oM 132 0,
 oE 133 18,
 cF 134 35 [.t 132,.t 133],
 oA 135 5 12,
 oS 12 1 135 134])
 .skip))))))))
 .skip)))))
 (sr [
 oE 136 9,
 oLa 137 12 8 12,
 oO 138 (.bslice 8 (.agg [.int .i64 0,.int .i64 0,.int .i64 0,.str [],.slice .fit 1 [],.slice .fit 1 [],.slice .fit 1 [],.slice .firm 1 []]) 1 [(0,(.t 137))]),
 oO 139 (.append 8 136 (.t 136) (.t 138)),
 oE 9 139]
 (.seq
 (sr [
 oLa 140 12 8 12,
 oO 141 (.callV (.c (.fn 58 [] [])) [.t 140])]
 (.cond (.t 141)
 (sr [
 oE 142 9,
 oE 8 142]
 .ret)
 .skip))
 (.region [
 oE 143 10,
 oA 144 5 12,
 oL 145 12 144,
 oO 146 (.append 1 8 (.t 143) (.t 145)),
 oE 10 146]))))))))
 (.region [
 oM 34 11,
 oD 35 .sub 34 1,
 oM 11 35])))
abbrev K37_0:List Nat:=[0,3,6]
abbrev B37_0:List Nat:=[6]
def F37:IFn:=⟨154,4,[.tmp 8],false,false,none,(sr [oO 6 (.boxL 6 (.t 2)),oC 8 (.slice .fit 8 [])] (sr [oC 9 (.slice .fit 8 [])] (sr [oC 10 (.slice .fit 1 [])] (sr [oE 20 10,oE 21 1,oO 22 (.append 1 8 (.t 20) (.t 21)),oE 10 22] (.seq (sr [oM 23 0,cF 24 54 [.t 23,cI 6],oM 11 24] (.block 0 L37_0)) (sr [oE 147 9,oM 148 0,oE 149 10,oLa 150 6 5 6,cF 151 59 [.t 148,.t 149,.t 150],oO 152 (.bslice 8 (.agg [.int .i64 0,.int .i64 0,.int .i64 0,.str [],.slice .fit 1 [],.slice .fit 1 [],.slice .fit 1 [],.slice .firm 1 []]) 1 [(0,(.t 151))]),oO 153 (.append 8 136 (.t 147) (.t 152)),oE 8 153] .ret))))))⟩
theorem ok37:zi Try.prog Try.f37 F37=true:=by kernel_rfl
def F22:IFn:=⟨51,3,[.cell 6 true 5],false,false,none,(sr [oO 6 (.boxL 6 (.c (.agg [.str [],.int .i64 0,.int .i64 0,.slice .fit 1 [],.slice .fit 8 []])))] (sr [oM 11 0,oM 12 0,oK 13 11,oA 14 2 13,oN (.store .any 1 (.t 14) (.c (.slice .fit 1 []))),oK 15 12,oA 16 3 15,oN (.store .any 1 (.t 16) (cI 30))] (sr [oM 17 0,oM 18 2,cF 19 35 [.t 17,.t 18],oE 7 19] (sr [oM 20 0,cF 21 36 [.t 20,cI 1],oM 22 0,cF 23 36 [.t 22,cI 2],oM 8 21,oM 9 23] (sr [oM 24 8,oO 25 (.bslice 1 (.int .i64 0) 1 [(0,(.t 24))]),oO 26 (.build [.int .i64 0,.int .i64 0,.int .i64 0,.str [],.slice .fit 1 [],.slice .fit 1 [],.slice .fit 1 [],.slice .firm 1 []] [(0,1,(cI 1)),(2,1,(cI 3)),(5,1,(.t 25))]),oM 27 9,oO 28 (.bslice 1 (.int .i64 0) 1 [(0,(.t 27))]),oO 29 (.build [.int .i64 0,.int .i64 0,.int .i64 0,.str [],.slice .fit 1 [],.slice .fit 1 [],.slice .fit 1 [],.slice .firm 1 []] [(0,1,(cI 2)),(2,1,(cI 1)),(5,1,(.t 28))]),oO 30 (.bslice 8 (.agg [.int .i64 0,.int .i64 0,.int .i64 0,.str [],.slice .fit 1 [],.slice .fit 1 [],.slice .fit 1 [],.slice .firm 1 []]) 2 [(0,(.t 26)),(1,(.t 29))]),oE 10 30] (sr [oE 31 7,oM 32 8,oM 33 9,oO 34 (.bslice 1 (.int .i64 0) 2 [(0,(.t 32)),(1,(.t 33))]),oO 35 (.append 1 8 (.t 31) (.t 34)),oE 7 35] (sr [oE 36 10,oM 37 0,oE 38 7,oO 39 (.build [.bool false,.bool false,.slice .fit 1 [],.slice .fit 1 [],.slice .fit 1 []] []),cF 40 37 [.t 37,.t 38,.t 39,cI 3],oO 41 (.append 8 136 (.t 36) (.t 40)),oE 10 41] (sr [oM 42 1,oE 43 2,oY 44 43,oM 45 0,oK 46 45,oA 47 2 46,oG 48 47,oE 49 10,oO 50 (.build [.str [],.int .i64 0,.int .i64 0,.slice .fit 1 [],.slice .fit 8 []] [(0,1,(.t 42)),(1,1,(cI 1)),(2,1,(.t 44)),(3,1,(.t 48)),(4,1,(.t 49))]),oS 6 5 6 50] .ret))))))))⟩
theorem ok22:zi Try.prog Try.f22 F22=true:=by kernel_rfl
def F8:IFn:=⟨27,1,[.cell 2 true 2],false,false,none,(sr [oO 2 (.boxL 2 (.c (.agg [.slice .fit 2 [],.slice .fit 5 []])))] (sr [oE 5 0,oO 6 (.build [.slice .fit 1 [],.int .i64 0,.slice .fit 1 [],.int .i64 0] [(0,1,(.t 5))]),oO 7 (.boxS 4 (.t 6)),oM 3 7] (sr [oO 8 (.build [.str [],.int .i64 0] [(0,1,(.c (.str [97]))),(1,1,(cI 4))]),oO 9 (.bslice 2 (.agg [.str [],.int .i64 0]) 1 [(0,(.t 8))]),oO 10 (.build [.slice .fit 2 [],.slice .fit 5 []] [(0,1,(.t 9))]),oO 4 (.boxL 4 (.c (.agg [.slice .fit 2 [],.slice .fit 5 []]))),oS 4 2 4 10] (sr [oA 11 1 4,oO 12 (.loadT (.box 4) (.t 11)),oM 13 3,cF 14 22 [(.t 13),(.c (.str [109,97,105,110])),(.c (.slice .fit 1 []))],oO 15 (.bslice 5 (.agg [.str [],.int .i64 0,.int .i64 0,.slice .fit 1 [],.slice .fit 8 []]) 1 [(0,(.t 14))]),oO 16 (.appendS 5 80 (.t 12) (.t 15)),oA 17 1 4,oS 4 1 17 16] (sr [oA 18 1 4,oO 19 (.loadT (.box 4) (.t 18)),oM 20 3,oO 21 (.bslice 1 (.int .i64 0) 2 [(0,(cI 1)),(1,(cI 2))]),cF 22 22 [(.t 20),(.c (.str [102])),(.t 21)],oO 23 (.bslice 5 (.agg [.str [],.int .i64 0,.int .i64 0,.slice .fit 1 [],.slice .fit 8 []]) 1 [(0,(.t 22))]),oO 24 (.appendS 5 80 (.t 19) (.t 23)),oA 25 1 4,oS 4 1 25 24] (sr [oLa 26 4 2 4,oS 2 2 2 26] .ret))))))⟩
theorem ok8:zi Try.prog Try.f8 F8=true:=by kernel_rfl
def F60:IFn:=⟨21,1,[.tmp 2],false,false,none,(sr [oC 2 bF] (sr [oM 3 0,oB 4 .geq (.t 3) (.c (.int .i32 97)),oM 5 4,oTm 5 6 0,oT 5 7 (.bin 0 [] .leq (.t 6) (.c (.int .i32 122))),oO 8 (.pick (.t 5) (.t 7) (.c bF)),oM 9 8,oFm 9 10 0,oF 9 11 (.bin 0 [] .geq (.t 10) (.c (.int .i32 65))),oFm 9 12 11,oTm 12 13 0,oT 12 14 (.bin 0 [] .leq (.t 13) (.c (.int .i32 90))),oF 9 15 (.pick (.t 12) (.t 14) (.c bF)),oO 16 (.pick (.t 9) (.c bT) (.t 15)),oM 17 16,oFm 17 18 0,oF 17 19 (.bin 0 [] .eql (.t 18) (.c (.int .i32 95))),oO 20 (.pick (.t 17) (.c bT) (.t 19)),oM 2 20] .ret))⟩
theorem ok60:zi Try.prog Try.f60 F60=true:=by kernel_rfl
def F80:IFn:=⟨9,1,[.tmp 2],false,false,none,(sr [oC 2 bF] (sr [oM 3 0,oB 4 .geq (.t 3) (.c (.int .i32 48)),oM 5 4,oTm 5 6 0,oT 5 7 (.bin 0 [] .leq (.t 6) (.c (.int .i32 57))),oO 8 (.pick (.t 5) (.t 7) (.c bF)),oM 2 8] .ret))⟩
theorem ok80:zi Try.prog Try.f80 F80=true:=by kernel_rfl
def L61_0:ICode:= .loop [0,6] []
 (sr [
 oO 7 (.next 6 (.t 6)),
 oX 8 7 0]
 (.seq
 (.cond (.t 8)
 .skip
 (.exit 0))
 (.block 1
 (sr [
 oX 9 7 1,
 oX 10 7 2,
 oM 3 9,
 oM 4 10]
 (sr [
 oM 11 4,
 cP 12 60 [.t 11],
 oU 13 12,
 oM 14 13,
 oTm 14 15 4,
 oT 14 16 (pP 80 [.t 15]),
 oT 14 17 (.un .not (.t 16)),
 oO 18 (.pick (.t 14) (.t 17) (.c bF))]
 (.cond (.t 18)
 (sr [
 oM 19 0,
 oM 20 3,
 oO 21 (.slc true 0 (.t 19) none (some (.t 20)) none),
 oM 2 21]
 .ret)
 .skip))))))
abbrev K61_0:List Nat:=[0,6]
abbrev B61_0:List Nat:=[]
def F61:IFn:=⟨23,1,[.tmp 2],false,false,none,(sr [oC 2 (.str [])] (.seq (sr [oM 5 0,oO 6 (.rng 6 (.t 5))] (.block 0 L61_0)) (sr [oM 22 0,oM 2 22] .ret)))⟩
theorem ok61:zi Try.prog Try.f61 F61=true:=by kernel_rfl
def F62:IFn:=⟨23,1,[.tmp 2],false,false,none,(sr [oC 2 bF] (.seq (sr [oM 3 0] (.block 0 (.seq (sr [oB 5 .eql (.t 3) (.c (.str [105,110,116])),oM 4 5] (.cond (.t 4) .skip (sr [oB 6 .eql (.t 3) (.c (.str [98,111,111,108])),oM 4 6] (.cond (.t 4) .skip (sr [oB 7 .eql (.t 3) (.c (.str [105,102])),oM 4 7] (.cond (.t 4) .skip (sr [oB 8 .eql (.t 3) (.c (.str [101,108,115,101])),oM 4 8] (.cond (.t 4) .skip (sr [oB 9 .eql (.t 3) (.c (.str [119,104,105,108,101])),oM 4 9] (.cond (.t 4) .skip (sr [oB 10 .eql (.t 3) (.c (.str [98,114,101,97,107])),oM 4 10] (.cond (.t 4) .skip (sr [oB 11 .eql (.t 3) (.c (.str [99,111,110,116,105,110,117,101])),oM 4 11] (.cond (.t 4) .skip (sr [oB 12 .eql (.t 3) (.c (.str [114,101,116,117,114,110])),oM 4 12] (.cond (.t 4) .skip (sr [oB 13 .eql (.t 3) (.c (.str [112,114,105,110,116])),oM 4 13] (.cond (.t 4) .skip (sr [oB 14 .eql (.t 3) (.c (.str [114,101,97,100])),oM 4 14] (.cond (.t 4) .skip (sr [oB 15 .eql (.t 3) (.c (.str [116,114,117,101])),oM 4 15] (.cond (.t 4) .skip (sr [oB 16 .eql (.t 3) (.c (.str [102,97,108,115,101])),oM 4 16] (.cond (.t 4) .skip (sr [oB 17 .eql (.t 3) (.c (.str [105,56])),oM 4 17] (.cond (.t 4) .skip (sr [oB 18 .eql (.t 3) (.c (.str [105,49,54])),oM 4 18] (.cond (.t 4) .skip (sr [oB 19 .eql (.t 3) (.c (.str [105,51,50])),oM 4 19] (.cond (.t 4) .skip (sr [oB 20 .eql (.t 3) (.c (.str [117,56])),oM 4 20] (.cond (.t 4) .skip (sr [oB 21 .eql (.t 3) (.c (.str [117,49,54])),oM 4 21] (.cond (.t 4) .skip (.region [oB 22 .eql (.t 3) (.c (.str [117,51,50])),oM 4 22]))))))))))))))))))))))))))))))))))) (.cond (.t 4) (sr [oC 2 bT] .ret) .skip)))) (sr [oC 2 bF] .ret)))⟩
theorem ok62:zi Try.prog Try.f62 F62=true:=by kernel_rfl
def F38:IFn:=⟨27,1,[.tmp 2],false,false,none,(sr [oC 2 bF] (sr [oM 3 0,oB 4 .neq (.t 3) (.c (.str [])),oM 5 4,oTm 5 6 0,oT 5 7 (.idxS (.t 6) (cI 0)),oT 5 8 (.conv .i32 (.t 7)),oT 5 9 (pP 60 [.t 8]),oO 10 (.pick (.t 5) (.t 9) (.c bF)),oM 11 10,oTm 11 12 0,oT 11 13 (pP 61 [.t 12]),oTm 11 14 0,oT 11 15 (.bin 0 [] .eql (.t 13) (.t 14)),oO 16 (.pick (.t 11) (.t 15) (.c bF)),oM 17 16,oTm 17 18 0,oT 17 19 (.len 0 (.t 18)),oT 17 20 (.bin 0 [] .leq (.t 19) (cI 20)),oO 21 (.pick (.t 17) (.t 20) (.c bF)),oM 22 21,oTm 22 23 0,oT 22 24 (pP 62 [.t 23]),oT 22 25 (.un .not (.t 24)),oO 26 (.pick (.t 22) (.t 25) (.c bF)),oM 2 26] .ret))⟩
theorem ok38:zi Try.prog Try.f38 F38=true:=by kernel_rfl
def F39:IFn:=⟨9,1,[.tmp 2],false,false,none,(sr [oC 2 bF] (sr [oM 3 0,oD 4 .eql 3 1,oM 5 4,oFm 5 6 0,oF 5 7 (.bin 0 [] .eql (.t 6) (cI 2)),oO 8 (.pick (.t 5) (.c bT) (.t 7)),oM 2 8] .ret))⟩
theorem ok39:zi Try.prog Try.f39 F39=true:=by kernel_rfl
def L63_0:ICode:= .loop [0,1,7,8] []
 (sr [
 oP 9 .lss 8 7]
 (.seq
 (.cond (.t 9)
 .skip
 (.exit 0))
 (.seq
 (.block 1
 (sr [
 oM 10 8,
 oM 5 10]
 (sr [
 oM 11 1,
 oM 12 0,
 oM 13 5,
 oI 14 5 12 13,
 oW 15 5 14,
 oO 16 (.call false (.t 11) [.t 15])]
 (.cond (.t 16)
 (sr [
 oM 17 5,
 oM 4 17]
 .ret)
 .skip))))
 (.region [
 oD 18 .add 8 1,
 oM 8 18]))))
abbrev K63_0:List Nat:=[0,1,7]
abbrev B63_0:List Nat:=[]
def F63:IFn:=⟨19,2,[.tmp 4],false,false,none,(sr [oZ 4 0] (.seq (sr [oM 6 0,oY 7 6,oZ 8 0] (.block 0 L63_0)) (sr [oO 4 (.mv (cI (-1)))] .ret)))⟩
theorem ok63:zi Try.prog Try.f63 F63=true:=by kernel_rfl
def F64:IFn:=⟨8,2,[.tmp 3],false,false,none,(sr [oO 2 (.boxL 2 (.t 0)),oC 3 bF] (sr [oA 4 0 2,oL 5 2 4,oG 6 1,oP 7 .eql 5 6,oM 3 7] .ret))⟩
theorem ok64:zi Try.prog Try.f64 F64=true:=by kernel_rfl
def F40:IFn:=⟨9,2,[.tmp 4],false,false,none,(sr [oO 2 (.boxL 2 (.t 0)),oO 3 (.boxI (.t 1)),oZ 4 0] (sr [oA 5 1 2,oL 6 2 5,oO 7 (.mkfn 64 [] [.t 3]),cF 8 63 [.t 6,.t 7],oM 4 8] .ret))⟩
theorem ok40:zi Try.prog Try.f40 F40=true:=by kernel_rfl
def L23_0:ICode:= .loop [1,3,11,12,13] [5]
 (sr [
 oP 14 .lss 13 12]
 (.seq
 (.cond (.t 14)
 .skip
 (.exit 0))
 (.seq
 (.block 1
 (sr [
 oI 15 2 11 13,
 oW 16 2 15,
 oO 5 (.boxL 5 (.c (.agg [.str [],.int .i64 0]))),
 oS 5 2 5 16]
 (sr [
 oM 17 3,
 oA 18 0 5,
 oL 19 5 18,
 oO 20 (.lookup true false (.int .i64 0) (.t 17) (.t 19)),
 oD 21 .add 20 1,
 oN (.mapset true (.t 17) (.t 19) (.t 21))]
 (sr [
 oA 22 0 5,
 oL 23 5 22,
 cP 24 38 [.t 23],
 oU 25 24,
 oM 26 25,
 oF 26 27 (.faddr 1 (.t 5)),
 oF 26 28 (.load (.box 5) false 1 (.t 27)),
 oF 26 29 (.bin 0 [] .lss (.t 28) (cI 1)),
 oO 30 (.pick (.t 26) (.c bT) (.t 29)),
 oM 31 30,
 oF 31 32 (.faddr 1 (.t 5)),
 oF 31 33 (.load (.box 5) false 1 (.t 32)),
 oF 31 34 (.bin 0 [] .gtr (.t 33) (cI 1000)),
 oO 35 (.pick (.t 31) (.c bT) (.t 34))]
 (.cond (.t 35)
 (sr [
 oC 2 bF]
 .ret)
 .skip)))))
 (.region [
 oD 36 .add 13 1,
 oM 13 36]))))
def L23_1:ICode:= .loop [1,3,38,39,40] [7]
 (sr [
 oP 41 .lss 40 39]
 (.seq
 (.cond (.t 41)
 .skip
 (.exit 2))
 (.seq
 (.block 3
 (sr [
 oI 42 5 38 40,
 oW 43 5 42,
 oO 7 (.boxL 7 (.c (.agg [.str [],.int .i64 0,.int .i64 0,.slice .fit 1 [],.slice .fit 8 []]))),
 oS 7 5 7 43]
 (sr [
 oM 44 3,
 oA 45 0 7,
 oL 46 7 45,
 oO 47 (.lookup true false (.int .i64 0) (.t 44) (.t 46)),
 oD 48 .add 47 1,
 oN (.mapset true (.t 44) (.t 46) (.t 48))]
 (sr [
 oA 49 0 7,
 oL 50 7 49,
 cP 51 38 [.t 50],
 oU 52 51,
 oM 53 52,
 oF 53 54 (.faddr 1 (.t 7)),
 oF 53 55 (.load (.box 7) false 1 (.t 54)),
 oF 53 56 (pP 39 [.t 55]),
 oF 53 57 (.un .not (.t 56)),
 oO 58 (.pick (.t 53) (.c bT) (.t 57)),
 oM 59 58,
 oF 59 60 (.faddr 2 (.t 7)),
 oF 59 61 (.load (.box 7) false 1 (.t 60)),
 oF 59 62 (.bin 0 [] .lss (.t 61) (cI 0)),
 oO 63 (.pick (.t 59) (.c bT) (.t 62)),
 oM 64 63,
 oF 64 65 (.faddr 2 (.t 7)),
 oF 64 66 (.load (.box 7) false 1 (.t 65)),
 oF 64 67 (.faddr 3 (.t 7)),
 oF 64 68 (.load (.box 7) false 1 (.t 67)),
 oF 64 69 (.len 1 (.t 68)),
 oF 64 70 (.bin 0 [] .gtr (.t 66) (.t 69)),
 oO 71 (.pick (.t 64) (.c bT) (.t 70))]
 (.cond (.t 71)
 (sr [
 oC 2 bF]
 .ret)
 .skip)))))
 (.region [
 oD 72 .add 40 1,
 oM 40 72]))))
abbrev K23_0:List Nat:=[1,3,11,12]
abbrev B23_0:List Nat:=[1]
abbrev K23_1:List Nat:=[1,3,38,39]
abbrev B23_1:List Nat:=[1]
def F23:IFn:=⟨107,1,[.tmp 2],true,false,none,(sr [oO 1 (.boxL 1 (.t 0)),oC 2 bF] (sr [oO 9 (.mkmap),oM 3 9] (.seq (sr [oA 10 0 1,oL 11 1 10,oY 12 11,oZ 13 0] (.block 0 L23_0)) (.seq (sr [oA 37 1 1,oL 38 1 37,oY 39 38,oZ 40 0] (.block 2 L23_1)) (sr [oLa 73 1 2 1,cP 74 40 [(.t 73),(.c (.str [109,97,105,110]))],oM 8 74] (sr [oM 75 3,oO 76 (.len 2 (.t 75)),oA 77 0 1,oL 78 1 77,oY 79 78,oA 80 1 1,oL 81 1 80,oY 82 81,oP 83 .add 79 82,oP 84 .eql 76 83,oM 85 84,oTm 85 86 8,oT 85 87 (.bin 0 [] .geq (.t 86) (cI 0)),oO 88 (.pick (.t 85) (.t 87) (.c bF)),oM 89 88,oT 89 90 (.faddr 1 (.t 1)),oT 89 91 (.load (.box 1) false 1 (.t 90)),oTm 89 92 8,oT 89 93 (.iaddr 5 (.t 91) (.t 92)),oT 89 94 (.faddr 1 (.t 93)),oT 89 95 (.load .any false 1 (.t 94)),oT 89 96 (.bin 0 [] .eql (.t 95) (cI 1)),oO 97 (.pick (.t 89) (.t 96) (.c bF)),oM 98 97,oT 98 99 (.faddr 1 (.t 1)),oT 98 100 (.load (.box 1) false 1 (.t 99)),oTm 98 101 8,oT 98 102 (.iaddr 5 (.t 100) (.t 101)),oT 98 103 (.faddr 2 (.t 102)),oT 98 104 (.load .any false 1 (.t 103)),oT 98 105 (.bin 0 [] .eql (.t 104) (cI 0)),oO 106 (.pick (.t 98) (.t 105) (.c bF)),oM 2 106] .ret))))))⟩
theorem ok23:zi Try.prog Try.f23 F23=true:=by kernel_rfl
def L65_0:ICode:= .loop [0,1,7,8] []
 (sr [
 oP 9 .lss 8 7]
 (.seq
 (.cond (.t 9)
 .skip
 (.exit 0))
 (.seq
 (.block 1
 (sr [
 oM 10 8,
 oM 5 10]
 (sr [
 oM 11 1,
 oM 12 0,
 oM 13 5,
 oI 14 1 12 13,
 oG 15 14,
 oO 16 (.call false (.t 11) [.t 15])]
 (.cond (.t 16)
 (sr [
 oM 17 5,
 oM 4 17]
 .ret)
 .skip))))
 (.region [
 oD 18 .add 8 1,
 oM 8 18]))))
abbrev K65_0:List Nat:=[0,1,7]
abbrev B65_0:List Nat:=[]
def F65:IFn:=⟨19,2,[.tmp 4],false,false,none,(sr [oZ 4 0] (.seq (sr [oM 6 0,oY 7 6,oZ 8 0] (.block 0 L65_0)) (sr [oO 4 (.mv (cI (-1)))] .ret)))⟩
theorem ok65:zi Try.prog Try.f65 F65=true:=by kernel_rfl
def F41:IFn:=⟨9,2,[.tmp 4],false,false,none,(sr [oC 4 bF] (sr [oE 5 0,oM 6 1,cF 7 65 [.t 5,.t 6],oD 8 .geq 7 0,oM 4 8] .ret))⟩
theorem ok41:zi Try.prog Try.f41 F41=true:=by kernel_rfl
def F42:IFn:=⟨6,1,[.tmp 2],false,false,none,(sr [oC 2 bF] (sr [oM 3 0,cP 4 39 [.t 3],oU 5 4,oM 2 5] .ret))⟩
theorem ok42:zi Try.prog Try.f42 F42=true:=by kernel_rfl
def F49:IFn:=⟨16,1,[.tmp 2],false,false,none,(sr [oC 2 bF] (sr [oM 3 0,oY 4 3,oD 5 .gtr 4 0,oM 6 5,oTm 6 7 0,oT 6 8 (.take 0),oT 6 9 (.len 1 (.t 8)),oT 6 10 (.bin 0 [] .sub (.t 9) (cI 1)),oT 6 11 (.iaddr 8 (.t 7) (.t 10)),oT 6 12 (.faddr 0 (.t 11)),oT 6 13 (.load .any false 1 (.t 12)),oT 6 14 (.bin 0 [] .eql (.t 13) (cI 12)),oO 15 (.pick (.t 6) (.t 14) (.c bF)),oM 2 15] .ret))⟩
theorem ok49:zi Try.prog Try.f49 F49=true:=by kernel_rfl
def L91_0:ICode:= .loop [0,1,7,8] []
 (sr [
 oP 9 .lss 8 7]
 (.seq
 (.cond (.t 9)
 .skip
 (.exit 0))
 (.seq
 (.block 1
 (sr [
 oM 10 8,
 oM 5 10]
 (sr [
 oM 11 1,
 oM 12 0,
 oM 13 5,
 oI 14 8 12 13,
 oW 15 8 14,
 oO 16 (.call false (.t 11) [.t 15])]
 (.cond (.t 16)
 (sr [
 oM 17 5,
 oM 4 17]
 .ret)
 .skip))))
 (.region [
 oD 18 .add 8 1,
 oM 8 18]))))
abbrev K91_0:List Nat:=[0,1,7]
abbrev B91_0:List Nat:=[]
def F91:IFn:=⟨19,2,[.tmp 4],false,false,none,(sr [oZ 4 0] (.seq (sr [oM 6 0,oY 7 6,oZ 8 0] (.block 0 L91_0)) (sr [oO 4 (.mv (cI (-1)))] .ret)))⟩
theorem ok91:zi Try.prog Try.f91 F91=true:=by kernel_rfl
def F72:IFn:=⟨9,2,[.tmp 4],false,false,none,(sr [oC 4 bF] (sr [oE 5 0,oM 6 1,cF 7 91 [.t 5,.t 6],oD 8 .geq 7 0,oM 4 8] .ret))⟩
theorem ok72:zi Try.prog Try.f72 F72=true:=by kernel_rfl
def L92_0:ICode:= .loop [0,1,7,8] []
 (sr [
 oP 9 .lss 8 7]
 (.seq
 (.cond (.t 9)
 .skip
 (.exit 0))
 (.seq
 (.block 1
 (sr [
 oM 10 8,
 oM 5 10]
 (sr [
 oM 11 1,
 oM 12 0,
 oM 13 5,
 oI 14 1 12 13,
 oG 15 14,
 oO 16 (.call false (.t 11) [.t 15])]
 (.cond (.t 16)
 (sr [
 oM 17 5,
 oM 4 17]
 .ret)
 .skip))))
 (.region [
 oD 18 .add 8 1,
 oM 8 18]))))
abbrev K92_0:List Nat:=[0,1,7]
abbrev B92_0:List Nat:=[]
def F92:IFn:=⟨19,2,[.tmp 4],false,false,none,(sr [oZ 4 0] (.seq (sr [oM 6 0,oY 7 6,oZ 8 0] (.block 0 L92_0)) (sr [oO 4 (.mv (cI (-1)))] .ret)))⟩
theorem ok92:zi Try.prog Try.f92 F92=true:=by kernel_rfl
def F74:IFn:=⟨9,2,[.tmp 4],false,false,none,(sr [oC 4 bF] (sr [oE 5 0,oM 6 1,cF 7 92 [.t 5,.t 6],oD 8 .geq 7 0,oM 4 8] .ret))⟩
theorem ok74:zi Try.prog Try.f74 F74=true:=by kernel_rfl
def F73:IFn:=⟨16,1,[.tmp 2],false,false,none,(sr [oO 1 (.boxL 1 (.t 0)),oC 2 bF] (sr [oA 3 0 1,oL 4 1 3,oD 5 .eql 4 14,oM 6 5,oF 6 7 (.faddr 0 (.t 1)),oF 6 8 (.load (.box 1) false 1 (.t 7)),oF 6 9 (.bin 0 [] .eql (.t 8) (cI 10)),oFm 6 10 9,oT 10 11 (.faddr 7 (.t 1)),oT 10 12 (.load (.box 1) false 1 (.t 11)),oT 10 13 (pF 74 [(.t 12),(.c (.fn 50 [] []))]),oF 6 14 (.pick (.t 10) (.t 13) (.c bF)),oO 15 (.pick (.t 6) (.c bT) (.t 14)),oM 2 15] .ret))⟩
theorem ok73:zi Try.prog Try.f73 F73=true:=by kernel_rfl
def F50:IFn:=⟨5,1,[.tmp 2],false,false,none,(sr [oC 2 bF] (sr [oE 3 0,cF 4 72 [(.t 3),(.c (.fn 73 [] []))],oM 2 4] .ret))⟩
theorem ok50:zi Try.prog Try.f50 F50=true:=by kernel_rfl
def F51:IFn:=⟨11,1,[.tmp 2],false,false,none,(sr [oO 1 (.boxL 1 (.t 0)),oC 2 bF] (sr [oA 3 0 1,oL 4 1 3,oD 5 .geq 4 12,oM 6 5,oT 6 7 (.faddr 0 (.t 1)),oT 6 8 (.load (.box 1) false 1 (.t 7)),oT 6 9 (.bin 0 [] .leq (.t 8) (cI 15)),oO 10 (.pick (.t 6) (.t 9) (.c bF)),oM 2 10] .ret))⟩
theorem ok51:zi Try.prog Try.f51 F51=true:=by kernel_rfl
def F29:IFn:=⟨45,1,[.tmp 2],false,false,none,(sr [oO 1 (.boxL 1 (.t 0)),oC 2 bF] (.seq (.block 0 (sr [oA 4 0 1,oL 5 1 4,oD 6 .eql 5 10,oM 7 6,oT 7 8 (.faddr 7 (.t 1)),oT 7 9 (.load (.box 1) false 1 (.t 8)),oT 7 10 (.len 1 (.t 9)),oT 7 11 (.bin 0 [] .eql (.t 10) (cI 2)),oO 12 (.pick (.t 7) (.t 11) (.c bF)),oM 3 12] (.cond (.t 3) (sr [oA 13 7 1,oL 14 1 13,oO 15 (.iaddr 1 (.t 14) (cI 0)),oG 16 15,cP 17 49 [.t 16],oU 18 17,oM 19 18,oT 19 20 (.faddr 7 (.t 1)),oT 19 21 (.load (.box 1) false 1 (.t 20)),oT 19 22 (.iaddr 1 (.t 21) (cI 1)),oT 19 23 (.load .any false 1 (.t 22)),oT 19 24 (pP 49 [.t 23]),oT 19 25 (.un .not (.t 24)),oO 26 (.pick (.t 19) (.t 25) (.c bF)),oM 2 26] .ret) (sr [oA 28 0 1,oL 29 1 28,oD 30 .eql 29 11,oM 31 30,oT 31 32 (.faddr 7 (.t 1)),oT 31 33 (.load (.box 1) false 1 (.t 32)),oT 31 34 (.len 1 (.t 33)),oT 31 35 (.bin 0 [] .eql (.t 34) (cI 1)),oO 36 (.pick (.t 31) (.t 35) (.c bF)),oM 27 36] (.cond (.t 27) (sr [oA 37 7 1,oL 38 1 37,oO 39 (.iaddr 1 (.t 38) (cI 0)),oG 40 39,cP 41 50 [.t 40],oU 42 41,oM 2 42] .ret) .skip))))) (sr [oLa 43 1 8 1,cP 44 51 [.t 43],oM 2 44] .ret)))⟩
theorem ok29:zi Try.prog Try.f29 F29=true:=by kernel_rfl
def F81:IFn:=⟨53,1,[.tmp 2],true,false,none,(sr [oO 1 (.boxL 1 (.t 0)),oC 2 bF] (sr [oO 4 (.mkmap),oN (.mapset false (.t 4) (cI 10) (cI 2)),oN (.mapset false (.t 4) (cI 11) (cI 1)),oM 5 4,oA 6 0 1,oL 7 1 6,oO 8 (.lookup false false (.int .i64 0) (.t 5) (.t 7)),oM 3 8] (.seq (sr [oA 9 0 1,oL 10 1 9] (.block 0 (.seq (sr [oD 12 .eql 10 3,oM 11 12] (.cond (.t 11) .skip (.region [oD 13 .eql 10 4,oM 11 13]))) (.cond (.t 11) (.region [oA 14 1 1,oN (.store (.box 1) 1 (.t 14) (cI 0))]) (.seq (sr [oD 16 .eql 10 1,oM 15 16] (.cond (.t 15) .skip (.region [oD 17 .eql 10 2,oM 15 17]))) (.cond (.t 15) (.region [oA 18 2 1,oN (.store (.box 1) 1 (.t 18) (cI 0))]) (.seq (sr [oD 20 .eql 10 5,oM 19 20] (.cond (.t 19) .skip (sr [oD 21 .eql 10 6,oM 19 21] (.cond (.t 19) .skip (.region [oD 22 .eql 10 7,oM 19 22]))))) (.cond (.t 19) (.region [oA 23 3 1,oN (.store (.box 1) 1 (.t 23) (.c (.str [])))]) (sr [oD 25 .eql 10 11,oM 24 25] (.cond (.t 24) (.region [oA 26 6 1,oN (.store (.box 1) 1 (.t 26) (.c (.slice .fit 1 [])))]) .skip)))))))))) (sr [oA 27 1 1,oL 28 1 27,oD 29 .eql 28 0,oM 30 29,oT 30 31 (.faddr 2 (.t 1)),oT 30 32 (.load (.box 1) false 1 (.t 31)),oT 30 33 (.bin 0 [] .eql (.t 32) (cI 0)),oO 34 (.pick (.t 30) (.t 33) (.c bF)),oM 35 34,oT 35 36 (.faddr 3 (.t 1)),oT 35 37 (.load (.box 1) false 1 (.t 36)),oT 35 38 (.bin 0 [] .eql (.t 37) (.c (.str []))),oO 39 (.pick (.t 35) (.t 38) (.c bF)),oM 40 39,oT 40 41 (.faddr 6 (.t 1)),oT 40 42 (.load (.box 1) false 1 (.t 41)),oT 40 43 (.len 1 (.t 42)),oT 40 44 (.bin 0 [] .eql (.t 43) (cI 0)),oO 45 (.pick (.t 40) (.t 44) (.c bF)),oM 46 45,oT 46 47 (.faddr 7 (.t 1)),oT 46 48 (.load (.box 1) false 1 (.t 47)),oT 46 49 (.len 1 (.t 48)),oTm 46 50 3,oT 46 51 (.bin 0 [] .eql (.t 49) (.t 50)),oO 52 (.pick (.t 46) (.t 51) (.c bF)),oM 2 52] .ret))))⟩
theorem ok81:zi Try.prog Try.f81 F81=true:=by kernel_rfl
def F110:IFn:=⟨35,3,[.tmp 6],false,false,none,(sr [oC 6 bF] (sr [oM 7 1,oD 8 .geq 7 0,oM 9 8,oTm 9 10 1,oTm 9 11 0,oT 9 12 (.nilck (.t 11)),oT 9 13 (.faddr 2 (.t 12)),oT 9 14 (.faddr 3 (.t 13)),oT 9 15 (.load .any false 1 (.t 14)),oT 9 16 (.len 1 (.t 15)),oT 9 17 (.bin 0 [] .lss (.t 10) (.t 16)),oO 18 (.pick (.t 9) (.t 17) (.c bF)),oM 19 18,oTm 19 20 2,oT 19 21 (.bin 0 [] .eql (.t 20) (cI 0)),oTm 19 22 21,oFm 22 23 0,oF 22 24 (.nilck (.t 23)),oF 22 25 (.faddr 2 (.t 24)),oF 22 26 (.faddr 3 (.t 25)),oF 22 27 (.load .any false 1 (.t 26)),oFm 22 28 1,oF 22 29 (.iaddr 1 (.t 27) (.t 28)),oF 22 30 (.load .any false 1 (.t 29)),oFm 22 31 2,oF 22 32 (.bin 0 [] .eql (.t 30) (.t 31)),oT 19 33 (.pick (.t 22) (.c bT) (.t 32)),oO 34 (.pick (.t 19) (.t 33) (.c bF)),oM 6 34] .ret))⟩
theorem ok110:zi Try.prog Try.f110 F110=true:=by kernel_rfl
def L94_0:ICode:= .loop [0,4,7,8,9] []
 (sr [
 oP 10 .lss 9 8]
 (.seq
 (.cond (.t 10)
 .skip
 (.exit 0))
 (.seq
 (.block 1
 (sr [
 oI 11 1 7 9,
 oG 12 11,
 oM 6 12]
 (.seq
 (sr [
 oM 13 0,
 oM 14 6,
 cF 15 110 [.t 13,.t 14,cI 0],
 oU 16 15]
 (.cond (.t 16)
 (sr [
 oC 4 (.slice .fit 1 [])]
 .ret)
 .skip))
 (.region [
 oE 17 4,
 oM 18 0,
 oK 19 18,
 oA 20 2 19,
 oA 21 3 20,
 oG 22 21,
 oM 23 6,
 oI 24 1 22 23,
 oG 25 24,
 oO 26 (.bslice 1 (.int .i64 0) 1 [(0,(.t 25))]),
 oO 27 (.append 1 8 (.t 17) (.t 26)),
 oE 4 27]))))
 (.region [
 oD 28 .add 9 1,
 oM 9 28]))))
abbrev K94_0:List Nat:=[0,7,8]
abbrev B94_0:List Nat:=[]
def F94:IFn:=⟨30,2,[.tmp 4],false,false,none,(sr [oC 4 (.slice .fit 1 [])] (.seq (sr [oE 7 1,oY 8 7,oZ 9 0] (.block 0 L94_0)) (sr [oE 29 4,oE 4 29] .ret)))⟩
theorem ok94:zi Try.prog Try.f94 F94=true:=by kernel_rfl
def L111_0:ICode:= .loop [1,2,15,16,17] []
 (sr [
 oP 18 .lss 17 16]
 (.seq
 (.cond (.t 18)
 .skip
 (.exit 0))
 (.seq
 (.block 1
 (sr [
 oM 19 17,
 oI 20 1 15 17,
 oG 21 20,
 oM 7 19,
 oM 8 21]
 (sr [
 oM 22 1,
 oM 23 7,
 oI 24 1 22 23,
 oG 25 24,
 oM 9 25]
 (sr [
 oM 26 2,
 oM 27 8,
 oM 28 9,
 oO 29 (.call false (.t 26) [.t 27,.t 28]),
 oU 30 29]
 (.cond (.t 30)
 (sr [
 oC 6 bF]
 .ret)
 .skip)))))
 (.region [
 oD 31 .add 17 1,
 oM 17 31]))))
abbrev K111_0:List Nat:=[1,2,15,16]
abbrev B111_0:List Nat:=[]
def F111:IFn:=⟨32,3,[.tmp 6],false,false,none,(sr [oC 6 bF] (.seq (sr [oM 10 0,oY 11 10,oM 12 1,oY 13 12,oP 14 .neq 11 13] (.cond (.t 14) (sr [oC 6 bF] .ret) .skip)) (.seq (sr [oE 15 0,oY 16 15,oZ 17 0] (.block 0 L111_0)) (sr [oC 6 bT] .ret))))⟩
theorem ok111:zi Try.prog Try.f111 F111=true:=by kernel_rfl
def F112:IFn:=⟨20,3,[.tmp 5],false,false,none,(sr [oC 5 bF] (sr [oG 6 2,oM 7 0,oM 8 1,cF 9 110 [.t 6,.t 7,.t 8],oM 10 9,oT 10 11 (.load .any false 1 (.t 2)),oT 10 12 (.nilck (.t 11)),oT 10 13 (.faddr 7 (.t 12)),oT 10 14 (.load .any false 1 (.t 13)),oTm 10 15 0,oT 10 16 (.iaddr 1 (.t 14) (.t 15)),oT 10 17 (.load .any false 1 (.t 16)),oT 10 18 (.bin 0 [] .eql (.t 17) (cI 1)),oO 19 (.pick (.t 10) (.t 18) (.c bF)),oM 5 19] .ret))⟩
theorem ok112:zi Try.prog Try.f112 F112=true:=by kernel_rfl
def F95:IFn:=⟨11,3,[.tmp 6],false,false,none,(sr [oO 3 (.boxI (.t 0)),oC 6 bF] (sr [oE 7 1,oE 8 2,oO 9 (.mkfn 112 [] [.t 3]),cF 10 111 [.t 7,.t 8,.t 9],oM 6 10] .ret))⟩
theorem ok95:zi Try.prog Try.f95 F95=true:=by kernel_rfl
def F113:IFn:=⟨27,3,[.tmp 5],false,false,none,(sr [oC 5 bF] (.seq (sr [oG 6 2,oM 7 0,oM 8 1,cF 9 110 [.t 6,.t 7,.t 8],oU 10 9,oM 11 10,oF 11 12 (.load .any false 1 (.t 2)),oF 11 13 (.nilck (.t 12)),oF 11 14 (.faddr 7 (.t 13)),oF 11 15 (.load .any false 1 (.t 14)),oFm 11 16 0,oF 11 17 (.iaddr 1 (.t 15) (.t 16)),oF 11 18 (.load .any false 1 (.t 17)),oF 11 19 (.bin 0 [] .neq (.t 18) (cI 0)),oO 20 (.pick (.t 11) (.c bT) (.t 19))] (.cond (.t 20) (sr [oC 5 bF] .ret) .skip)) (sr [oG 21 2,oK 22 21,oA 23 7 22,oG 24 23,oM 25 0,oI 26 1 24 25,oN (.store .any 1 (.t 26) (cI 1))] (sr [oC 5 bT] .ret))))⟩
theorem ok113:zi Try.prog Try.f113 F113=true:=by kernel_rfl
def F97:IFn:=⟨11,3,[.tmp 6],false,false,none,(sr [oO 3 (.boxI (.t 0)),oC 6 bF] (sr [oE 7 1,oE 8 2,oO 9 (.mkfn 113 [] [.t 3]),cF 10 111 [.t 7,.t 8,.t 9],oM 6 10] .ret))⟩
theorem ok97:zi Try.prog Try.f97 F97=true:=by kernel_rfl
def F96:IFn:=⟨11,2,[.tmp 4],false,false,none,(sr [oC 4 bF] (sr [oM 5 0,oM 6 1,oE 7 1,oY 8 7,oO 9 (.mkslice 1 (.int .i64 0) 8 (.t 8) (.t 8)),cF 10 97 [.t 5,.t 6,.t 9],oM 4 10] .ret))⟩
theorem ok96:zi Try.prog Try.f96 F96=true:=by kernel_rfl
def F82:IFn:=⟨57,4,[.tmp 8],false,false,none,(sr [oO 5 (.boxL 5 (.t 1)),oO 6 (.boxL 6 (.t 2)),oC 8 bF] (sr [oM 9 0,oA 10 5 5,oL 11 5 10,cF 12 94 [.t 9,.t 11],oA 13 0 6,oN (.store (.box 6) 1 (.t 13) (.c bT)),oA 14 2 6,oS 6 1 14 12] (sr [oM 15 0,oA 16 4 5,oL 17 5 16,oO 18 (.bslice 1 (.int .i64 0) 1 [(0,(cI 2))]),cF 19 95 [.t 15,.t 17,.t 18],oM 20 19,oTm 20 21 0,oT 20 22 (.faddr 7 (.t 5)),oT 20 23 (.load (.box 5) false 1 (.t 22)),oT 20 24 (.iaddr 1 (.t 23) (cI 0)),oT 20 25 (.load .imm false 1 (.t 24)),oT 20 26 (.load (.box 6) true 5 (.t 6)),oTm 20 27 3,oT 20 28 (pF 43 [.t 21,.t 25,.t 26,.t 27]),oO 29 (.pick (.t 20) (.t 28) (.c bF)),oM 30 29,oTm 30 31 0,oT 30 32 (.faddr 7 (.t 5)),oT 30 33 (.load (.box 5) false 1 (.t 32)),oT 30 34 (.iaddr 1 (.t 33) (cI 1)),oT 30 35 (.load .imm false 1 (.t 34)),oT 30 36 (.load (.box 6) true 5 (.t 6)),oTm 30 37 3,oT 30 38 (pF 43 [.t 31,.t 35,.t 36,.t 37]),oO 39 (.pick (.t 30) (.t 38) (.c bF)),oM 40 39,oT 40 41 (.faddr 5 (.t 5)),oT 40 42 (.load (.box 5) false 1 (.t 41)),oT 40 43 (.len 1 (.t 42)),oT 40 44 (.bin 0 [] .eql (.t 43) (cI 0)),oTm 40 45 44,oF 45 46 (.load (.box 5) true 8 (.t 5)),oF 45 47 (pP 29 [.t 46]),oF 45 48 (.un .not (.t 47)),oT 40 49 (.pick (.t 45) (.c bT) (.t 48)),oO 50 (.pick (.t 40) (.t 49) (.c bF)),oM 51 50,oTm 51 52 0,oT 51 53 (.faddr 5 (.t 5)),oT 51 54 (.load (.box 5) false 1 (.t 53)),oT 51 55 (pF 96 [.t 52,.t 54]),oO 56 (.pick (.t 51) (.t 55) (.c bF)),oM 8 56] .ret)))⟩
theorem ok82:zi Try.prog Try.f82 F82=true:=by kernel_rfl
def L67_0:ICode:= .loop [0,6,7,8] []
 (sr [
 oP 9 .lss 8 7]
 (.seq
 (.cond (.t 9)
 .skip
 (.exit 0))
 (.seq
 (.block 1
 (sr [
 oI 10 1 6 8,
 oG 11 10,
 oM 5 11]
 (.region [
 oM 12 0,
 oK 13 12,
 oA 14 7 13,
 oG 15 14,
 oM 16 5,
 oI 17 1 15 16,
 oN (.store .any 1 (.t 17) (cI 2))])))
 (.region [
 oD 18 .add 8 1,
 oM 8 18]))))
abbrev K67_0:List Nat:=[0,6,7]
abbrev B67_0:List Nat:=[]
def F67:IFn:=⟨19,2,[],false,false,none,(sr [oE 6 1,oY 7 6,oZ 8 0] (.block 0 L67_0))⟩
theorem ok67:zi Try.prog Try.f67 F67=true:=by kernel_rfl
def F83:IFn:=⟨61,3,[.tmp 6],false,false,none,(sr [oO 4 (.boxL 4 (.t 1)),oC 6 bF] (sr [oM 8 0,oA 9 6 4,oL 10 4 9,cF 11 94 [.t 8,.t 10],oM 12 0,oA 13 5 4,oL 14 4 13,cF 15 94 [.t 12,.t 14],oO 16 (.build [.bool false,.bool false,.slice .fit 1 [],.slice .fit 1 [],.slice .fit 1 []] [(1,1,(.c bT)),(3,1,(.t 11)),(4,1,(.t 15))]),oO 7 (.boxL 7 (.c (.agg [.bool false,.bool false,.slice .fit 1 [],.slice .fit 1 [],.slice .fit 1 []]))),oS 7 5 7 16] (.seq (sr [oM 17 0,oA 18 4 4,oL 19 4 18,oA 20 3 7,oL 21 7 20,cF 22 95 [.t 17,.t 19,.t 21],oU 23 22,oM 24 23,oFm 24 25 0,oF 24 26 (.faddr 6 (.t 4)),oF 24 27 (.load (.box 4) false 1 (.t 26)),oF 24 28 (pF 96 [.t 25,.t 27]),oF 24 29 (.un .not (.t 28)),oO 30 (.pick (.t 24) (.c bT) (.t 29)),oM 31 30,oFm 31 32 0,oF 31 33 (.faddr 7 (.t 4)),oF 31 34 (.load (.box 4) false 1 (.t 33)),oF 31 35 (.iaddr 1 (.t 34) (cI 0)),oF 31 36 (.load .imm false 1 (.t 35)),oF 31 37 (.load (.box 7) true 5 (.t 7)),oFm 31 38 2,oF 31 39 (pF 43 [.t 32,.t 36,.t 37,.t 38]),oF 31 40 (.un .not (.t 39)),oO 41 (.pick (.t 31) (.c bT) (.t 40))] (.cond (.t 41) (sr [oC 6 bF] .ret) .skip)) (sr [oM 42 0,oA 43 6 4,oL 44 4 43,cF 45 67 [.t 42,.t 44]] (sr [oA 46 5 4,oL 47 4 46,oY 48 47,oD 49 .eql 48 0,oM 50 49,oF 50 51 (.load (.box 4) true 8 (.t 4)),oF 50 52 (pP 29 [.t 51]),oF 50 53 (.un .not (.t 52)),oO 54 (.pick (.t 50) (.c bT) (.t 53)),oM 55 54,oTm 55 56 0,oT 55 57 (.faddr 5 (.t 4)),oT 55 58 (.load (.box 4) false 1 (.t 57)),oT 55 59 (pF 96 [.t 56,.t 58]),oO 60 (.pick (.t 55) (.t 59) (.c bF)),oM 6 60] .ret)))))⟩
theorem ok83:zi Try.prog Try.f83 F83=true:=by kernel_rfl
def F84:IFn:=⟨72,3,[.tmp 6],false,false,none,(sr [oO 4 (.boxL 4 (.t 1)),oO 5 (.boxL 5 (.t 2)),oC 6 bF] (sr [oA 8 5 4,oL 9 4 8,oY 10 9,oD 11 .eql 10 0,oM 7 11] (.seq (sr [oA 12 0 4,oL 13 4 12] (.block 0 (sr [oD 15 .eql 13 12,oM 14 15] (.cond (.t 14) (sr [oM 16 7,oM 17 16,oT 17 18 (.faddr 0 (.t 5)),oT 17 19 (.load (.box 5) false 1 (.t 18)),oO 20 (.pick (.t 17) (.t 19) (.c bF)),oM 21 20,oTm 21 22 0,oT 21 23 (.faddr 4 (.t 4)),oT 21 24 (.load (.box 4) false 1 (.t 23)),oT 21 25 (.faddr 2 (.t 5)),oT 21 26 (.load (.box 5) false 1 (.t 25)),oT 21 27 (pF 95 [.t 22,.t 24,.t 26]),oO 28 (.pick (.t 21) (.t 27) (.c bF)),oM 6 28] .ret) (sr [oD 30 .eql 13 13,oM 29 30] (.cond (.t 29) (sr [oM 31 7,oM 32 31,oT 32 33 (.faddr 1 (.t 5)),oT 32 34 (.load (.box 5) false 1 (.t 33)),oO 35 (.pick (.t 32) (.t 34) (.c bF)),oM 36 35,oTm 36 37 0,oT 36 38 (.faddr 4 (.t 4)),oT 36 39 (.load (.box 4) false 1 (.t 38)),oT 36 40 (.faddr 3 (.t 5)),oT 36 41 (.load (.box 5) false 1 (.t 40)),oT 36 42 (pF 95 [.t 37,.t 39,.t 41]),oO 43 (.pick (.t 36) (.t 42) (.c bF)),oM 6 43] .ret) (sr [oD 45 .eql 13 14,oM 44 45] (.cond (.t 44) (sr [oM 46 7,oM 47 46,oT 47 48 (.faddr 1 (.t 5)),oT 47 49 (.load (.box 5) false 1 (.t 48)),oO 50 (.pick (.t 47) (.t 49) (.c bF)),oM 51 50,oTm 51 52 0,oT 51 53 (.faddr 4 (.t 4)),oT 51 54 (.load (.box 4) false 1 (.t 53)),oT 51 55 (.faddr 4 (.t 5)),oT 51 56 (.load (.box 5) false 1 (.t 55)),oT 51 57 (pF 95 [.t 52,.t 54,.t 56]),oO 58 (.pick (.t 51) (.t 57) (.c bF)),oM 6 58] .ret) .skip)))))))) (sr [oM 59 7,oM 60 59,oTm 60 61 0,oT 60 62 (.faddr 4 (.t 4)),oT 60 63 (.load (.box 4) false 1 (.t 62)),oTm 60 64 0,oT 60 65 (.nilck (.t 64)),oT 60 66 (.faddr 2 (.t 65)),oT 60 67 (.faddr 1 (.t 66)),oT 60 68 (.load .imm false 1 (.t 67)),oT 60 69 (.bslice 1 (.int .i64 0) 1 [(0,(.t 68))]),oT 60 70 (pF 95 [.t 61,.t 63,.t 69]),oO 71 (.pick (.t 60) (.t 70) (.c bF)),oM 6 71] .ret))))⟩
theorem ok84:zi Try.prog Try.f84 F84=true:=by kernel_rfl
def F114:IFn:=⟨15,1,[.tmp 2,.tmp 3],false,false,none,(sr [oZ 2 0,oZ 3 0] (.seq (sr [oM 4 0] (.block 0 (sr [oD 6 .eql 4 22,oM 5 6] (.cond (.t 5) (sr [oZ 2 2,oZ 3 2] .ret) (.seq (sr [oD 8 .eql 4 16,oM 7 8] (.cond (.t 7) .skip (.region [oD 9 .eql 4 17,oM 7 9]))) (.cond (.t 7) (sr [oZ 2 0,oZ 3 2] .ret) (.seq (sr [oD 11 .eql 4 12,oM 10 11] (.cond (.t 10) .skip (sr [oD 12 .eql 4 13,oM 10 12] (.cond (.t 10) .skip (sr [oD 13 .eql 4 14,oM 10 13] (.cond (.t 10) .skip (.region [oD 14 .eql 4 15,oM 10 14]))))))) (.cond (.t 10) (sr [oZ 2 1,oZ 3 2] .ret) .skip)))))))) (sr [oZ 2 1,oZ 3 1] .ret)))⟩
theorem ok114:zi Try.prog Try.f114 F114=true:=by kernel_rfl
def F122:IFn:=⟨43,1,[.cell 2 true 2],false,false,none,(sr [oO 2 (.boxL 2 (.c (.agg [.str [],.int .i64 0])))] (sr [oO 4 (.build [.str [],.int .i64 0] [(0,1,(.c (.str [43]))),(1,1,(cI 9))]),oO 5 (.build [.str [],.int .i64 0] [(0,1,(.c (.str [45]))),(1,1,(cI 9))]),oO 6 (.build [.str [],.int .i64 0] [(0,1,(.c (.str [42]))),(1,1,(cI 10))]),oO 7 (.build [.str [],.int .i64 0] [(0,1,(.c (.str [47]))),(1,1,(cI 10))]),oO 8 (.build [.str [],.int .i64 0] [(0,1,(.c (.str [37]))),(1,1,(cI 10))]),oO 9 (.build [.str [],.int .i64 0] [(0,1,(.c (.str [38]))),(1,1,(cI 5))]),oO 10 (.build [.str [],.int .i64 0] [(0,1,(.c (.str [124]))),(1,1,(cI 3))]),oO 11 (.build [.str [],.int .i64 0] [(0,1,(.c (.str [94]))),(1,1,(cI 4))]),oO 12 (.build [.str [],.int .i64 0] [(0,1,(.c (.str [60,60]))),(1,1,(cI 8))]),oO 13 (.build [.str [],.int .i64 0] [(0,1,(.c (.str [62,62]))),(1,1,(cI 8))]),oO 14 (.build [.str [],.int .i64 0] [(0,1,(.c (.str [62,62,62]))),(1,1,(cI 8))]),oO 15 (.build [.str [],.int .i64 0] [(0,1,(.c (.str [60]))),(1,1,(cI 7))]),oO 16 (.build [.str [],.int .i64 0] [(0,1,(.c (.str [60,61]))),(1,1,(cI 7))]),oO 17 (.build [.str [],.int .i64 0] [(0,1,(.c (.str [62]))),(1,1,(cI 7))]),oO 18 (.build [.str [],.int .i64 0] [(0,1,(.c (.str [62,61]))),(1,1,(cI 7))]),oO 19 (.build [.str [],.int .i64 0] [(0,1,(.c (.str [61,61]))),(1,1,(cI 6))]),oO 20 (.build [.str [],.int .i64 0] [(0,1,(.c (.str [33,61]))),(1,1,(cI 6))]),oO 21 (.build [.str [],.int .i64 0] [(0,1,(.c (.str [38,38]))),(1,1,(cI 2))]),oO 22 (.build [.str [],.int .i64 0] [(0,1,(.c (.str [124,124]))),(1,1,(cI 1))]),oO 23 (.build [.str [],.int .i64 0] [(0,1,(.c (.str [45]))),(1,1,(cI 0))]),oO 24 (.build [.str [],.int .i64 0] [(0,1,(.c (.str [126]))),(1,1,(cI 0))]),oO 25 (.build [.str [],.int .i64 0] [(0,1,(.c (.str [33]))),(1,1,(cI 0))]),oO 26 (.build [.str [],.int .i64 0] [(0,1,(.c (.str [105,56]))),(1,1,(cI 0))]),oO 27 (.build [.str [],.int .i64 0] [(0,1,(.c (.str [105,49,54]))),(1,1,(cI 0))]),oO 28 (.build [.str [],.int .i64 0] [(0,1,(.c (.str [105,51,50]))),(1,1,(cI 0))]),oO 29 (.build [.str [],.int .i64 0] [(0,1,(.c (.str [117,56]))),(1,1,(cI 0))]),oO 30 (.build [.str [],.int .i64 0] [(0,1,(.c (.str [117,49,54]))),(1,1,(cI 0))]),oO 31 (.build [.str [],.int .i64 0] [(0,1,(.c (.str [117,51,50]))),(1,1,(cI 0))]),oO 32 (.build [.str [],.int .i64 0,.str [],.int .i64 0,.str [],.int .i64 0,.str [],.int .i64 0,.str [],.int .i64 0,.str [],.int .i64 0,.str [],.int .i64 0,.str [],.int .i64 0,.str [],.int .i64 0,.str [],.int .i64 0,.str [],.int .i64 0,.str [],.int .i64 0,.str [],.int .i64 0,.str [],.int .i64 0,.str [],.int .i64 0,.str [],.int .i64 0,.str [],.int .i64 0,.str [],.int .i64 0,.str [],.int .i64 0,.str [],.int .i64 0,.str [],.int .i64 0,.str [],.int .i64 0,.str [],.int .i64 0,.str [],.int .i64 0,.str [],.int .i64 0,.str [],.int .i64 0,.str [],.int .i64 0,.str [],.int .i64 0,.str [],.int .i64 0] [(2,2,(.t 4)),(4,2,(.t 5)),(6,2,(.t 6)),(8,2,(.t 7)),(10,2,(.t 8)),(12,2,(.t 9)),(14,2,(.t 10)),(16,2,(.t 11)),(18,2,(.t 12)),(20,2,(.t 13)),(22,2,(.t 14)),(24,2,(.t 15)),(26,2,(.t 16)),(28,2,(.t 17)),(30,2,(.t 18)),(32,2,(.t 19)),(34,2,(.t 20)),(36,2,(.t 21)),(38,2,(.t 22)),(40,2,(.t 23)),(42,2,(.t 24)),(44,2,(.t 25)),(46,2,(.t 26)),(48,2,(.t 27)),(50,2,(.t 28)),(52,2,(.t 29)),(54,2,(.t 30)),(56,2,(.t 31))]),oO 3 (.boxL 3 (.c (.agg [.str [],.int .i64 0,.str [],.int .i64 0,.str [],.int .i64 0,.str [],.int .i64 0,.str [],.int .i64 0,.str [],.int .i64 0,.str [],.int .i64 0,.str [],.int .i64 0,.str [],.int .i64 0,.str [],.int .i64 0,.str [],.int .i64 0,.str [],.int .i64 0,.str [],.int .i64 0,.str [],.int .i64 0,.str [],.int .i64 0,.str [],.int .i64 0,.str [],.int .i64 0,.str [],.int .i64 0,.str [],.int .i64 0,.str [],.int .i64 0,.str [],.int .i64 0,.str [],.int .i64 0,.str [],.int .i64 0,.str [],.int .i64 0,.str [],.int .i64 0,.str [],.int .i64 0,.str [],.int .i64 0,.str [],.int .i64 0,.str [],.int .i64 0]))),oS 3 58 3 32] (.seq (sr [oM 33 0,oD 34 .lss 33 0,oM 35 34,oFm 35 36 0,oF 35 37 (.bin 0 [] .geq (.t 36) (cI 29)),oO 38 (.pick (.t 35) (.c bT) (.t 37))] (.cond (.t 38) (sr [oO 39 (.build [.str [],.int .i64 0] []),oS 2 2 2 39] .ret) .skip)) (sr [oM 40 0,oO 41 (.iaddrA 29 2 (.t 3) (.t 40)),oLa 42 3 2 41,oS 2 2 2 42] .ret))))⟩
theorem ok122:zi Try.prog Try.f122 F122=true:=by kernel_rfl
def F115:IFn:=⟨6,1,[.tmp 2],false,false,none,(sr [oZ 2 0] (sr [oM 3 0,cP 4 122 [.t 3],oO 5 (.fld false 1 1 (.t 4)),oM 2 5] .ret))⟩
theorem ok115:zi Try.prog Try.f115 F115=true:=by kernel_rfl
def F98:IFn:=⟨93,2,[.tmp 4],false,false,none,(sr [oO 3 (.boxL 3 (.t 1)),oC 4 bF] (sr [oA 9 1 3,oL 10 3 9,cP 11 114 [.t 10],oM 8 11,oX 12 8 0,oX 13 8 1,oM 5 12,oM 6 13] (.seq (sr [oA 14 0 3,oL 15 3 14,oD 16 .eql 15 3] (.cond (.t 16) (sr [oA 17 1 3,oL 18 3 17,oD 19 .geq 18 20,oM 20 19,oT 20 21 (.faddr 1 (.t 3)),oT 20 22 (.load (.box 3) false 1 (.t 21)),oT 20 23 (.bin 0 [] .leq (.t 22) (cI 28)),oO 24 (.pick (.t 20) (.t 23) (.c bF)),oM 25 24,oTm 25 26 0,oT 25 27 (.faddr 4 (.t 3)),oT 25 28 (.load (.box 3) false 1 (.t 27)),oTm 25 29 5,oT 25 30 (.bslice 1 (.int .i64 0) 1 [(0,(.t 29))]),oT 25 31 (pF 95 [.t 26,.t 28,.t 30]),oO 32 (.pick (.t 25) (.t 31) (.c bF)),oM 33 32,oTm 33 34 0,oT 33 35 (.faddr 5 (.t 3)),oT 33 36 (.load (.box 3) false 1 (.t 35)),oTm 33 37 6,oT 33 38 (.bslice 1 (.int .i64 0) 1 [(0,(.t 37))]),oT 33 39 (pF 97 [.t 34,.t 36,.t 38]),oO 40 (.pick (.t 33) (.t 39) (.c bF)),oM 4 40] .ret) .skip)) (sr [oA 41 1 3,oL 42 3 41,cP 43 115 [.t 42],oD 44 .gtr 43 0,oM 45 44,oT 45 46 (.faddr 1 (.t 3)),oT 45 47 (.load (.box 3) false 1 (.t 46)),oT 45 48 (.bin 0 [] .leq (.t 47) (cI 17)),oO 49 (.pick (.t 45) (.t 48) (.c bF)),oM 50 49,oTm 50 51 0,oT 50 52 (.faddr 4 (.t 3)),oT 50 53 (.load (.box 3) false 1 (.t 52)),oTm 50 54 5,oTm 50 55 5,oT 50 56 (.bslice 1 (.int .i64 0) 2 [(0,(.t 54)),(1,(.t 55))]),oT 50 57 (pF 95 [.t 51,.t 53,.t 56]),oO 58 (.pick (.t 50) (.t 57) (.c bF)),oM 7 58] (sr [oM 59 7,oM 60 59,oTm 60 61 0,oT 60 62 (.nilck (.t 61)),oT 60 63 (.faddr 2 (.t 62)),oT 60 64 (.faddr 3 (.t 63)),oT 60 65 (.load .imm false 1 (.t 64)),oT 60 66 (.faddr 4 (.t 3)),oT 60 67 (.load (.box 3) false 1 (.t 66)),oT 60 68 (.iaddr 1 (.t 67) (cI 0)),oT 60 69 (.load .imm false 1 (.t 68)),oT 60 70 (.iaddr 1 (.t 65) (.t 69)),oT 60 71 (.load .imm false 1 (.t 70)),oTm 60 72 0,oT 60 73 (.nilck (.t 72)),oT 60 74 (.faddr 2 (.t 73)),oT 60 75 (.faddr 3 (.t 74)),oT 60 76 (.load .imm false 1 (.t 75)),oT 60 77 (.faddr 4 (.t 3)),oT 60 78 (.load (.box 3) false 1 (.t 77)),oT 60 79 (.iaddr 1 (.t 78) (cI 1)),oT 60 80 (.load .imm false 1 (.t 79)),oT 60 81 (.iaddr 1 (.t 76) (.t 80)),oT 60 82 (.load .imm false 1 (.t 81)),oT 60 83 (.bin 0 [] .eql (.t 71) (.t 82)),oO 84 (.pick (.t 60) (.t 83) (.c bF)),oM 85 84,oTm 85 86 0,oT 85 87 (.faddr 5 (.t 3)),oT 85 88 (.load (.box 3) false 1 (.t 87)),oTm 85 89 6,oT 85 90 (.bslice 1 (.int .i64 0) 1 [(0,(.t 89))]),oT 85 91 (pF 97 [.t 86,.t 88,.t 90]),oO 92 (.pick (.t 85) (.t 91) (.c bF)),oM 4 92] .ret)))))⟩
theorem ok98:zi Try.prog Try.f98 F98=true:=by kernel_rfl
def L123_0:ICode:= .loop [0,1,7,8] []
 (sr [
 oP 9 .lss 8 7]
 (.seq
 (.cond (.t 9)
 .skip
 (.exit 0))
 (.seq
 (.block 1
 (sr [
 oM 10 8,
 oM 5 10]
 (sr [
 oM 11 1,
 oM 12 0,
 oM 13 5,
 oI 14 2 12 13,
 oW 15 2 14,
 oO 16 (.call false (.t 11) [.t 15])]
 (.cond (.t 16)
 (sr [
 oM 17 5,
 oM 4 17]
 .ret)
 .skip))))
 (.region [
 oD 18 .add 8 1,
 oM 8 18]))))
abbrev K123_0:List Nat:=[0,1,7]
abbrev B123_0:List Nat:=[]
def F123:IFn:=⟨19,2,[.tmp 4],false,false,none,(sr [oZ 4 0] (.seq (sr [oM 6 0,oY 7 6,oZ 8 0] (.block 0 L123_0)) (sr [oO 4 (.mv (cI (-1)))] .ret)))⟩
theorem ok123:zi Try.prog Try.f123 F123=true:=by kernel_rfl
end PE.U

set_option maxRecDepth 100000
namespace PE.U
open Go PE Go.Proofs
def F116:IFn:=⟨9,2,[.tmp 4],false,false,none,(sr [oC 4 bF] (sr [oE 5 0,oM 6 1,cF 7 123 [.t 5,.t 6],oD 8 .geq 7 0,oM 4 8] .ret))⟩
theorem ok116:zi Try.prog Try.f116 F116=true:=by kernel_rfl
def F117:IFn:=⟨8,2,[.tmp 3],false,false,none,(sr [oO 2 (.boxL 2 (.t 0)),oC 3 bF] (sr [oA 4 0 2,oL 5 2 4,oG 6 1,oP 7 .eql 5 6,oM 3 7] .ret))⟩
theorem ok117:zi Try.prog Try.f117 F117=true:=by kernel_rfl
def F99:IFn:=⟨9,2,[.tmp 4],false,false,none,(sr [oO 2 (.boxL 2 (.t 0)),oO 3 (.boxI (.t 1)),oC 4 bF] (sr [oA 5 0 2,oL 6 2 5,oO 7 (.mkfn 117 [] [.t 3]),cF 8 116 [.t 6,.t 7],oM 4 8] .ret))⟩
theorem ok99:zi Try.prog Try.f99 F99=true:=by kernel_rfl
def F85:IFn:=⟨159,2,[.tmp 4],false,false,none,(sr [oO 3 (.boxL 3 (.t 1)),oC 4 bF] (.seq (sr [oA 7 0 3,oL 8 3 7] (.block 0 (sr [oD 10 .eql 8 1,oM 9 10] (.cond (.t 9) (sr [oM 11 0,oA 12 4 3,oL 13 3 12,cF 14 95 [(.t 11),(.t 13),(.c (.slice .fit 1 []))],oM 15 14,oTm 15 16 0,oT 15 17 (.faddr 5 (.t 3)),oT 15 18 (.load (.box 3) false 1 (.t 17)),oT 15 19 (.bslice 1 (.int .i64 0) 1 [(0,(cI 1))]),oT 15 20 (pF 97 [.t 16,.t 18,.t 19]),oO 21 (.pick (.t 15) (.t 20) (.c bF)),oM 4 21] .ret) (sr [oD 23 .eql 8 2,oM 22 23] (.cond (.t 22) (sr [oA 24 2 3,oL 25 3 24,oD 26 .eql 25 0,oM 27 26,oF 27 28 (.faddr 2 (.t 3)),oF 27 29 (.load (.box 3) false 1 (.t 28)),oF 27 30 (.bin 0 [] .eql (.t 29) (cI 1)),oO 31 (.pick (.t 27) (.c bT) (.t 30)),oM 32 31,oTm 32 33 0,oT 32 34 (.faddr 4 (.t 3)),oT 32 35 (.load (.box 3) false 1 (.t 34)),oT 32 36 (pF 95 [(.t 33),(.t 35),(.c (.slice .fit 1 []))]),oO 37 (.pick (.t 32) (.t 36) (.c bF)),oM 38 37,oTm 38 39 0,oT 38 40 (.faddr 5 (.t 3)),oT 38 41 (.load (.box 3) false 1 (.t 40)),oT 38 42 (.bslice 1 (.int .i64 0) 1 [(0,(cI 2))]),oT 38 43 (pF 97 [.t 39,.t 41,.t 42]),oO 44 (.pick (.t 38) (.t 43) (.c bF)),oM 4 44] .ret) (.seq (sr [oD 46 .eql 8 3,oM 45 46] (.cond (.t 45) .skip (.region [oD 47 .eql 8 4,oM 45 47]))) (.cond (.t 45) (sr [oM 48 0,oLa 49 3 8 3,cF 50 98 [.t 48,.t 49],oM 4 50] .ret) (sr [oD 52 .eql 8 5,oM 51 52] (.cond (.t 51) (sr [oM 53 0,oK 54 53,oA 55 0 54,oO 56 (.load .imm true 2 (.t 55)),oA 57 3 3,oL 58 3 57,cP 59 99 [.t 56,.t 58],oM 60 59,oTm 60 61 0,oT 60 62 (.faddr 4 (.t 3)),oT 60 63 (.load (.box 3) false 1 (.t 62)),oT 60 64 (.bslice 1 (.int .i64 0) 1 [(0,(cI 1))]),oT 60 65 (pF 95 [.t 61,.t 63,.t 64]),oO 66 (.pick (.t 60) (.t 65) (.c bF)),oM 67 66,oTm 67 68 0,oT 67 69 (.faddr 5 (.t 3)),oT 67 70 (.load (.box 3) false 1 (.t 69)),oT 67 71 (.bslice 1 (.int .i64 0) 1 [(0,(cI 1))]),oT 67 72 (pF 97 [.t 68,.t 70,.t 71]),oO 73 (.pick (.t 67) (.t 72) (.c bF)),oM 4 73] .ret) (sr [oD 75 .eql 8 6,oM 74 75] (.cond (.t 74) (sr [oM 76 0,oK 77 76,oA 78 0 77,oO 79 (.load .imm true 2 (.t 78)),oA 80 3 3,oL 81 3 80,cP 82 99 [.t 79,.t 81],oM 83 82,oTm 83 84 0,oT 83 85 (.faddr 4 (.t 3)),oT 83 86 (.load (.box 3) false 1 (.t 85)),oT 83 87 (.bslice 1 (.int .i64 0) 2 [(0,(cI 1)),(1,(cI 1))]),oT 83 88 (pF 95 [.t 84,.t 86,.t 87]),oO 89 (.pick (.t 83) (.t 88) (.c bF)),oM 90 89,oTm 90 91 0,oT 90 92 (.faddr 5 (.t 3)),oT 90 93 (.load (.box 3) false 1 (.t 92)),oT 90 94 (pF 97 [(.t 91),(.t 93),(.c (.slice .fit 1 []))]),oO 95 (.pick (.t 90) (.t 94) (.c bF)),oM 4 95] .ret) (sr [oD 97 .eql 8 8,oM 96 97] (.cond (.t 96) (sr [oM 98 0,oA 99 4 3,oL 100 3 99,cF 101 95 [(.t 98),(.t 100),(.c (.slice .fit 1 []))],oM 102 101,oTm 102 103 0,oT 102 104 (.faddr 5 (.t 3)),oT 102 105 (.load (.box 3) false 1 (.t 104)),oT 102 106 (.bslice 1 (.int .i64 0) 1 [(0,(cI 1))]),oT 102 107 (pF 97 [.t 103,.t 105,.t 106]),oO 108 (.pick (.t 102) (.t 107) (.c bF)),oM 4 108] .ret) (sr [oD 110 .eql 8 9,oM 109 110] (.cond (.t 109) (sr [oM 111 0,oA 112 4 3,oL 113 3 112,oO 114 (.bslice 1 (.int .i64 0) 1 [(0,(cI 1))]),cF 115 95 [.t 111,.t 113,.t 114],oM 116 115,oTm 116 117 0,oT 116 118 (.faddr 5 (.t 3)),oT 116 119 (.load (.box 3) false 1 (.t 118)),oT 116 120 (pF 97 [(.t 117),(.t 119),(.c (.slice .fit 1 []))]),oO 121 (.pick (.t 116) (.t 120) (.c bF)),oM 4 121] .ret) (sr [oD 123 .eql 8 7,oM 122 123] (.cond (.t 122) (sr [oM 124 0,oK 125 124,oA 126 0 125,oO 127 (.load .imm true 2 (.t 126)),oA 128 3 3,oL 129 3 128,cP 130 40 [.t 127,.t 129],oM 5 130] (.seq (sr [oM 131 5,oD 132 .lss 131 0] (.cond (.t 132) (sr [oC 4 bF] .ret) .skip)) (sr [oM 133 0,oK 134 133,oA 135 0 134,oA 136 1 135,oG 137 136,oM 138 5,oI 139 5 137 138,oW 140 5 139,oO 6 (.boxL 6 (.c (.agg [.str [],.int .i64 0,.int .i64 0,.slice .fit 1 [],.slice .fit 8 []]))),oS 6 5 6 140] (sr [oM 141 0,oA 142 4 3,oL 143 3 142,oA 144 3 6,oL 145 6 144,oA 146 2 6,oL 147 6 146,oO 148 (.slc false 1 (.t 145) none (some (.t 147)) none),cF 149 95 [.t 141,.t 143,.t 148],oM 150 149,oTm 150 151 0,oT 150 152 (.faddr 5 (.t 3)),oT 150 153 (.load (.box 3) false 1 (.t 152)),oT 150 154 (.faddr 1 (.t 6)),oT 150 155 (.load (.box 6) false 1 (.t 154)),oT 150 156 (.bslice 1 (.int .i64 0) 1 [(0,(.t 155))]),oT 150 157 (pF 97 [.t 151,.t 153,.t 156]),oO 158 (.pick (.t 150) (.t 157) (.c bF)),oM 4 158] .ret)))) .skip)))))))))))))))))) (sr [oC 4 bF] .ret)))⟩
theorem ok85:zi Try.prog Try.f85 F85=true:=by kernel_rfl
def F66:IFn:=⟨42,4,[.tmp 8],false,false,none,(sr [oO 5 (.boxL 5 (.t 1)),oO 6 (.boxL 6 (.t 2)),oC 8 bF] (.seq (.block 0 (sr [oLa 10 5 8 5,cP 11 81 [.t 10],oU 12 11,oM 9 12] (.cond (.t 9) (sr [oC 8 bF] .ret) (sr [oA 14 0 5,oL 15 5 14,oD 16 .eql 15 10,oM 13 16] (.cond (.t 13) (sr [oM 17 0,oLa 18 5 8 5,oLa 19 6 5 6,oM 20 3,oD 21 .add 20 1,cF 22 82 [.t 17,.t 18,.t 19,.t 21],oM 8 22] .ret) (sr [oA 24 0 5,oL 25 5 24,oD 26 .eql 25 11,oM 23 26] (.cond (.t 23) (sr [oM 27 0,oLa 28 5 8 5,oM 29 3,oD 30 .add 29 1,cF 31 83 [.t 27,.t 28,.t 30],oM 8 31] .ret) (sr [oLa 33 5 8 5,cP 34 51 [.t 33],oM 32 34] (.cond (.t 32) (sr [oM 35 0,oLa 36 5 8 5,oLa 37 6 5 6,cF 38 84 [.t 35,.t 36,.t 37],oM 8 38] .ret) .skip))))))))) (sr [oM 39 0,oLa 40 5 8 5,cF 41 85 [.t 39,.t 40],oM 8 41] .ret)))⟩
theorem ok66:zi Try.prog Try.f66 F66=true:=by kernel_rfl
def L43_0:ICode:= .loop [0,1,3,6,13,14,15] [10]
 (sr [
 oP 16 .lss 15 14]
 (.seq
 (.cond (.t 16)
 .skip
 (.exit 0))
 (.seq
 (.block 1
 (sr [
 oM 17 15,
 oI 18 8 13 15,
 oW 19 8 18,
 oO 10 (.boxL 10 (.c (.agg [.int .i64 0,.int .i64 0,.int .i64 0,.str [],.slice .fit 1 [],.slice .fit 1 [],.slice .fit 1 [],.slice .fit 1 []]))),
 oM 9 17,
 oS 10 8 10 19]
 (sr [
 oM 20 3,
 oD 21 .gtr 20 100,
 oM 22 21,
 oFm 22 23 0,
 oF 22 24 (.load (.box 10) true 8 (.t 10)),
 oF 22 25 (.load (.box 6) true 5 (.t 6)),
 oFm 22 26 3,
 oF 22 27 (pF 66 [.t 23,.t 24,.t 25,.t 26]),
 oF 22 28 (.un .not (.t 27)),
 oO 29 (.pick (.t 22) (.c bT) (.t 28)),
 oM 30 29,
 oF 30 31 (.load (.box 10) true 8 (.t 10)),
 oF 30 32 (pP 29 [.t 31]),
 oFm 30 33 9,
 oFm 30 34 1,
 oF 30 35 (.len 1 (.t 34)),
 oF 30 36 (.bin 0 [] .sub (.t 35) (cI 1)),
 oF 30 37 (.bin 0 [] .eql (.t 33) (.t 36)),
 oF 30 38 (.bin 1 [] .neq (.t 32) (.t 37)),
 oO 39 (.pick (.t 30) (.c bT) (.t 38))]
 (.cond (.t 39)
 (sr [
 oC 8 bF]
 .ret)
 .skip))))
 (.region [
 oD 40 .add 15 1,
 oM 15 40]))))
def L43_1:ICode:= .loop [0,1,41,42,43] [12]
 (sr [
 oP 44 .lss 43 42]
 (.seq
 (.cond (.t 44)
 .skip
 (.exit 2))
 (.seq
 (.block 3
 (sr [
 oI 45 8 41 43,
 oW 46 8 45,
 oO 12 (.boxL 12 (.c (.agg [.int .i64 0,.int .i64 0,.int .i64 0,.str [],.slice .fit 1 [],.slice .fit 1 [],.slice .fit 1 [],.slice .fit 1 []]))),
 oS 12 8 12 46]
 (.region [
 oM 47 0,
 oA 48 5 12,
 oL 49 12 48,
 cF 50 67 [.t 47,.t 49]])))
 (.region [
 oD 51 .add 43 1,
 oM 43 51]))))
abbrev K43_0:List Nat:=[0,1,3,6,13,14]
abbrev B43_0:List Nat:=[6]
abbrev K43_1:List Nat:=[0,1,41,42]
abbrev B43_1:List Nat:=[]
def F43:IFn:=⟨55,4,[.tmp 8],false,false,none,(sr [oO 6 (.boxL 6 (.t 2)),oC 8 bF] (.seq (sr [oM 13 1,oY 14 13,oZ 15 0] (.block 0 L43_0)) (.seq (sr [oM 41 1,oY 42 41,oZ 43 0] (.block 2 L43_1)) (sr [oE 52 1,oY 53 52,oD 54 .gtr 53 0,oM 8 54] .ret))))⟩
theorem ok43:zi Try.prog Try.f43 F43=true:=by kernel_rfl
def L24_0:ICode:= .loop [3,5,30,31] []
 (sr [
 oP 32 .lss 31 30]
 (.seq
 (.cond (.t 32)
 .skip
 (.exit 0))
 (.seq
 (.block 1
 (sr [
 oM 33 31,
 oM 6 33]
 (.region [
 oM 34 5,
 oK 35 34,
 oA 36 7 35,
 oG 37 36,
 oM 38 6,
 oI 39 1 37 38,
 oN (.store .any 1 (.t 39) (cI 1))])))
 (.region [
 oD 40 .add 31 1,
 oM 31 40]))))
abbrev K24_0:List Nat:=[3,5,30]
abbrev B24_0:List Nat:=[3]
def F24:IFn:=⟨46,2,[.tmp 4],true,false,none,(sr [oO 2 (.boxL 2 (.t 0)),oO 3 (.boxL 3 (.t 1)),oC 4 bF] (.seq (sr [oA 7 2 3,oL 8 3 7,oD 9 .gtr 8 8,oM 10 9,oF 10 11 (.faddr 3 (.t 3)),oF 10 12 (.load (.box 3) false 1 (.t 11)),oF 10 13 (.len 1 (.t 12)),oF 10 14 (.bin 0 [] .gtr (.t 13) (cI 20000)),oO 15 (.pick (.t 10) (.c bT) (.t 14)),oM 16 15,oF 16 17 (.faddr 3 (.t 3)),oF 16 18 (.load (.box 3) false 1 (.t 17)),oF 16 19 (pF 41 [(.t 18),(.c (.fn 42 [] []))]),oO 20 (.pick (.t 16) (.c bT) (.t 19))] (.cond (.t 20) (sr [oC 4 bF] .ret) .skip)) (sr [oLa 21 2 2 2,oLa 22 3 5 3,oA 23 3 3,oL 24 3 23,oY 25 24,oO 26 (.mksliceS 1 (.int .i64 0) 8 (.t 25) (.t 25)),oO 27 (.build [.slice .fit 2 [],.slice .fit 5 [],.str [],.int .i64 0,.int .i64 0,.slice .fit 1 [],.slice .fit 8 [],.slice .fit 1 []] [(0,2,(.t 21)),(2,5,(.t 22)),(7,1,(.t 26))]),oO 28 (.boxI (.t 27)),oM 5 28] (.seq (sr [oA 29 2 3,oL 30 3 29,oZ 31 0] (.block 0 L24_0)) (sr [oM 41 5,oA 42 4 3,oL 43 3 42,oO 44 (.build [.bool false,.bool false,.slice .fit 1 [],.slice .fit 1 [],.slice .fit 1 []] []),cF 45 43 [.t 41,.t 43,.t 44,cI 1],oM 4 45] .ret)))))⟩
theorem ok24:zi Try.prog Try.f24 F24=true:=by kernel_rfl
def L9_0:ICode:= .loop [1,10,11,12] [5]
 (sr [
 oP 13 .lss 12 11]
 (.seq
 (.cond (.t 13)
 .skip
 (.exit 0))
 (.seq
 (.block 1
 (sr [
 oM 14 12,
 oI 15 5 10 12,
 oW 16 5 15,
 oO 5 (.boxL 5 (.c (.agg [.str [],.int .i64 0,.int .i64 0,.slice .fit 1 [],.slice .fit 8 []]))),
 oM 4 14,
 oS 5 5 5 16]
 (sr [
 oLa 17 1 2 1,
 oLa 18 5 5 5,
 cP 19 24 [.t 17,.t 18],
 oU 20 19]
 (.cond (.t 20)
 (sr [
 oM 21 4,
 oZ 2 80,
 oM 3 21]
 .ret)
 .skip))))
 (.region [
 oD 22 .add 12 1,
 oM 12 22]))))
abbrev K9_0:List Nat:=[1,10,11]
abbrev B9_0:List Nat:=[1]
def F9:IFn:=⟨23,1,[.tmp 2,.tmp 3],false,false,none,(sr [oO 1 (.boxL 1 (.t 0)),oZ 2 0,oZ 3 0] (.seq (sr [oLa 6 1 2 1,cP 7 23 [.t 6],oU 8 7] (.cond (.t 8) (sr [oZ 2 1,oZ 3 0] .ret) .skip)) (.seq (sr [oA 9 1 1,oL 10 1 9,oY 11 10,oZ 12 0] (.block 0 L9_0)) (sr [oZ 2 0,oZ 3 0] .ret))))⟩
theorem ok9:zi Try.prog Try.f9 F9=true:=by kernel_rfl
def F68:IFn:=⟨21,1,[.tmp 2],false,false,none,(sr [oC 2 bF] (sr [oM 3 0,oB 4 .geq (.t 3) (.c (.int .u8 97)),oM 5 4,oTm 5 6 0,oT 5 7 (.bin 0 [] .leq (.t 6) (.c (.int .u8 122))),oO 8 (.pick (.t 5) (.t 7) (.c bF)),oM 9 8,oFm 9 10 0,oF 9 11 (.bin 0 [] .geq (.t 10) (.c (.int .u8 65))),oFm 9 12 11,oTm 12 13 0,oT 12 14 (.bin 0 [] .leq (.t 13) (.c (.int .u8 90))),oF 9 15 (.pick (.t 12) (.t 14) (.c bF)),oO 16 (.pick (.t 9) (.c bT) (.t 15)),oM 17 16,oFm 17 18 0,oF 17 19 (.bin 0 [] .eql (.t 18) (.c (.int .u8 95))),oO 20 (.pick (.t 17) (.c bT) (.t 19)),oM 2 20] .ret))⟩
theorem ok68:zi Try.prog Try.f68 F68=true:=by kernel_rfl
def F69:IFn:=⟨23,1,[.tmp 2],false,false,none,(sr [oC 2 bF] (.seq (sr [oM 3 0] (.block 0 (.seq (sr [oB 5 .eql (.t 3) (.c (.str [105,110,116])),oM 4 5] (.cond (.t 4) .skip (sr [oB 6 .eql (.t 3) (.c (.str [98,111,111,108])),oM 4 6] (.cond (.t 4) .skip (sr [oB 7 .eql (.t 3) (.c (.str [105,102])),oM 4 7] (.cond (.t 4) .skip (sr [oB 8 .eql (.t 3) (.c (.str [101,108,115,101])),oM 4 8] (.cond (.t 4) .skip (sr [oB 9 .eql (.t 3) (.c (.str [119,104,105,108,101])),oM 4 9] (.cond (.t 4) .skip (sr [oB 10 .eql (.t 3) (.c (.str [98,114,101,97,107])),oM 4 10] (.cond (.t 4) .skip (sr [oB 11 .eql (.t 3) (.c (.str [99,111,110,116,105,110,117,101])),oM 4 11] (.cond (.t 4) .skip (sr [oB 12 .eql (.t 3) (.c (.str [114,101,116,117,114,110])),oM 4 12] (.cond (.t 4) .skip (sr [oB 13 .eql (.t 3) (.c (.str [112,114,105,110,116])),oM 4 13] (.cond (.t 4) .skip (sr [oB 14 .eql (.t 3) (.c (.str [114,101,97,100])),oM 4 14] (.cond (.t 4) .skip (sr [oB 15 .eql (.t 3) (.c (.str [116,114,117,101])),oM 4 15] (.cond (.t 4) .skip (sr [oB 16 .eql (.t 3) (.c (.str [102,97,108,115,101])),oM 4 16] (.cond (.t 4) .skip (sr [oB 17 .eql (.t 3) (.c (.str [105,56])),oM 4 17] (.cond (.t 4) .skip (sr [oB 18 .eql (.t 3) (.c (.str [105,49,54])),oM 4 18] (.cond (.t 4) .skip (sr [oB 19 .eql (.t 3) (.c (.str [105,51,50])),oM 4 19] (.cond (.t 4) .skip (sr [oB 20 .eql (.t 3) (.c (.str [117,56])),oM 4 20] (.cond (.t 4) .skip (sr [oB 21 .eql (.t 3) (.c (.str [117,49,54])),oM 4 21] (.cond (.t 4) .skip (.region [oB 22 .eql (.t 3) (.c (.str [117,51,50])),oM 4 22]))))))))))))))))))))))))))))))))))) (.cond (.t 4) (sr [oC 2 bT] .ret) .skip)))) (sr [oC 2 bF] .ret)))⟩
theorem ok69:zi Try.prog Try.f69 F69=true:=by kernel_rfl
def F70:IFn:=⟨9,1,[.tmp 2],false,false,none,(sr [oC 2 bF] (sr [oM 3 0,oB 4 .geq (.t 3) (.c (.int .u8 48)),oM 5 4,oTm 5 6 0,oT 5 7 (.bin 0 [] .leq (.t 6) (.c (.int .u8 57))),oO 8 (.pick (.t 5) (.t 7) (.c bF)),oM 2 8] .ret))⟩
theorem ok70:zi Try.prog Try.f70 F70=true:=by kernel_rfl
def L44_0:ICode:= .loop [0,3] []
 (.seq
 (sr [
 oM 21 3,
 oM 22 0,
 oO 23 (.len 0 (.t 22)),
 oP 24 .lss 21 23]
 (.cond (.t 24)
 .skip
 (.exit 0)))
 (.seq
 (.block 1
 (sr [
 oM 27 0,
 oM 28 3,
 oO 29 (.idxS (.t 27) (.t 28)),
 cP 30 68 [.t 29],
 oU 31 30,
 oM 32 31,
 oTm 32 33 0,
 oTm 32 34 3,
 oT 32 35 (.idxS (.t 33) (.t 34)),
 oT 32 36 (pP 70 [.t 35]),
 oT 32 37 (.un .not (.t 36)),
 oO 38 (.pick (.t 32) (.t 37) (.c bF))]
 (.cond (.t 38)
 (sr [
 oC 2 bF]
 .ret)
 .skip)))
 (.region [
 oM 25 3,
 oD 26 .add 25 1,
 oM 3 26])))
abbrev K44_0:List Nat:=[0]
abbrev B44_0:List Nat:=[]
def F44:IFn:=⟨39,1,[.tmp 2],false,false,none,(sr [oC 2 bF] (.seq (sr [oM 4 0,oB 5 .eql (.t 4) (.c (.str [])),oM 6 5,oFm 6 7 0,oF 6 8 (.len 0 (.t 7)),oF 6 9 (.bin 0 [] .gtr (.t 8) (cI 20)),oO 10 (.pick (.t 6) (.c bT) (.t 9)),oM 11 10,oFm 11 12 0,oF 11 13 (.idxS (.t 12) (cI 0)),oF 11 14 (pP 68 [.t 13]),oF 11 15 (.un .not (.t 14)),oO 16 (.pick (.t 11) (.c bT) (.t 15)),oM 17 16,oFm 17 18 0,oF 17 19 (pP 69 [.t 18]),oO 20 (.pick (.t 17) (.c bT) (.t 19))] (.cond (.t 20) (sr [oC 2 bF] .ret) .skip)) (.seq (sr [oZ 3 0] (.block 0 L44_0)) (sr [oC 2 bT] .ret))))⟩
theorem ok44:zi Try.prog Try.f44 F44=true:=by kernel_rfl
def L45_0:ICode:= .loop [1,2,5] []
 (.seq
 (sr [
 oM 6 5,
 oA 7 0 2,
 oL 8 2 7,
 oY 9 8,
 oP 10 .lss 6 9]
 (.cond (.t 10)
 .skip
 (.exit 0)))
 (.seq
 (.block 1
 (sr [
 oA 13 0 2,
 oL 14 2 13,
 oM 15 5,
 oI 16 2 14 15,
 oA 17 0 16,
 oG 18 17,
 oM 19 1,
 oP 20 .eql 18 19]
 (.cond (.t 20)
 (sr [
 oM 21 5,
 oM 4 21]
 .ret)
 .skip)))
 (.region [
 oM 11 5,
 oD 12 .add 11 1,
 oM 5 12])))
abbrev K45_0:List Nat:=[1,2]
abbrev B45_0:List Nat:=[2]
def F45:IFn:=⟨22,2,[.tmp 4],false,false,none,(sr [oO 2 (.boxL 2 (.t 0)),oZ 4 0] (.seq (sr [oZ 5 0] (.block 0 L45_0)) (sr [oO 4 (.mv (cI (-1)))] .ret)))⟩
theorem ok45:zi Try.prog Try.f45 F45=true:=by kernel_rfl
def L46_0:ICode:= .loop [1,2,5] []
 (.seq
 (sr [
 oM 6 5,
 oA 7 1 2,
 oL 8 2 7,
 oY 9 8,
 oP 10 .lss 6 9]
 (.cond (.t 10)
 .skip
 (.exit 0)))
 (.seq
 (.block 1
 (sr [
 oA 13 1 2,
 oL 14 2 13,
 oM 15 5,
 oI 16 5 14 15,
 oA 17 0 16,
 oG 18 17,
 oM 19 1,
 oP 20 .eql 18 19]
 (.cond (.t 20)
 (sr [
 oM 21 5,
 oM 4 21]
 .ret)
 .skip)))
 (.region [
 oM 11 5,
 oD 12 .add 11 1,
 oM 5 12])))
abbrev K46_0:List Nat:=[1,2]
abbrev B46_0:List Nat:=[2]
def F46:IFn:=⟨22,2,[.tmp 4],false,false,none,(sr [oO 2 (.boxL 2 (.t 0)),oZ 4 0] (.seq (sr [oZ 5 0] (.block 0 L46_0)) (sr [oO 4 (.mv (cI (-1)))] .ret)))⟩
theorem ok46:zi Try.prog Try.f46 F46=true:=by kernel_rfl
def L25_0:ICode:= .loop [1,3] [4]
 (.seq
 (sr [
 oM 8 3,
 oA 9 0 1,
 oL 10 1 9,
 oY 11 10,
 oP 12 .lss 8 11]
 (.cond (.t 12)
 .skip
 (.exit 0)))
 (.seq
 (.block 1
 (sr [
 oA 15 0 1,
 oL 16 1 15,
 oM 17 3,
 oI 18 2 16 17,
 oW 19 2 18,
 oO 4 (.boxL 4 (.c (.agg [.str [],.int .i64 0]))),
 oS 4 2 4 19]
 (sr [
 oA 20 0 4,
 oL 21 4 20,
 cP 22 44 [.t 21],
 oU 23 22,
 oM 24 23,
 oF 24 25 (.faddr 1 (.t 4)),
 oF 24 26 (.load (.box 4) false 1 (.t 25)),
 oF 24 27 (.bin 0 [] .lss (.t 26) (cI 1)),
 oO 28 (.pick (.t 24) (.c bT) (.t 27)),
 oM 29 28,
 oF 29 30 (.faddr 1 (.t 4)),
 oF 29 31 (.load (.box 4) false 1 (.t 30)),
 oF 29 32 (.bin 0 [] .gtr (.t 31) (cI 1000)),
 oO 33 (.pick (.t 29) (.c bT) (.t 32)),
 oM 34 33,
 oF 34 35 (.load (.box 1) true 2 (.t 1)),
 oF 34 36 (.faddr 0 (.t 4)),
 oF 34 37 (.load (.box 4) false 1 (.t 36)),
 oF 34 38 (pP 45 [.t 35,.t 37]),
 oFm 34 39 3,
 oF 34 40 (.bin 0 [] .neq (.t 38) (.t 39)),
 oO 41 (.pick (.t 34) (.c bT) (.t 40)),
 oM 42 41,
 oF 42 43 (.load (.box 1) true 2 (.t 1)),
 oF 42 44 (.faddr 0 (.t 4)),
 oF 42 45 (.load (.box 4) false 1 (.t 44)),
 oF 42 46 (pP 46 [.t 43,.t 45]),
 oF 42 47 (.bin 0 [] .geq (.t 46) (cI 0)),
 oO 48 (.pick (.t 42) (.c bT) (.t 47))]
 (.cond (.t 48)
 (sr [
 oC 2 bF]
 .ret)
 .skip))))
 (.region [
 oM 13 3,
 oD 14 .add 13 1,
 oM 3 14])))
def L25_1:ICode:= .loop [1,5] [6]
 (.seq
 (sr [
 oM 49 5,
 oA 50 1 1,
 oL 51 1 50,
 oY 52 51,
 oP 53 .lss 49 52]
 (.cond (.t 53)
 .skip
 (.exit 2)))
 (.seq
 (.block 3
 (sr [
 oA 56 1 1,
 oL 57 1 56,
 oM 58 5,
 oI 59 5 57 58,
 oW 60 5 59,
 oO 6 (.boxL 6 (.c (.agg [.str [],.int .i64 0,.int .i64 0,.slice .fit 1 [],.slice .fit 8 []]))),
 oS 6 5 6 60]
 (sr [
 oA 61 0 6,
 oL 62 6 61,
 cP 63 44 [.t 62],
 oU 64 63,
 oM 65 64,
 oF 65 66 (.load (.box 1) true 2 (.t 1)),
 oF 65 67 (.faddr 0 (.t 6)),
 oF 65 68 (.load (.box 6) false 1 (.t 67)),
 oF 65 69 (pP 46 [.t 66,.t 68]),
 oFm 65 70 5,
 oF 65 71 (.bin 0 [] .neq (.t 69) (.t 70)),
 oO 72 (.pick (.t 65) (.c bT) (.t 71)),
 oM 73 72,
 oF 73 74 (.faddr 1 (.t 6)),
 oF 73 75 (.load (.box 6) false 1 (.t 74)),
 oF 73 76 (.bin 0 [] .neq (.t 75) (cI 1)),
 oFm 73 77 76,
 oT 77 78 (.faddr 1 (.t 6)),
 oT 77 79 (.load (.box 6) false 1 (.t 78)),
 oT 77 80 (.bin 0 [] .neq (.t 79) (cI 2)),
 oF 73 81 (.pick (.t 77) (.t 80) (.c bF)),
 oO 82 (.pick (.t 73) (.c bT) (.t 81)),
 oM 83 82,
 oF 83 84 (.faddr 2 (.t 6)),
 oF 83 85 (.load (.box 6) false 1 (.t 84)),
 oF 83 86 (.bin 0 [] .lss (.t 85) (cI 0)),
 oO 87 (.pick (.t 83) (.c bT) (.t 86)),
 oM 88 87,
 oF 88 89 (.faddr 2 (.t 6)),
 oF 88 90 (.load (.box 6) false 1 (.t 89)),
 oF 88 91 (.faddr 3 (.t 6)),
 oF 88 92 (.load (.box 6) false 1 (.t 91)),
 oF 88 93 (.len 1 (.t 92)),
 oF 88 94 (.bin 0 [] .gtr (.t 90) (.t 93)),
 oO 95 (.pick (.t 88) (.c bT) (.t 94))]
 (.cond (.t 95)
 (sr [
 oC 2 bF]
 .ret)
 .skip))))
 (.region [
 oM 54 5,
 oD 55 .add 54 1,
 oM 5 55])))
abbrev K25_0:List Nat:=[1]
abbrev B25_0:List Nat:=[1]
abbrev K25_1:List Nat:=[1]
abbrev B25_1:List Nat:=[1]
def F25:IFn:=⟨118,1,[.tmp 2],false,false,none,(sr [oO 1 (.boxL 1 (.t 0)),oC 2 bF] (.seq (sr [oZ 3 0] (.block 0 L25_0)) (.seq (sr [oZ 5 0] (.block 2 L25_1)) (sr [oLa 96 1 2 1,cP 97 46 [(.t 96),(.c (.str [109,97,105,110]))],oM 7 97] (sr [oM 98 7,oD 99 .geq 98 0,oM 100 99,oT 100 101 (.faddr 1 (.t 1)),oT 100 102 (.load (.box 1) false 1 (.t 101)),oTm 100 103 7,oT 100 104 (.iaddr 5 (.t 102) (.t 103)),oT 100 105 (.faddr 1 (.t 104)),oT 100 106 (.load .any false 1 (.t 105)),oT 100 107 (.bin 0 [] .eql (.t 106) (cI 1)),oO 108 (.pick (.t 100) (.t 107) (.c bF)),oM 109 108,oT 109 110 (.faddr 1 (.t 1)),oT 109 111 (.load (.box 1) false 1 (.t 110)),oTm 109 112 7,oT 109 113 (.iaddr 5 (.t 111) (.t 112)),oT 109 114 (.faddr 2 (.t 113)),oT 109 115 (.load .any false 1 (.t 114)),oT 109 116 (.bin 0 [] .eql (.t 115) (cI 0)),oO 117 (.pick (.t 109) (.t 116) (.c bF)),oM 2 117] .ret)))))⟩
theorem ok25:zi Try.prog Try.f25 F25=true:=by kernel_rfl
def F86:IFn:=⟨82,1,[.tmp 2],false,false,none,(sr [oO 1 (.boxL 1 (.t 0)),oC 2 bF] (sr [oA 7 0 1,oL 8 1 7,oD 9 .eql 8 3,oM 10 9,oF 10 11 (.faddr 0 (.t 1)),oF 10 12 (.load (.box 1) false 1 (.t 11)),oF 10 13 (.bin 0 [] .eql (.t 12) (cI 4)),oO 14 (.pick (.t 10) (.c bT) (.t 13)),oM 3 14] (sr [oA 15 0 1,oL 16 1 15,oD 17 .eql 16 1,oM 18 17,oF 18 19 (.faddr 0 (.t 1)),oF 18 20 (.load (.box 1) false 1 (.t 19)),oF 18 21 (.bin 0 [] .eql (.t 20) (cI 2)),oO 22 (.pick (.t 18) (.c bT) (.t 21)),oM 4 22] (sr [oA 23 0 1,oL 24 1 23,oD 25 .eql 24 5,oM 26 25,oF 26 27 (.faddr 0 (.t 1)),oF 26 28 (.load (.box 1) false 1 (.t 27)),oF 26 29 (.bin 0 [] .eql (.t 28) (cI 6)),oO 30 (.pick (.t 26) (.c bT) (.t 29)),oM 31 30,oF 31 32 (.faddr 0 (.t 1)),oF 31 33 (.load (.box 1) false 1 (.t 32)),oF 31 34 (.bin 0 [] .eql (.t 33) (cI 7)),oO 35 (.pick (.t 31) (.c bT) (.t 34)),oM 5 35] (sr [oZ 6 0] (.seq (sr [oA 36 0 1,oL 37 1 36,oD 38 .eql 37 10] (.cond (.t 38) (.region [oZ 6 2]) .skip)) (.seq (sr [oA 39 0 1,oL 40 1 39,oD 41 .eql 40 11] (.cond (.t 41) (.region [oZ 6 1]) .skip)) (sr [oM 42 3,oM 43 42,oF 43 44 (.faddr 1 (.t 1)),oF 43 45 (.load (.box 1) false 1 (.t 44)),oF 43 46 (.bin 0 [] .eql (.t 45) (cI 0)),oO 47 (.pick (.t 43) (.c bT) (.t 46)),oM 48 47,oTm 48 49 4,oTm 48 50 49,oF 50 51 (.faddr 2 (.t 1)),oF 50 52 (.load (.box 1) false 1 (.t 51)),oF 50 53 (.bin 0 [] .eql (.t 52) (cI 0)),oT 48 54 (.pick (.t 50) (.c bT) (.t 53)),oO 55 (.pick (.t 48) (.t 54) (.c bF)),oM 56 55,oTm 56 57 5,oTm 56 58 57,oF 58 59 (.faddr 3 (.t 1)),oF 58 60 (.load (.box 1) false 1 (.t 59)),oF 58 61 (.bin 0 [] .eql (.t 60) (.c (.str []))),oT 56 62 (.pick (.t 58) (.c bT) (.t 61)),oO 63 (.pick (.t 56) (.t 62) (.c bF)),oM 64 63,oT 64 65 (.faddr 7 (.t 1)),oT 64 66 (.load (.box 1) false 1 (.t 65)),oT 64 67 (.len 1 (.t 66)),oTm 64 68 6,oT 64 69 (.bin 0 [] .eql (.t 67) (.t 68)),oO 70 (.pick (.t 64) (.t 69) (.c bF)),oM 71 70,oT 71 72 (.faddr 0 (.t 1)),oT 71 73 (.load (.box 1) false 1 (.t 72)),oT 71 74 (.bin 0 [] .eql (.t 73) (cI 11)),oTm 71 75 74,oF 75 76 (.faddr 6 (.t 1)),oF 75 77 (.load (.box 1) false 1 (.t 76)),oF 75 78 (.len 1 (.t 77)),oF 75 79 (.bin 0 [] .eql (.t 78) (cI 0)),oT 71 80 (.pick (.t 75) (.c bT) (.t 79)),oO 81 (.pick (.t 71) (.t 80) (.c bF)),oM 2 81] .ret))))))))⟩
theorem ok86:zi Try.prog Try.f86 F86=true:=by kernel_rfl
def L87_0:ICode:= .loop [0,1,5,6] []
 (.seq
 (sr [
 oM 7 6,
 oM 8 1,
 oY 9 8,
 oP 10 .lss 7 9]
 (.cond (.t 10)
 .skip
 (.exit 0)))
 (.seq
 (.block 1
 (.seq
 (sr [
 oM 13 1,
 oM 14 6,
 oI 15 1 13 14,
 oH 16 15,
 oD 17 .lss 16 0,
 oM 18 17,
 oFm 18 19 1,
 oFm 18 20 6,
 oF 18 21 (.iaddr 1 (.t 19) (.t 20)),
 oF 18 22 (.load .imm false 1 (.t 21)),
 oFm 18 23 0,
 oF 18 24 (.nilck (.t 23)),
 oF 18 25 (.faddr 2 (.t 24)),
 oF 18 26 (.faddr 3 (.t 25)),
 oF 18 27 (.load .imm false 1 (.t 26)),
 oF 18 28 (.len 1 (.t 27)),
 oF 18 29 (.bin 0 [] .geq (.t 22) (.t 28)),
 oO 30 (.pick (.t 18) (.c bT) (.t 29))]
 (.cond (.t 30)
 (sr [
 oC 4 (.slice .fit 1 [])]
 .ret)
 .skip))
 (.region [
 oE 31 5,
 oM 32 0,
 oK 33 32,
 oA 34 2 33,
 oA 35 3 34,
 oH 36 35,
 oM 37 1,
 oM 38 6,
 oI 39 1 37 38,
 oH 40 39,
 oI 41 1 36 40,
 oH 42 41,
 oO 43 (.bslice 1 (.int .i64 0) 1 [(0,(.t 42))]),
 oO 44 (.append 1 8 (.t 31) (.t 43)),
 oE 5 44])))
 (.region [
 oM 11 6,
 oD 12 .add 11 1,
 oM 6 12])))
abbrev K87_0:List Nat:=[0,1]
abbrev B87_0:List Nat:=[]
def F87:IFn:=⟨46,2,[.tmp 4],false,false,none,(sr [oC 4 (.slice .fit 1 [])] (sr [oC 5 (.slice .fit 1 [])] (.seq (sr [oZ 6 0] (.block 0 L87_0)) (sr [oE 45 5,oE 4 45] .ret))))⟩
theorem ok87:zi Try.prog Try.f87 F87=true:=by kernel_rfl
def L100_0:ICode:= .loop [0,1,5] []
 (.seq
 (sr [
 oM 6 5,
 oM 7 0,
 oY 8 7,
 oP 9 .lss 6 8]
 (.cond (.t 9)
 .skip
 (.exit 0)))
 (.seq
 (.block 1
 (sr [
 oM 12 0,
 oM 13 5,
 oI 14 1 12 13,
 oG 15 14,
 oM 16 1,
 oP 17 .eql 15 16]
 (.cond (.t 17)
 (sr [
 oC 4 bT]
 .ret)
 .skip)))
 (.region [
 oM 10 5,
 oD 11 .add 10 1,
 oM 5 11])))
abbrev K100_0:List Nat:=[0,1]
abbrev B100_0:List Nat:=[]
def F100:IFn:=⟨18,2,[.tmp 4],false,false,none,(sr [oC 4 bF] (.seq (sr [oZ 5 0] (.block 0 L100_0)) (sr [oC 4 bF] .ret)))⟩
theorem ok100:zi Try.prog Try.f100 F100=true:=by kernel_rfl
def L88_0:ICode:= .loop [0,1,2,3,9] []
 (.seq
 (sr [
 oM 15 9,
 oM 16 1,
 oY 17 16,
 oP 18 .lss 15 17]
 (.cond (.t 18)
 .skip
 (.exit 0)))
 (.seq
 (.block 1
 (sr [
 oM 21 1,
 oM 22 9,
 oI 23 1 21 22,
 oH 24 23,
 oD 25 .lss 24 0,
 oM 26 25,
 oFm 26 27 1,
 oFm 26 28 9,
 oF 26 29 (.iaddr 1 (.t 27) (.t 28)),
 oF 26 30 (.load .imm false 1 (.t 29)),
 oFm 26 31 0,
 oF 26 32 (.nilck (.t 31)),
 oF 26 33 (.faddr 2 (.t 32)),
 oF 26 34 (.faddr 3 (.t 33)),
 oF 26 35 (.load .imm false 1 (.t 34)),
 oF 26 36 (.len 1 (.t 35)),
 oF 26 37 (.bin 0 [] .geq (.t 30) (.t 36)),
 oO 38 (.pick (.t 26) (.c bT) (.t 37)),
 oM 39 38,
 oFm 39 40 2,
 oFm 39 41 1,
 oFm 39 42 9,
 oF 39 43 (.iaddr 1 (.t 41) (.t 42)),
 oF 39 44 (.load .imm false 1 (.t 43)),
 oF 39 45 (pP 100 [.t 40,.t 44]),
 oF 39 46 (.un .not (.t 45)),
 oO 47 (.pick (.t 39) (.c bT) (.t 46)),
 oM 48 47,
 oFm 48 49 3,
 oFm 48 50 9,
 oF 48 51 (.iaddr 1 (.t 49) (.t 50)),
 oF 48 52 (.load .imm false 1 (.t 51)),
 oF 48 53 (.bin 0 [] .neq (.t 52) (cI 0)),
 oFm 48 54 53,
 oTm 54 55 0,
 oT 54 56 (.nilck (.t 55)),
 oT 54 57 (.faddr 2 (.t 56)),
 oT 54 58 (.faddr 3 (.t 57)),
 oT 54 59 (.load .imm false 1 (.t 58)),
 oTm 54 60 1,
 oTm 54 61 9,
 oT 54 62 (.iaddr 1 (.t 60) (.t 61)),
 oT 54 63 (.load .imm false 1 (.t 62)),
 oT 54 64 (.iaddr 1 (.t 59) (.t 63)),
 oT 54 65 (.load .imm false 1 (.t 64)),
 oTm 54 66 3,
 oTm 54 67 9,
 oT 54 68 (.iaddr 1 (.t 66) (.t 67)),
 oT 54 69 (.load .imm false 1 (.t 68)),
 oT 54 70 (.bin 0 [] .neq (.t 65) (.t 69)),
 oF 48 71 (.pick (.t 54) (.t 70) (.c bF)),
 oO 72 (.pick (.t 48) (.c bT) (.t 71))]
 (.cond (.t 72)
 (sr [
 oC 8 bF]
 .ret)
 .skip)))
 (.region [
 oM 19 9,
 oD 20 .add 19 1,
 oM 9 20])))
abbrev K88_0:List Nat:=[0,1,2,3]
abbrev B88_0:List Nat:=[]
def F88:IFn:=⟨73,4,[.tmp 8],false,false,none,(sr [oC 8 bF] (.seq (sr [oM 10 1,oY 11 10,oM 12 3,oY 13 12,oP 14 .neq 11 13] (.cond (.t 14) (sr [oC 8 bF] .ret) .skip)) (.seq (sr [oZ 9 0] (.block 0 L88_0)) (sr [oC 8 bT] .ret))))⟩
theorem ok88:zi Try.prog Try.f88 F88=true:=by kernel_rfl
def L89_0:ICode:= .loop [0,1,2,7] []
 (.seq
 (sr [
 oM 13 7,
 oM 14 1,
 oY 15 14,
 oP 16 .lss 13 15]
 (.cond (.t 16)
 .skip
 (.exit 0)))
 (.seq
 (.block 1
 (.seq
 (sr [
 oM 19 1,
 oM 20 7,
 oI 21 1 19 20,
 oH 22 21,
 oD 23 .lss 22 0,
 oM 24 23,
 oFm 24 25 1,
 oFm 24 26 7,
 oF 24 27 (.iaddr 1 (.t 25) (.t 26)),
 oF 24 28 (.load .imm false 1 (.t 27)),
 oFm 24 29 0,
 oF 24 30 (.nilck (.t 29)),
 oF 24 31 (.faddr 2 (.t 30)),
 oF 24 32 (.faddr 3 (.t 31)),
 oF 24 33 (.load .imm false 1 (.t 32)),
 oF 24 34 (.len 1 (.t 33)),
 oF 24 35 (.bin 0 [] .geq (.t 28) (.t 34)),
 oO 36 (.pick (.t 24) (.c bT) (.t 35)),
 oM 37 36,
 oFm 37 38 0,
 oF 37 39 (.nilck (.t 38)),
 oF 37 40 (.faddr 7 (.t 39)),
 oF 37 41 (.load .imm false 1 (.t 40)),
 oFm 37 42 1,
 oFm 37 43 7,
 oF 37 44 (.iaddr 1 (.t 42) (.t 43)),
 oF 37 45 (.load .imm false 1 (.t 44)),
 oF 37 46 (.iaddr 1 (.t 41) (.t 45)),
 oF 37 47 (.load .any false 1 (.t 46)),
 oO 48 (.pick (.t 37) (.c bT) (.t 47)),
 oM 49 48,
 oFm 49 50 2,
 oFm 49 51 7,
 oF 49 52 (.iaddr 1 (.t 50) (.t 51)),
 oF 49 53 (.load .imm false 1 (.t 52)),
 oF 49 54 (.bin 0 [] .neq (.t 53) (cI 0)),
 oFm 49 55 54,
 oTm 55 56 0,
 oT 55 57 (.nilck (.t 56)),
 oT 55 58 (.faddr 2 (.t 57)),
 oT 55 59 (.faddr 3 (.t 58)),
 oT 55 60 (.load .imm false 1 (.t 59)),
 oTm 55 61 1,
 oTm 55 62 7,
 oT 55 63 (.iaddr 1 (.t 61) (.t 62)),
 oT 55 64 (.load .imm false 1 (.t 63)),
 oT 55 65 (.iaddr 1 (.t 60) (.t 64)),
 oT 55 66 (.load .imm false 1 (.t 65)),
 oTm 55 67 2,
 oTm 55 68 7,
 oT 55 69 (.iaddr 1 (.t 67) (.t 68)),
 oT 55 70 (.load .imm false 1 (.t 69)),
 oT 55 71 (.bin 0 [] .neq (.t 66) (.t 70)),
 oF 49 72 (.pick (.t 55) (.t 71) (.c bF)),
 oO 73 (.pick (.t 49) (.c bT) (.t 72))]
 (.cond (.t 73)
 (sr [
 oC 6 bF]
 .ret)
 .skip))
 (.region [
 oM 74 0,
 oK 75 74,
 oA 76 7 75,
 oH 77 76,
 oM 78 1,
 oM 79 7,
 oI 80 1 78 79,
 oH 81 80,
 oI 82 1 77 81,
 oN (.store .any 1 (.t 82) (.c bT))])))
 (.region [
 oM 17 7,
 oD 18 .add 17 1,
 oM 7 18])))
abbrev K89_0:List Nat:=[0,1,2]
abbrev B89_0:List Nat:=[]
def F89:IFn:=⟨83,3,[.tmp 6],false,false,none,(sr [oC 6 bF] (.seq (sr [oM 8 1,oY 9 8,oM 10 2,oY 11 10,oP 12 .neq 9 11] (.cond (.t 12) (sr [oC 6 bF] .ret) .skip)) (.seq (sr [oZ 7 0] (.block 0 L89_0)) (sr [oC 6 bT] .ret))))⟩
theorem ok89:zi Try.prog Try.f89 F89=true:=by kernel_rfl
def F101:IFn:=⟨29,1,[.tmp 2,.tmp 3],false,false,none,(sr [oZ 2 0,oZ 3 0] (.seq (.block 0 (sr [oM 5 0,oD 6 .eql 5 18,oM 7 6,oFm 7 8 0,oF 7 9 (.bin 0 [] .eql (.t 8) (cI 19)),oO 10 (.pick (.t 7) (.c bT) (.t 9)),oM 11 10,oFm 11 12 0,oF 11 13 (.bin 0 [] .eql (.t 12) (cI 22)),oO 14 (.pick (.t 11) (.c bT) (.t 13)),oM 4 14] (.cond (.t 4) (sr [oZ 2 2,oZ 3 2] .ret) (sr [oM 16 0,oD 17 .eql 16 16,oM 18 17,oFm 18 19 0,oF 18 20 (.bin 0 [] .eql (.t 19) (cI 17)),oO 21 (.pick (.t 18) (.c bT) (.t 20)),oM 15 21] (.cond (.t 15) (sr [oZ 2 0,oZ 3 2] .ret) (sr [oM 23 0,oD 24 .geq 23 12,oM 25 24,oTm 25 26 0,oT 25 27 (.bin 0 [] .leq (.t 26) (cI 15)),oO 28 (.pick (.t 25) (.t 27) (.c bF)),oM 22 28] (.cond (.t 22) (sr [oZ 2 1,oZ 3 2] .ret) .skip))))))) (sr [oZ 2 1,oZ 3 1] .ret)))⟩
theorem ok101:zi Try.prog Try.f101 F101=true:=by kernel_rfl
def F102:IFn:=⟨9,1,[.tmp 2],false,false,none,(sr [oC 2 bF] (sr [oM 3 0,oD 4 .geq 3 20,oM 5 4,oTm 5 6 0,oT 5 7 (.bin 0 [] .leq (.t 6) (cI 28)),oO 8 (.pick (.t 5) (.t 7) (.c bF)),oM 2 8] .ret))⟩
theorem ok102:zi Try.prog Try.f102 F102=true:=by kernel_rfl
def F103:IFn:=⟨9,1,[.tmp 2],false,false,none,(sr [oC 2 bF] (sr [oM 3 0,oD 4 .geq 3 1,oM 5 4,oTm 5 6 0,oT 5 7 (.bin 0 [] .leq (.t 6) (cI 17)),oO 8 (.pick (.t 5) (.t 7) (.c bF)),oM 2 8] .ret))⟩
theorem ok103:zi Try.prog Try.f103 F103=true:=by kernel_rfl
def F90:IFn:=⟨345,4,[.tmp 8],false,false,none,(sr [oO 5 (.boxL 5 (.t 1)),oO 7 (.boxL 7 (.t 3)),oC 8 bF] (sr [oO 16 (.bslice 1 (.int .i64 0) 1 [(0,(cI 1))]),oO 17 (.bslice 1 (.int .i64 0) 1 [(0,(cI 2))]),oE 9 16,oE 10 17] (.seq (sr [oA 18 0 5,oL 19 5 18] (.block 0 (sr [oD 21 .eql 19 1,oM 20 21] (.cond (.t 20) (sr [oM 22 0,oA 23 4 5,oL 24 5 23,oE 25 2,cF 26 88 [(.t 22),(.t 24),(.t 25),(.c (.slice .fit 1 []))],oM 27 26,oTm 27 28 0,oT 27 29 (.faddr 5 (.t 5)),oT 27 30 (.load (.box 5) false 1 (.t 29)),oT 27 31 (.take 9),oT 27 32 (pF 89 [.t 28,.t 30,.t 31]),oO 33 (.pick (.t 27) (.t 32) (.c bF)),oM 8 33] .ret) (sr [oD 35 .eql 19 2,oM 34 35] (.cond (.t 34) (sr [oA 36 2 5,oL 37 5 36,oD 38 .eql 37 0,oM 39 38,oF 39 40 (.faddr 2 (.t 5)),oF 39 41 (.load (.box 5) false 1 (.t 40)),oF 39 42 (.bin 0 [] .eql (.t 41) (cI 1)),oO 43 (.pick (.t 39) (.c bT) (.t 42)),oM 44 43,oTm 44 45 0,oT 44 46 (.faddr 4 (.t 5)),oT 44 47 (.load (.box 5) false 1 (.t 46)),oT 44 48 (.take 2),oT 44 49 (pF 88 [(.t 45),(.t 47),(.t 48),(.c (.slice .fit 1 []))]),oO 50 (.pick (.t 44) (.t 49) (.c bF)),oM 51 50,oTm 51 52 0,oT 51 53 (.faddr 5 (.t 5)),oT 51 54 (.load (.box 5) false 1 (.t 53)),oT 51 55 (.take 10),oT 51 56 (pF 89 [.t 52,.t 54,.t 55]),oO 57 (.pick (.t 51) (.t 56) (.c bF)),oM 8 57] .ret) (sr [oD 59 .eql 19 3,oM 58 59] (.cond (.t 58) (sr [oA 61 1 5,oL 62 5 61,cP 63 101 [.t 62],oM 60 63,oX 64 60 0,oX 65 60 1,oM 11 64,oM 12 65] (sr [oA 66 1 5,oL 67 5 66,cP 68 102 [.t 67],oM 69 68,oTm 69 70 0,oT 69 71 (.faddr 4 (.t 5)),oT 69 72 (.load (.box 5) false 1 (.t 71)),oT 69 73 (.take 2),oTm 69 74 11,oT 69 75 (.bslice 1 (.int .i64 0) 1 [(0,(.t 74))]),oT 69 76 (pF 88 [.t 70,.t 72,.t 73,.t 75]),oO 77 (.pick (.t 69) (.t 76) (.c bF)),oM 78 77,oTm 78 79 0,oT 78 80 (.faddr 5 (.t 5)),oT 78 81 (.load (.box 5) false 1 (.t 80)),oTm 78 82 12,oT 78 83 (.bslice 1 (.int .i64 0) 1 [(0,(.t 82))]),oT 78 84 (pF 89 [.t 79,.t 81,.t 83]),oO 85 (.pick (.t 78) (.t 84) (.c bF)),oM 8 85] .ret)) (sr [oD 87 .eql 19 4,oM 86 87] (.cond (.t 86) (sr [oA 89 1 5,oL 90 5 89,cP 91 101 [.t 90],oM 88 91,oX 92 88 0,oX 93 88 1,oM 13 92,oM 14 93] (sr [oA 94 1 5,oL 95 5 94,cP 96 103 [.t 95],oM 97 96,oTm 97 98 0,oT 97 99 (.faddr 4 (.t 5)),oT 97 100 (.load (.box 5) false 1 (.t 99)),oT 97 101 (.take 2),oTm 97 102 13,oTm 97 103 13,oT 97 104 (.bslice 1 (.int .i64 0) 2 [(0,(.t 102)),(1,(.t 103))]),oT 97 105 (pF 88 [.t 98,.t 100,.t 101,.t 104]),oO 106 (.pick (.t 97) (.t 105) (.c bF)),oM 107 106,oTm 107 108 0,oT 107 109 (.nilck (.t 108)),oT 107 110 (.faddr 2 (.t 109)),oT 107 111 (.faddr 3 (.t 110)),oT 107 112 (.load .imm false 1 (.t 111)),oT 107 113 (.faddr 4 (.t 5)),oT 107 114 (.load (.box 5) false 1 (.t 113)),oT 107 115 (.iaddr 1 (.t 114) (cI 0)),oT 107 116 (.load .imm false 1 (.t 115)),oT 107 117 (.iaddr 1 (.t 112) (.t 116)),oT 107 118 (.load .imm false 1 (.t 117)),oTm 107 119 0,oT 107 120 (.nilck (.t 119)),oT 107 121 (.faddr 2 (.t 120)),oT 107 122 (.faddr 3 (.t 121)),oT 107 123 (.load .imm false 1 (.t 122)),oT 107 124 (.faddr 4 (.t 5)),oT 107 125 (.load (.box 5) false 1 (.t 124)),oT 107 126 (.iaddr 1 (.t 125) (cI 1)),oT 107 127 (.load .imm false 1 (.t 126)),oT 107 128 (.iaddr 1 (.t 123) (.t 127)),oT 107 129 (.load .imm false 1 (.t 128)),oT 107 130 (.bin 0 [] .eql (.t 118) (.t 129)),oO 131 (.pick (.t 107) (.t 130) (.c bF)),oM 132 131,oTm 132 133 0,oT 132 134 (.faddr 5 (.t 5)),oT 132 135 (.load (.box 5) false 1 (.t 134)),oTm 132 136 14,oT 132 137 (.bslice 1 (.int .i64 0) 1 [(0,(.t 136))]),oT 132 138 (pF 89 [.t 133,.t 135,.t 137]),oO 139 (.pick (.t 132) (.t 138) (.c bF)),oM 8 139] .ret)) (sr [oD 141 .eql 19 5,oM 140 141] (.cond (.t 140) (sr [oM 142 0,oK 143 142,oA 144 0 143,oO 145 (.load .imm true 2 (.t 144)),oA 146 3 5,oL 147 5 146,cP 148 45 [.t 145,.t 147],oD 149 .geq 148 0,oM 150 149,oTm 150 151 0,oT 150 152 (.faddr 4 (.t 5)),oT 150 153 (.load (.box 5) false 1 (.t 152)),oT 150 154 (.take 2),oTm 150 155 9,oT 150 156 (pF 88 [.t 151,.t 153,.t 154,.t 155]),oO 157 (.pick (.t 150) (.t 156) (.c bF)),oM 158 157,oTm 158 159 0,oT 158 160 (.faddr 5 (.t 5)),oT 158 161 (.load (.box 5) false 1 (.t 160)),oTm 158 162 9,oT 158 163 (pF 89 [.t 159,.t 161,.t 162]),oO 164 (.pick (.t 158) (.t 163) (.c bF)),oM 8 164] .ret) (sr [oD 166 .eql 19 6,oM 165 166] (.cond (.t 165) (sr [oM 167 0,oK 168 167,oA 169 0 168,oO 170 (.load .imm true 2 (.t 169)),oA 171 3 5,oL 172 5 171,cP 173 45 [.t 170,.t 172],oD 174 .geq 173 0,oM 175 174,oTm 175 176 0,oT 175 177 (.faddr 4 (.t 5)),oT 175 178 (.load (.box 5) false 1 (.t 177)),oT 175 179 (.take 2),oT 175 180 (.bslice 1 (.int .i64 0) 2 [(0,(cI 1)),(1,(cI 1))]),oT 175 181 (pF 88 [.t 176,.t 178,.t 179,.t 180]),oO 182 (.pick (.t 175) (.t 181) (.c bF)),oM 183 182,oT 183 184 (.faddr 5 (.t 5)),oT 183 185 (.load (.box 5) false 1 (.t 184)),oT 183 186 (.len 1 (.t 185)),oT 183 187 (.bin 0 [] .eql (.t 186) (cI 0)),oO 188 (.pick (.t 183) (.t 187) (.c bF)),oM 8 188] .ret) (sr [oD 190 .eql 19 7,oM 189 190] (.cond (.t 189) (sr [oM 191 0,oK 192 191,oA 193 0 192,oO 194 (.load .imm true 2 (.t 193)),oA 195 3 5,oL 196 5 195,cP 197 46 [.t 194,.t 196],oM 15 197] (sr [oM 198 15,oD 199 .geq 198 0,oM 200 199,oTm 200 201 0,oT 200 202 (.faddr 4 (.t 5)),oT 200 203 (.load (.box 5) false 1 (.t 202)),oT 200 204 (.take 2),oTm 200 205 0,oT 200 206 (.nilck (.t 205)),oT 200 207 (.faddr 0 (.t 206)),oT 200 208 (.faddr 1 (.t 207)),oT 200 209 (.load .imm false 1 (.t 208)),oTm 200 210 15,oT 200 211 (.iaddr 5 (.t 209) (.t 210)),oT 200 212 (.faddr 3 (.t 211)),oT 200 213 (.load .imm false 1 (.t 212)),oTm 200 214 0,oT 200 215 (.nilck (.t 214)),oT 200 216 (.faddr 0 (.t 215)),oT 200 217 (.faddr 1 (.t 216)),oT 200 218 (.load .imm false 1 (.t 217)),oTm 200 219 15,oT 200 220 (.iaddr 5 (.t 218) (.t 219)),oT 200 221 (.faddr 2 (.t 220)),oT 200 222 (.load .imm false 1 (.t 221)),oT 200 223 (.slc false 1 (.t 213) none (some (.t 222)) none),oT 200 224 (pF 88 [.t 201,.t 203,.t 204,.t 223]),oO 225 (.pick (.t 200) (.t 224) (.c bF)),oM 226 225,oTm 226 227 0,oT 226 228 (.faddr 5 (.t 5)),oT 226 229 (.load (.box 5) false 1 (.t 228)),oTm 226 230 0,oT 226 231 (.nilck (.t 230)),oT 226 232 (.faddr 0 (.t 231)),oT 226 233 (.faddr 1 (.t 232)),oT 226 234 (.load .imm false 1 (.t 233)),oTm 226 235 15,oT 226 236 (.iaddr 5 (.t 234) (.t 235)),oT 226 237 (.faddr 1 (.t 236)),oT 226 238 (.load .imm false 1 (.t 237)),oT 226 239 (.bslice 1 (.int .i64 0) 1 [(0,(.t 238))]),oT 226 240 (pF 89 [.t 227,.t 229,.t 239]),oO 241 (.pick (.t 226) (.t 240) (.c bF)),oM 8 241] .ret)) (sr [oD 243 .eql 19 8,oM 242 243] (.cond (.t 242) (sr [oA 244 4 5,oL 245 5 244,oY 246 245,oD 247 .eql 246 0,oM 248 247,oTm 248 249 0,oT 248 250 (.faddr 5 (.t 5)),oT 248 251 (.load (.box 5) false 1 (.t 250)),oT 248 252 (.take 9),oT 248 253 (pF 89 [.t 249,.t 251,.t 252]),oO 254 (.pick (.t 248) (.t 253) (.c bF)),oM 8 254] .ret) (sr [oD 256 .eql 19 9,oM 255 256] (.cond (.t 255) (sr [oM 257 0,oA 258 4 5,oL 259 5 258,oE 260 2,oE 261 9,cF 262 88 [.t 257,.t 259,.t 260,.t 261],oM 263 262,oT 263 264 (.faddr 5 (.t 5)),oT 263 265 (.load (.box 5) false 1 (.t 264)),oT 263 266 (.len 1 (.t 265)),oT 263 267 (.bin 0 [] .eql (.t 266) (cI 0)),oO 268 (.pick (.t 263) (.t 267) (.c bF)),oM 8 268] .ret) (sr [oD 270 .eql 19 12,oM 269 270] (.cond (.t 269) (sr [oA 271 0 7,oL 272 7 271,oM 273 272,oTm 273 274 0,oT 273 275 (.faddr 4 (.t 5)),oT 273 276 (.load (.box 5) false 1 (.t 275)),oT 273 277 (.take 2),oT 273 278 (.faddr 2 (.t 7)),oT 273 279 (.load (.box 7) false 1 (.t 278)),oT 273 280 (pF 88 [.t 274,.t 276,.t 277,.t 279]),oO 281 (.pick (.t 273) (.t 280) (.c bF)),oM 282 281,oT 282 283 (.faddr 5 (.t 5)),oT 282 284 (.load (.box 5) false 1 (.t 283)),oT 282 285 (.len 1 (.t 284)),oT 282 286 (.bin 0 [] .eql (.t 285) (cI 0)),oO 287 (.pick (.t 282) (.t 286) (.c bF)),oM 8 287] .ret) (sr [oD 289 .eql 19 13,oM 288 289] (.cond (.t 288) (sr [oA 290 1 7,oL 291 7 290,oM 292 291,oTm 292 293 0,oT 292 294 (.faddr 4 (.t 5)),oT 292 295 (.load (.box 5) false 1 (.t 294)),oT 292 296 (.take 2),oT 292 297 (.faddr 3 (.t 7)),oT 292 298 (.load (.box 7) false 1 (.t 297)),oT 292 299 (pF 88 [.t 293,.t 295,.t 296,.t 298]),oO 300 (.pick (.t 292) (.t 299) (.c bF)),oM 301 300,oT 301 302 (.faddr 5 (.t 5)),oT 301 303 (.load (.box 5) false 1 (.t 302)),oT 301 304 (.len 1 (.t 303)),oT 301 305 (.bin 0 [] .eql (.t 304) (cI 0)),oO 306 (.pick (.t 301) (.t 305) (.c bF)),oM 8 306] .ret) (sr [oD 308 .eql 19 14,oM 307 308] (.cond (.t 307) (sr [oA 309 1 7,oL 310 7 309,oM 311 310,oTm 311 312 0,oT 311 313 (.faddr 4 (.t 5)),oT 311 314 (.load (.box 5) false 1 (.t 313)),oT 311 315 (.take 2),oT 311 316 (.faddr 4 (.t 7)),oT 311 317 (.load (.box 7) false 1 (.t 316)),oT 311 318 (pF 88 [.t 312,.t 314,.t 315,.t 317]),oO 319 (.pick (.t 311) (.t 318) (.c bF)),oM 320 319,oT 320 321 (.faddr 5 (.t 5)),oT 320 322 (.load (.box 5) false 1 (.t 321)),oT 320 323 (.len 1 (.t 322)),oT 320 324 (.bin 0 [] .eql (.t 323) (cI 0)),oO 325 (.pick (.t 320) (.t 324) (.c bF)),oM 8 325] .ret) (sr [oD 327 .eql 19 15,oM 326 327] (.cond (.t 326) (sr [oM 328 0,oA 329 4 5,oL 330 5 329,oE 331 2,oM 332 0,oK 333 332,oA 334 2 333,oA 335 1 334,oH 336 335,oO 337 (.bslice 1 (.int .i64 0) 1 [(0,(.t 336))]),cF 338 88 [.t 328,.t 330,.t 331,.t 337],oM 339 338,oT 339 340 (.faddr 5 (.t 5)),oT 339 341 (.load (.box 5) false 1 (.t 340)),oT 339 342 (.len 1 (.t 341)),oT 339 343 (.bin 0 [] .eql (.t 342) (cI 0)),oO 344 (.pick (.t 339) (.t 343) (.c bF)),oM 8 344] .ret) .skip)))))))))))))))))))))))))))) (sr [oC 8 bF] .ret))))⟩
theorem ok90:zi Try.prog Try.f90 F90=true:=by kernel_rfl
def F71:IFn:=⟨160,5,[.tmp 10],false,false,none,(sr [oO 6 (.boxL 6 (.t 1)),oO 8 (.boxL 8 (.t 3)),oC 10 bF] (.seq (sr [oLa 15 6 8 6,cP 16 86 [.t 15],oU 17 16] (.cond (.t 17) (sr [oC 10 bF] .ret) .skip)) (.seq (sr [oA 18 0 6,oL 19 6 18] (.block 0 (sr [oD 21 .eql 19 10,oM 20 21] (.cond (.t 20) (sr [oA 22 1 8,oL 23 8 22,oM 24 0,oA 25 5 6,oL 26 6 25,cF 27 87 [.t 24,.t 26],oA 28 3 8,oL 29 8 28,oA 30 4 8,oL 31 8 30,oO 32 (.build [.bool false,.bool false,.slice .fit 1 [],.slice .fit 1 [],.slice .fit 1 []] [(0,1,(.c bT)),(1,1,(.t 23)),(2,1,(.t 27)),(3,1,(.t 29)),(4,1,(.t 31))]),oO 11 (.boxL 11 (.c (.agg [.bool false,.bool false,.slice .fit 1 [],.slice .fit 1 [],.slice .fit 1 []]))),oS 11 5 11 32] (sr [oM 33 0,oA 34 4 6,oL 35 6 34,oM 36 2,oO 37 (.bslice 1 (.int .i64 0) 1 [(0,(cI 2))]),cF 38 88 [.t 33,.t 35,.t 36,.t 37],oM 39 38,oTm 39 40 0,oT 39 41 (.faddr 7 (.t 6)),oT 39 42 (.load (.box 6) false 1 (.t 41)),oT 39 43 (.iaddr 1 (.t 42) (cI 0)),oT 39 44 (.load .imm false 1 (.t 43)),oTm 39 45 2,oT 39 46 (.load (.box 11) true 5 (.t 11)),oTm 39 47 4,oT 39 48 (.bin 0 [] .add (.t 47) (cI 1)),oT 39 49 (pF 47 [.t 40,.t 44,.t 45,.t 46,.t 48]),oO 50 (.pick (.t 39) (.t 49) (.c bF)),oM 51 50,oTm 51 52 0,oT 51 53 (.faddr 7 (.t 6)),oT 51 54 (.load (.box 6) false 1 (.t 53)),oT 51 55 (.iaddr 1 (.t 54) (cI 1)),oT 51 56 (.load .imm false 1 (.t 55)),oTm 51 57 2,oT 51 58 (.load (.box 11) true 5 (.t 11)),oTm 51 59 4,oT 51 60 (.bin 0 [] .add (.t 59) (cI 1)),oT 51 61 (pF 47 [.t 52,.t 56,.t 57,.t 58,.t 60]),oO 62 (.pick (.t 51) (.t 61) (.c bF)),oM 12 62] (sr [oM 63 12,oM 64 63,oT 64 65 (.faddr 5 (.t 6)),oT 64 66 (.load (.box 6) false 1 (.t 65)),oT 64 67 (.len 1 (.t 66)),oT 64 68 (.bin 0 [] .eql (.t 67) (cI 0)),oTm 64 69 68,oF 69 70 (.load (.box 6) true 8 (.t 6)),oF 69 71 (pP 58 [.t 70]),oF 69 72 (.un .not (.t 71)),oT 64 73 (.pick (.t 69) (.c bT) (.t 72)),oO 74 (.pick (.t 64) (.t 73) (.c bF)),oM 75 74,oTm 75 76 0,oT 75 77 (.faddr 5 (.t 6)),oT 75 78 (.load (.box 6) false 1 (.t 77)),oT 75 79 (.faddr 5 (.t 6)),oT 75 80 (.load (.box 6) false 1 (.t 79)),oT 75 81 (.len 1 (.t 80)),oT 75 82 (.mkslice 1 (.int .i64 0) 8 (.t 81) (.t 81)),oT 75 83 (pF 89 [.t 76,.t 78,.t 82]),oO 84 (.pick (.t 75) (.t 83) (.c bF)),oM 10 84] .ret))) (sr [oD 86 .eql 19 11,oM 85 86] (.cond (.t 85) (sr [oM 87 0,oA 88 6 6,oL 89 6 88,cF 90 87 [.t 87,.t 89],oM 91 0,oA 92 5 6,oL 93 6 92,cF 94 87 [.t 91,.t 93],oO 95 (.build [.bool false,.bool false,.slice .fit 1 [],.slice .fit 1 [],.slice .fit 1 []] [(1,1,(.c bT)),(3,1,(.t 90)),(4,1,(.t 94))]),oO 13 (.boxL 13 (.c (.agg [.bool false,.bool false,.slice .fit 1 [],.slice .fit 1 [],.slice .fit 1 []]))),oS 13 5 13 95] (.seq (sr [oM 96 0,oA 97 4 6,oL 98 6 97,oM 99 2,oM 100 0,oA 101 6 6,oL 102 6 101,cF 103 87 [.t 100,.t 102],cF 104 88 [.t 96,.t 98,.t 99,.t 103],oU 105 104,oM 106 105,oFm 106 107 0,oF 106 108 (.faddr 6 (.t 6)),oF 106 109 (.load (.box 6) false 1 (.t 108)),oF 106 110 (.faddr 6 (.t 6)),oF 106 111 (.load (.box 6) false 1 (.t 110)),oF 106 112 (.len 1 (.t 111)),oF 106 113 (.mkslice 1 (.int .i64 0) 8 (.t 112) (.t 112)),oF 106 114 (pF 89 [.t 107,.t 109,.t 113]),oF 106 115 (.un .not (.t 114)),oO 116 (.pick (.t 106) (.c bT) (.t 115))] (.cond (.t 116) (sr [oC 10 bF] .ret) .skip)) (sr [oC 14 (.slice .fit 1 [])] (sr [oE 117 14,oE 118 2,oO 119 (.append 1 8 (.t 117) (.t 118)),oE 14 119] (sr [oE 120 14,oA 121 6 6,oL 122 6 121,oO 123 (.append 1 8 (.t 120) (.t 122)),oE 14 123] (sr [oM 124 0,oA 125 7 6,oL 126 6 125,oO 127 (.iaddr 1 (.t 126) (cI 0)),oH 128 127,oE 129 14,oLa 130 13 5 13,oM 131 4,oD 132 .add 131 1,cF 133 47 [.t 124,.t 128,.t 129,.t 130,.t 132],oM 134 133,oT 134 135 (.faddr 5 (.t 6)),oT 134 136 (.load (.box 6) false 1 (.t 135)),oT 134 137 (.len 1 (.t 136)),oT 134 138 (.bin 0 [] .eql (.t 137) (cI 0)),oTm 134 139 138,oF 139 140 (.load (.box 6) true 8 (.t 6)),oF 139 141 (pP 58 [.t 140]),oF 139 142 (.un .not (.t 141)),oT 134 143 (.pick (.t 139) (.c bT) (.t 142)),oO 144 (.pick (.t 134) (.t 143) (.c bF)),oM 145 144,oTm 145 146 0,oT 145 147 (.faddr 5 (.t 6)),oT 145 148 (.load (.box 6) false 1 (.t 147)),oT 145 149 (.faddr 5 (.t 6)),oT 145 150 (.load (.box 6) false 1 (.t 149)),oT 145 151 (.len 1 (.t 150)),oT 145 152 (.mkslice 1 (.int .i64 0) 8 (.t 151) (.t 151)),oT 145 153 (pF 89 [.t 146,.t 148,.t 152]),oO 154 (.pick (.t 145) (.t 153) (.c bF)),oM 10 154] .ret)))))) .skip)))))) (sr [oM 155 0,oLa 156 6 8 6,oE 157 2,oLa 158 8 5 8,cF 159 90 [.t 155,.t 156,.t 157,.t 158],oM 10 159] .ret))))⟩
theorem ok71:zi Try.prog Try.f71 F71=true:=by kernel_rfl
def L47_0:ICode:= .loop [0,1,4,8,11,12] []
 (.seq
 (sr [
 oM 16 12,
 oM 17 1,
 oY 18 17,
 oP 19 .lss 16 18]
 (.cond (.t 19)
 .skip
 (.exit 0)))
 (.seq
 (.block 1
 (.seq
 (sr [
 oM 22 4,
 oD 23 .gtr 22 100,
 oM 24 23,
 oFm 24 25 0,
 oFm 24 26 1,
 oFm 24 27 12,
 oF 24 28 (.iaddr 8 (.t 26) (.t 27)),
 oF 24 29 (.load .imm true 8 (.t 28)),
 oFm 24 30 11,
 oF 24 31 (.load (.box 8) true 5 (.t 8)),
 oFm 24 32 4,
 oF 24 33 (pF 71 [.t 25,.t 29,.t 30,.t 31,.t 32]),
 oF 24 34 (.un .not (.t 33)),
 oO 35 (.pick (.t 24) (.c bT) (.t 34)),
 oM 36 35,
 oFm 36 37 1,
 oFm 36 38 12,
 oF 36 39 (.iaddr 8 (.t 37) (.t 38)),
 oF 36 40 (.load .imm true 8 (.t 39)),
 oF 36 41 (pP 58 [.t 40]),
 oFm 36 42 12,
 oFm 36 43 1,
 oF 36 44 (.len 1 (.t 43)),
 oF 36 45 (.bin 0 [] .sub (.t 44) (cI 1)),
 oF 36 46 (.bin 0 [] .eql (.t 42) (.t 45)),
 oF 36 47 (.bin 1 [] .neq (.t 41) (.t 46)),
 oO 48 (.pick (.t 36) (.c bT) (.t 47))]
 (.cond (.t 48)
 (sr [
 oC 10 bF]
 .ret)
 .skip))
 (.region [
 oE 49 11,
 oM 50 1,
 oM 51 12,
 oI 52 8 50 51,
 oA 53 5 52,
 oG 54 53,
 oO 55 (.append 1 8 (.t 49) (.t 54)),
 oE 11 55])))
 (.region [
 oM 20 12,
 oD 21 .add 20 1,
 oM 12 21])))
abbrev K47_0:List Nat:=[0,1,4,8]
abbrev B47_0:List Nat:=[8]
def F47:IFn:=⟨59,5,[.tmp 10],false,false,none,(sr [oO 8 (.boxL 8 (.t 3)),oC 10 bF] (sr [oC 11 (.slice .fit 1 [])] (sr [oE 13 11,oE 14 2,oO 15 (.append 1 8 (.t 13) (.t 14)),oE 11 15] (.seq (sr [oZ 12 0] (.block 0 L47_0)) (sr [oE 56 1,oY 57 56,oD 58 .gtr 57 0,oM 10 58] .ret)))))⟩
theorem ok47:zi Try.prog Try.f47 F47=true:=by kernel_rfl
def L26_0:ICode:= .loop [2,3,5] []
 (.seq
 (sr [
 oM 31 5,
 oA 32 3 3,
 oL 33 3 32,
 oY 34 33,
 oP 35 .lss 31 34]
 (.cond (.t 35)
 .skip
 (.exit 0)))
 (.seq
 (.block 1
 (sr [
 oA 38 3 3,
 oL 39 3 38,
 oM 40 5,
 oI 41 1 39 40,
 oG 42 41,
 oD 43 .neq 42 1,
 oM 44 43,
 oT 44 45 (.faddr 3 (.t 3)),
 oT 44 46 (.load (.box 3) false 1 (.t 45)),
 oTm 44 47 5,
 oT 44 48 (.iaddr 1 (.t 46) (.t 47)),
 oT 44 49 (.load .any false 1 (.t 48)),
 oT 44 50 (.bin 0 [] .neq (.t 49) (cI 2)),
 oO 51 (.pick (.t 44) (.t 50) (.c bF))]
 (.cond (.t 51)
 (sr [
 oC 4 bF]
 .ret)
 .skip)))
 (.region [
 oM 36 5,
 oD 37 .add 36 1,
 oM 5 37])))
def L26_1:ICode:= .loop [3,6,7,8] []
 (.seq
 (sr [
 oM 60 8,
 oA 61 2 3,
 oL 62 3 61,
 oP 63 .lss 60 62]
 (.cond (.t 63)
 .skip
 (.exit 2)))
 (.seq
 (.block 3
 (sr [
 oM 66 6,
 oK 67 66,
 oA 68 7 67,
 oG 69 68,
 oM 70 8,
 oI 71 1 69 70,
 oN (.store .any 1 (.t 71) (.c bT))]
 (.region [
 oE 72 7,
 oM 73 8,
 oO 74 (.bslice 1 (.int .i64 0) 1 [(0,(.t 73))]),
 oO 75 (.append 1 8 (.t 72) (.t 74)),
 oE 7 75])))
 (.region [
 oM 64 8,
 oD 65 .add 64 1,
 oM 8 65])))
abbrev K26_0:List Nat:=[2,3]
abbrev B26_0:List Nat:=[2,3]
abbrev K26_1:List Nat:=[3,6]
abbrev B26_1:List Nat:=[3]
def F26:IFn:=⟨82,2,[.tmp 4],true,false,none,(sr [oO 2 (.boxL 2 (.t 0)),oO 3 (.boxL 3 (.t 1)),oC 4 bF] (.seq (sr [oA 9 2 3,oL 10 3 9,oD 11 .lss 10 0,oM 12 11,oF 12 13 (.faddr 2 (.t 3)),oF 12 14 (.load (.box 3) false 1 (.t 13)),oF 12 15 (.bin 0 [] .gtr (.t 14) (cI 8)),oO 16 (.pick (.t 12) (.c bT) (.t 15)),oM 17 16,oF 17 18 (.faddr 2 (.t 3)),oF 17 19 (.load (.box 3) false 1 (.t 18)),oF 17 20 (.faddr 3 (.t 3)),oF 17 21 (.load (.box 3) false 1 (.t 20)),oF 17 22 (.len 1 (.t 21)),oF 17 23 (.bin 0 [] .gtr (.t 19) (.t 22)),oO 24 (.pick (.t 17) (.c bT) (.t 23)),oM 25 24,oF 25 26 (.faddr 3 (.t 3)),oF 25 27 (.load (.box 3) false 1 (.t 26)),oF 25 28 (.len 1 (.t 27)),oF 25 29 (.bin 0 [] .gtr (.t 28) (cI 20000)),oO 30 (.pick (.t 25) (.c bT) (.t 29))] (.cond (.t 30) (sr [oC 4 bF] .ret) .skip)) (.seq (sr [oZ 5 0] (.block 0 L26_0)) (sr [oLa 52 2 2 2,oLa 53 3 5 3,oA 54 3 3,oL 55 3 54,oY 56 55,oO 57 (.mksliceS 1 (.bool false) 1 (.t 56) (.t 56)),oO 58 (.build [.slice .fit 2 [],.slice .fit 5 [],.str [],.int .i64 0,.int .i64 0,.slice .fit 1 [],.slice .fit 8 [],.slice .fit 1 []] [(0,2,(.t 52)),(2,5,(.t 53)),(7,1,(.t 57))]),oO 59 (.boxI (.t 58)),oM 6 59] (sr [oC 7 (.slice .fit 1 [])] (.seq (sr [oZ 8 0] (.block 2 L26_1)) (sr [oM 76 6,oA 77 4 3,oL 78 3 77,oE 79 7,oO 80 (.build [.bool false,.bool false,.slice .fit 1 [],.slice .fit 1 [],.slice .fit 1 []] []),cF 81 47 [.t 76,.t 78,.t 79,.t 80,cI 1],oM 4 81] .ret)))))))⟩
theorem ok26:zi Try.prog Try.f26 F26=true:=by kernel_rfl
def L10_0:ICode:= .loop [1,4] []
 (.seq
 (sr [
 oM 8 4,
 oA 9 1 1,
 oL 10 1 9,
 oY 11 10,
 oP 12 .lss 8 11]
 (.cond (.t 12)
 .skip
 (.exit 0)))
 (.seq
 (.block 1
 (sr [
 oLa 15 1 2 1,
 oA 16 1 1,
 oL 17 1 16,
 oM 18 4,
 oI 19 5 17 18,
 oO 20 (.load .imm true 5 (.t 19)),
 cP 21 26 [.t 15,.t 20],
 oU 22 21]
 (.cond (.t 22)
 (sr [
 oM 23 4,
 oZ 2 80,
 oM 3 23]
 .ret)
 .skip)))
 (.region [
 oM 13 4,
 oD 14 .add 13 1,
 oM 4 14])))
abbrev K10_0:List Nat:=[1]
abbrev B10_0:List Nat:=[1]
def F10:IFn:=⟨24,1,[.tmp 2,.tmp 3],false,false,none,(sr [oO 1 (.boxL 1 (.t 0)),oZ 2 0,oZ 3 0] (.seq (sr [oLa 5 1 2 1,cP 6 25 [.t 5],oU 7 6] (.cond (.t 7) (sr [oZ 2 1,oZ 3 0] .ret) .skip)) (.seq (sr [oZ 4 0] (.block 0 L10_0)) (sr [oZ 2 0,oZ 3 0] .ret))))⟩
theorem ok10:zi Try.prog Try.f10 F10=true:=by kernel_rfl
def F48:IFn:=⟨20,2,[.tmp 4],true,false,none,(sr [oC 4 (.slice .fit 1 [])] (sr [oC 5 (.slice .fit 1 [])] (sr [oE 6 5,oE 7 0,oO 8 (.appendS 1 8 (.t 6) (.t 7)),oE 5 8] (.seq (sr [oM 9 5,oY 10 9,oD 11 .eql 10 0] (.cond (.t 11) (sr [oE 12 5,oM 13 1,oO 14 (.bslice 1 (.int .i64 0) 1 [(0,(.t 13))]),oO 15 (.appendS 1 8 (.t 12) (.t 14)),oE 4 15] .ret) .skip)) (sr [oM 16 5,oM 17 1,oO 18 (.iaddr 1 (.t 16) (cI 0)),oV 18 17] (sr [oE 19 5,oE 4 19] .ret))))))⟩
theorem ok48:zi Try.prog Try.f48 F48=true:=by kernel_rfl
def F27:IFn:=⟨74,2,[.cell 4 true 8],false,false,none,(sr [oO 2 (.boxL 2 (.t 0)),oO 4 (.boxL 4 (.c (.agg [.int .i64 0,.int .i64 0,.int .i64 0,.str [],.slice .fit 1 [],.slice .fit 1 [],.slice .fit 1 [],.slice .firm 1 []])))] (.seq (sr [oM 5 1,oD 6 .rem 5 11] (.block 0 (sr [oD 8 .eql 6 0,oM 7 8] (.cond (.t 7) (.region [oM 9 1,oD 10 .quo 9 11,oD 11 .rem 10 17,oA 12 0 2,oS 2 1 12 11]) (sr [oD 14 .eql 6 1,oM 13 14] (.cond (.t 13) (.region [oM 15 1,oD 16 .quo 15 11,oD 17 .rem 16 30,oA 18 1 2,oS 2 1 18 17]) (sr [oD 20 .eql 6 2,oM 19 20] (.cond (.t 19) (.region [oA 21 4 2,oL 22 2 21,oM 23 1,oD 24 .quo 23 11,oD 25 .rem 24 12,cP 26 48 [.t 22,.t 25],oA 27 4 2,oS 2 1 27 26]) (sr [oD 29 .eql 6 3,oM 28 29] (.cond (.t 28) (.region [oA 30 5 2,oL 31 2 30,oM 32 1,oD 33 .quo 32 11,oD 34 .rem 33 12,cP 35 48 [.t 31,.t 34],oA 36 5 2,oS 2 1 36 35]) (sr [oD 38 .eql 6 4,oM 37 38] (.cond (.t 37) (.region [oA 39 4 2,oN (.store (.box 2) 1 (.t 39) (.c (.slice .fit 1 [])))]) (sr [oD 41 .eql 6 5,oM 40 41] (.cond (.t 40) (.region [oA 42 2 2,oN (.store (.box 2) 1 (.t 42) (cI 2))]) (sr [oD 44 .eql 6 6,oM 43 44] (.cond (.t 43) (.region [oO 45 (.bslice 1 (.str []) 5 [(0,(.c (.str [97]))),(1,(.c (.str [102]))),(2,(.c (.str [109,97,105,110]))),(3,(.c (.str [120]))),(4,(.c (.str [])))]),oM 46 1,oD 47 .quo 46 11,oD 48 .rem 47 5,oI 49 1 45 48,oG 50 49,oA 51 3 2,oS 2 1 51 50]) (sr [oD 53 .eql 6 7,oM 52 53] (.cond (.t 52) (.region [oA 54 7 2,oO 55 (.loadT (.box 2) (.t 54)),oO 56 (.build [.int .i64 0,.int .i64 0,.int .i64 0,.str [],.slice .fit 1 [],.slice .fit 1 [],.slice .fit 1 [],.slice .firm 1 []] [(0,1,(cI 12))]),oO 57 (.bslice 8 (.agg [.int .i64 0,.int .i64 0,.int .i64 0,.str [],.slice .fit 1 [],.slice .fit 1 [],.slice .fit 1 [],.slice .firm 1 []]) 1 [(0,(.t 56))]),oO 58 (.bslice 1 (.slice .firm 8 []) 1 [(0,(.t 57))]),oO 59 (.append 1 24 (.t 55) (.t 58)),oA 60 7 2,oN (.storeT (.box 2) (.t 60) 59)]) (sr [oD 62 .eql 6 8,oM 61 62] (.cond (.t 61) (.region [oA 63 6 2,oL 64 2 63,oM 65 1,oD 66 .quo 65 11,oD 67 .rem 66 12,cP 68 48 [.t 64,.t 67],oA 69 6 2,oS 2 1 69 68]) (sr [oD 71 .eql 6 9,oM 70 71] (.cond (.t 70) (.region [oA 72 5 2,oN (.store (.box 2) 1 (.t 72) (.c (.slice .fit 1 [])))]) .skip)))))))))))))))))))))) (sr [oLa 73 2 8 2,oS 4 8 4 73] .ret)))⟩
theorem ok27:zi Try.prog Try.f27 F27=true:=by kernel_rfl
def L11_0:ICode:= .loop [0,1,2,7,8,9,10,11,12] []
 (.seq
 (sr [
 oM 37 12,
 oA 38 7 9,
 oL 39 9 38,
 oY 40 39,
 oP 41 .lss 37 40]
 (.cond (.t 41)
 .skip
 (.exit 2)))
 (.seq
 (.block 3
 (.region [
 oE 44 11,
 oA 45 7 9,
 oL 46 9 45,
 oM 47 12,
 oI 48 1 46 47,
 oG 49 48,
 oM 50 1,
 oM 51 2,
 cF 52 11 [.t 49,.t 50,.t 51],
 oO 53 (.bslice 1 (.slice .firm 8 []) 1 [(0,(.t 52))]),
 oO 54 (.append 1 24 (.t 44) (.t 53)),
 oE 11 54]))
 (.region [
 oM 42 12,
 oD 43 .add 42 1,
 oM 12 43])))
def L11_1:ICode:= .loop [0,1,2,7,8] [9]
 (.seq
 (sr [
 oM 13 8,
 oM 14 0,
 oY 15 14,
 oP 16 .lss 13 15]
 (.cond (.t 16)
 .skip
 (.exit 0)))
 (.seq
 (.block 1
 (sr [
 oM 19 0,
 oM 20 8,
 oI 21 8 19 20,
 oW 22 8 21,
 oO 9 (.boxL 9 (.c (.agg [.int .i64 0,.int .i64 0,.int .i64 0,.str [],.slice .fit 1 [],.slice .fit 1 [],.slice .fit 1 [],.slice .firm 1 []]))),
 oS 9 8 9 22]
 (sr [
 oM 23 1,
 oK 24 23,
 oG 25 24,
 oD 26 .eql 25 0,
 oM 10 26]
 (sr [
 oM 27 1,
 oM 28 1,
 oK 29 28,
 oG 30 29,
 oD 31 .sub 30 1,
 oK 32 27,
 oV 32 31]
 (.seq
 (sr [
 oM 33 10]
 (.cond (.t 33)
 (.region [
 oLa 34 9 8 9,
 oM 35 2,
 cP 36 27 [.t 34,.t 35],
 oS 9 8 9 36])
 .skip))
 (sr [
 oC 11 (.slice .fit 1 [])]
 (.seq
 (sr [
 oZ 12 0]
 (.block 2
 L11_0))
 (sr [
 oE 55 11,
 oA 56 7 9,
 oN (.storeT (.box 9) (.t 56) 55)]
 (.seq
 (sr [
 oM 57 10,
 oM 58 57,
 oTm 58 59 2,
 oT 58 60 (.bin 0 [] .rem (.t 59) (cI 11)),
 oT 58 61 (.bin 0 [] .eql (.t 60) (cI 10)),
 oO 62 (.pick (.t 58) (.t 61) (.c bF))]
 (.cond (.t 62)
 (.exit 1)
 .skip))
 (.region [
 oE 63 7,
 oLa 64 9 8 9,
 oO 65 (.bslice 8 (.agg [.int .i64 0,.int .i64 0,.int .i64 0,.str [],.slice .fit 1 [],.slice .fit 1 [],.slice .fit 1 [],.slice .firm 1 []]) 1 [(0,(.t 64))]),
 oO 66 (.append 8 136 (.t 63) (.t 65)),
 oE 7 66]))))))))))
 (.region [
 oM 17 8,
 oD 18 .add 17 1,
 oM 8 18])))
abbrev K11_0:List Nat:=[0,1,2,7,8,9,10]
abbrev B11_0:List Nat:=[9]
abbrev K11_1:List Nat:=[0,1,2]
abbrev B11_1:List Nat:=[]
def F11:IFn:=⟨68,3,[.tmp 6],false,false,none,(sr [oC 6 (.slice .fit 8 [])] (sr [oC 7 (.slice .fit 8 [])] (.seq (sr [oZ 8 0] (.block 0 L11_1)) (sr [oE 67 7,oE 6 67] .ret))))⟩
theorem ok11:zi Try.prog Try.f11 F11=true:=by kernel_rfl
def L14_0:ICode:= .loop [2,7,8,9,16,17,18] []
 (sr [
 oP 19 .lss 18 17]
 (.seq
 (.cond (.t 19)
 .skip
 (.exit 2))
 (.seq
 (.block 3
 (sr [
 oI 20 1 16 18,
 oG 21 20,
 oE 6 21]
 (.region [
 oM 22 2,
 oE 23 6,
 cP 24 14 [.t 23],
 oP 25 .add 22 24,
 oM 2 25])))
 (.region [
 oD 26 .add 18 1,
 oM 18 26]))))
def L14_1:ICode:= .loop [2,7,8,9] [4]
 (sr [
 oP 10 .lss 9 8]
 (.seq
 (.cond (.t 10)
 .skip
 (.exit 0))
 (.seq
 (.block 1
 (sr [
 oI 11 8 7 9,
 oW 12 8 11,
 oO 4 (.boxL 4 (.c (.agg [.int .i64 0,.int .i64 0,.int .i64 0,.str [],.slice .fit 1 [],.slice .fit 1 [],.slice .fit 1 [],.slice .fit 1 []]))),
 oS 4 8 4 12]
 (sr [
 oM 13 2,
 oD 14 .add 13 1,
 oM 2 14]
 (sr [
 oA 15 7 4,
 oL 16 4 15,
 oY 17 16,
 oZ 18 0]
 (.block 2
 L14_0)))))
 (.region [
 oD 27 .add 9 1,
 oM 9 27]))))
abbrev K14_0:List Nat:=[7,8,9,16,17]
abbrev B14_0:List Nat:=[]
abbrev K14_1:List Nat:=[7,8]
abbrev B14_1:List Nat:=[]
def F14:IFn:=⟨29,1,[.tmp 2],false,false,none,(sr [oZ 2 0] (.seq (sr [oE 7 0,oY 8 7,oZ 9 0] (.block 0 L14_1)) (sr [oM 28 2,oM 2 28] .ret)))⟩
theorem ok14:zi Try.prog Try.f14 F14=true:=by kernel_rfl
def F28:IFn:=⟨10,0,[.cell 0 true 2],false,false,none,(sr [oO 0 (.boxL 0 (.c (.agg [.slice .fit 2 [],.slice .fit 5 []])))] (sr [oO 1 (.bslice 1 (.int .i64 0) 1 [(0,(cI 1))]),oO 2 (.bslice 1 (.int .i64 0) 1 [(0,(cI 0))]),oO 3 (.build [.int .i64 0,.int .i64 0,.int .i64 0,.str [],.slice .fit 1 [],.slice .fit 1 [],.slice .fit 1 [],.slice .fit 1 []] [(0,1,(cI 1)),(2,1,(cI 7)),(5,1,(.t 2))]),oO 4 (.bsliceS 1 (.int .i64 0) 1 [(0,(cI 0))]),oO 5 (.build [.int .i64 0,.int .i64 0,.int .i64 0,.str [],.slice .fit 1 [],.slice .fit 1 [],.slice .fit 1 [],.slice .fit 1 []] [(0,1,(cI 15)),(4,1,(.t 4))]),oO 6 (.bsliceS 8 (.agg [.int .i64 0,.int .i64 0,.int .i64 0,.str [],.slice .fit 1 [],.slice .fit 1 [],.slice .fit 1 [],.slice .fit 1 []]) 2 [(0,(.t 3)),(1,(.t 5))]),oO 7 (.build [.str [],.int .i64 0,.int .i64 0,.slice .fit 1 [],.slice .fit 8 []] [(0,1,(.c (.str [109,97,105,110]))),(1,1,(cI 1)),(3,1,(.t 1)),(4,1,(.t 6))]),oO 8 (.bsliceS 5 (.agg [.str [],.int .i64 0,.int .i64 0,.slice .fit 1 [],.slice .fit 8 []]) 1 [(0,(.t 7))]),oO 9 (.build [.slice .fit 2 [],.slice .fit 5 []] [(1,1,(.t 8))]),oS 0 2 0 9] .ret))⟩
theorem ok28:zi Try.prog Try.f28 F28=true:=by kernel_rfl
def F12:IFn:=⟨60,0,[.tmp 0],true,false,none,(sr [oC 0 bF] (sr [cF 8 28 [],oO 1 (.boxL 1 (.c (.agg [.slice .fit 2 [],.slice .fit 5 []]))),oS 1 2 1 8] (sr [oLa 10 1 2 1,oO 11 (.callV (.c (.fn 9 [] [])) [.t 10]),oM 9 11,oX 12 9 0,oX 13 9 1,oM 2 12,oM 3 13] (sr [oA 14 1 1,oL 15 1 14,oO 16 (.iaddr 5 (.t 15) (cI 0)),oA 17 4 16,oG 18 17,oO 19 (.iaddr 8 (.t 18) (cI 1)),oA 20 4 19,oG 21 20,oO 22 (.iaddr 1 (.t 21) (cI 0)),oN (.store .any 1 (.t 22) (cI 1))] (sr [oLa 24 1 2 1,oO 25 (.callV (.c (.fn 9 [] [])) [.t 24]),oM 23 25,oX 26 23 0,oX 27 23 1,oM 4 26,oM 5 27] (sr [oO 29 (.build [.slice .fit 2 [],.slice .fit 5 []] []),cP 30 9 [.t 29],oM 28 30,oX 31 28 0,oX 32 28 1,oM 6 31,oM 7 32] (sr [oM 33 2,oD 34 .eql 33 0,oM 35 34,oTm 35 36 4,oT 35 37 (.bin 0 [] .eql (.t 36) (cI 80)),oO 38 (.pick (.t 35) (.t 37) (.c bF)),oM 39 38,oTm 39 40 5,oT 39 41 (.bin 0 [] .eql (.t 40) (cI 0)),oO 42 (.pick (.t 39) (.t 41) (.c bF)),oM 43 42,oTm 43 44 6,oT 43 45 (.bin 0 [] .eql (.t 44) (cI 1)),oO 46 (.pick (.t 43) (.t 45) (.c bF)),oM 47 46,oT 47 48 (.build [.int .i64 0,.int .i64 0,.int .i64 0,.str [],.slice .fit 1 [],.slice .fit 1 [],.slice .fit 1 [],.slice .fit 1 []] [(0,1,(cI 13))]),oT 47 49 (pP 29 [.t 48]),oO 50 (.pick (.t 47) (.t 49) (.c bF)),oM 51 50,oT 51 52 (.faddr 1 (.t 1)),oT 51 53 (.load (.box 1) false 1 (.t 52)),oT 51 54 (.iaddr 5 (.t 53) (cI 0)),oT 51 55 (.faddr 4 (.t 54)),oT 51 56 (.load .any false 1 (.t 55)),oT 51 57 (.callV (.c (.fn 14 [] [])) [.t 56]),oT 51 58 (.bin 0 [] .eql (.t 57) (cI 2)),oO 59 (.pick (.t 51) (.t 58) (.c bF)),oM 0 59] .ret)))))))⟩
theorem ok12:zi Try.prog Try.f12 F12=true:=by kernel_rfl
def F3:IFn:=⟨79,4,[.tmp 8],true,false,none,(sr [oC 8 bF] (sr [oE 20 0,cF 21 8 [.t 20],oO 9 (.boxL 9 (.c (.agg [.slice .fit 2 [],.slice .fit 5 []]))),oS 9 2 9 21] (sr [oLa 23 9 2 9,oO 24 (.callV (.c (.fn 9 [] [])) [.t 23]),oM 22 24,oX 25 22 0,oX 26 22 1,oM 10 25,oM 11 26] (sr [oLa 28 9 2 9,oO 29 (.callV (.c (.fn 10 [] [])) [.t 28]),oM 27 29,oX 30 27 0,oX 31 27 1,oM 12 30,oM 13 31] (.seq (sr [oM 32 10,oM 33 12,oP 34 .neq 32 33,oM 35 34,oFm 35 36 11,oFm 35 37 13,oF 35 38 (.bin 0 [] .neq (.t 36) (.t 37)),oO 39 (.pick (.t 35) (.c bT) (.t 38))] (.cond (.t 39) (sr [oC 8 bF] .ret) .skip)) (sr [oZ 14 0] (.seq (sr [oM 40 3] (.cond (.t 40) (.region [oZ 14 1]) .skip)) (sr [oM 41 1,oO 42 (.conv .i64 (.t 41)),oD 43 .rem 42 40,oO 15 (.boxS 1 (.c (.int .i64 0))),oV 15 43] (sr [oA 44 1 9,oL 45 9 44,oM 46 14,oA 47 1 9,oL 48 9 47,oM 49 14,oI 50 5 48 49,oA 51 4 50,oG 52 51,oM 53 2,oO 54 (.conv .i64 (.t 53)),cF 55 11 [.t 52,.t 15,.t 54],oI 56 5 45 46,oA 57 4 56,oV 57 55] (sr [oLa 59 9 2 9,oO 60 (.callV (.c (.fn 9 [] [])) [.t 59]),oM 58 60,oX 61 58 0,oX 62 58 1,oM 16 61,oM 17 62] (sr [oLa 64 9 2 9,oO 65 (.callV (.c (.fn 10 [] [])) [.t 64]),oM 63 65,oX 66 63 0,oX 67 63 1,oM 18 66,oM 19 67] (sr [cP 68 12 [],oM 69 68,oTm 69 70 16,oTm 69 71 18,oT 69 72 (.bin 0 [] .eql (.t 70) (.t 71)),oO 73 (.pick (.t 69) (.t 72) (.c bF)),oM 74 73,oTm 74 75 17,oTm 74 76 19,oT 74 77 (.bin 0 [] .eql (.t 75) (.t 76)),oO 78 (.pick (.t 74) (.t 77) (.c bF)),oM 8 78] .ret))))))))))))⟩
theorem ok3:zi Try.prog Try.f3 F3=true:=by kernel_rfl
def fns:Nat->Option IFn
 |36=>some F36
 |35=>some F35
 |54=>some F54
 |76=>some F76
 |57=>some F57
 |55=>some F55
 |56=>some F56
 |79=>some F79
 |77=>some F77
 |78=>some F78
 |58=>some F58
 |59=>some F59
 |37=>some F37
 |22=>some F22
 |8=>some F8
 |60=>some F60
 |80=>some F80
 |61=>some F61
 |62=>some F62
 |38=>some F38
 |39=>some F39
 |63=>some F63
 |64=>some F64
 |40=>some F40
 |23=>some F23
 |65=>some F65
 |41=>some F41
 |42=>some F42
 |49=>some F49
 |91=>some F91
 |72=>some F72
 |92=>some F92
 |74=>some F74
 |73=>some F73
 |50=>some F50
 |51=>some F51
 |29=>some F29
 |81=>some F81
 |110=>some F110
 |94=>some F94
 |111=>some F111
 |112=>some F112
 |95=>some F95
 |113=>some F113
 |97=>some F97
 |96=>some F96
 |82=>some F82
 |67=>some F67
 |83=>some F83
 |84=>some F84
 |114=>some F114
 |122=>some F122
 |115=>some F115
 |98=>some F98
 |123=>some F123
 |116=>some F116
 |117=>some F117
 |99=>some F99
 |85=>some F85
 |66=>some F66
 |43=>some F43
 |24=>some F24
 |9=>some F9
 |68=>some F68
 |69=>some F69
 |70=>some F70
 |44=>some F44
 |45=>some F45
 |46=>some F46
 |25=>some F25
 |86=>some F86
 |87=>some F87
 |100=>some F100
 |88=>some F88
 |89=>some F89
 |101=>some F101
 |102=>some F102
 |103=>some F103
 |90=>some F90
 |71=>some F71
 |47=>some F47
 |26=>some F26
 |10=>some F10
 |48=>some F48
 |27=>some F27
 |11=>some F11
 |14=>some F14
 |28=>some F28
 |12=>some F12
 |3=>some F3
 |_=>none
set_option maxRecDepth 100000 in
theorem fnsOk:∀f F,fns f=some F->∃fn,Try.prog.funcs[f]? =some fn/\zi Try.prog fn F=true:=by
 intro f F h;unfold fns at h;split at h
 ·cases h;exact⟨Try.f36,Try.func36,ok36⟩
 ·cases h;exact⟨Try.f35,Try.func35,ok35⟩
 ·cases h;exact⟨Try.f54,Try.func54,ok54⟩
 ·cases h;exact⟨Try.f76,Try.func76,ok76⟩
 ·cases h;exact⟨Try.f57,Try.func57,ok57⟩
 ·cases h;exact⟨Try.f55,Try.func55,ok55⟩
 ·cases h;exact⟨Try.f56,Try.func56,ok56⟩
 ·cases h;exact⟨Try.f79,Try.func79,ok79⟩
 ·cases h;exact⟨Try.f77,Try.func77,ok77⟩
 ·cases h;exact⟨Try.f78,Try.func78,ok78⟩
 ·cases h;exact⟨Try.f58,Try.func58,ok58⟩
 ·cases h;exact⟨Try.f59,Try.func59,ok59⟩
 ·cases h;exact⟨Try.f37,Try.func37,ok37⟩
 ·cases h;exact⟨Try.f22,Try.func22,ok22⟩
 ·cases h;exact⟨Try.f8,Try.func8,ok8⟩
 ·cases h;exact⟨Try.f60,Try.func60,ok60⟩
 ·cases h;exact⟨Try.f80,Try.func80,ok80⟩
 ·cases h;exact⟨Try.f61,Try.func61,ok61⟩
 ·cases h;exact⟨Try.f62,Try.func62,ok62⟩
 ·cases h;exact⟨Try.f38,Try.func38,ok38⟩
 ·cases h;exact⟨Try.f39,Try.func39,ok39⟩
 ·cases h;exact⟨Try.f63,Try.func63,ok63⟩
 ·cases h;exact⟨Try.f64,Try.func64,ok64⟩
 ·cases h;exact⟨Try.f40,Try.func40,ok40⟩
 ·cases h;exact⟨Try.f23,Try.func23,ok23⟩
 ·cases h;exact⟨Try.f65,Try.func65,ok65⟩
 ·cases h;exact⟨Try.f41,Try.func41,ok41⟩
 ·cases h;exact⟨Try.f42,Try.func42,ok42⟩
 ·cases h;exact⟨Try.f49,Try.func49,ok49⟩
 ·cases h;exact⟨Try.f91,Try.func91,ok91⟩
 ·cases h;exact⟨Try.f72,Try.func72,ok72⟩
 ·cases h;exact⟨Try.f92,Try.func92,ok92⟩
 ·cases h;exact⟨Try.f74,Try.func74,ok74⟩
 ·cases h;exact⟨Try.f73,Try.func73,ok73⟩
 ·cases h;exact⟨Try.f50,Try.func50,ok50⟩
 ·cases h;exact⟨Try.f51,Try.func51,ok51⟩
 ·cases h;exact⟨Try.f29,Try.func29,ok29⟩
 ·cases h;exact⟨Try.f81,Try.func81,ok81⟩
 ·cases h;exact⟨Try.f110,Try.func110,ok110⟩
 ·cases h;exact⟨Try.f94,Try.func94,ok94⟩
 ·cases h;exact⟨Try.f111,Try.func111,ok111⟩
 ·cases h;exact⟨Try.f112,Try.func112,ok112⟩
 ·cases h;exact⟨Try.f95,Try.func95,ok95⟩
 ·cases h;exact⟨Try.f113,Try.func113,ok113⟩
 ·cases h;exact⟨Try.f97,Try.func97,ok97⟩
 ·cases h;exact⟨Try.f96,Try.func96,ok96⟩
 ·cases h;exact⟨Try.f82,Try.func82,ok82⟩
 ·cases h;exact⟨Try.f67,Try.func67,ok67⟩
 ·cases h;exact⟨Try.f83,Try.func83,ok83⟩
 ·cases h;exact⟨Try.f84,Try.func84,ok84⟩
 ·cases h;exact⟨Try.f114,Try.func114,ok114⟩
 ·cases h;exact⟨Try.f122,Try.func122,ok122⟩
 ·cases h;exact⟨Try.f115,Try.func115,ok115⟩
 ·cases h;exact⟨Try.f98,Try.func98,ok98⟩
 ·cases h;exact⟨Try.f123,Try.func123,ok123⟩
 ·cases h;exact⟨Try.f116,Try.func116,ok116⟩
 ·cases h;exact⟨Try.f117,Try.func117,ok117⟩
 ·cases h;exact⟨Try.f99,Try.func99,ok99⟩
 ·cases h;exact⟨Try.f85,Try.func85,ok85⟩
 ·cases h;exact⟨Try.f66,Try.func66,ok66⟩
 ·cases h;exact⟨Try.f43,Try.func43,ok43⟩
 ·cases h;exact⟨Try.f24,Try.func24,ok24⟩
 ·cases h;exact⟨Try.f9,Try.func9,ok9⟩
 ·cases h;exact⟨Try.f68,Try.func68,ok68⟩
 ·cases h;exact⟨Try.f69,Try.func69,ok69⟩
 ·cases h;exact⟨Try.f70,Try.func70,ok70⟩
 ·cases h;exact⟨Try.f44,Try.func44,ok44⟩
 ·cases h;exact⟨Try.f45,Try.func45,ok45⟩
 ·cases h;exact⟨Try.f46,Try.func46,ok46⟩
 ·cases h;exact⟨Try.f25,Try.func25,ok25⟩
 ·cases h;exact⟨Try.f86,Try.func86,ok86⟩
 ·cases h;exact⟨Try.f87,Try.func87,ok87⟩
 ·cases h;exact⟨Try.f100,Try.func100,ok100⟩
 ·cases h;exact⟨Try.f88,Try.func88,ok88⟩
 ·cases h;exact⟨Try.f89,Try.func89,ok89⟩
 ·cases h;exact⟨Try.f101,Try.func101,ok101⟩
 ·cases h;exact⟨Try.f102,Try.func102,ok102⟩
 ·cases h;exact⟨Try.f103,Try.func103,ok103⟩
 ·cases h;exact⟨Try.f90,Try.func90,ok90⟩
 ·cases h;exact⟨Try.f71,Try.func71,ok71⟩
 ·cases h;exact⟨Try.f47,Try.func47,ok47⟩
 ·cases h;exact⟨Try.f26,Try.func26,ok26⟩
 ·cases h;exact⟨Try.f10,Try.func10,ok10⟩
 ·cases h;exact⟨Try.f48,Try.func48,ok48⟩
 ·cases h;exact⟨Try.f27,Try.func27,ok27⟩
 ·cases h;exact⟨Try.f11,Try.func11,ok11⟩
 ·cases h;exact⟨Try.f14,Try.func14,ok14⟩
 ·cases h;exact⟨Try.f28,Try.func28,ok28⟩
 ·cases h;exact⟨Try.f12,Try.func12,ok12⟩
 ·cases h;exact⟨Try.f3,Try.func3,ok3⟩
 ·cases h
def hand:Nat->Option HFn:=fun _=>none
theorem handOk:∀f H,hand f=some H->∃fn cl,Try.prog.funcs[f]? =some fn/\Try.prog.funcs[H.k]? =some cl/\checkH Try.prog fn cl H=true:=by
 intro f H h;cases h
noncomputable def E:Env:={fn:=fns,ext:=fun _=>none,hand:=hand}
theorem envOk:EnvOk Try.prog [] E:=⟨fnsOk,fun f g h args st r st' hg=>(nomatch h),handOk⟩
end PE.U

namespace PE.U
open Go PE
noncomputable def one(op a:Int):Int:=
 if op=20 then W (0-a)else if op=21 then xor64 (-1) a else if op=22 then(if a=0 then 1 else 0)
 else if op=23 then W (zT .i8 a)else if op=24 then W (zT .i16 a)else if op=25 then W (zT .i32 a)
 else if op=26 then W (zT .u8 a)else if op=27 then W (zT .u16 a)else if op=28 then W (zT .u32 a)else 0
structure Node where
 kind:Int
 op:Int
 n:Int
 name:List UInt8
 args:List Int
 outs:List Int
 params:List Int
 kids:List (List Node)
structure Flow where
 name:List UInt8
 type:Int
 params:Int
 types:List Int
 body:List Node
structure Arr where
 name:List UInt8
 size:Int
structure Unt where
 arrays:List Arr
 flows:List Flow
abbrev int(n:Int):PV:= .int .i64 n
def ints(l:List Int):PV:= .slice .plain 1 (l.map (PV.int .i64))
mutual
def zG:Node->PV
 |⟨k,o,n,s,a,u,p,ks⟩=> .agg [.int .i64 k,.int .i64 o,.int .i64 n,.str s,ints a,ints u,ints p,.slice .plain 1 (encK ks)]
def encL:List Node->List PV
 | []=>[]
 |x::r=>zG x::encL r
def encK:List (List Node)->List PV
 | []=>[]
 |l::r=> .slice .plain 8 (encL l)::encK r
end
theorem encL_eq(l:List Node):encL l=l.map zG:=by
 induction l with
 |nil=>rfl
 |cons x r ih=>rw[encL,ih];rfl
def zj(l:List Node):PV:= .slice .plain 8 (l.map zG)
def kids(l:List (List Node)):PV:= .slice .plain 1 (l.map zj)
theorem encK_eq(l:List (List Node)):encK l=l.map zj:=by
 induction l with
 |nil=>rfl
 |cons x r ih=>rw[encK,ih,encL_eq];rfl
theorem za(x:Node):zG x= .agg [.int .i64 x.kind,.int .i64 x.op,.int .i64 x.n,.str x.name,ints x.args,ints x.outs,ints x.params,kids x.kids]:=by
 cases x;simp[zG,encK_eq,kids]
mutual
theorem flatN(k:Nat):∀x:Node,zp k (zG x)=true
 |⟨_,_,_,_,a,u,p,ks⟩=>by simp[zG,ints,flatK k ks]
theorem flatL(k:Nat):∀l:List Node,zD k (encL l)=true
 | []=>rfl
 |x::r=>by simp[encL,flatN k x,flatL k r]
theorem flatK(k:Nat):∀l:List (List Node),zD k (encK l)=true
 | []=>rfl
 |x::r=>by simp[encK,flatL k x,flatK k r]
end
def zf(f:Flow):PV:= .agg [.str f.name,.int .i64 f.type,.int .i64 f.params,ints f.types,zj f.body]
def zN(a:Arr):PV:= .agg [.str a.name,.int .i64 a.size]
def flows(l:List Flow):PV:= .slice .plain 5 (l.map zf)
def arrs(l:List Arr):PV:= .slice .plain 2 (l.map zN)
def encUnt(u:Unt):PV:= .agg [arrs u.arrays,flows u.flows]
section
variable (k:Nat)
@[simp] theorem flat_ints(l:List Int):zp k (ints l)=true:=by simp[ints]
@[simp] theorem flat_node(x:Node):zp k (zG x)=true:=flatN k x
@[simp] theorem flat_nodes(l:List Node):zp k (zj l)=true:=by simp[zj]
@[simp] theorem flat_kids(l:List (List Node)):zp k (kids l)=true:=by simp[kids]
@[simp] theorem flat_flow(f:Flow):zp k (zf f)=true:=by simp[zf]
@[simp] theorem flat_arr(f:Arr):zp k (zN f)=true:=by simp[zN]
@[simp] theorem flat_flows(f:List Flow):zp k (flows f)=true:=by simp[flows]
@[simp] theorem flat_arrs(f:List Arr):zp k (arrs f)=true:=by simp[arrs]
@[simp] theorem flat_unt(f:Unt):zp k (encUnt f)=true:=by simp[encUnt]
end
section
variable (n:Nat)
@[simp high] theorem bl_int(l:List Int):zD n (l.map (PV.int .i64))=true:=zSb _ _ _ (fun _=>rfl)
@[simp high] theorem bl_node(l:List Node):zD n (l.map zG)=true:=zSb _ _ _ (flat_node n)
@[simp high] theorem bl_nodes(l:List (List Node)):zD n (l.map zj)=true:=zSb _ _ _ (flat_nodes n)
@[simp high] theorem bl_flow(l:List Flow):zD n (l.map zf)=true:=zSb _ _ _ (flat_flow n)
@[simp high] theorem bl_arr(l:List Arr):zD n (l.map zN)=true:=zSb _ _ _ (flat_arr n)
end
section
@[simp high] theorem isVar_ints(l:List Int):zq (ints l)=true:=yd rfl rfl
@[simp high] theorem canon1_ints(l:List Int):canon1 (ints l)=ints l:=yd rfl rfl
@[simp high] theorem strip_ints(l:List Int):strip (ints l)=ints l:=yd rfl rfl
@[simp high] theorem stripA_ints(l:List Int):stripA (ints l)=ints l:=yd rfl rfl
@[simp high] theorem isCell_nodes(l:List Node):zDb (zj l)=true:=yd rfl rfl
@[simp high] theorem isVar_nodes(l:List Node):zq (zj l)=true:=yd rfl rfl
@[simp high] theorem canon1_nodes(l:List Node):canon1 (zj l)=zj l:=yd rfl rfl
@[simp high] theorem strip_nodes(l:List Node):strip (zj l)=zj l:=yd rfl rfl
@[simp high] theorem stripA_nodes(l:List Node):stripA (zj l)=zj l:=yd rfl rfl
@[simp high] theorem cellsOf_nodes(l:List Node):cellsOf (zj l)=[zj l]:=yd rfl rfl
@[simp high] theorem canon1_kids(l:List (List Node)):canon1 (kids l)=kids l:=yd rfl rfl
@[simp high] theorem canon1_flows(l:List Flow):canon1 (flows l)=flows l:=yd rfl rfl
@[simp high] theorem canon1_arrs(l:List Arr):canon1 (arrs l)=arrs l:=yd rfl rfl
end
mutual
def wtN:Node->Nat
 |⟨_,_,_,s,a,u,p,ks⟩=>1+s.length+a.length+u.length+p.length+wtK ks
def wtL:List Node->Nat
 | []=>0
 |x::r=>1+wtN x+wtL r
def wtK:List (List Node)->Nat
 | []=>0
 |l::r=>1+wtL l+wtK r
end
theorem zeb(x:Node):wtN x=1+x.name.length+x.args.length+x.outs.length+x.params.length+wtK x.kids:=by cases x;rfl
theorem zJc(a b:List Node):wtL (a++b)=wtL a+wtL b:=by
 induction a with
 |nil=>simp[wtL]
 |cons x r ih=>simp[wtL,ih];omega
theorem wtK_append(a b:List (List Node)):wtK (a++b)=wtK a+wtK b:=by
 induction a with
 |nil=>simp[wtK]
 |cons x r ih=>simp[wtK,ih];omega
theorem zgd(l:List Node):l.length<=wtL l:=by
 induction l with
 |nil=>simp
 |cons x r ih=>simp[wtL];omega
theorem len_wtK(l:List (List Node)):l.length<=wtK l:=by
 induction l with
 |nil=>simp
 |cons x r ih=>simp[wtK];omega
theorem wt_kid{x:Node}{l:List Node}(h:l∈x.kids):wtL l+2<=wtN x:=by
 rw[zeb];have:∀ks:List (List Node),l∈ks->wtL l+1<=wtK ks:=by
  intro ks
  induction ks with
  |nil=>intro h;cases h
  |cons y r ih=>
   intro h;simp only[wtK];rcases yJ.1 h with rfl|h
   ·omega
   ·have:=ih h;omega
 have:=this _ h;omega
theorem wt_mem{x:Node}{l:List Node}(h:x∈l):wtN x+1<=wtL l:=by
 induction l with
 |nil=>cases h
 |cons y r ih=>
  simp only[wtL];rcases yJ.1 h with rfl|h
  ·omega
  ·have:=ih h;omega
def zGb(c:Int):Bool:=(decide (97<=c)&&decide (c<=122))||(decide (65<=c)&&decide (c<=90))||decide (c=95)
def digitN(c:Int):Bool:=decide (48<=c)&&decide (c<=57)
theorem zvb(c:Int)(σ:zb):zm E 60 [.int .i32 c] σ=some (.ret (.bool (zGb c)),σ):=by
 refine zc rfl rfl rfl (by simp) ?_
 (simp[*,F60,zGb])<;>(repeat' ((first|refine sP _ ?_ ?_|refine gP _ ?_ ?_|refine sN _ ?_ ?_|refine gN _ ?_ ?_|refine sM _ ?_ ?_|refine gM _ ?_ ?_|refine sB _ ?_ ?_|refine gB _ ?_ ?_)<;>intro hc<;>simp[*,F60,zGb]))
theorem digit_spec(c:Int)(σ:zb):zm E 80 [.int .i32 c] σ=some (.ret (.bool (digitN c)),σ):=by
 refine zc rfl rfl rfl (by simp) ?_
 (simp[*,F80,digitN])<;>(repeat' ((first|refine sP _ ?_ ?_|refine gP _ ?_ ?_|refine sN _ ?_ ?_|refine gN _ ?_ ?_|refine sM _ ?_ ?_|refine gM _ ?_ ?_|refine sB _ ?_ ?_|refine gB _ ?_ ?_)<;>intro hc<;>simp[*,F80,digitN]))
theorem zrc(c:Int)(σ:zb):zm E 68 [.int .u8 c] σ=some (.ret (.bool (zGb c)),σ):=by
 refine zc rfl rfl rfl (by simp) ?_
 (simp[*,F68,zGb])<;>(repeat' ((first|refine sP _ ?_ ?_|refine gP _ ?_ ?_|refine sN _ ?_ ?_|refine gN _ ?_ ?_|refine sM _ ?_ ?_|refine gM _ ?_ ?_|refine sB _ ?_ ?_|refine gB _ ?_ ?_)<;>intro hc<;>simp[*,F68,zGb]))
theorem rdigit_spec(c:Int)(σ:zb):zm E 70 [.int .u8 c] σ=some (.ret (.bool (digitN c)),σ):=by
 refine zc rfl rfl rfl (by simp) ?_
 (simp[*,F70,digitN])<;>(repeat' ((first|refine sP _ ?_ ?_|refine gP _ ?_ ?_|refine sN _ ?_ ?_|refine gN _ ?_ ?_|refine sM _ ?_ ?_|refine gM _ ?_ ?_|refine sB _ ?_ ?_|refine gB _ ?_ ?_)<;>intro hc<;>simp[*,F70,digitN]))
def words:List (List UInt8):=[[105,110,116],[98,111,111,108],[105,102],[101,108,115,101],[119,104,105,108,101],[98,114,101,97,107],[99,111,110,116,105,110,117,101],[114,101,116,117,114,110],
 [112,114,105,110,116],[114,101,97,100],[116,114,117,101],[102,97,108,115,101],[105,56],[105,49,54],[105,51,50],[117,56],[117,49,54],[117,51,50]]
def wordM(s:List UInt8):Bool:=words.contains s
theorem word_spec(s:List UInt8)(σ:zb):zm E 62 [.str s] σ=some (.ret (.bool (wordM s)),σ):=by
 refine zc rfl rfl rfl (by simp) ?_
 (simp[*,F62,wordM,words])<;>(repeat' ((first|refine sP _ ?_ ?_|refine gP _ ?_ ?_|refine sN _ ?_ ?_|refine gN _ ?_ ?_|refine sM _ ?_ ?_|refine gM _ ?_ ?_|refine sB _ ?_ ?_|refine gB _ ?_ ?_)<;>intro hc<;>simp[*,F62,wordM,words]))
theorem rword_spec(s:List UInt8)(σ:zb):zm E 69 [.str s] σ=some (.ret (.bool (wordM s)),σ):=by
 refine zc rfl rfl rfl (by simp) ?_
 (simp[*,F69,wordM,words])<;>(repeat' ((first|refine sP _ ?_ ?_|refine gP _ ?_ ?_|refine sN _ ?_ ?_|refine gN _ ?_ ?_|refine sM _ ?_ ?_|refine gM _ ?_ ?_|refine sB _ ?_ ?_|refine gB _ ?_ ?_)<;>intro hc<;>simp[*,F69,wordM,words]))
def zdb(b:UInt8):Bool:=zGb b.toNat||digitN b.toNat
def runM(s:List UInt8):List UInt8:=s.takeWhile zdb
def nameM(s:List UInt8):Bool:=decide (s≠ [])&&(zGb ((s.head?.getD 0).toNat)&&(s.all zdb&&(decide (s.length<=20)&& !wordM s)))
theorem nameByte_high{b:UInt8}(h:128<=b.toNat):zdb b=false:=by
 simp[zdb,zGb,digitN];omega
theorem high_not{c:Nat}(h:128<=c):zGb c=false/\digitN c=false:=by
 simp[zGb,digitN];omega
theorem zBc{p:UInt8->Bool}:∀{s:List UInt8},s.takeWhile p=s<->s.all p=true
 | []=>by simp
 |b::r=>by
  rw[List.takeWhile_cons];cases h:p b
  ·simp[h]
  ·simp[h,zBc (s:=r)]
theorem run_spec(s:List UInt8)(σ:zb):zm E 61 [.str s] σ=some (.ret (.str (runM s)),σ):=by
 refine zc rfl rfl rfl (by simp) ?_;simp[F61];refine wp_while K61_0 B61_0 (fun d=>s.length-d) (fun d=>[]) (fun d=>[(6,.iter s d)]) (fun _=>σ) (fun d=>d<=s.length/\(s.take d).all zdb=true) 0 (by simp) ?_
 rintro d s1 ⟨hd,ha⟩ h1 h2 h3 h4 h5
 simp at h4;by_cases hlt:d<s.length
 ·have hs:d<(⟨s.toArray⟩:ByteArray).size:=by show d<s.toArray.size;simpa using hlt
  have hget:(⟨s.toArray⟩:ByteArray)[d]'hs=s[d]:=rfl;have htk:s.take (d+1)=s.take d++[s[d]]:=by simp
  by_cases hb:s[d].toNat<128
  ·have hdec:=decode_ascii ⟨s.toArray⟩ d hs (by rw[hget];exact hb);rw[hget]at hdec;cases hn:zdb s[d]
   ·have e:runM s=s.take d:=by
     have:s=s.take d++(s[d]::s.drop (d+1)):=by simp
     unfold runM;rw[this,List.takeWhile_append_of_pos (by simpa using ha),List.takeWhile_cons,hn];simp
    have hn2:=hn;simp only[zdb,Bool.or_eq_false_iff]at hn2;have hmin:min d s.length=d:=by omega
    simp[*,zvb,digit_spec]
   ·have hn2:=hn;simp only[zdb,yK]at hn2;cases hl:zGb s[d].toNat
    ·rw[hl]at hn2;simp at hn2;simp[*,zvb,digit_spec];exact⟨d+1,by omega,rfl,by omega,by rw[<-yo,htk,List.all_append,ha];simp[hn]⟩
    ·simp[*,zvb,digit_spec];exact⟨d+1,by omega,rfl,by omega,by rw[<-yo,htk,List.all_append,ha];simp[hn]⟩
  ·obtain⟨hd1,hd2⟩:=decode_high ⟨s.toArray⟩ d hs (by rw[hget];omega);obtain⟨q1,q2⟩:=high_not hd1;have e:runM s=s.take d:=by
    have:s=s.take d++(s[d]::s.drop (d+1)):=by simp
    unfold runM;rw[this,List.takeWhile_append_of_pos (by simpa using ha),List.takeWhile_cons,nameByte_high (by omega)];simp
   simp[*,zvb,digit_spec]
 ·have hd':d=s.length:=by omega
  subst hd';simp at ha;have e:runM s=s:=by
   unfold runM;exact zBc.2 (by simpa using ha)
  simp[*]
theorem name_spec(s:List UInt8)(σ:zb):zm E 38 [.str s] σ=some (.ret (.bool (nameM s)),σ):=by
 refine zc rfl rfl rfl (by simp) ?_;have hr:decide (runM s=s)=s.all zdb:=by
  unfold runM;simp only[zBc,Bool.decide_eq_true]
 by_cases hne:s=[]
 ·subst hne;simp[F38,nameM]
 obtain⟨b,r,hs⟩:=List.exists_cons_of_ne_nil hne;have hb:s[0]? =some b:=by rw[hs];rfl
 have hd:s.head? =some b:=by rw[hs];rfl
 clear hs;generalize ha:s.all zdb=A at hr
 (simp[*,F38,nameM,zvb,run_spec,word_spec])<;>(repeat' ((first|refine sP _ ?_ ?_|refine gP _ ?_ ?_|refine sN _ ?_ ?_|refine gN _ ?_ ?_|refine sM _ ?_ ?_|refine gM _ ?_ ?_|refine sB _ ?_ ?_|refine gB _ ?_ ?_)<;>intro hc<;>simp[*,F38,nameM,zvb,run_spec,word_spec]))
 all_goals(try grind)
theorem rname_spec(s:List UInt8)(σ:zb):zm E 44 [.str s] σ=some (.ret (.bool (nameM s)),σ):=by
 refine zc rfl rfl rfl (by simp) ?_;by_cases hne:s=[]
 ·subst hne;simp[F44,nameM]
 obtain⟨b,r,hs⟩:=List.exists_cons_of_ne_nil hne;have hb:s[0]? =some b:=by rw[hs];rfl
 have hd:s.head? =some b:=by rw[hs];rfl
 clear hs
 (simp[*,F44,nameM,zrc,rword_spec])<;>(repeat' ((first|refine sP _ ?_ ?_|refine gP _ ?_ ?_|refine sN _ ?_ ?_|refine gN _ ?_ ?_|refine sM _ ?_ ?_|refine gM _ ?_ ?_|refine sB _ ?_ ?_|refine gB _ ?_ ?_)<;>intro hc<;>simp[*,F44,nameM,zrc,rword_spec]))
 all_goals first|refine zH s K44_0 B44_0 (fun d=>[(3,.int .i64 d.length)]) (fun _=>σ) (fun d=>d.all zdb=true) (by omega) (by simp) ?_ ?_|grind
 ·intros d x r' s hl' hlt hget hget' hw hp h1 h2 h3 h4;simp at h1 h3;have hx:=hl'.mem;clear h2
  (simp[*,zrc,rdigit_spec])<;>(repeat' ((first|refine sP _ ?_ ?_|refine gP _ ?_ ?_|refine sN _ ?_ ?_|refine gN _ ?_ ?_|refine sM _ ?_ ?_|refine gM _ ?_ ?_|refine sB _ ?_ ?_|refine gB _ ?_ ?_)<;>intro hc<;>simp[*,zrc,rdigit_spec]))
  all_goals grind [zdb]
 ·intros s hp h1 h2 h3 h4;simp at h1 h3
  (simp[*])<;>(repeat' ((first|refine sP _ ?_ ?_|refine gP _ ?_ ?_|refine sN _ ?_ ?_|refine gN _ ?_ ?_|refine sM _ ?_ ?_|refine gM _ ?_ ?_|refine sB _ ?_ ?_|refine gB _ ?_ ?_)<;>intro hc<;>simp[*]))
  all_goals(try grind)
def idx{α:Type}(p:α->Bool)(l:List α):Int:=match l.findIdx? p with
 |some i=>(i:Int)
 |none=> -1
theorem zGc{α:Type}{p:α->Bool}{l d:List α}{x:α}{r:List α}(h:Split l d x r)(hd:∀y∈d,p y=false)(hx:p x=true):idx p l=d.length:=by
 have:l.findIdx? p=some d.length:=by
  rw[h.eq,List.findIdx?_append];have:d.findIdx? p=none:=by rw[yfa];exact hd
  rw[this];simp[List.findIdx?_cons,hx]
 simp[idx,this]
theorem zjd{α:Type}{p:α->Bool}{l:List α}(hd:∀y∈l,p y=false):idx p l= -1:=by
 have:l.findIdx? p=none:=by rw[yfa];exact hd
 simp[idx,this]
theorem idx_ge{α:Type}(p:α->Bool)(l:List α):decide (0<=idx p l)=l.any p:=by
 unfold idx;cases h:l.findIdx? p with
 |none=>
  rw[yfa]at h;simp;exact h
 |some i=>
  have:(l.findIdx? p).isSome=true:=by rw[h];rfl
  rw[List.findIdx?_isSome]at this;simp[this]
theorem indexFuncFlow(l:List (Flow))(p:Flow->Bool)(k:Nat)(first caps:List PV)(σ:zb)(hl:l.length<1099511627776)(hf:∀x∈l,zm E k (first++[zf x]++caps) σ=some (.ret (.bool (p x)),σ)):
  zm E 63 [.slice .plain 5 (l.map (zf)),.fn k first caps] σ=some (.ret (.int .i64 (idx p l)),σ):=by
 refine zc rfl rfl rfl (by simp) ?_;simp[F63];refine zH l K63_0 B63_0 (fun d=>[(8,.int .i64 d.length)]) (fun _=>σ) (fun d=>∀y∈d,p y=false) (by omega) (by simp) ?_ ?_
 ·intros d x r s hl' hlt hget hget' hw hp h1 h2 h3 h4;have hfx:=hf x hl'.mem;simp[zf]at h1 h3 hfx;clear h2 hf;cases hx:p x
  ·(simp[*,zf])<;>(repeat' ((first|refine sP _ ?_ ?_|refine gP _ ?_ ?_|refine sN _ ?_ ?_|refine gN _ ?_ ?_|refine sM _ ?_ ?_|refine gM _ ?_ ?_|refine sB _ ?_ ?_|refine gB _ ?_ ?_)<;>intro hc<;>simp[*,zf]))
   all_goals(try grind)
  ·have:=zGc hl' hp hx
   (simp[*,zf])<;>(repeat' ((first|refine sP _ ?_ ?_|refine gP _ ?_ ?_|refine sN _ ?_ ?_|refine gN _ ?_ ?_|refine sM _ ?_ ?_|refine gM _ ?_ ?_|refine sB _ ?_ ?_|refine gB _ ?_ ?_)<;>intro hc<;>simp[*,zf]))
 ·intros s hp h1 h2 h3 h4;have:=zjd hp;simp at h1 h3
  (simp[*,zf])<;>(repeat' ((first|refine sP _ ?_ ?_|refine gP _ ?_ ?_|refine sN _ ?_ ?_|refine gN _ ?_ ?_|refine sM _ ?_ ?_|refine gM _ ?_ ?_|refine sB _ ?_ ?_|refine gB _ ?_ ?_)<;>intro hc<;>simp[*,zf]))
theorem indexFuncInt(l:List (Int))(p:Int->Bool)(k:Nat)(first caps:List PV)(σ:zb)(hl:l.length<1099511627776)(hf:∀x∈l,zm E k (first++[PV.int .i64 x]++caps) σ=some (.ret (.bool (p x)),σ)):
  zm E 65 [.slice .plain 1 (l.map (PV.int .i64)),.fn k first caps] σ=some (.ret (.int .i64 (idx p l)),σ):=by
 refine zc rfl rfl rfl (by simp) ?_;simp[F65];refine zH l K65_0 B65_0 (fun d=>[(8,.int .i64 d.length)]) (fun _=>σ) (fun d=>∀y∈d,p y=false) (by omega) (by simp) ?_ ?_
 ·intros d x r s hl' hlt hget hget' hw hp h1 h2 h3 h4;have hfx:=hf x hl'.mem;simp at h1 h3 hfx;clear h2 hf;cases hx:p x
  ·(simp[*])<;>(repeat' ((first|refine sP _ ?_ ?_|refine gP _ ?_ ?_|refine sN _ ?_ ?_|refine gN _ ?_ ?_|refine sM _ ?_ ?_|refine gM _ ?_ ?_|refine sB _ ?_ ?_|refine gB _ ?_ ?_)<;>intro hc<;>simp[*]))
   all_goals(try grind)
  ·have:=zGc hl' hp hx
   (simp[*])<;>(repeat' ((first|refine sP _ ?_ ?_|refine gP _ ?_ ?_|refine sN _ ?_ ?_|refine gN _ ?_ ?_|refine sM _ ?_ ?_|refine gM _ ?_ ?_|refine sB _ ?_ ?_|refine gB _ ?_ ?_)<;>intro hc<;>simp[*]))
 ·intros s hp h1 h2 h3 h4;have:=zjd hp;simp at h1 h3
  (simp[*])<;>(repeat' ((first|refine sP _ ?_ ?_|refine gP _ ?_ ?_|refine sN _ ?_ ?_|refine gN _ ?_ ?_|refine sM _ ?_ ?_|refine gM _ ?_ ?_|refine sB _ ?_ ?_|refine gB _ ?_ ?_)<;>intro hc<;>simp[*]))
theorem containsFuncInt(l:List (Int))(p:Int->Bool)(k:Nat)(first caps:List PV)(σ:zb)(hl:l.length<1099511627776)(hc:(first.map stripA)=first/\(caps.map stripA)=caps)(hf:∀x∈l,zm E k (first++[PV.int .i64 x]++caps) σ=some (.ret (.bool (p x)),σ)):
  zm E 41 [.slice .plain 1 (l.map (PV.int .i64)),.fn k first caps] σ=some (.ret (.bool (l.any p)),σ):=by
 refine zc rfl rfl rfl (by simp) ?_;have h:=indexFuncInt l p k first caps σ hl hf;have h2:=idx_ge p l;clear hf
 (simp[*,F41])<;>(repeat' ((first|refine sP _ ?_ ?_|refine gP _ ?_ ?_|refine sN _ ?_ ?_|refine gN _ ?_ ?_|refine sM _ ?_ ?_|refine gM _ ?_ ?_|refine sB _ ?_ ?_|refine gB _ ?_ ?_)<;>intro hc<;>simp[*,F41]))
theorem indexFuncNode(l:List (Node))(p:Node->Bool)(k:Nat)(first caps:List PV)(σ:zb)(hl:l.length<1099511627776)(hf:∀x∈l,zm E k (first++[zG x]++caps) σ=some (.ret (.bool (p x)),σ)):
  zm E 91 [.slice .plain 8 (l.map (zG)),.fn k first caps] σ=some (.ret (.int .i64 (idx p l)),σ):=by
 refine zc rfl rfl rfl (by simp) ?_;simp[F91];refine zH l K91_0 B91_0 (fun d=>[(8,.int .i64 d.length)]) (fun _=>σ) (fun d=>∀y∈d,p y=false) (by omega) (by simp) ?_ ?_
 ·intros d x r s hl' hlt hget hget' hw hp h1 h2 h3 h4;have hfx:=hf x hl'.mem;simp[za]at h1 h3 hfx;clear h2 hf;cases hx:p x
  ·(simp[*,za])<;>(repeat' ((first|refine sP _ ?_ ?_|refine gP _ ?_ ?_|refine sN _ ?_ ?_|refine gN _ ?_ ?_|refine sM _ ?_ ?_|refine gM _ ?_ ?_|refine sB _ ?_ ?_|refine gB _ ?_ ?_)<;>intro hc<;>simp[*,za]))
   all_goals(try grind)
  ·have:=zGc hl' hp hx
   (simp[*,za])<;>(repeat' ((first|refine sP _ ?_ ?_|refine gP _ ?_ ?_|refine sN _ ?_ ?_|refine gN _ ?_ ?_|refine sM _ ?_ ?_|refine gM _ ?_ ?_|refine sB _ ?_ ?_|refine gB _ ?_ ?_)<;>intro hc<;>simp[*,za]))
 ·intros s hp h1 h2 h3 h4;have:=zjd hp;simp at h1 h3
  (simp[*,za])<;>(repeat' ((first|refine sP _ ?_ ?_|refine gP _ ?_ ?_|refine sN _ ?_ ?_|refine gN _ ?_ ?_|refine sM _ ?_ ?_|refine gM _ ?_ ?_|refine sB _ ?_ ?_|refine gB _ ?_ ?_)<;>intro hc<;>simp[*,za]))
theorem containsFuncNode(l:List (Node))(p:Node->Bool)(k:Nat)(first caps:List PV)(σ:zb)(hl:l.length<1099511627776)(hc:(first.map stripA)=first/\(caps.map stripA)=caps)(hf:∀x∈l,zm E k (first++[zG x]++caps) σ=some (.ret (.bool (p x)),σ)):
  zm E 72 [.slice .plain 8 (l.map (zG)),.fn k first caps] σ=some (.ret (.bool (l.any p)),σ):=by
 refine zc rfl rfl rfl (by simp) ?_;have h:=indexFuncNode l p k first caps σ hl hf;have h2:=idx_ge p l;clear hf
 (simp[*,F72])<;>(repeat' ((first|refine sP _ ?_ ?_|refine gP _ ?_ ?_|refine sN _ ?_ ?_|refine gN _ ?_ ?_|refine sM _ ?_ ?_|refine gM _ ?_ ?_|refine sB _ ?_ ?_|refine gB _ ?_ ?_)<;>intro hc<;>simp[*,F72]))
theorem indexFuncArr(l:List (Arr))(p:Arr->Bool)(k:Nat)(first caps:List PV)(σ:zb)(hl:l.length<1099511627776)(hf:∀x∈l,zm E k (first++[zN x]++caps) σ=some (.ret (.bool (p x)),σ)):
  zm E 123 [.slice .plain 2 (l.map (zN)),.fn k first caps] σ=some (.ret (.int .i64 (idx p l)),σ):=by
 refine zc rfl rfl rfl (by simp) ?_;simp[F123];refine zH l K123_0 B123_0 (fun d=>[(8,.int .i64 d.length)]) (fun _=>σ) (fun d=>∀y∈d,p y=false) (by omega) (by simp) ?_ ?_
 ·intros d x r s hl' hlt hget hget' hw hp h1 h2 h3 h4;have hfx:=hf x hl'.mem;simp[zN]at h1 h3 hfx;clear h2 hf;cases hx:p x
  ·(simp[*,zN])<;>(repeat' ((first|refine sP _ ?_ ?_|refine gP _ ?_ ?_|refine sN _ ?_ ?_|refine gN _ ?_ ?_|refine sM _ ?_ ?_|refine gM _ ?_ ?_|refine sB _ ?_ ?_|refine gB _ ?_ ?_)<;>intro hc<;>simp[*,zN]))
   all_goals(try grind)
  ·have:=zGc hl' hp hx
   (simp[*,zN])<;>(repeat' ((first|refine sP _ ?_ ?_|refine gP _ ?_ ?_|refine sN _ ?_ ?_|refine gN _ ?_ ?_|refine sM _ ?_ ?_|refine gM _ ?_ ?_|refine sB _ ?_ ?_|refine gB _ ?_ ?_)<;>intro hc<;>simp[*,zN]))
 ·intros s hp h1 h2 h3 h4;have:=zjd hp;simp at h1 h3
  (simp[*,zN])<;>(repeat' ((first|refine sP _ ?_ ?_|refine gP _ ?_ ?_|refine sN _ ?_ ?_|refine gN _ ?_ ?_|refine sM _ ?_ ?_|refine gM _ ?_ ?_|refine sB _ ?_ ?_|refine gB _ ?_ ?_)<;>intro hc<;>simp[*,zN]))
theorem containsFuncArr(l:List (Arr))(p:Arr->Bool)(k:Nat)(first caps:List PV)(σ:zb)(hl:l.length<1099511627776)(hc:(first.map stripA)=first/\(caps.map stripA)=caps)(hf:∀x∈l,zm E k (first++[zN x]++caps) σ=some (.ret (.bool (p x)),σ)):
  zm E 116 [.slice .plain 2 (l.map (zN)),.fn k first caps] σ=some (.ret (.bool (l.any p)),σ):=by
 refine zc rfl rfl rfl (by simp) ?_;have h:=indexFuncArr l p k first caps σ hl hf;have h2:=idx_ge p l;clear hf
 (simp[*,F116])<;>(repeat' ((first|refine sP _ ?_ ?_|refine gP _ ?_ ?_|refine sN _ ?_ ?_|refine gN _ ?_ ?_|refine sM _ ?_ ?_|refine gM _ ?_ ?_|refine sB _ ?_ ?_|refine gB _ ?_ ?_)<;>intro hc<;>simp[*,F116]))
theorem indexFuncList(l:List (List Node))(p:List Node->Bool)(k:Nat)(first caps:List PV)(σ:zb)(hl:l.length<1099511627776)(hf:∀x∈l,zm E k (first++[zj x]++caps) σ=some (.ret (.bool (p x)),σ)):
  zm E 92 [.slice .plain 1 (l.map (zj)),.fn k first caps] σ=some (.ret (.int .i64 (idx p l)),σ):=by
 refine zc rfl rfl rfl (by simp) ?_;simp[F92];refine zH l K92_0 B92_0 (fun d=>[(8,.int .i64 d.length)]) (fun _=>σ) (fun d=>∀y∈d,p y=false) (by omega) (by simp) ?_ ?_
 ·intros d x r s hl' hlt hget hget' hw hp h1 h2 h3 h4;have hfx:=hf x hl'.mem;simp at h1 h3 hfx;clear h2 hf;cases hx:p x
  ·(simp[*])<;>(repeat' ((first|refine sP _ ?_ ?_|refine gP _ ?_ ?_|refine sN _ ?_ ?_|refine gN _ ?_ ?_|refine sM _ ?_ ?_|refine gM _ ?_ ?_|refine sB _ ?_ ?_|refine gB _ ?_ ?_)<;>intro hc<;>simp[*]))
   all_goals(try grind)
  ·have:=zGc hl' hp hx
   (simp[*])<;>(repeat' ((first|refine sP _ ?_ ?_|refine gP _ ?_ ?_|refine sN _ ?_ ?_|refine gN _ ?_ ?_|refine sM _ ?_ ?_|refine gM _ ?_ ?_|refine sB _ ?_ ?_|refine gB _ ?_ ?_)<;>intro hc<;>simp[*]))
 ·intros s hp h1 h2 h3 h4;have:=zjd hp;simp at h1 h3
  (simp[*])<;>(repeat' ((first|refine sP _ ?_ ?_|refine gP _ ?_ ?_|refine sN _ ?_ ?_|refine gN _ ?_ ?_|refine sM _ ?_ ?_|refine gM _ ?_ ?_|refine sB _ ?_ ?_|refine gB _ ?_ ?_)<;>intro hc<;>simp[*]))
theorem containsFuncList(l:List (List Node))(p:List Node->Bool)(k:Nat)(first caps:List PV)(σ:zb)(hl:l.length<1099511627776)(hc:(first.map stripA)=first/\(caps.map stripA)=caps)(hf:∀x∈l,zm E k (first++[zj x]++caps) σ=some (.ret (.bool (p x)),σ)):
  zm E 74 [.slice .plain 1 (l.map (zj)),.fn k first caps] σ=some (.ret (.bool (l.any p)),σ):=by
 refine zc rfl rfl rfl (by simp) ?_;have h:=indexFuncList l p k first caps σ hl hf;have h2:=idx_ge p l;clear hf
 (simp[*,F74])<;>(repeat' ((first|refine sP _ ?_ ?_|refine gP _ ?_ ?_|refine sN _ ?_ ?_|refine gN _ ?_ ?_|refine sM _ ?_ ?_|refine gM _ ?_ ?_|refine sB _ ?_ ?_|refine gB _ ?_ ?_)<;>intro hc<;>simp[*,F74]))
def zba(l:List Flow)(s:List UInt8):Int:=idx (fun f=>decide (f.name=s)) l
def zZb(l:List Arr)(s:List UInt8):Bool:=l.any fun a=>decide (a.name=s)
def arrAt(l:List Arr)(s:List UInt8):Int:=idx (fun f=>decide (f.name=s)) l
theorem place_spec(u:Unt)(s:List UInt8)(σ:zb)(hl:u.flows.length<1099511627776):zm E 40 [encUnt u,.str s] σ=some (.ret (.int .i64 (zba u.flows s)),σ):=by
 refine zc rfl rfl rfl (by simp[encUnt]) ?_;have h:=indexFuncFlow u.flows (fun f=>decide (f.name=s)) 64 [] [.iptr [.str s] 0] σ hl (by
  intro x hx;refine zc rfl rfl rfl (by simp[zf]) ?_
  (simp[*,F64,zf])<;>(repeat' ((first|refine sP _ ?_ ?_|refine gP _ ?_ ?_|refine sN _ ?_ ?_|refine gN _ ?_ ?_|refine sM _ ?_ ?_|refine gM _ ?_ ?_|refine sB _ ?_ ?_|refine gB _ ?_ ?_)<;>intro hc<;>simp[*,F64,zf])))
 (simp[*,F40,encUnt,zba,flows])<;>(repeat' ((first|refine sP _ ?_ ?_|refine gP _ ?_ ?_|refine sN _ ?_ ?_|refine gN _ ?_ ?_|refine sM _ ?_ ?_|refine gM _ ?_ ?_|refine sB _ ?_ ?_|refine gB _ ?_ ?_)<;>intro hc<;>simp[*,F40,encUnt,zba,flows]))
theorem hasArray_spec(u:Unt)(s:List UInt8)(σ:zb)(hl:u.arrays.length<1099511627776):zm E 99 [encUnt u,.str s] σ=some (.ret (.bool (zZb u.arrays s)),σ):=by
 refine zc rfl rfl rfl (by simp[encUnt]) ?_;have h:=containsFuncArr u.arrays (fun f=>decide (f.name=s)) 117 [] [.iptr [.str s] 0] σ hl (by simp) (by
  intro x hx;refine zc rfl rfl rfl (by simp[zN]) ?_
  (simp[*,F117,zN])<;>(repeat' ((first|refine sP _ ?_ ?_|refine gP _ ?_ ?_|refine sN _ ?_ ?_|refine gN _ ?_ ?_|refine sM _ ?_ ?_|refine gM _ ?_ ?_|refine sB _ ?_ ?_|refine gB _ ?_ ?_)<;>intro hc<;>simp[*,F117,zN])))
 (simp[*,F99,encUnt,zZb,arrs])<;>(repeat' ((first|refine sP _ ?_ ?_|refine gP _ ?_ ?_|refine sN _ ?_ ?_|refine gN _ ?_ ?_|refine sM _ ?_ ?_|refine gM _ ?_ ?_|refine sB _ ?_ ?_|refine gB _ ?_ ?_)<;>intro hc<;>simp[*,F99,encUnt,zZb,arrs]))
theorem zdd(u:Unt)(n:List UInt8)(σ:zb)(hl:u.flows.length<1099511627776):zm E 46 [encUnt u,.str n] σ=some (.ret (.int .i64 (zba u.flows n)),σ):=by
 refine zc rfl rfl rfl (by simp[encUnt]) ?_;simp[F46,encUnt];refine zH u.flows K46_0 B46_0 (fun d=>[(5,.int .i64 d.length)]) (fun _=>σ) (fun d=>∀y∈d,decide (y.name=n)=false) (by omega) (by simp) ?_ ?_
 ·intros d x r s hl' hlt hget hget' hw hp h1 h2 h3 h4;simp at h1 h3 h2;by_cases hx:x.name=n
  ·have h:=zGc hl' hp (p:=fun f=>decide (f.name=n)) (by simpa using hx)
   (simp[*,zf,flows,zba])<;>(repeat' ((first|refine sP _ ?_ ?_|refine gP _ ?_ ?_|refine sN _ ?_ ?_|refine gN _ ?_ ?_|refine sM _ ?_ ?_|refine gM _ ?_ ?_|refine sB _ ?_ ?_|refine gB _ ?_ ?_)<;>intro hc<;>simp[*,zf,flows,zba]))
  ·(simp[*,zf,flows,zba])<;>(repeat' ((first|refine sP _ ?_ ?_|refine gP _ ?_ ?_|refine sN _ ?_ ?_|refine gN _ ?_ ?_|refine sM _ ?_ ?_|refine gM _ ?_ ?_|refine sB _ ?_ ?_|refine gB _ ?_ ?_)<;>intro hc<;>simp[*,zf,flows,zba]))
   all_goals(try grind)
 ·intros s hp h1 h2 h3 h4;have:=zjd hp;simp at h1 h3 h2
  (simp[*,flows,zba])<;>(repeat' ((first|refine sP _ ?_ ?_|refine gP _ ?_ ?_|refine sN _ ?_ ?_|refine gN _ ?_ ?_|refine sM _ ?_ ?_|refine gM _ ?_ ?_|refine sB _ ?_ ?_|refine gB _ ?_ ?_)<;>intro hc<;>simp[*,flows,zba]))
theorem rarray_spec(u:Unt)(n:List UInt8)(σ:zb)(hl:u.arrays.length<1099511627776):zm E 45 [encUnt u,.str n] σ=some (.ret (.int .i64 (arrAt u.arrays n)),σ):=by
 refine zc rfl rfl rfl (by simp[encUnt]) ?_;simp[F45,encUnt];refine zH u.arrays K45_0 B45_0 (fun d=>[(5,.int .i64 d.length)]) (fun _=>σ) (fun d=>∀y∈d,decide (y.name=n)=false) (by omega) (by simp) ?_ ?_
 ·intros d x r s hl' hlt hget hget' hw hp h1 h2 h3 h4;simp at h1 h3 h2;by_cases hx:x.name=n
  ·have h:=zGc hl' hp (p:=fun f=>decide (f.name=n)) (by simpa using hx)
   (simp[*,zN,arrs,arrAt])<;>(repeat' ((first|refine sP _ ?_ ?_|refine gP _ ?_ ?_|refine sN _ ?_ ?_|refine gN _ ?_ ?_|refine sM _ ?_ ?_|refine gM _ ?_ ?_|refine sB _ ?_ ?_|refine gB _ ?_ ?_)<;>intro hc<;>simp[*,zN,arrs,arrAt]))
  ·(simp[*,zN,arrs,arrAt])<;>(repeat' ((first|refine sP _ ?_ ?_|refine gP _ ?_ ?_|refine sN _ ?_ ?_|refine gN _ ?_ ?_|refine sM _ ?_ ?_|refine gM _ ?_ ?_|refine sB _ ?_ ?_|refine gB _ ?_ ?_)<;>intro hc<;>simp[*,zN,arrs,arrAt]))
   all_goals(try grind)
 ·intros s hp h1 h2 h3 h4;have:=zjd hp;simp at h1 h3 h2
  (simp[*,arrs,arrAt])<;>(repeat' ((first|refine sP _ ?_ ?_|refine gP _ ?_ ?_|refine sN _ ?_ ?_|refine gN _ ?_ ?_|refine sM _ ?_ ?_|refine gM _ ?_ ?_|refine sB _ ?_ ?_|refine gB _ ?_ ?_)<;>intro hc<;>simp[*,arrs,arrAt]))
def Node.ends(n:Node):Bool:=decide (12<=n.kind)&&decide (n.kind<=15)
def zAc(l:List Node):Bool:=match l.getLast? with
 |some n=>decide (n.kind=12)
 |none=>false
mutual
def Node.leaves:Node->Bool
 |⟨k,_,_,_,_,_,_,ks⟩=>decide (k=14)||(decide (k=10)&&leavesK ks)
def zLa:List Node->Bool
 | []=>false
 |x::r=>x.leaves||zLa r
def leavesK:List (List Node)->Bool
 | []=>false
 |l::r=>zLa l||leavesK r
end
theorem leavesL_eq(l:List Node):zLa l=l.any Node.leaves:=by
 induction l with
 |nil=>rfl
 |cons x r ih=>simp[zLa,ih]
theorem leavesK_eq(l:List (List Node)):leavesK l=l.any zLa:=by
 induction l with
 |nil=>rfl
 |cons x r ih=>simp[leavesK,ih]
theorem leaves_eq(x:Node):x.leaves=(decide (x.kind=14)||(decide (x.kind=10)&&x.kids.any zLa)):=by
 cases x;simp[Node.leaves,leavesK_eq]
def zU(n:Node):Bool:=
 if n.kind=10/\n.kids.length=2 then n.kids.all fun l=> !zAc l
 else if n.kind=11/\n.kids.length=1 then n.kids.all fun l=> !zLa l
 else n.ends
def endK(k:Int):Bool:=decide (12<=k)&&decide (k<=15)
theorem ends_raw(k:Int)(a b c d e f g:PV)(σ:zb):zm E 51 [.agg [.int .i64 k,a,b,c,d,e,f,g]] σ=some (.ret (.bool (endK k)),σ):=by
 refine zc rfl rfl rfl (by simp) ?_
 (simp[*,F51,endK])<;>(repeat' ((first|refine sP _ ?_ ?_|refine gP _ ?_ ?_|refine sN _ ?_ ?_|refine gN _ ?_ ?_|refine sM _ ?_ ?_|refine gM _ ?_ ?_|refine sB _ ?_ ?_|refine gB _ ?_ ?_)<;>intro hc<;>simp[*,F51,endK]))
theorem rends_raw(k:Int)(a b c d e f g:PV)(σ:zb):zm E 79 [.agg [.int .i64 k,a,b,c,d,e,f,g]] σ=some (.ret (.bool (endK k)),σ):=by
 refine zc rfl rfl rfl (by simp) ?_
 (simp[*,F79,endK])<;>(repeat' ((first|refine sP _ ?_ ?_|refine gP _ ?_ ?_|refine sN _ ?_ ?_|refine gN _ ?_ ?_|refine sM _ ?_ ?_|refine gM _ ?_ ?_|refine sB _ ?_ ?_|refine gB _ ?_ ?_)<;>intro hc<;>simp[*,F79,endK]))
theorem rends_spec(x:Node)(σ:zb):zm E 79 [zG x] σ=some (.ret (.bool x.ends),σ):=by
 rw[za,rends_raw];rfl
theorem yields_spec(l:List Node)(σ:zb)(hl:l.length<1099511627776):zm E 49 [zj l] σ=some (.ret (.bool (zAc l)),σ):=by
 refine zc rfl rfl rfl (by simp) ?_;rcases List.eq_nil_or_concat l with rfl|⟨d,x,rfl⟩
 ·(simp[*,F49,zj,zAc])<;>(repeat' ((first|refine sP _ ?_ ?_|refine gP _ ?_ ?_|refine sN _ ?_ ?_|refine gN _ ?_ ?_|refine sM _ ?_ ?_|refine gM _ ?_ ?_|refine sB _ ?_ ?_|refine gB _ ?_ ?_)<;>intro hc<;>simp[*,F49,zj,zAc]))
 ·have hw:zT .i64 (d.length:Int)=d.length:=zn (by omega) (by simp at hl;omega);have hp:(0:Int)<d.length+1:=by omega
  (simp[*,F49,zj,zAc,za])<;>(repeat' ((first|refine sP _ ?_ ?_|refine gP _ ?_ ?_|refine sN _ ?_ ?_|refine gN _ ?_ ?_|refine sM _ ?_ ?_|refine gM _ ?_ ?_|refine sB _ ?_ ?_|refine gB _ ?_ ?_)<;>intro hc<;>simp[*,F49,zj,zAc,za]))
def lastM(l:List Node):Int:=match l.getLast? with
 |some n=>if n.ends then n.kind else 0
 |none=>0
theorem lastM_eq(l:List Node):decide (lastM l=12)=zAc l:=by
 unfold lastM zAc;cases l.getLast? with
 |none=>simp
 |some n=>
  simp only[Node.ends];by_cases h:n.kind=12
  ·simp[h]
  ·simp[h];split<;>simp[h]
theorem rlast_spec(l:List Node)(σ:zb)(hl:l.length<1099511627776):zm E 77 [zj l] σ=some (.ret (.int .i64 (lastM l)),σ):=by
 refine zc rfl rfl rfl (by simp) ?_;rcases List.eq_nil_or_concat l with rfl|⟨d,x,rfl⟩
 ·(simp[*,F77,zj,lastM])<;>(repeat' ((first|refine sP _ ?_ ?_|refine gP _ ?_ ?_|refine sN _ ?_ ?_|refine gN _ ?_ ?_|refine sM _ ?_ ?_|refine gM _ ?_ ?_|refine sB _ ?_ ?_|refine gB _ ?_ ?_)<;>intro hc<;>simp[*,F77,zj,lastM]))
 ·have hw:zT .i64 (d.length:Int)=d.length:=zn (by omega) (by simp at hl;omega);have hp:¬(d.length:Int)+1=0:=by omega
  have he:=rends_spec x [];simp[za]at he
  (simp[*,F77,zj,lastM,za])<;>(repeat' ((first|refine sP _ ?_ ?_|refine gP _ ?_ ?_|refine sN _ ?_ ?_|refine gN _ ?_ ?_|refine sM _ ?_ ?_|refine gM _ ?_ ?_|refine sB _ ?_ ?_|refine gB _ ?_ ?_)<;>intro hc<;>simp[*,F77,zj,lastM,za]))
  all_goals(try grind)
theorem leaves_spec:∀(N:Nat) (l:List Node) (σ:zb),wtL l<=N->N<1099511627776->zm E 50 [zj l] σ=some (.ret (.bool (zLa l)),σ):=by
 intro N
 induction N using yca with
 |ind N ih=>
  intro l σ hl hN;refine zc rfl rfl rfl (by simp) ?_;have h:=containsFuncNode l Node.leaves 73 [] [] σ (by have:=zgd l;omega) (by simp) (by
   intro x hx;refine zc rfl rfl rfl (by simp[za]) ?_;have hw:=wt_mem hx;have hk:=zeb x;have hk2:=len_wtK x.kids;have h:=containsFuncList x.kids zLa 50 [] [] σ (by omega) (by simp) (by
    intro y hy;have:=wt_kid hy;exact ih (wtL y) (by omega) y σ (yk _) (by omega))
   (simp[*,F73,za,leaves_eq,kids])<;>(repeat' ((first|refine sP _ ?_ ?_|refine gP _ ?_ ?_|refine sN _ ?_ ?_|refine gN _ ?_ ?_|refine sM _ ?_ ?_|refine gM _ ?_ ?_|refine sB _ ?_ ?_|refine gB _ ?_ ?_)<;>intro hc<;>simp[*,F73,za,leaves_eq,kids])))
  (simp[*,F50,leavesL_eq,zj])<;>(repeat' ((first|refine sP _ ?_ ?_|refine gP _ ?_ ?_|refine sN _ ?_ ?_|refine gN _ ?_ ?_|refine sM _ ?_ ?_|refine gM _ ?_ ?_|refine sB _ ?_ ?_|refine gB _ ?_ ?_)<;>intro hc<;>simp[*,F50,leavesL_eq,zj]))
theorem rleaves_spec:∀(N:Nat) (l:List Node) (σ:zb),wtL l<=N->N<1099511627776->zm E 78 [zj l] σ=some (.ret (.bool (zLa l)),σ):=by
 intro N
 induction N using yca with
 |ind N ih=>
  intro l σ hl hN;refine zc rfl rfl rfl (by simp) ?_;have hll:=zgd l;simp[F78];refine zH l K78_1 B78_1 (fun d=>[(3,.int .i64 d.length)]) (fun _=>σ) (fun d=>∀y∈d,y.leaves=false) (by omega) (by simp) ?_ ?_
  ·intros d x r s hl' hlt hget hget' hw hp h1 h2 h3 h4;simp at h1 h3;clear h2;have hx:=hl'.mem;have hwx:=wt_mem hx;have hk:=zeb x;have hk2:=len_wtK x.kids;have hex:=leaves_eq x;have hel:zLa l=l.any Node.leaves:=leavesL_eq l;by_cases h14:x.kind=14
   ·(simp[*,zj,za])<;>(repeat' ((first|refine sP _ ?_ ?_|refine gP _ ?_ ?_|refine sN _ ?_ ?_|refine gN _ ?_ ?_|refine sM _ ?_ ?_|refine gM _ ?_ ?_|refine sB _ ?_ ?_|refine gB _ ?_ ?_)<;>intro hc<;>simp[*,zj,za]))
    all_goals(try grind)
   ·simp[*,zj,za];refine zH (if x.kind=10 then x.kids else[]) K78_0 B78_0 (fun d=>[(4,.int .i64 d.length)]) (fun _=>σ) (fun d=>∀y∈d,zLa y=false) (by split<;>simp<;>omega) (by simp) ?_ ?_
    ·intros d' y r' s' hl'' hlt' hget2 hget2' hw' hp' h1' h2' h3' h4';simp at h1' h3';clear h2';by_cases h10:x.kind=10
     ·simp[h10]at hl'' hlt' hget2 hget2';have hy:=hl''.mem;have:=wt_kid hy;have hr:=ih (wtL y) (by omega) y [] (yk _) (by omega);simp[zj]at hr
      (simp[*,zj,za,kids])<;>(repeat' ((first|refine sP _ ?_ ?_|refine gP _ ?_ ?_|refine sN _ ?_ ?_|refine gN _ ?_ ?_|refine sM _ ?_ ?_|refine gM _ ?_ ?_|refine sB _ ?_ ?_|refine gB _ ?_ ?_)<;>intro hc<;>simp[*,zj,za,kids]))
      all_goals(try grind)
     ·exfalso;simp[h10]at hlt'
    ·intros s' hp' h1' h2' h3' h4';simp at h1' h3';clear h2';by_cases h10:x.kind=10
     ·simp[h10]at h3' hp'
      (simp[*,zj,za,kids])<;>(repeat' ((first|refine sP _ ?_ ?_|refine gP _ ?_ ?_|refine sN _ ?_ ?_|refine gN _ ?_ ?_|refine sM _ ?_ ?_|refine gM _ ?_ ?_|refine sB _ ?_ ?_|refine gB _ ?_ ?_)<;>intro hc<;>simp[*,zj,za,kids]))
      all_goals(try grind)
     ·simp[h10]at h3' hp'
      (simp[*,zj,za,kids])<;>(repeat' ((first|refine sP _ ?_ ?_|refine gP _ ?_ ?_|refine sN _ ?_ ?_|refine gN _ ?_ ?_|refine sM _ ?_ ?_|refine gM _ ?_ ?_|refine sB _ ?_ ?_|refine gB _ ?_ ?_)<;>intro hc<;>simp[*,zj,za,kids]))
      all_goals(try grind)
  ·intros s hp h1 h2 h3 h4;simp at h1 h3;have hel:zLa l=l.any Node.leaves:=leavesL_eq l
   (simp[*,zj,za])<;>(repeat' ((first|refine sP _ ?_ ?_|refine gP _ ?_ ?_|refine sN _ ?_ ?_|refine gN _ ?_ ?_|refine sM _ ?_ ?_|refine gM _ ?_ ?_|refine sB _ ?_ ?_|refine gB _ ?_ ?_)<;>intro hc<;>simp[*,zj,za]))
   all_goals(try grind)
theorem zfc(x:Node)(σ:zb)(hx:wtN x<1099511627776):zm E 29 [zG x] σ=some (.ret (.bool (zU x)),σ):=by
 refine zc rfl rfl rfl (by simp[za]) ?_;have he:x.ends=endK x.kind:=rfl;have hk:∀l∈x.kids,wtL l+2<=wtN x:=fun l=>wt_kid
 have hy:∀l∈x.kids,zm E 49 [zj l] []=some (.ret (.bool (zAc l)),[]):=fun l hl=>yields_spec l [] (by have:=zgd l;have:=hk l hl;omega)
 have hv:∀l∈x.kids,zm E 50 [zj l] []=some (.ret (.bool (zLa l)),[]):=fun l hl=>leaves_spec (wtL l) l [] (yk _) (by have:=hk l hl;omega)
 have hks:zU x=if x.kind=10/\x.kids.length=2 then(x.kids.all fun l=> !zAc l)else if x.kind=11/\x.kids.length=1 then(x.kids.all fun l=> !zLa l)else x.ends:=rfl
 rcases hkk:x.kids with _|⟨a,_|⟨b,_|⟨c,t⟩⟩⟩
 all_goals
  rw[hkk]at hy hv;simp at hy hv
  (simp[*,F29,za,kids,ends_raw])<;>(repeat' ((first|refine sP _ ?_ ?_|refine gP _ ?_ ?_|refine sN _ ?_ ?_|refine gN _ ?_ ?_|refine sM _ ?_ ?_|refine gM _ ?_ ?_|refine sB _ ?_ ?_|refine gB _ ?_ ?_)<;>intro hc<;>simp[*,F29,za,kids,ends_raw]))
  all_goals(try grind)
theorem zxa(x:Node)(σ:zb)(hx:wtN x<1099511627776):zm E 58 [zG x] σ=some (.ret (.bool (zU x)),σ):=by
 refine zc rfl rfl rfl (by simp[za]) ?_;have he:x.ends=endK x.kind:=rfl;have hk:∀l∈x.kids,wtL l+2<=wtN x:=fun l=>wt_kid
 have hy:∀l∈x.kids,zm E 77 [zj l] []=some (.ret (.int .i64 (lastM l)),[]):=fun l hl=>rlast_spec l [] (by have:=zgd l;have:=hk l hl;omega)
 have hv:∀l∈x.kids,zm E 78 [zj l] []=some (.ret (.bool (zLa l)),[]):=fun l hl=>rleaves_spec (wtL l) l [] (yk _) (by have:=hk l hl;omega)
 have hks:zU x=if x.kind=10/\x.kids.length=2 then(x.kids.all fun l=> !decide (lastM l=12))else if x.kind=11/\x.kids.length=1 then(x.kids.all fun l=> !zLa l)else x.ends:=by simp only[lastM_eq];rfl
 rcases hkk:x.kids with _|⟨a,_|⟨b,_|⟨c,t⟩⟩⟩
 all_goals
  rw[hkk]at hy hv;simp at hy hv
  (simp[*,F58,za,kids,rends_raw])<;>(repeat' ((first|refine sP _ ?_ ?_|refine gP _ ?_ ?_|refine sN _ ?_ ?_|refine gN _ ?_ ?_|refine sM _ ?_ ?_|refine gM _ ?_ ?_|refine sB _ ?_ ?_|refine gB _ ?_ ?_)<;>intro hc<;>simp[*,F58,za,kids,rends_raw]))
  all_goals(try grind)
abbrev St1:=List Int
def stO(S:List Int):Obj:= .arr 1 (S.map (PV.int .i64))
def chkV(u:Unt)(f:Flow)(n:Nat):PV:= .iptr [arrs u.arrays,flows u.flows,.str f.name,.int .i64 f.type,.int .i64 f.params,ints f.types,zj f.body,.mslice 0 0 n 1] 0
def at0(l:List Int)(v:Int):Int:=(l[v.toNat]?).getD 0
theorem zJb{l:List Int}{v:Int}(h0:0<=v)(h1:v<l.length):l[v.toNat]? =some (at0 l v):=by
 unfold at0;have:v.toNat<l.length:=by omega
 simp[this]
theorem zrb{l:List Int}{v:Int}(h0:0<=v)(h1:v<l.length)(h:v.toNat<l.length):l[v.toNat]'h=at0 l v:=by
 unfold at0;simp[h]
def valM(ty:List Int)(v t:Int):Bool:=decide (0<=v)&&(decide (v<ty.length)&&(decide (t=0)||decide (at0 ty v=t)))
theorem value_spec(u:Unt)(f:Flow)(n:Nat)(v t:Int)(σ:zb):zm E 110 [chkV u f n,.int .i64 v,.int .i64 t] σ=some (.ret (.bool (valM f.types v t)),σ):=by
 refine zc rfl rfl rfl (by simp[chkV]) ?_;by_cases h0:0<=v
 ·by_cases h1:v<f.types.length
  ·have h2:=zJb h0 h1;have h3:v.toNat<f.types.length:=by omega
   have h4:=zrb h0 h1 h3
   (simp[*,F110,chkV,ints,valM])<;>(repeat' ((first|refine sP _ ?_ ?_|refine gP _ ?_ ?_|refine sN _ ?_ ?_|refine gN _ ?_ ?_|refine sM _ ?_ ?_|refine gM _ ?_ ?_|refine sB _ ?_ ?_|refine gB _ ?_ ?_)<;>intro hc<;>simp[*,F110,chkV,ints,valM]))
  ·(simp[*,F110,chkV,ints,valM])<;>(repeat' ((first|refine sP _ ?_ ?_|refine gP _ ?_ ?_|refine sN _ ?_ ?_|refine gN _ ?_ ?_|refine sM _ ?_ ?_|refine gM _ ?_ ?_|refine sB _ ?_ ?_|refine gB _ ?_ ?_)<;>intro hc<;>simp[*,F110,chkV,ints,valM]))
 ·(simp[*,F110,chkV,ints,valM])<;>(repeat' ((first|refine sP _ ?_ ?_|refine gP _ ?_ ?_|refine sN _ ?_ ?_|refine gN _ ?_ ?_|refine sM _ ?_ ?_|refine gM _ ?_ ?_|refine sB _ ?_ ?_|refine gB _ ?_ ?_)<;>intro hc<;>simp[*,F110,chkV,ints,valM]))
def zK(ty l:List Int):List Int:=if l.all (fun v=>valM ty v 0)then l.map (at0 ty)else[]
theorem zfb{ty:List Int}{v t:Int}(h:valM ty v t=true):0<=v/\v<ty.length:=by
 simp[valM]at h;exact⟨h.1,h.2.1⟩
theorem types_spec(u:Unt)(f:Flow)(n:Nat)(l:List Int)(σ:zb)(hl:l.length<1099511627776):zm E 94 [chkV u f n,ints l] σ=some (.ret (ints (zK f.types l)),σ):=by
 refine zc rfl rfl rfl (by simp[chkV]) ?_;simp[F94,ints];refine zH l K94_0 B94_0 (fun d=>[(9,.int .i64 d.length),(4,acc 1 (d.map fun v=> .int .i64 (at0 f.types v)))]) (fun _=>σ) (fun d=>d.all (fun v=>valM f.types v 0)=true) (by omega) (by simp) ?_ ?_
 ·intros d x r s hl' hlt hget hget' hw hp h1 h2 h3 h4;simp at h1 h3;clear h2;have hv:=value_spec u f n x 0 σ;cases hx:valM f.types x 0
  ·have:zK f.types l=[]:=by
    unfold zK;rw[if_neg];rw[hl'.eq];simp[hx]
   simp[chkV]at hv
   (simp[*,chkV])<;>(repeat' ((first|refine sP _ ?_ ?_|refine gP _ ?_ ?_|refine sN _ ?_ ?_|refine gN _ ?_ ?_|refine sM _ ?_ ?_|refine gM _ ?_ ?_|refine sB _ ?_ ?_|refine gB _ ?_ ?_)<;>intro hc<;>simp[*,chkV]))
  ·obtain⟨r0,r1⟩:=zfb hx;have q1:=zJb r0 r1;have q2:x.toNat<f.types.length:=by omega
   have q3:=zrb r0 r1 q2;have q4:(d.length+1)*8<=zk:=by simp only[zk];omega
   simp[chkV,ints]at hv
   (simp[*,chkV,ints])<;>(repeat' ((first|refine sP _ ?_ ?_|refine gP _ ?_ ?_|refine sN _ ?_ ?_|refine gN _ ?_ ?_|refine sM _ ?_ ?_|refine gM _ ?_ ?_|refine sB _ ?_ ?_|refine gB _ ?_ ?_)<;>intro hc<;>simp[*,chkV,ints]))
 ·intros s hp h1 h2 h3 h4;simp at h1 h3;have:zK f.types l=l.map (at0 f.types):=by
   unfold zK;rw[if_pos hp]
  (simp[*,ints])<;>(repeat' ((first|refine sP _ ?_ ?_|refine gP _ ?_ ?_|refine sN _ ?_ ?_|refine gN _ ?_ ?_|refine sM _ ?_ ?_|refine gM _ ?_ ?_|refine sB _ ?_ ?_|refine gB _ ?_ ?_)<;>intro hc<;>simp[*,ints]))
def eqGo{S:Type}(g:S->Int->Int->Bool×S):S->List (Int×Int)->Bool×S
 |s,[]=>(true,s)
 |s,p::r=>if(g s p.1 p.2).1 then eqGo g (g s p.1 p.2).2 r else(false,(g s p.1 p.2).2)
theorem zdc{S:Type}(g:S->Int->Int->Bool×S):∀(d r:List (Int×Int)) (s:S),eqGo g s (d++r)=if(eqGo g s d).1 then eqGo g (eqGo g s d).2 r else(false,(eqGo g s d).2)
 | [],r,s=>by simp[eqGo]
 |p::d,r,s=>by
  simp only[yha,eqGo];split
  ·rename_i h;simp[zdc g d r]
  ·simp
def eqM{S:Type}(g:S->Int->Int->Bool×S)(s:S)(l ts:List Int):Bool×S:=if l.length=ts.length then eqGo g s (l.zip ts)else(false,s)
theorem equalFunc_spec{S:Type}(g:S->Int->Int->Bool×S)(e:S->zb)(J:S->Prop)(s0:S)(l ts:List Int)(k:Nat)(first caps:List PV)(hl:l.length<1099511627776)(hJ:J s0)
  (hg:∀s v t,J s->J (g s v t).2/\zm E k (first++[.int .i64 v,.int .i64 t]++caps) (e s)=some (.ret (.bool (g s v t).1),e (g s v t).2)):
  zm E 111 [ints l,ints ts,.fn k first caps] (e s0)=some (.ret (.bool (eqM g s0 l ts).1),e (eqM g s0 l ts).2):=by
 refine zc rfl rfl rfl (by simp) ?_;by_cases hlen:l.length=ts.length
 ·have hm:eqM g s0 l ts=eqGo g s0 (l.zip ts):=by simp[eqM,hlen]
  simp[F111,ints,hlen];refine zH (l.zip ts) K111_0 B111_0 (fun d=>[(17,.int .i64 d.length)]) (fun d=>e (eqGo g s0 d).2) (fun d=>(eqGo g s0 d).1=true/\J (eqGo g s0 d).2) (by simp;omega) (by simp[eqGo,hJ]) ?_ ?_
  ·rintro d ⟨v,t⟩ r s hl' hlt hget hget' hw ⟨hp,hj⟩ h1 h2 h3 h4
   simp at h1 h3;clear h2;rw[List.getElem?_zip_eq_some]at hget;obtain⟨g1,g2⟩:=hget;have hlt1:d.length<l.length:=by simp at hlt;omega
   have hlt2:d.length<ts.length:=by omega
   have g1':l[d.length]=v:=by simpa[hlt1]using g1
   have g2':ts[d.length]=t:=by simpa[hlt2]using g2
   obtain⟨hj',hc⟩:=hg (eqGo g s0 d).2 v t hj;have e1:eqGo g s0 (d++[(v,t)])=((g (eqGo g s0 d).2 v t).1,(g (eqGo g s0 d).2 v t).2):=by
    rw[zdc,hp];simp only[eqGo,if_true];cases(g (eqGo g s0 d).2 v t).1<;>rfl
   have e2:(g (eqGo g s0 d).2 v t).1=false->eqGo g s0 (l.zip ts)=(false,(g (eqGo g s0 d).2 v t).2):=by
    intro hf;rw[hl'.eq,zdc,hp];simp[eqGo,hf]
   clear hg;simp at hc;rw[hm];cases hb:(g (eqGo g s0 d).2 v t).1
   ·have e3:=e2 hb;clear e2;rw[hb]at hc e1
    (simp[*,ints])<;>(repeat' ((first|refine sP _ ?_ ?_|refine gP _ ?_ ?_|refine sN _ ?_ ?_|refine gN _ ?_ ?_|refine sM _ ?_ ?_|refine gM _ ?_ ?_|refine sB _ ?_ ?_|refine gB _ ?_ ?_)<;>intro hc<;>simp[*,ints]))
   ·clear e2;rw[hb]at hc e1
    (simp[*,ints])<;>(repeat' ((first|refine sP _ ?_ ?_|refine gP _ ?_ ?_|refine sN _ ?_ ?_|refine gN _ ?_ ?_|refine sM _ ?_ ?_|refine gM _ ?_ ?_|refine sB _ ?_ ?_|refine gB _ ?_ ?_)<;>intro hc<;>simp[*,ints]))
  ·rintro s ⟨hp,hj⟩ h1 h2 h3 h4
   have hz:(l.zip ts).length=l.length:=by simp;omega
   rw[hz]at h3;simp at h1 h3;clear hg
   (simp[*,ints])<;>(repeat' ((first|refine sP _ ?_ ?_|refine gP _ ?_ ?_|refine sN _ ?_ ?_|refine gN _ ?_ ?_|refine sM _ ?_ ?_|refine gM _ ?_ ?_|refine sB _ ?_ ?_|refine gB _ ?_ ?_)<;>intro hc<;>simp[*,ints]))
 ·have hm:eqM g s0 l ts=(false,s0):=by simp[eqM,hlen]
  have hlen':¬(l.length:Int)=ts.length:=by omega
  clear hg
  (simp[*,F111,ints])<;>(repeat' ((first|refine sP _ ?_ ?_|refine gP _ ?_ ?_|refine sN _ ?_ ?_|refine gN _ ?_ ?_|refine sM _ ?_ ?_|refine gM _ ?_ ?_|refine sB _ ?_ ?_|refine gB _ ?_ ?_)<;>intro hc<;>simp[*,F111,ints]))
def useG(ty:List Int)(S:St1)(v t:Int):Bool×St1:=(valM ty v t&&decide (at0 S v=1),S)
def zza(ty:List Int)(S:St1)(l ts:List Int):Bool:=(eqM (useG ty) S l ts).1
theorem eqGo_useG(ty:List Int)(S:St1):∀l,(eqGo (useG ty) S l).2=S
 | []=>rfl
 |p::r=>by
  simp only[eqGo];split
  ·exact eqGo_useG ty S r
  ·rfl
theorem eqM_useG(ty:List Int)(S:St1)(l ts:List Int):(eqM (useG ty) S l ts).2=S:=by
 unfold eqM;split
 ·exact eqGo_useG _ _ _
 ·rfl
theorem use1_spec(u:Unt)(f:Flow)(S:St1)(v t:Int)(hS:S.length=f.types.length):
  zm E 112 [.int .i64 v,.int .i64 t,.iptr [chkV u f f.types.length] 0] [stO S]=some (.ret (.bool (useG f.types S v t).1),[stO S]):=by
 refine zc rfl rfl rfl (by simp) ?_;have hv:=value_spec u f f.types.length v t [stO S];simp[chkV,ints,stO]at hv;cases hx:valM f.types v t
 ·(simp[*,F112,useG,chkV,stO,ints])<;>(repeat' ((first|refine sP _ ?_ ?_|refine gP _ ?_ ?_|refine sN _ ?_ ?_|refine gN _ ?_ ?_|refine sM _ ?_ ?_|refine gM _ ?_ ?_|refine sB _ ?_ ?_|refine gB _ ?_ ?_)<;>intro hc<;>simp[*,F112,useG,chkV,stO,ints]))
 ·obtain⟨r0,r1⟩:=zfb hx;have q0:v<S.length:=by omega
  have q1:=zJb r0 q0;have q2:v.toNat<S.length:=by omega
  have q3:=zrb r0 q0 q2;have q4:v.toNat<f.types.length:=by omega
  (simp[*,F112,useG,chkV,stO,ints])<;>(repeat' ((first|refine sP _ ?_ ?_|refine gP _ ?_ ?_|refine sN _ ?_ ?_|refine gN _ ?_ ?_|refine sM _ ?_ ?_|refine gM _ ?_ ?_|refine sB _ ?_ ?_|refine gB _ ?_ ?_)<;>intro hc<;>simp[*,F112,useG,chkV,stO,ints]))
theorem zDa(u:Unt)(f:Flow)(S:St1)(l ts:List Int)(hS:S.length=f.types.length)(hl:l.length<1099511627776):
  zm E 95 [chkV u f f.types.length,ints l,ints ts] [stO S]=some (.ret (.bool (zza f.types S l ts)),[stO S]):=by
 refine zc rfl rfl rfl (by simp[chkV]) ?_;have h:=equalFunc_spec (useG f.types) (fun S=>[stO S]) (fun S=>S.length=f.types.length) S l ts 112 [] [.iptr [chkV u f f.types.length] 0] hl hS (fun s v t hs=>⟨hs,use1_spec u f s v t hs⟩);simp only[eqM_useG]at h;simp[chkV]at h
 (simp[*,F95,chkV,zza])<;>(repeat' ((first|refine sP _ ?_ ?_|refine gP _ ?_ ?_|refine sN _ ?_ ?_|refine gN _ ?_ ?_|refine sM _ ?_ ?_|refine gM _ ?_ ?_|refine sB _ ?_ ?_|refine gB _ ?_ ?_)<;>intro hc<;>simp[*,F95,chkV,zza]))
def setG(ty:List Int)(S:St1)(v t:Int):Bool×St1:=if valM ty v t&&decide (at0 S v=0)then(true,S.set v.toNat 1)else(false,S)
def setM(ty:List Int)(S:St1)(l ts:List Int):Bool×St1:=eqM (setG ty) S l ts
theorem setG_len(ty:List Int)(S:St1)(v t:Int):(setG ty S v t).2.length=S.length:=by
 unfold setG;split<;>simp
theorem eqGo_setG_len(ty:List Int):∀(l:List (Int×Int)) (S:St1),(eqGo (setG ty) S l).2.length=S.length
 | [],S=>rfl
 |p::r,S=>by
  simp only[eqGo];split
  ·rw[eqGo_setG_len ty r,setG_len]
  ·rw[setG_len]
theorem zZc(ty:List Int)(S:St1)(l ts:List Int):(setM ty S l ts).2.length=S.length:=by
 unfold setM eqM;split
 ·exact eqGo_setG_len _ _ _
 ·rfl
theorem set1_spec(u:Unt)(f:Flow)(S:St1)(v t:Int)(hS:S.length=f.types.length):
  zm E 113 [.int .i64 v,.int .i64 t,.iptr [chkV u f f.types.length] 0] [stO S]=some (.ret (.bool (setG f.types S v t).1),[stO (setG f.types S v t).2]):=by
 refine zc rfl rfl rfl (by simp) ?_;have hv:=value_spec u f f.types.length v t [stO S];simp[chkV,ints,stO]at hv;cases hx:valM f.types v t
 ·(simp[*,F113,setG,chkV,stO,ints])<;>(repeat' ((first|refine sP _ ?_ ?_|refine gP _ ?_ ?_|refine sN _ ?_ ?_|refine gN _ ?_ ?_|refine sM _ ?_ ?_|refine gM _ ?_ ?_|refine sB _ ?_ ?_|refine gB _ ?_ ?_)<;>intro hc<;>simp[*,F113,setG,chkV,stO,ints]))
 ·obtain⟨r0,r1⟩:=zfb hx;have q0:v<S.length:=by omega
  have q1:=zJb r0 q0;have q2:v.toNat<S.length:=by omega
  have q3:=zrb r0 q0 q2;have q4:v.toNat<f.types.length:=by omega
  (simp[*,F113,setG,chkV,stO,ints,zz,zka,ysa])<;>(repeat' ((first|refine sP _ ?_ ?_|refine gP _ ?_ ?_|refine sN _ ?_ ?_|refine gN _ ?_ ?_|refine sM _ ?_ ?_|refine gM _ ?_ ?_|refine sB _ ?_ ?_|refine gB _ ?_ ?_)<;>intro hc<;>simp[*,F113,setG,chkV,stO,ints,zz,zka,ysa]))
theorem set_spec(u:Unt)(f:Flow)(S:St1)(l ts:List Int)(hS:S.length=f.types.length)(hl:l.length<1099511627776):
  zm E 97 [chkV u f f.types.length,ints l,ints ts] [stO S]=some (.ret (.bool (setM f.types S l ts).1),[stO (setM f.types S l ts).2]):=by
 refine zc rfl rfl rfl (by simp[chkV]) ?_;have h:=equalFunc_spec (setG f.types) (fun S=>[stO S]) (fun S=>S.length=f.types.length) S l ts 113 [] [.iptr [chkV u f f.types.length] 0] hl hS (fun s v t hs=>⟨by rw[setG_len];exact hs,set1_spec u f s v t hs⟩);simp[chkV]at h
 (simp[*,F97,chkV,setM])<;>(repeat' ((first|refine sP _ ?_ ?_|refine gP _ ?_ ?_|refine sN _ ?_ ?_|refine gN _ ?_ ?_|refine sM _ ?_ ?_|refine gM _ ?_ ?_|refine sB _ ?_ ?_|refine gB _ ?_ ?_)<;>intro hc<;>simp[*,F97,chkV,setM]))
def zVa(n:Nat):List Int:=yC n 0
def allM(ty:List Int)(S:St1)(l:List Int):Bool×St1:=setM ty S l (zVa l.length)
theorem all_spec(u:Unt)(f:Flow)(S:St1)(l:List Int)(hS:S.length=f.types.length)(hl:l.length<1099511627776):
  zm E 96 [chkV u f f.types.length,ints l] [stO S]=some (.ret (.bool (allM f.types S l).1),[stO (allM f.types S l).2]):=by
 refine zc rfl rfl rfl (by simp[chkV]) ?_;have h:=set_spec u f S l (zVa l.length) hS hl;have h1:(0:Int)<=(l.length:Int):=by omega
 have h2:(l.length:Int)<=9223372036854775807:=by omega
 have h3:8*(l.length:Int)<=281474976710656:=by omega
 simp[chkV,ints,zVa]at h
 (simp[*,F96,chkV,allM,zVa,ints])<;>(repeat' ((first|refine sP _ ?_ ?_|refine gP _ ?_ ?_|refine sN _ ?_ ?_|refine gN _ ?_ ?_|refine sM _ ?_ ?_|refine gM _ ?_ ?_|refine sB _ ?_ ?_|refine gB _ ?_ ?_)<;>intro hc<;>simp[*,F96,chkV,allM,zVa,ints]))
def zHb(S:St1)(l:List Int):St1:=l.foldl (fun S v=>S.set v.toNat 2) S
theorem zTc(l:List Int):∀S:St1,(zHb S l).length=S.length:=by
 induction l with
 |nil=>intro S;rfl
 |cons v r ih=>intro S;simp[zHb]at ih ⊢;rw[ih];simp
theorem hideM_snoc(S:St1)(l:List Int)(v:Int):zHb S (l++[v])=(zHb S l).set v.toNat 2:=by simp[zHb]
theorem hide_spec(u:Unt)(f:Flow)(S:St1)(l:List Int)(hS:S.length=f.types.length)(hl:l.length<1099511627776)(hv:∀v∈l,0<=v/\v<f.types.length):
  zm E 67 [chkV u f f.types.length,ints l] [stO S]=some (.ret (.tup []),[stO (zHb S l)]):=by
 refine zc rfl rfl rfl (by simp[chkV]) ?_;simp[F67,ints];refine zH l K67_0 B67_0 (fun d=>[(8,.int .i64 d.length)]) (fun d=>[stO (zHb S d)]) (fun d=>True) (by omega) (by simp[zHb]) ?_ ?_
 ·intros d x r s hl' hlt hget hget' hw hp h1 h2 h3 h4;simp at h1 h3;clear h2;obtain⟨r0,r1⟩:=hv x hl'.mem;have hlen:=zTc d S;have q2:x.toNat<S.length:=by omega
  have q4:x.toNat<f.types.length:=by omega
  have hsn:=hideM_snoc S d x;clear hv
  (simp[*,chkV,stO,zz,zka,ysa])<;>(repeat' ((first|refine sP _ ?_ ?_|refine gP _ ?_ ?_|refine sN _ ?_ ?_|refine gN _ ?_ ?_|refine sM _ ?_ ?_|refine gM _ ?_ ?_|refine sB _ ?_ ?_|refine gB _ ?_ ?_)<;>intro hc<;>simp[*,chkV,stO,zz,zka,ysa]))
 ·intros s hp h1 h2 h3 h4;simp at h1 h3;clear hv
  (simp[*])<;>(repeat' ((first|refine sP _ ?_ ?_|refine gP _ ?_ ?_|refine sN _ ?_ ?_|refine gN _ ?_ ?_|refine sM _ ?_ ?_|refine gM _ ?_ ?_|refine sB _ ?_ ?_|refine gB _ ?_ ?_)<;>intro hc<;>simp[*]))
def zhd(k:Int):Int:=if k=10 then 2 else if k=11 then 1 else 0
def zIb(n:Node):Bool:=
 (decide (n.kind=3)||decide (n.kind=4)||decide (n.op=0))&&(decide (n.kind=1)||decide (n.kind=2)||decide (n.n=0))&&
 (decide (n.kind=5)||decide (n.kind=6)||decide (n.kind=7)||decide (n.name=[]))&&(decide (n.kind=11)||decide (n.params=[]))&&decide ((n.kids.length:Int)=zhd n.kind)
theorem bare_spec(x:Node):zm E 81 [zG x] []=some (.ret (.bool (zIb x)),[]):=by
 refine zc rfl rfl rfl (by simp[za]) ?_;have hp:decide ((x.params.length:Int)=0)=decide (x.params=[]):=by simp
 by_cases h10:x.kind=10
 ·(simp[*,F81,za,ints,kids,zIb,zhd])<;>(repeat' ((first|refine sP _ ?_ ?_|refine gP _ ?_ ?_|refine sN _ ?_ ?_|refine gN _ ?_ ?_|refine sM _ ?_ ?_|refine gM _ ?_ ?_|refine sB _ ?_ ?_|refine gB _ ?_ ?_)<;>intro hc<;>simp[*,F81,za,ints,kids,zIb,zhd]))
  all_goals(try grind)
 ·by_cases h11:x.kind=11
  ·(simp[*,F81,za,ints,kids,zIb,zhd])<;>(repeat' ((first|refine sP _ ?_ ?_|refine gP _ ?_ ?_|refine sN _ ?_ ?_|refine gN _ ?_ ?_|refine sM _ ?_ ?_|refine gM _ ?_ ?_|refine sB _ ?_ ?_|refine gB _ ?_ ?_)<;>intro hc<;>simp[*,F81,za,ints,kids,zIb,zhd]))
   all_goals(try grind)
  ·(simp[*,F81,za,ints,kids,zIb,zhd])<;>(repeat' ((first|refine sP _ ?_ ?_|refine gP _ ?_ ?_|refine sN _ ?_ ?_|refine gN _ ?_ ?_|refine sM _ ?_ ?_|refine gM _ ?_ ?_|refine sB _ ?_ ?_|refine gB _ ?_ ?_)<;>intro hc<;>simp[*,F81,za,ints,kids,zIb,zhd]))
   all_goals(try grind)
def takes(op:Int):Int:=if op=22 then 2 else if op=16\/op=17 then 0 else 1
def zfd(op:Int):Int:=if op=22\/(12<=op/\op<=17)then 2 else 1
theorem operand_spec(op:Int):zm E 114 [.int .i64 op] []=some (.ret (.tup [.int .i64 (takes op),.int .i64 (zfd op)]),[]):=by
 refine zc rfl rfl rfl (by simp) ?_
 (simp[*,F114,takes,zfd])<;>(repeat' ((first|refine sP _ ?_ ?_|refine gP _ ?_ ?_|refine sN _ ?_ ?_|refine gN _ ?_ ?_|refine sM _ ?_ ?_|refine gM _ ?_ ?_|refine sB _ ?_ ?_|refine gB _ ?_ ?_)<;>intro hc<;>simp[*,F114,takes,zfd]))
 all_goals(try grind)
def signList:List (List UInt8):=[[],[43],[45],[42],[47],[37],[38],[124],[94],[60,60],[62,62],[62,62,62],[60],[60,61],[62],[62,61],[61,61],[33,61],[38,38],[124,124],[45],[126],[33],[105,56],[105,49,54],[105,51,50],[117,56],[117,49,54],[117,51,50]]
def zSc:List Int:=[0,9,9,10,10,10,5,3,4,8,8,8,7,7,7,7,6,6,2,1,0,0,0,0,0,0,0,0,0]
def sgn(op:Int):List UInt8:=if op<0 then[]else(signList[op.toNat]?).getD []
def lvl(op:Int):Int:=if op<0 then 0 else(zSc[op.toNat]?).getD 0
theorem rowCells:∀n:Nat,n<29->List.take 2 (List.drop (n*2) [.str [],.int .i64 0,.str [43],.int .i64 9,.str [45],.int .i64 9,.str [42],.int .i64 10,.str [47],.int .i64 10,.str [37],.int .i64 10,.str [38],.int .i64 5,.str [124],.int .i64 3,.str [94],.int .i64 4,.str [60,60],.int .i64 8,.str [62,62],.int .i64 8,.str [62,62,62],.int .i64 8,.str [60],.int .i64 7,.str [60,61],.int .i64 7,.str [62],.int .i64 7,.str [62,61],.int .i64 7,.str [61,61],.int .i64 6,.str [33,61],.int .i64 6,.str [38,38],.int .i64 2,.str [124,124],.int .i64 1,.str [45],.int .i64 0,.str [126],.int .i64 0,.str [33],.int .i64 0,.str [105,56],.int .i64 0,.str [105,49,54],.int .i64 0,.str [105,51,50],.int .i64 0,.str [117,56],.int .i64 0,.str [117,49,54],.int .i64 0,.str [117,51,50],.int .i64 0])=[PV.str ((signList[n]?).getD []),PV.int .i64 ((zSc[n]?).getD 0)]
 |0,_=>rfl
 |1,_=>rfl
 |2,_=>rfl
 |3,_=>rfl
 |4,_=>rfl
 |5,_=>rfl
 |6,_=>rfl
 |7,_=>rfl
 |8,_=>rfl
 |9,_=>rfl
 |10,_=>rfl
 |11,_=>rfl
 |12,_=>rfl
 |13,_=>rfl
 |14,_=>rfl
 |15,_=>rfl
 |16,_=>rfl
 |17,_=>rfl
 |18,_=>rfl
 |19,_=>rfl
 |20,_=>rfl
 |21,_=>rfl
 |22,_=>rfl
 |23,_=>rfl
 |24,_=>rfl
 |25,_=>rfl
 |26,_=>rfl
 |27,_=>rfl
 |28,_=>rfl
 |n+29,h=>by omega
set_option maxHeartbeats 4000000 in
theorem rowOf_spec(op:Int)(σ:zb):zm E 122 [.int .i64 op] σ=some (.ret (.agg [.str (sgn op),.int .i64 (lvl op)]),σ):=by
 refine zc rfl rfl rfl (by simp) ?_;by_cases h0:op<0
 ·simp[F122,h0,sgn,lvl]
 by_cases h1:29<=op
 ·have:29<=op.toNat:=by omega
  simp[F122,h0,h1,sgn,lvl,signList,zSc,yZ,this]
 have h2:op.toNat<29:=by omega
 have h3:0<=op:=by omega
 have h4:op.toNat*2<=56:=by omega
 have e1:sgn op=((signList[op.toNat]?).getD []):=by simp[sgn,h0]
 have e2:lvl op=((zSc[op.toNat]?).getD 0):=by simp[lvl,h0]
 rw[e1,e2];have e3:=rowCells op.toNat h2;generalize((signList[op.toNat]?).getD [])=s at*;generalize((zSc[op.toNat]?).getD 0)=l at*;simp[F122,h0,h1,h2,h3,h4,e3]
theorem level_spec(op:Int)(σ:zb):zm E 115 [.int .i64 op] σ=some (.ret (.int .i64 (lvl op)),σ):=by
 refine zc rfl rfl rfl (by simp) ?_
 (simp[*,F115,rowOf_spec])<;>(repeat' ((first|refine sP _ ?_ ?_|refine gP _ ?_ ?_|refine sN _ ?_ ?_|refine gN _ ?_ ?_|refine sM _ ?_ ?_|refine gM _ ?_ ?_|refine sB _ ?_ ?_|refine gB _ ?_ ?_)<;>intro hc<;>simp[*,F115,rowOf_spec]))
theorem lvl_pos(op:Int):(0<lvl op/\op<=17)=(1<=op/\op<=17):=by
 apply propext;constructor
 ·rintro⟨h,h'⟩
  refine⟨?_,h'⟩;by_cases h0:op<0
  ·simp[lvl,h0]at h
  ·by_cases h1:op=0
   ·subst h1;simp[lvl,zSc]at h
   ·omega
 ·rintro⟨h,h'⟩
  refine⟨?_,h'⟩;have:op=1\/op=2\/op=3\/op=4\/op=5\/op=6\/op=7\/op=8\/op=9\/op=10\/op=11\/op=12\/op=13\/op=14\/op=15\/op=16\/op=17:=by omega
  rcases this with h|h|h|h|h|h|h|h|h|h|h|h|h|h|h|h|h<;>subst h<;>decide
structure Place where
 inIf:Bool
 inLoop:Bool
 yield:List Int
 next:List Int
 left:List Int
def zd(p:Place):PV:= .agg [.bool p.inIf,.bool p.inLoop,ints p.yield,ints p.next,ints p.left]
structure UOk(u:Unt):Prop where
 arrs:u.arrays.length<1099511627776
 flows:u.flows.length<1099511627776
 pars:∀f∈u.flows,0<=f.params/\f.params<=f.types.length
 types:∀f∈u.flows,f.types.length<1099511627776
def sumM(ty:List Int)(S:St1)(n:Node):Bool×St1:=
 if n.kind=3 then
  if 20<=n.op/\n.op<=28/\zza ty S n.args [takes n.op]=true then setM ty S n.outs [zfd n.op]else(false,S)
 else
  if 1<=n.op/\n.op<=17/\zza ty S n.args [takes n.op,takes n.op]=true/\at0 ty (at0 n.args 0)=at0 ty (at0 n.args 1)then setM ty S n.outs [zfd n.op]else(false,S)
theorem usesM_two{ty S l:List Int}{t t':Int}(h:zza ty S l [t,t']=true):∃a b,l=[a,b]/\0<=a/\a<ty.length/\0<=b/\b<ty.length:=by
 unfold zza eqM at h
 match l with
 | []=>simp at h
 | [_]=>simp at h
 |a::b::_::_=>simp at h
 | [a,b]=>
  simp[eqGo,useG]at h;split at h
  ·rename_i q;split at h
   ·rename_i q';obtain⟨r0,r1⟩:=zfb q.1;obtain⟨r2,r3⟩:=zfb q'.1;exact⟨a,b,rfl,r0,r1,r2,r3⟩
   ·simp at h
  ·simp at h
theorem sum_spec(u:Unt)(f:Flow)(S:St1)(x:Node)(hS:S.length=f.types.length)(hx:wtN x<1099511627776)(hk:x.kind=3\/x.kind=4):
  zm E 98 [chkV u f f.types.length,zG x] [stO S]=some (.ret (.bool (sumM f.types S x).1),[stO (sumM f.types S x).2]):=by
 refine zc rfl rfl rfl (by simp[za,chkV]) ?_;have hw:=zeb x;have h1:=zDa u f S x.args [takes x.op] hS (by omega);have h2:=zDa u f S x.args [takes x.op,takes x.op] hS (by omega);have h3:=set_spec u f S x.outs [zfd x.op] hS (by omega);have h4:=operand_spec x.op;have h5:=level_spec x.op [];have h6:=lvl_pos x.op;simp[chkV,ints]at h1 h2 h3;rcases hk with hk|hk
 ·have e:sumM f.types S x=if 20<=x.op/\x.op<=28/\zza f.types S x.args [takes x.op]=true then setM f.types S x.outs [zfd x.op]else(false,S):=by simp[sumM,hk]
  (simp[*,F98,za,chkV,ints])<;>(repeat' ((first|refine sP _ ?_ ?_|refine gP _ ?_ ?_|refine sN _ ?_ ?_|refine gN _ ?_ ?_|refine sM _ ?_ ?_|refine gM _ ?_ ?_|refine sB _ ?_ ?_|refine gB _ ?_ ?_)<;>intro hc<;>simp[*,F98,za,chkV,ints]))
 ·have e:sumM f.types S x=if 1<=x.op/\x.op<=17/\zza f.types S x.args [takes x.op,takes x.op]=true/\at0 f.types (at0 x.args 0)=at0 f.types (at0 x.args 1)then setM f.types S x.outs [zfd x.op]else(false,S):=by simp[sumM,hk]
  by_cases hu:zza f.types S x.args [takes x.op,takes x.op]=true
  ·obtain⟨a,b,e1,r0,r1,r2,r3⟩:=usesM_two hu;have q1:=zJb r0 r1;have q2:a.toNat<f.types.length:=by omega
   have q3:=zrb r0 r1 q2;have q1':=zJb r2 r3;have q2':b.toNat<f.types.length:=by omega
   have q3':=zrb r2 r3 q2';have z0:at0 [a,b] 0=a:=rfl;have z1:at0 [a,b] 1=b:=rfl;rw[e1]at h1 h2 e hu;rw[hu]at h2;clear h1 hw;simp at h2
   (simp[*,F98,za,chkV,ints])<;>(repeat' ((first|refine sP _ ?_ ?_|refine gP _ ?_ ?_|refine sN _ ?_ ?_|refine gN _ ?_ ?_|refine sM _ ?_ ?_|refine gM _ ?_ ?_|refine sB _ ?_ ?_|refine gB _ ?_ ?_)<;>intro hc<;>simp[*,F98,za,chkV,ints]))
   all_goals(try grind)
  ·have hu':zza f.types S x.args [takes x.op,takes x.op]=false:=by simpa using hu
   rw[hu']at h2;clear h1 hw
   (simp[*,F98,za,chkV,ints])<;>(repeat' ((first|refine sP _ ?_ ?_|refine gP _ ?_ ?_|refine sN _ ?_ ?_|refine gN _ ?_ ?_|refine sM _ ?_ ?_|refine gM _ ?_ ?_|refine sB _ ?_ ?_|refine gB _ ?_ ?_)<;>intro hc<;>simp[*,F98,za,chkV,ints]))
   all_goals(try grind)
def endM(f:Flow)(S:St1)(n:Node)(p:Place):Bool:=
 decide (n.outs=[])&&(if n.kind=12 then p.inIf&&zza f.types S n.args p.yield else if n.kind=13 then p.inLoop&&zza f.types S n.args p.next
  else if n.kind=14 then p.inLoop&&zza f.types S n.args p.left else zza f.types S n.args [f.type])
theorem end_spec(u:Unt)(f:Flow)(S:St1)(x:Node)(p:Place)(hS:S.length=f.types.length)(hx:wtN x<1099511627776):
  zm E 84 [chkV u f f.types.length,zG x,zd p] [stO S]=some (.ret (.bool (endM f S x p)),[stO S]):=by
 refine zc rfl rfl rfl (by simp[za,chkV,zd]) ?_;have hw:=zeb x;have h1:=zDa u f S x.args p.yield hS (by omega);have h2:=zDa u f S x.args p.next hS (by omega);have h3:=zDa u f S x.args p.left hS (by omega);have h4:=zDa u f S x.args [f.type] hS (by omega);have ho:decide ((x.outs.length:Int)=0)=decide (x.outs=[]):=by simp
 simp[chkV,ints]at h1 h2 h3 h4;clear hw;by_cases h0:x.outs=[]
 ·(simp[*,F84,za,chkV,ints,zd,endM])<;>(repeat' ((first|refine sP _ ?_ ?_|refine gP _ ?_ ?_|refine sN _ ?_ ?_|refine gN _ ?_ ?_|refine sM _ ?_ ?_|refine gM _ ?_ ?_|refine sB _ ?_ ?_|refine gB _ ?_ ?_)<;>intro hc<;>simp[*,F84,za,chkV,ints,zd,endM]))
 ·(simp[*,F84,za,chkV,ints,zd,endM])<;>(repeat' ((first|refine sP _ ?_ ?_|refine gP _ ?_ ?_|refine sN _ ?_ ?_|refine gN _ ?_ ?_|refine sM _ ?_ ?_|refine gM _ ?_ ?_|refine sB _ ?_ ?_|refine gB _ ?_ ?_)<;>intro hc<;>simp[*,F84,za,chkV,ints,zd,endM]))
def pars(f:Flow):List Int:=f.types.take f.params.toNat
def zJa(u:Unt)(f:Flow)(S:St1)(n:Node):Bool×St1:=
 let ty:=f.types
 if n.kind=1 then if zza ty S n.args []then setM ty S n.outs [1]else(false,S)
 else if n.kind=2 then if(n.n=0\/n.n=1)/\zza ty S n.args []=true then setM ty S n.outs [2]else(false,S)
 else if n.kind=3\/n.kind=4 then sumM ty S n
 else if n.kind=5 then if zZb u.arrays n.name&&zza ty S n.args [1]then setM ty S n.outs [1]else(false,S)
 else if n.kind=6 then if zZb u.arrays n.name&&zza ty S n.args [1,1]then setM ty S n.outs []else(false,S)
 else if n.kind=8 then if zza ty S n.args []then setM ty S n.outs [1]else(false,S)
 else if n.kind=9 then if zza ty S n.args [1]then setM ty S n.outs []else(false,S)
 else if n.kind=7 then
  match u.flows[(zba u.flows n.name).toNat]? with
  |some g=>if 0<=zba u.flows n.name/\zza ty S n.args (pars g)=true then setM ty S n.outs [g.type]else(false,S)
  |none=>(false,S)
 else(false,S)
theorem place_get{l:List Flow}{s:List UInt8}(h:0<=zba l s):∃g,l[(zba l s).toNat]? =some g/\g∈l/\g.name=s/\(zba l s).toNat<l.length:=by
 unfold zba idx at h ⊢;cases hf:l.findIdx? (fun f=>decide (f.name=s))with
 |none=>rw[hf]at h;simp at h
 |some i=>
  rw[List.findIdx?_eq_some_iff_getElem]at hf;obtain⟨hi,h1,_⟩:=hf;refine⟨l[i],by simp[hi],List.getElem_mem hi,by simpa using h1,by simpa using hi⟩
theorem simple_spec(u:Unt)(f:Flow)(S:St1)(x:Node)(hu:UOk u)(hS:S.length=f.types.length)(hx:wtN x<1099511627776):
  zm E 85 [chkV u f f.types.length,zG x] [stO S]=some (.ret (.bool (zJa u f S x).1),[stO (zJa u f S x).2]):=by
 refine zc rfl rfl rfl (by simp[za,chkV]) ?_;have hw:=zeb x;have h0:=zDa u f S x.args [] hS (by omega);have h1:=zDa u f S x.args [1] hS (by omega);have h2:=zDa u f S x.args [1,1] hS (by omega);have h3:=set_spec u f S x.outs [] hS (by omega);have h4:=set_spec u f S x.outs [1] hS (by omega);have h5:=set_spec u f S x.outs [2] hS (by omega);have h6:=hasArray_spec u x.name [] hu.arrs;have h7:=place_spec u x.name [] hu.flows;simp[chkV,ints,encUnt,za]at h0 h1 h2 h3 h4 h5 h6 h7;clear hw;by_cases k34:x.kind=3\/x.kind=4
 ·have h8:=sum_spec u f S x hS hx k34;have e:zJa u f S x=sumM f.types S x:=by rcases k34 with h|h<;>simp[zJa,h]
  simp[chkV,ints,encUnt,za]at h8
  (simp[*,F85,za,chkV,ints])<;>(repeat' (first|((first|refine sP _ ?_ ?_|refine gP _ ?_ ?_|refine sN _ ?_ ?_|refine gN _ ?_ ?_)<;>intro hc<;>(first|replace hc:=eqn hc|replace hc:=eqp hc)<;>simp[*,F85,za,chkV,ints])|((first|refine sM _ ?_ ?_|refine gM _ ?_ ?_|refine sB _ ?_ ?_|refine gB _ ?_ ?_)<;>intro hc<;>simp[*,F85,za,chkV,ints])))
  all_goals(try grind)
 by_cases k7:x.kind=7
 ·by_cases hp:0<=zba u.flows x.name
  ·obtain⟨g,q1,q2,q3,q4⟩:=place_get hp;obtain⟨p1,p2⟩:=hu.pars g q2;have q5:u.flows[(zba u.flows x.name).toNat]=g:=by simpa[q4]using q1
   have e:zJa u f S x=if 0<=zba u.flows x.name/\zza f.types S x.args (pars g)=true then setM f.types S x.outs [g.type]else(false,S):=by simp[zJa,k7,q1]
   have h8:=zDa u f S x.args (pars g) hS (by have:=zeb x;omega);have h9:=set_spec u f S x.outs [g.type] hS (by have:=zeb x;omega);have p3:g.params.toNat<=g.types.length:=by omega
   have p4:¬zba u.flows x.name<0:=by omega
   simp[chkV,ints,encUnt,za,k7,flows,pars,List.map_take]at h8 h9 h7;clear h0 h1 h2 h3 h4 h5 h6 hu
   (simp[*,F85,za,chkV,ints,flows,zf,pars,List.map_take])<;>(repeat' ((first|refine sP _ ?_ ?_|refine gP _ ?_ ?_|refine sN _ ?_ ?_|refine gN _ ?_ ?_|refine sM _ ?_ ?_|refine gM _ ?_ ?_|refine sB _ ?_ ?_|refine gB _ ?_ ?_)<;>intro hc<;>simp[*,F85,za,chkV,ints,flows,zf,pars,List.map_take]))
  ·have e:zJa u f S x=(false,S):=by
    simp only[zJa,k7];simp;split<;>simp[hp]
   have p4:zba u.flows x.name<0:=by omega
   (simp[*,F85,za,chkV,ints])<;>(repeat' ((first|refine sP _ ?_ ?_|refine gP _ ?_ ?_|refine sN _ ?_ ?_|refine gN _ ?_ ?_|refine sM _ ?_ ?_|refine gM _ ?_ ?_|refine sB _ ?_ ?_|refine gB _ ?_ ?_)<;>intro hc<;>simp[*,F85,za,chkV,ints]))
 have k3:¬x.kind=3:=fun h=>k34 (.inl h)
 have k4:¬x.kind=4:=fun h=>k34 (.inr h)
 have hs:zJa u f S x=if x.kind=1 then if zza f.types S x.args []then setM f.types S x.outs [1]else(false,S)
  else if x.kind=2 then if(x.n=0\/x.n=1)/\zza f.types S x.args []=true then setM f.types S x.outs [2]else(false,S)
  else if x.kind=5 then if zZb u.arrays x.name&&zza f.types S x.args [1]then setM f.types S x.outs [1]else(false,S)
  else if x.kind=6 then if zZb u.arrays x.name&&zza f.types S x.args [1,1]then setM f.types S x.outs []else(false,S)
  else if x.kind=8 then if zza f.types S x.args []then setM f.types S x.outs [1]else(false,S)
  else if x.kind=9 then if zza f.types S x.args [1]then setM f.types S x.outs []else(false,S)
  else(false,S):=by simp[zJa,k34,k7]
 (simp[*,F85,za,chkV,ints,encUnt])<;>(repeat' ((first|refine sP _ ?_ ?_|refine gP _ ?_ ?_|refine sN _ ?_ ?_|refine gN _ ?_ ?_|refine sM _ ?_ ?_|refine gM _ ?_ ?_|refine sB _ ?_ ?_|refine gB _ ?_ ?_)<;>intro hc<;>simp[*,F85,za,chkV,ints,encUnt]))
 all_goals(try grind)
def listE(l:List Node)(q:Bool×St1):Bool×St1:=if q.1 then(!l.isEmpty,zHb q.2 (l.flatMap Node.outs))else(false,q.2)
def zhc(ty:List Int)(x:Node)(q:Bool×St1):Bool×St1:=if q.1&&(decide (x.outs=[])|| !zU x)then allM ty q.2 x.outs else(false,q.2)
def loopE(ty:List Int)(x:Node)(q:Bool×St1):Bool×St1:=if q.1 then(if decide (x.outs=[])|| !zU x then allM ty (zHb q.2 x.params) x.outs else(false,zHb q.2 x.params))else(false,q.2)
mutual
def nodeM(u:Unt)(f:Flow):Node->Place->Int->St1->Bool×St1
 |⟨k,o,n,s,a,us,ps,ks⟩,p,deep,S=>
  if !zIb ⟨k,o,n,s,a,us,ps,ks⟩then(false,S)
  else if k=10 then
   if zza f.types S a [2]then zhc f.types ⟨k,o,n,s,a,us,ps,ks⟩ (zid u f ks {p with inIf:=true,yield:=zK f.types us} (deep+1) S)else(false,S)
  else if k=11 then
   if zza f.types S a (zK f.types ps)then
    if(allM f.types S ps).1 then loopE f.types ⟨k,o,n,s,a,us,ps,ks⟩ (zid u f ks ⟨false,true,[],zK f.types ps,zK f.types us⟩ (deep+1) (allM f.types S ps).2)
    else(false,(allM f.types S ps).2)
   else(false,S)
  else if endK k then(endM f S ⟨k,o,n,s,a,us,ps,ks⟩ p,S)
  else zJa u f S ⟨k,o,n,s,a,us,ps,ks⟩
def zid(u:Unt)(f:Flow):List (List Node)->Place->Int->St1->Bool×St1
 | [],p,deep,S=>(true,S)
 |l::r,p,deep,S=>if(listE l (goM u f l p deep S)).1 then zid u f r p deep (listE l (goM u f l p deep S)).2 else(false,(listE l (goM u f l p deep S)).2)
def goM(u:Unt)(f:Flow):List Node->Place->Int->St1->Bool×St1
 | [],p,deep,S=>(true,S)
 |x::r,p,deep,S=>if 100<deep then(false,S)else
   if(nodeM u f x p deep S).1 then(if zU x=r.isEmpty then goM u f r p deep (nodeM u f x p deep S).2 else(false,(nodeM u f x p deep S).2))else(false,(nodeM u f x p deep S).2)
end
def zXa(u:Unt)(f:Flow)(l:List Node)(p:Place)(deep:Int)(S:St1):Bool×St1:=listE l (goM u f l p deep S)
theorem nodeM_eq(u:Unt)(f:Flow)(x:Node)(p:Place)(deep:Int)(S:St1):nodeM u f x p deep S=
  if !zIb x then(false,S)
  else if x.kind=10 then
   if zza f.types S x.args [2]then zhc f.types x (zid u f x.kids {p with inIf:=true,yield:=zK f.types x.outs} (deep+1) S)else(false,S)
  else if x.kind=11 then
   if zza f.types S x.args (zK f.types x.params)then
    if(allM f.types S x.params).1 then loopE f.types x (zid u f x.kids ⟨false,true,[],zK f.types x.params,zK f.types x.outs⟩ (deep+1) (allM f.types S x.params).2)
    else(false,(allM f.types S x.params).2)
   else(false,S)
  else if endK x.kind then(endM f S x p,S)
  else zJa u f S x:=by
 cases x;rw[nodeM]
theorem sumM_len(ty:List Int)(S:St1)(x:Node):(sumM ty S x).2.length=S.length:=by
 unfold sumM;split<;>split<;>simp[zZc]
theorem simpleM_len(u:Unt)(f:Flow)(S:St1)(x:Node):(zJa u f S x).2.length=S.length:=by
 simp only[zJa]
 repeat' split
 all_goals simp[zZc,sumM_len]
theorem choiceE_len(ty:List Int)(x:Node)(q:Bool×St1):(zhc ty x q).2.length=q.2.length:=by
 unfold zhc;split<;>simp[allM,zZc]
theorem loopE_len(ty:List Int)(x:Node)(q:Bool×St1):(loopE ty x q).2.length=q.2.length:=by
 unfold loopE;split
 ·split<;>simp[allM,zZc,zTc]
 ·rfl
theorem listE_len(l:List Node)(q:Bool×St1):(listE l q).2.length=q.2.length:=by
 unfold listE;split<;>simp[zTc]
mutual
theorem nodeM_len(u:Unt)(f:Flow):∀(x:Node) (p:Place) (deep:Int) (S:St1),(nodeM u f x p deep S).2.length=S.length
 |⟨k,o,n,s,a,us,ps,ks⟩,p,deep,S=>by
  rw[nodeM];split
  ·rfl
  split
  ·split
   ·rw[choiceE_len,kidsM_len u f ks]
   ·rfl
  split
  ·split
   ·split
    ·rw[loopE_len,kidsM_len u f ks];simp[allM,zZc]
    ·simp[allM,zZc]
   ·rfl
  split
  ·rfl
  ·exact simpleM_len _ _ _ _
theorem kidsM_len(u:Unt)(f:Flow):∀(ks:List (List Node)) (p:Place) (deep:Int) (S:St1),(zid u f ks p deep S).2.length=S.length
 | [],p,deep,S=>rfl
 |l::r,p,deep,S=>by
  rw[zid];split
  ·rw[kidsM_len u f r,listE_len,goM_len u f l]
  ·simp only;rw[listE_len,goM_len u f l]
theorem goM_len(u:Unt)(f:Flow):∀(l:List Node) (p:Place) (deep:Int) (S:St1),(goM u f l p deep S).2.length=S.length
 | [],p,deep,S=>rfl
 |x::r,p,deep,S=>by
  rw[goM];split
  ·rfl
  split
  ·split
   ·rw[goM_len u f r,nodeM_len u f x]
   ·exact nodeM_len u f x p deep S
  ·exact nodeM_len u f x p deep S
end
theorem listM_len(u:Unt)(f:Flow)(l:List Node)(p:Place)(deep:Int)(S:St1):(zXa u f l p deep S).2.length=S.length:=by
 unfold zXa;rw[listE_len,goM_len]
theorem eqGo_setG_ok{ty:List Int}:∀{l:List (Int×Int)} {S:St1},(eqGo (setG ty) S l).1=true->∀q∈l,0<=q.1/\q.1<ty.length
 | [],S,_,q,hq=>by cases hq
 |p::r,S,h,q,hq=>by
  simp only[eqGo]at h;split at h
  ·rename_i hp;rcases yJ.1 hq with rfl|hq
   ·unfold setG at hp;split at hp
    ·rename_i hv;simp only[ya]at hv;exact zfb hv.1
    ·cases hp
   ·exact eqGo_setG_ok h q hq
  ·cases h
theorem setM_ok{ty:List Int}{S:St1}{l ts:List Int}(h:(setM ty S l ts).1=true):∀v∈l,0<=v/\v<ty.length:=by
 unfold setM eqM at h;split at h
 ·rename_i hl;intro v hv;have:=eqGo_setG_ok h;obtain⟨i,hi,rfl⟩:=List.getElem_of_mem hv;exact this (l[i],ts[i]) (List.mem_iff_getElem.2 ⟨i,by simp;omega,by simp⟩)
 ·cases h
theorem nodeM_outs{u:Unt}{f:Flow}{x:Node}{p:Place}{deep:Int}{S:St1}(h:(nodeM u f x p deep S).1=true):∀v∈x.outs,0<=v/\v<f.types.length:=by
 rw[nodeM_eq]at h;split at h
 ·cases h
 split at h
 ·split at h
  ·unfold zhc at h;split at h
   ·exact setM_ok h
   ·cases h
  ·cases h
 split at h
 ·split at h
  ·split at h
   ·unfold loopE at h;split at h
    ·split at h
     ·exact setM_ok h
     ·cases h
    ·cases h
   ·cases h
  ·cases h
 split at h
 ·simp only[endM,ya,decide_eq_true_eq]at h;rw[h.1];simp
 ·simp only[zJa]at h
  repeat' split at h
  all_goals first|(cases h;done)|exact setM_ok h|skip
  all_goals
   simp only[sumM]at h
   repeat' split at h
   all_goals first|(cases h;done)|exact setM_ok h
theorem kidsM_nil(u:Unt)(f:Flow)(p:Place)(deep:Int)(S:St1):zid u f [] p deep S=(true,S):=by rw[zid]
theorem kidsM_cons(u:Unt)(f:Flow)(l:List Node)(r:List (List Node))(p:Place)(deep:Int)(S:St1):zid u f (l::r) p deep S=if(zXa u f l p deep S).1 then zid u f r p deep (zXa u f l p deep S).2 else(false,(zXa u f l p deep S).2):=by rw[zid];rfl
def ListOk(u:Unt)(f:Flow)(deep:Int)(l:List Node):Prop:=∀p S,S.length=f.types.length→
 zm E 43 [chkV u f f.types.length,zj l,zd p,.int .i64 deep] [stO S]=some (.ret (.bool (zXa u f l p deep S).1),[stO (zXa u f l p deep S).2])
theorem choice_spec(u:Unt)(f:Flow)(S:St1)(x:Node)(p:Place)(deep:Int)(hS:S.length=f.types.length)(hx:wtN x<1099511627776)(hk:x.kids.length=2)(hl:∀l∈x.kids,ListOk u f deep l):
  zm E 82 [chkV u f f.types.length,zG x,zd p,.int .i64 deep] [stO S]=
   let q:=if zza f.types S x.args [2]then zhc f.types x (zid u f x.kids {p with inIf:=true,yield:=zK f.types x.outs} deep S)else(false,S)
   some (.ret (.bool q.1),[stO q.2]):=by
 refine zc rfl rfl rfl (by simp[za,chkV,zd]) ?_;have hw:=zeb x;obtain⟨a,b,hab⟩:∃a b,x.kids=[a,b]:=by
  match hh:x.kids with
  | []=>rw[hh]at hk;cases hk
  | [_]=>rw[hh]at hk;cases hk
  | [a,b]=>exact⟨a,b,rfl⟩
  |_::_::_::_=>rw[hh]at hk;simp at hk
 generalize hp':({p with inIf:=true,yield:=zK f.types x.outs}:Place)=p';have e1:p'.inIf=true:=by rw[<-hp']
 have e2:p'.inLoop=p.inLoop:=by rw[<-hp']
 have e3:p'.yield=zK f.types x.outs:=by rw[<-hp']
 have e4:p'.next=p.next:=by rw[<-hp']
 have e5:p'.left=p.left:=by rw[<-hp']
 have h0:=types_spec u f f.types.length x.outs [stO S] (by omega);have h1:=zDa u f S x.args [2] hS (by omega);have h2:=hl a (by rw[hab];simp) p' S hS;have hS2:(zXa u f a p' deep S).2.length=f.types.length:=by rw[listM_len];exact hS
 have h3:=hl b (by rw[hab];simp) p' _ hS2;have hS3:(zXa u f b p' deep (zXa u f a p' deep S).2).2.length=f.types.length:=by rw[listM_len];exact hS2
 have h4:=all_spec u f _ x.outs hS3 (by omega);have h5:=zfc x [] hx;have ho:decide ((x.outs.length:Int)=0)=decide (x.outs=[]):=by simp
 have ek:zid u f [a,b] p' deep S=if(zXa u f a p' deep S).1 then if(zXa u f b p' deep (zXa u f a p' deep S).2).1 then(true,(zXa u f b p' deep (zXa u f a p' deep S).2).2)else(false,(zXa u f b p' deep (zXa u f a p' deep S).2).2)else(false,(zXa u f a p' deep S).2):=by
  rw[kidsM_cons,kidsM_cons,kidsM_nil]
 simp[chkV,ints,za,zd,kids,hab,e1,e2,e3,e4,e5]at h0 h1 h2 h3 h4 h5;generalize zXa u f a p' deep S=ra at*;generalize zXa u f b p' deep ra.2=rb at*;clear hw hl;simp only[hab]
 (simp[*,F82,za,chkV,ints,zd,kids,zhc])<;>(repeat' (first|((first|refine sP _ ?_ ?_|refine gP _ ?_ ?_|refine sN _ ?_ ?_|refine gN _ ?_ ?_)<;>intro hc<;>(first|replace hc:=eqn hc|replace hc:=eqp hc)<;>simp[*,F82,za,chkV,ints,zd,kids,zhc])|((first|refine sM _ ?_ ?_|refine gM _ ?_ ?_|refine sB _ ?_ ?_|refine gB _ ?_ ?_)<;>intro hc<;>simp[*,F82,za,chkV,ints,zd,kids,zhc])))
 all_goals(try grind)
theorem loop_spec(u:Unt)(f:Flow)(S:St1)(x:Node)(deep:Int)(hS:S.length=f.types.length)(hx:wtN x<1099511627776)(hk:x.kids.length=1)(hl:∀l∈x.kids,ListOk u f deep l):
  zm E 83 [chkV u f f.types.length,zG x,.int .i64 deep] [stO S]=
   let q:=if zza f.types S x.args (zK f.types x.params)then
     if(allM f.types S x.params).1 then loopE f.types x (zid u f x.kids ⟨false,true,[],zK f.types x.params,zK f.types x.outs⟩ deep (allM f.types S x.params).2)
     else(false,(allM f.types S x.params).2)
    else(false,S)
   some (.ret (.bool q.1),[stO q.2]):=by
 refine zc rfl rfl rfl (by simp[za,chkV,zd]) ?_;have hw:=zeb x;obtain⟨a,hab⟩:∃a,x.kids=[a]:=by
  match hh:x.kids with
  | []=>rw[hh]at hk;cases hk
  | [a]=>exact⟨a,rfl⟩
  |_::_::_=>rw[hh]at hk;simp at hk
 generalize hp':(⟨false,true,[],zK f.types x.params,zK f.types x.outs⟩:Place)=p';have e1:p'.inIf=false:=by rw[<-hp']
 have e2:p'.inLoop=true:=by rw[<-hp']
 have e3:p'.yield=[]:=by rw[<-hp']
 have e4:p'.next=zK f.types x.params:=by rw[<-hp']
 have e5:p'.left=zK f.types x.outs:=by rw[<-hp']
 have h0:=types_spec u f f.types.length x.outs [stO S] (by omega);have h0':=types_spec u f f.types.length x.params [stO S] (by omega);have h1:=zDa u f S x.args (zK f.types x.params) hS (by omega);have h6:=all_spec u f S x.params hS (by omega);have hS1:(allM f.types S x.params).2.length=f.types.length:=by simp only[allM,zZc];exact hS
 have h2:=hl a (by rw[hab];simp) p' _ hS1;have hS2:(zXa u f a p' deep (allM f.types S x.params).2).2.length=f.types.length:=by rw[listM_len];exact hS1
 have h5:=zfc x [] hx;have ho:decide ((x.outs.length:Int)=0)=decide (x.outs=[]):=by simp
 have ek:zid u f [a] p' deep (allM f.types S x.params).2=if(zXa u f a p' deep (allM f.types S x.params).2).1 then(true,(zXa u f a p' deep (allM f.types S x.params).2).2)else(false,(zXa u f a p' deep (allM f.types S x.params).2).2):=by
  rw[kidsM_cons,kidsM_nil]
 cases hok:(allM f.types S x.params).1
 ·simp[chkV,ints,za,zd,kids,hab,e1,e2,e3,e4,e5,hok]at h0 h0' h1 h2 h5 h6;clear hw hl;simp only[hab]
  (simp[*,F83,za,chkV,ints,zd,kids,loopE])<;>(repeat' (first|((first|refine sP _ ?_ ?_|refine gP _ ?_ ?_|refine sN _ ?_ ?_|refine gN _ ?_ ?_)<;>intro hc<;>(first|replace hc:=eqn hc|replace hc:=eqp hc)<;>simp[*,F83,za,chkV,ints,zd,kids,loopE])|((first|refine sM _ ?_ ?_|refine gM _ ?_ ?_|refine sB _ ?_ ?_|refine gB _ ?_ ?_)<;>intro hc<;>simp[*,F83,za,chkV,ints,zd,kids,loopE])))
  all_goals(try grind)
 ·have h7:=hide_spec u f _ x.params hS2 (by omega) (setM_ok hok);have hS3:(zHb (zXa u f a p' deep (allM f.types S x.params).2).2 x.params).length=f.types.length:=by rw[zTc];exact hS2
  have h4:=all_spec u f _ x.outs hS3 (by omega);simp[chkV,ints,za,zd,kids,hab,e1,e2,e3,e4,e5,hok]at h0 h0' h1 h2 h4 h5 h6 h7;generalize zXa u f a p' deep (allM f.types S x.params).2=ra at*;clear hw hl;simp only[hab]
  (simp[*,F83,za,chkV,ints,zd,kids,loopE])<;>(repeat' (first|((first|refine sP _ ?_ ?_|refine gP _ ?_ ?_|refine sN _ ?_ ?_|refine gN _ ?_ ?_)<;>intro hc<;>(first|replace hc:=eqn hc|replace hc:=eqp hc)<;>simp[*,F83,za,chkV,ints,zd,kids,loopE])|((first|refine sM _ ?_ ?_|refine gM _ ?_ ?_|refine sB _ ?_ ?_|refine gB _ ?_ ?_)<;>intro hc<;>simp[*,F83,za,chkV,ints,zd,kids,loopE])))
  all_goals(try grind)
theorem node_spec(u:Unt)(f:Flow)(S:St1)(x:Node)(p:Place)(deep:Int)(hu:UOk u)(hS:S.length=f.types.length)(hx:wtN x<1099511627776)(hd:0<=deep/\deep<=100)(hl:∀l∈x.kids,ListOk u f (deep+1) l):
  zm E 66 [chkV u f f.types.length,zG x,zd p,.int .i64 deep] [stO S]=some (.ret (.bool (nodeM u f x p deep S).1),[stO (nodeM u f x p deep S).2]):=by
 refine zc rfl rfl rfl (by simp[za,chkV,zd]) ?_;have hw:zT .i64 (deep+1)=deep+1:=zn (by omega) (by omega);have h0:=bare_spec x;have h1:=ends_raw x.kind;have h2:=end_spec u f S x p hS hx;have h3:=simple_spec u f S x hu hS hx;have he:=nodeM_eq u f x p deep S;rw[he];clear he;have hb:zIb x=true->(x.kids.length:Int)=zhd x.kind:=by
  intro h;simp only[zIb,ya,decide_eq_true_eq]at h;exact h.2
 cases hbx:zIb x
 ·simp[chkV,za,zd,hbx]at h0 h2 h3;clear hl hb
  (simp[*,F66,za,chkV,zd])<;>(repeat' (first|((first|refine sP _ ?_ ?_|refine gP _ ?_ ?_|refine sN _ ?_ ?_|refine gN _ ?_ ?_)<;>intro hc<;>(first|replace hc:=eqn hc|replace hc:=eqp hc)<;>simp[*,F66,za,chkV,zd])|((first|refine sM _ ?_ ?_|refine gM _ ?_ ?_|refine sB _ ?_ ?_|refine gB _ ?_ ?_)<;>intro hc<;>simp[*,F66,za,chkV,zd])))
 have hb:=hb hbx;by_cases h10:x.kind=10
 ·have hk:x.kids.length=2:=by simp[zhd,h10]at hb;omega
  have h4:=choice_spec u f S x p (deep+1) hS hx hk hl;simp[chkV,za,zd,hbx,h10]at h0 h2 h3 h4;clear hl hb
  (simp[*,F66,za,chkV,zd])<;>(repeat' ((first|refine sP _ ?_ ?_|refine gP _ ?_ ?_|refine sN _ ?_ ?_|refine gN _ ?_ ?_|refine sM _ ?_ ?_|refine gM _ ?_ ?_|refine sB _ ?_ ?_|refine gB _ ?_ ?_)<;>intro hc<;>simp[*,F66,za,chkV,zd]))
 by_cases h11:x.kind=11
 ·have hk:x.kids.length=1:=by simp[zhd,h11]at hb;omega
  have h4:=loop_spec u f S x (deep+1) hS hx hk hl;simp[chkV,za,zd,hbx,h11]at h0 h2 h3 h4;clear hl hb
  (simp[*,F66,za,chkV,zd])<;>(repeat' ((first|refine sP _ ?_ ?_|refine gP _ ?_ ?_|refine sN _ ?_ ?_|refine gN _ ?_ ?_|refine sM _ ?_ ?_|refine gM _ ?_ ?_|refine sB _ ?_ ?_|refine gB _ ?_ ?_)<;>intro hc<;>simp[*,F66,za,chkV,zd]))
 simp[chkV,za,zd,hbx]at h0 h2 h3;clear hl hb;cases hek:endK x.kind
 ·(simp[*,F66,za,chkV,zd])<;>(repeat' ((first|refine sP _ ?_ ?_|refine gP _ ?_ ?_|refine sN _ ?_ ?_|refine gN _ ?_ ?_|refine sM _ ?_ ?_|refine gM _ ?_ ?_|refine sB _ ?_ ?_|refine gB _ ?_ ?_)<;>intro hc<;>simp[*,F66,za,chkV,zd]))
 ·(simp[*,F66,za,chkV,zd])<;>(repeat' ((first|refine sP _ ?_ ?_|refine gP _ ?_ ?_|refine sN _ ?_ ?_|refine gN _ ?_ ?_|refine sM _ ?_ ?_|refine gM _ ?_ ?_|refine sB _ ?_ ?_|refine gB _ ?_ ?_)<;>intro hc<;>simp[*,F66,za,chkV,zd]))
def sdM(u:Unt)(f:Flow)(p:Place)(deep:Int)(S:St1)(d:List Node):St1:=d.foldl (fun S x=>(nodeM u f x p deep S).2) S
theorem sdM_snoc(u:Unt)(f:Flow)(p:Place)(deep:Int)(S:St1)(d:List Node)(x:Node):sdM u f p deep S (d++[x])=(nodeM u f x p deep (sdM u f p deep S d)).2:=by simp[sdM]
theorem sdM_len(u:Unt)(f:Flow)(p:Place)(deep:Int)(d:List Node):∀S:St1,(sdM u f p deep S d).length=S.length:=by
 induction d with
 |nil=>intro S;rfl
 |cons x r ih=>intro S;simp only[sdM,List.foldl_cons];rw[<-sdM,ih,nodeM_len]
section
variable (u:Unt) (f:Flow) (n:Nat)
@[simp] theorem strip_chk:strip (chkV u f n)=chkV u f n:=yd rfl rfl
@[simp] theorem stripA_chk:stripA (chkV u f n)=chkV u f n:=yd rfl rfl
@[simp] theorem isVar_chk:zq (chkV u f n)=true:=yd rfl rfl
end
@[simp] theorem avoids_chk(dead:List Nat)(u:Unt)(f:Flow)(n:Nat):avoids dead (chkV u f n)=true:=yd rfl rfl
theorem split_of{α:Type}{l d r:List α}{x:α}(h:Split l d x r):∀{r'},l=d++r'->r'=x::r:=by
 intro r' h';have:=h.eq;rw[h']at this;exact List.append_cancel_left this
theorem split_last{α:Type}{l d r:List α}{x:α}(h:Split l d x r):decide ((d.length:Int)=(l.length:Int)-1)=r.isEmpty:=by
 have:=congrArg List.length h.eq;simp at this;cases r with
 |nil=>simp at this ⊢;omega
 |cons y t=>simp at this ⊢;omega
theorem list_spec(u:Unt)(f:Flow)(hu:UOk u):∀(N:Nat) (l:List Node) (deep:Int),wtL l<=N->N<1099511627776->0<=deep->deep<=101->ListOk u f deep l:=by
 intro N
 induction N using yca with
 |ind N ih=>
  intro l deep hl hN hd0 hd1 p S hS;refine zc rfl rfl rfl (by simp[chkV,zd]) ?_;have hll:=zgd l;simp[F43,zd,zj];refine zH l K43_0 B43_0 (fun d=>[(15,.int .i64 d.length)]) (fun d=>[stO (sdM u f p deep S d)]) (fun d=>(∃r,l=d++r/\goM u f l p deep S=goM u f r p deep (sdM u f p deep S d))/\∀y∈d,∀v∈y.outs,0<=v/\v<f.types.length) (by omega) (by simp[sdM]) ?_ ?_
  ·rintro d x r s hl' hlt hget hget' hw ⟨⟨r',hr1,hr2⟩,hp⟩ h1 h2 h3 h4
   have:=split_of hl' hr1;subst this;simp at h1 h2 h3;have hwx:=wt_mem hl'.mem;have hS1:(sdM u f p deep S d).length=f.types.length:=by rw[sdM_len];exact hS
   rw[goM]at hr2;have hsn:=sdM_snoc u f p deep S d x;have hlast:=split_last hl';have hw2:zT .i64 ((l.length:Int)-1)=(l.length:Int)-1:=zn (by omega) (by omega);have hc:=zfc x [] (by omega);have hout:=nodeM_outs (u:=u) (f:=f) (x:=x) (p:=p) (deep:=deep) (S:=sdM u f p deep S d);have hlm:zXa u f l p deep S=listE l (goM u f l p deep S):=rfl;by_cases hdeep:100<deep
   ·have e:zXa u f l p deep S=(false,sdM u f p deep S d):=by rw[hlm,hr2,if_pos hdeep];rfl
    clear ih hout hr1 hlm
    (simp[*,za,zj])<;>(repeat' (first|((first|refine sP _ ?_ ?_|refine gP _ ?_ ?_|refine sN _ ?_ ?_|refine gN _ ?_ ?_)<;>intro hc<;>(first|replace hc:=eqn hc|replace hc:=eqp hc)<;>simp[*,za,zj])|((first|refine sM _ ?_ ?_|refine gM _ ?_ ?_|refine sB _ ?_ ?_|refine gB _ ?_ ?_)<;>intro hc<;>simp[*,za,zj])))
   have hn:=node_spec u f (sdM u f p deep S d) x p deep hu hS1 (by omega) (by omega) (fun k hk=>by
    have:=wt_kid hk;exact ih (wtL k) (by omega) k (deep+1) (yk _) (by omega) (by omega) (by omega))
   rw[if_neg hdeep]at hr2;simp[za,zd]at hn hc;generalize hq:nodeM u f x p deep (sdM u f p deep S d)=q at*;cases hq1:q.1
   ·rw[hq1]at hr2 hn;have e:zXa u f l p deep S=(false,q.2):=by rw[hlm,hr2];rfl
    clear ih hout hr1 hlm
    (simp[*,za,zj])<;>(repeat' (first|((first|refine sP _ ?_ ?_|refine gP _ ?_ ?_|refine sN _ ?_ ?_|refine gN _ ?_ ?_)<;>intro hc<;>(first|replace hc:=eqn hc|replace hc:=eqp hc)<;>simp[*,za,zj])|((first|refine sM _ ?_ ?_|refine gM _ ?_ ?_|refine sB _ ?_ ?_|refine gB _ ?_ ?_)<;>intro hc<;>simp[*,za,zj])))
   rw[hq1]at hr2 hn;simp at hr2;by_cases hcl:zU x=r.isEmpty
   ·rw[if_pos hcl]at hr2;have hout':=hout hq1;clear ih hout hc hr1 hlm;have hc:=zfc x [] (by omega);simp[za]at hc;rw[hcl]at hc;have e:∃r',l=d++([x]++r')/\goM u f l p deep S=goM u f r' p deep q.2:=⟨r,by rw[hl'.eq];rfl,hr2⟩
    have e':∃r',l=d++x::r'/\goM u f l p deep S=goM u f r' p deep q.2:=⟨r,by rw[hl'.eq],hr2⟩
    (simp[*,za,zj])<;>(repeat' (first|((first|refine sP _ ?_ ?_|refine gP _ ?_ ?_|refine sN _ ?_ ?_|refine gN _ ?_ ?_)<;>intro hc<;>(first|replace hc:=eqn hc|replace hc:=eqp hc)<;>simp[*,za,zj])|((first|refine sM _ ?_ ?_|refine gM _ ?_ ?_|refine sB _ ?_ ?_|refine gB _ ?_ ?_)<;>intro hc<;>simp[*,za,zj])))
    all_goals(try grind)
   ·rw[if_neg hcl]at hr2;have e:zXa u f l p deep S=(false,q.2):=by rw[hlm,hr2];rfl
    clear ih hout hr1 hlm
    (simp[*,za,zj])<;>(repeat' (first|((first|refine sP _ ?_ ?_|refine gP _ ?_ ?_|refine sN _ ?_ ?_|refine gN _ ?_ ?_)<;>intro hc<;>(first|replace hc:=eqn hc|replace hc:=eqp hc)<;>simp[*,za,zj])|((first|refine sM _ ?_ ?_|refine gM _ ?_ ?_|refine sB _ ?_ ?_|refine gB _ ?_ ?_)<;>intro hc<;>simp[*,za,zj])))
    all_goals exact absurd (of_eq_true (by assumption)) hcl
  ·rintro s ⟨⟨r',hr1,hr2⟩,hp⟩ h1 h2 h3 h4
   have:r'=[]:=by
    have:=congrArg List.length hr1;simp at this;exact this
   subst this;simp at h1 h2 h3;rw[goM]at hr2;have hlm:zXa u f l p deep S=(!l.isEmpty,zHb (sdM u f p deep S l) (l.flatMap Node.outs)):=by
    show listE l (goM u f l p deep S)=_
    rw[hr2];rfl
   clear ih hr1;simp[*,zd,zj];refine zH l K43_1 B43_1 (fun d=>[(43,.int .i64 d.length)]) (fun d=>[stO (zHb (sdM u f p deep S l) (d.flatMap Node.outs))]) (fun d=>True) (by omega) (by simp[zHb]) ?_ ?_
   ·intros d x r s' hl' hlt hget hget' hw _ h1' h2' h3' h4';have hwx:=wt_mem hl'.mem;have hxe:=zeb x;have hh:=hide_spec u f (zHb (sdM u f p deep S l) (d.flatMap Node.outs)) x.outs (by rw[zTc,sdM_len];exact hS) (by omega) (hp x hl'.mem);have hh2:zHb (zHb (sdM u f p deep S l) (d.flatMap Node.outs)) x.outs=zHb (sdM u f p deep S l) (d.flatMap Node.outs++x.outs):=by simp[zHb]
    rw[hh2]at hh;simp at h1' h3';clear h2' hp h1 h2
    (simp[*,za,zj])<;>(repeat' (first|((first|refine sP _ ?_ ?_|refine gP _ ?_ ?_|refine sN _ ?_ ?_|refine gN _ ?_ ?_)<;>intro hc<;>(first|replace hc:=eqn hc|replace hc:=eqp hc)<;>simp[*,za,zj])|((first|refine sM _ ?_ ?_|refine gM _ ?_ ?_|refine sB _ ?_ ?_|refine gB _ ?_ ?_)<;>intro hc<;>simp[*,za,zj])))
   ·intros s' _ h1' h2' h3' h4';simp at h1' h3';clear h2' hp h1 h2;have hz:decide (0<l.length)= !l.isEmpty:=by cases l<;>simp
    (simp[*,zj])<;>(repeat' (first|((first|refine sP _ ?_ ?_|refine gP _ ?_ ?_|refine sN _ ?_ ?_|refine gN _ ?_ ?_)<;>intro hc<;>(first|replace hc:=eqn hc|replace hc:=eqp hc)<;>simp[*,zj])|((first|refine sM _ ?_ ?_|refine gM _ ?_ ?_|refine sB _ ?_ ?_|refine gB _ ?_ ?_)<;>intro hc<;>simp[*,zj])))
def tyOk(t:Int):Bool:=decide (t=1)||decide (t=2)
theorem isType_spec(t:Int)(σ:zb):zm E 39 [.int .i64 t] σ=some (.ret (.bool (tyOk t)),σ):=by
 refine zc rfl rfl rfl (by simp) ?_
 (simp[*,F39,tyOk])<;>(repeat' ((first|refine sP _ ?_ ?_|refine gP _ ?_ ?_|refine sN _ ?_ ?_|refine gN _ ?_ ?_|refine sM _ ?_ ?_|refine gM _ ?_ ?_|refine sB _ ?_ ?_|refine gB _ ?_ ?_)<;>intro hc<;>simp[*,F39,tyOk]))
theorem notType_spec(t:Int)(σ:zb):zm E 42 [.int .i64 t] σ=some (.ret (.bool (!tyOk t)),σ):=by
 refine zc rfl rfl rfl (by simp) ?_
 (simp[*,F42,isType_spec])<;>(repeat' ((first|refine sP _ ?_ ?_|refine gP _ ?_ ?_|refine sN _ ?_ ?_|refine gN _ ?_ ?_|refine sM _ ?_ ?_|refine gM _ ?_ ?_|refine sB _ ?_ ?_|refine gB _ ?_ ?_)<;>intro hc<;>simp[*,F42,isType_spec]))
def initM(f:Flow)(k:Nat):St1:=yC k 1++yC (f.types.length-k) 0
def zBb:Place:=⟨false,false,[],[],[]⟩
def flowM(u:Unt)(f:Flow):Bool:=
 !(decide (8<f.params)||decide (20000<f.types.length)||f.types.any (fun t=> !tyOk t))&&(zXa u f f.body zBb 1 (initM f f.params.toNat)).1
theorem initM_len(f:Flow)(k:Nat)(h:k<=f.types.length):(initM f k).length=f.types.length:=by simp[initM];omega
theorem initM_set(f:Flow)(k:Nat)(h:k<f.types.length):(initM f k).set k 1=initM f (k+1):=by
 unfold initM;have:f.types.length-k=(f.types.length-(k+1))+1:=by omega
 rw[this,List.replicate_succ,List.set_append_right _ _ (by simp)];simp[List.replicate_succ']
theorem flow_spec(u:Unt)(f:Flow)(hu:UOk u)(hp:0<=f.params/\f.params<=f.types.length)(ht:f.types.length<1099511627776)(hb:wtL f.body<1099511627776):
  zm E 24 [encUnt u,zf f] []=some (.ret (.bool (flowM u f)),[]):=by
 refine zc rfl rfl rfl (by simp[encUnt,zf]) ?_;have h1:=containsFuncInt f.types (fun t=> !tyOk t) 42 [] [] [] ht (by simp) (fun x _=>notType_spec x []);have h2:=list_spec u f hu (wtL f.body) f.body 1 (yk _) hb (by omega) (by omega) zBb (initM f f.params.toNat) (initM_len f _ (by omega));simp[zd,zBb]at h2;have ho:decide ((20000:Int)<f.types.length)=decide (20000<f.types.length):=by simp;omega
 have l1:(0:Int)<=(f.types.length:Int):=by omega
 have l2:(f.types.length:Int)<=9223372036854775807:=by omega
 have l3:8*(f.types.length:Int)<=281474976710656:=by omega
 (simp[*,F24,encUnt,zf,ints,flowM,zBb])<;>(repeat' (first|((first|refine sP _ ?_ ?_|refine gP _ ?_ ?_|refine sN _ ?_ ?_|refine gN _ ?_ ?_)<;>intro hc<;>(first|replace hc:=eqn hc|replace hc:=eqp hc)<;>simp[*,F24,encUnt,zf,ints,flowM,zBb])|((first|refine sM _ ?_ ?_|refine gM _ ?_ ?_|refine sB _ ?_ ?_|refine gB _ ?_ ?_)<;>intro hc<;>simp[*,F24,encUnt,zf,ints,flowM,zBb])))
 all_goals first
  |refine zH (yR f.params.toNat) K24_0 B24_0 (fun d=>[(31,.int .i64 d.length)]) (fun d=>[stO (initM f d.length)]) (fun _=>True) (by simp;omega) (by simp[initM,stO]) ?_ ?_
  |(try grind)
 ·intros d x r s hl' hlt hget hget' hw _ q1 q2 q3 q4;simp at hlt;have e1:(d.length:Int)<f.params:=by omega
  have e2:d.length<f.types.length:=by omega
  have e3:=initM_set f d.length e2;have e4:=initM_len f d.length (by omega);have e5:(initM f (d.length+1)).map (PV.int .i64)=((initM f d.length).map (PV.int .i64)).set d.length (.int .i64 1):=by rw[<-e3,ysa]
  simp at q1 q2 q3 q4;clear h1 h2 hget hget' e3
  (simp[*,zf,ints,zz,zka,stO])<;>(repeat' (first|((first|refine sP _ ?_ ?_|refine gP _ ?_ ?_|refine sN _ ?_ ?_|refine gN _ ?_ ?_)<;>intro hc<;>(first|replace hc:=eqn hc|replace hc:=eqp hc)<;>simp[*,zf,ints,zz,zka,stO])|((first|refine sM _ ?_ ?_|refine gM _ ?_ ?_|refine sB _ ?_ ?_|refine gB _ ?_ ?_)<;>intro hc<;>simp[*,zf,ints,zz,zka,stO])))
 ·intros s _ q1 q2 q3 q4;have e0:(f.params.toNat:Int)=f.params:=by omega
  simp at q1 q2 q3 q4;clear h1;simp[chkV,ints,flowM,zBb,stO]at h2
  (simp[*,zf,ints,stO])<;>(repeat' (first|((first|refine sP _ ?_ ?_|refine gP _ ?_ ?_|refine sN _ ?_ ?_|refine gN _ ?_ ?_)<;>intro hc<;>(first|replace hc:=eqn hc|replace hc:=eqp hc)<;>simp[*,zf,ints,stO])|((first|refine sM _ ?_ ?_|refine gM _ ?_ ?_|refine sB _ ?_ ?_|refine gB _ ?_ ?_)<;>intro hc<;>simp[*,zf,ints,stO])))
  all_goals(try grind)
def bump:List (List UInt8×Int)->List UInt8->List (List UInt8×Int)
 | [],s=>[(s,IntKind.wrap .i64 (0+1))]
 |(k,v)::r,s=>if s=k then(s,IntKind.wrap .i64 (v+1))::r else(k,v)::bump r s
def bumps(l:List (List UInt8)):List (List UInt8×Int):=l.foldl bump []
def encM(m:List (List UInt8×Int)):List (PV×PV):=m.map fun p=>(.str p.1,.int .i64 p.2)
def findC(s:List UInt8):List (List UInt8×Int)->Option Int
 | []=>none
 |(k,v)::r=>if s=k then some v else findC s r
theorem mapFind_enc(s:List UInt8):∀m,zCa true (.str s) (encM m)=some ((findC s m).map (PV.int .i64))
 | []=>rfl
 |(k,v)::r=>by
  have ih:=mapFind_enc s r;simp only[encM]at ih;simp only[encM,yN,zCa,keyEq,findC];by_cases h:s=k
  ·simp[h]
  ·simp[h,ih]
theorem mapSet_enc(s:List UInt8):∀m,zYb true (.str s) (.int .i64 (zT .i64 ((findC s m).getD 0+1))) (encM m)=some (encM (bump m s))
 | []=>by simp[encM,zYb,findC,bump,zmc]
 |(k,v)::r=>by
  have ih:=mapSet_enc s r;simp only[encM]at ih;simp only[encM,yN,zYb,keyEq,findC,bump];by_cases h:s=k
  ·simp[h,zmc]
  ·simp[h,ih]
theorem bump_keys(s:List UInt8):∀m,(bump m s).map Prod.fst=if s∈m.map Prod.fst then m.map Prod.fst else m.map Prod.fst++[s]
 | []=>by simp[bump]
 |(k,v)::r=>by
  have ih:=bump_keys s r;simp only[bump];by_cases h:s=k
  ·simp[h]
  ·simp only[h,if_false,yN,ih,yJ,false_or];split<;>simp
def dist(l:List (List UInt8)):List (List UInt8):=l.foldl (fun d s=>if s∈d then d else d++[s]) []
theorem bumps_keys(l:List (List UInt8)):(bumps l).map Prod.fst=dist l:=by
 have:∀(l:List (List UInt8)) m,(l.foldl bump m).map Prod.fst=l.foldl (fun d s=>if s∈d then d else d++[s]) (m.map Prod.fst):=by
  intro l
  induction l with
  |nil=>intro m;rfl
  |cons s r ih=>intro m;simp only[List.foldl_cons,ih,bump_keys]
 exact this l []
theorem dist_nodup(l:List (List UInt8)):decide ((dist l).length=l.length)=decide l.Nodup:=by
 have key:∀(l d:List (List UInt8)),d.Nodup->(l.foldl (fun d s=>if s∈d then d else d++[s]) d).length<=d.length+l.length∧
   ((l.foldl (fun d s=>if s∈d then d else d++[s]) d).length=d.length+l.length<->(d++l).Nodup):=by
  intro l
  induction l with
  |nil=>intro d hd;simp[hd]
  |cons s r ih=>
   intro d hd;simp only[List.foldl_cons];by_cases h:s∈d
   ·rw[if_pos h];obtain⟨h1,h2⟩:=ih d hd;refine⟨by simp;omega,⟨fun e=>by simp at e;omega,fun e=>?_⟩⟩;rw[List.nodup_append]at e;exact absurd rfl (e.2.2 s h s (by simp))
   ·rw[if_neg h];have hd':(d++[s]).Nodup:=by
     rw[List.nodup_append];exact⟨hd,by simp,fun a ha b hb e=>by simp at hb;subst hb;subst e;exact h ha⟩
    obtain⟨h1,h2⟩:=ih (d++[s]) hd';refine⟨by simp at h1 ⊢;omega,?_⟩;rw[show d++s::r=d++[s]++r by simp,<-h2];simp;omega
 have:=(key l [] (by simp)).2;simp only[List.nil_append,yP,yD]at this;unfold dist;simp only[decide_eq_decide];exact this
theorem bumps_snoc(l:List (List UInt8))(s:List UInt8):bumps (l++[s])=bump (bumps l) s:=by simp[bumps]
theorem encM_len(m:List (List UInt8×Int)):(encM m).length=(m.map Prod.fst).length:=by simp[encM]
def unames(u:Unt):List (List UInt8):=u.arrays.map Arr.name++u.flows.map Flow.name
def arrOk(a:Arr):Bool:=nameM a.name&&decide (1<=a.size)&&decide (a.size<=1000)
def zbc(f:Flow):Bool:=nameM f.name&&tyOk f.type&&decide (0<=f.params)&&decide (f.params<=f.types.length)
def zL:List UInt8:=[109,97,105,110]
def mainOk(u:Unt):Bool:=match u.flows[(zba u.flows zL).toNat]? with
 |some g=>decide (0<=zba u.flows zL)&&decide (g.type=1)&&decide (g.params=0)
 |none=>false
def zkd(u:Unt):Bool:=u.arrays.all arrOk&&u.flows.all zbc&&decide (unames u).Nodup&&mainOk u
theorem findC_cases(s:List UInt8)(m:List (List UInt8×Int)):∃o,findC s m=o/\zCa true (.str s) (encM m)=some (o.map (PV.int .i64))/\zYb true (.str s) (.int .i64 (zT .i64 (o.getD 0+1))) (encM m)=some (encM (bump m s)):=
 ⟨_,rfl,mapFind_enc s m,mapSet_enc s m⟩
theorem head_spec(u:Unt)(hu1:u.arrays.length<1099511627776)(hu2:u.flows.length<1099511627776):zm E 23 [encUnt u] []=some (.ret (.bool (zkd u)),[]):=by
 refine zc rfl rfl rfl (by simp[encUnt]) ?_;simp[F23,encUnt,arrs];refine zH u.arrays K23_0 B23_0 (fun d=>[(13,.int .i64 d.length)]) (fun d=>[.mp (encM (bumps (d.map Arr.name)))]) (fun d=>d.all arrOk=true) (by omega) (by simp[bumps,encM]) ?_ ?_
 ·intros d x r s hl' hlt hget hget' hw hp h1 h2 h3 h4;simp at h1 h2 h3;have hn:=name_spec x.name [];have hall:u.arrays.all arrOk=(d.all arrOk&&(arrOk x&&r.all arrOk)):=by rw[hl'.eq];simp
  have hsn:bumps (List.map Arr.name d++[x.name])=bump (bumps (List.map Arr.name d)) x.name:=bumps_snoc _ _;obtain⟨o,o1,o2,o3⟩:=findC_cases x.name (bumps (d.map Arr.name));clear o1;cases hnm:nameM x.name
  ·have hx:arrOk x=false:=by simp[arrOk,hnm]
   have hh:zkd u=false:=by simp only[zkd,hall,hx];simp
   cases o<;>(simp at o3;(simp[*,zN,arrs])<;>(repeat' (first|((first|refine sP _ ?_ ?_|refine gP _ ?_ ?_|refine sN _ ?_ ?_|refine gN _ ?_ ?_)<;>intro hc<;>(first|replace hc:=eqn hc|replace hc:=eqp hc)<;>simp[*,zN,arrs])|((first|refine sM _ ?_ ?_|refine gM _ ?_ ?_|refine sB _ ?_ ?_|refine gB _ ?_ ?_)<;>intro hc<;>simp[*,zN,arrs]))))
  ·by_cases hs1:x.size<1
   ·have hx:arrOk x=false:=by simp[arrOk];omega
    have hh:zkd u=false:=by simp only[zkd,hall,hx];simp
    cases o<;>(simp at o3;(simp[*,zN,arrs])<;>(repeat' (first|((first|refine sP _ ?_ ?_|refine gP _ ?_ ?_|refine sN _ ?_ ?_|refine gN _ ?_ ?_)<;>intro hc<;>(first|replace hc:=eqn hc|replace hc:=eqp hc)<;>simp[*,zN,arrs])|((first|refine sM _ ?_ ?_|refine gM _ ?_ ?_|refine sB _ ?_ ?_|refine gB _ ?_ ?_)<;>intro hc<;>simp[*,zN,arrs]))))
   ·by_cases hs2:1000<x.size
    ·have hx:arrOk x=false:=by simp[arrOk];omega
     have hh:zkd u=false:=by simp only[zkd,hall,hx];simp
     cases o<;>(simp at o3;(simp[*,zN,arrs])<;>(repeat' (first|((first|refine sP _ ?_ ?_|refine gP _ ?_ ?_|refine sN _ ?_ ?_|refine gN _ ?_ ?_)<;>intro hc<;>(first|replace hc:=eqn hc|replace hc:=eqp hc)<;>simp[*,zN,arrs])|((first|refine sM _ ?_ ?_|refine gM _ ?_ ?_|refine sB _ ?_ ?_|refine gB _ ?_ ?_)<;>intro hc<;>simp[*,zN,arrs]))))
    ·have hx:arrOk x=true:=by simp[arrOk,hnm];omega
     have hpp:∀y∈d,arrOk y=true:=by simpa using hp
     clear hall;cases o<;>(simp at o3;(simp[*,zN,arrs])<;>(repeat' (first|((first|refine sP _ ?_ ?_|refine gP _ ?_ ?_|refine sN _ ?_ ?_|refine gN _ ?_ ?_)<;>intro hc<;>(first|replace hc:=eqn hc|replace hc:=eqp hc)<;>simp[*,zN,arrs])|((first|refine sM _ ?_ ?_|refine gM _ ?_ ?_|refine sB _ ?_ ?_|refine gB _ ?_ ?_)<;>intro hc<;>simp[*,zN,arrs]))))<;>(try grind)
 intros s0 hpa h1 h2 h3 h4;simp at h1 h2 h3;simp[*,arrs,flows];refine zH u.flows K23_1 B23_1 (fun d=>[(40,.int .i64 d.length)]) (fun d=>[.mp (encM (bumps (u.arrays.map Arr.name++d.map Flow.name)))]) (fun d=>d.all zbc=true) (by omega) (by simp) ?_ ?_
 ·intros d x r s hl' hlt hget hget' hw hp h1' h2' h3' h4';simp at h1' h2' h3';clear h1 h2 h3 h4;have hn:=name_spec x.name [];have ht:=isType_spec x.type [];have hall:u.flows.all zbc=(d.all zbc&&(zbc x&&r.all zbc)):=by rw[hl'.eq];simp
  have hsn:bumps (List.map Arr.name u.arrays++(List.map Flow.name d++[x.name]))=bump (bumps (List.map Arr.name u.arrays++List.map Flow.name d)) x.name:=by rw[<-yV];exact bumps_snoc _ _
  obtain⟨o,o1,o2,o3⟩:=findC_cases x.name (bumps (u.arrays.map Arr.name++d.map Flow.name));clear o1;have hh:zbc x=false->zkd u=false:=fun hx=>by simp only[zkd,hall,hx];simp
  have hpp:∀y∈d,zbc y=true:=by simpa using hp
  cases hx:zbc x
  ·have hh:=hh hx;simp only[zbc]at hx;clear hall;cases o<;>(simp at o3;(simp[*,zf,flows,ints])<;>(repeat' (first|((first|refine sP _ ?_ ?_|refine gP _ ?_ ?_|refine sN _ ?_ ?_|refine gN _ ?_ ?_)<;>intro hc<;>(first|replace hc:=eqn hc|replace hc:=eqp hc)<;>simp[*,zf,flows,ints])|((first|refine sM _ ?_ ?_|refine gM _ ?_ ?_|refine sB _ ?_ ?_|refine gB _ ?_ ?_)<;>intro hc<;>simp[*,zf,flows,ints]))))<;>(try grind)
  ·have hx2:=hx;simp only[zbc,ya,decide_eq_true_eq]at hx2;obtain⟨⟨⟨n1,n2⟩,n3⟩,n4⟩:=hx2;have n3':¬x.params<0:=by omega
   have n4':¬(x.types.length:Int)<x.params:=by omega
   clear hall hh;cases o<;>(simp at o3;(simp[*,zf,flows,ints])<;>(repeat' (first|((first|refine sP _ ?_ ?_|refine gP _ ?_ ?_|refine sN _ ?_ ?_|refine gN _ ?_ ?_)<;>intro hc<;>(first|replace hc:=eqn hc|replace hc:=eqp hc)<;>simp[*,zf,flows,ints])|((first|refine sM _ ?_ ?_|refine gM _ ?_ ?_|refine sB _ ?_ ?_|refine gB _ ?_ ?_)<;>intro hc<;>simp[*,zf,flows,ints]))))<;>(try grind)
 ·intros s hp h1' h2' h3' h4';simp at h1' h2' h3';clear h1 h2 h3 h4;have hpl:=place_spec u zL [] hu2;simp[encUnt,zL,arrs,flows]at hpl;have hk:(encM (bumps (u.arrays.map Arr.name++u.flows.map Flow.name))).length=(dist (unames u)).length:=by rw[encM_len,bumps_keys];rfl
  have hd:=dist_nodup (unames u);have hul:(unames u).length=u.arrays.length+u.flows.length:=by simp[unames]
  have hw:zT .i64 ((u.arrays.length:Int)+u.flows.length)=(u.arrays.length:Int)+u.flows.length:=zn (by omega) (by omega);have hh:zkd u=(decide (unames u).Nodup&&mainOk u):=by simp only[zkd,hpa,hp];simp
  have hz:decide (((dist (unames u)).length:Int)=(u.arrays.length:Int)+u.flows.length)=decide (unames u).Nodup:=by
   rw[<-hd,hul];simp;omega
  by_cases hp0:0<=zba u.flows zL
  ·obtain⟨g,q1,q2,q3,q4⟩:=place_get hp0;have q5:u.flows[(zba u.flows zL).toNat]=g:=by simpa[q4]using q1
   have hm:mainOk u=(decide (g.type=1)&&decide (g.params=0)):=by simp[mainOk,q1,hp0]
   simp[zL]at hp0 q1 q4 q5;clear hd hul hpa hp;cases hnd:decide (unames u).Nodup
   ·rw[hnd]at hz hh
    (simp[*,flows,zf,arrs])<;>(repeat' (first|((first|refine sP _ ?_ ?_|refine gP _ ?_ ?_|refine sN _ ?_ ?_|refine gN _ ?_ ?_)<;>intro hc<;>(first|replace hc:=eqn hc|replace hc:=eqp hc)<;>simp[*,flows,zf,arrs])|((first|refine sM _ ?_ ?_|refine gM _ ?_ ?_|refine sB _ ?_ ?_|refine gB _ ?_ ?_)<;>intro hc<;>simp[*,flows,zf,arrs])))
   ·rw[hnd]at hz hh
    (simp[*,flows,zf,arrs])<;>(repeat' (first|((first|refine sP _ ?_ ?_|refine gP _ ?_ ?_|refine sN _ ?_ ?_|refine gN _ ?_ ?_)<;>intro hc<;>(first|replace hc:=eqn hc|replace hc:=eqp hc)<;>simp[*,flows,zf,arrs])|((first|refine sM _ ?_ ?_|refine gM _ ?_ ?_|refine sB _ ?_ ?_|refine gB _ ?_ ?_)<;>intro hc<;>simp[*,flows,zf,arrs])))
  ·have hm:mainOk u=false:=by
    unfold mainOk;split<;>simp;omega
   simp only[zL]at hp0;clear hd hul hpa hp;cases hnd:decide (unames u).Nodup
   ·rw[hnd]at hz hh
    (simp[*,flows,zf,arrs])<;>(repeat' (first|((first|refine sP _ ?_ ?_|refine gP _ ?_ ?_|refine sN _ ?_ ?_|refine gN _ ?_ ?_)<;>intro hc<;>(first|replace hc:=eqn hc|replace hc:=eqp hc)<;>simp[*,flows,zf,arrs])|((first|refine sM _ ?_ ?_|refine gM _ ?_ ?_|refine sB _ ?_ ?_|refine gB _ ?_ ?_)<;>intro hc<;>simp[*,flows,zf,arrs])))
   ·rw[hnd]at hz hh
    (simp[*,flows,zf,arrs])<;>(repeat' (first|((first|refine sP _ ?_ ?_|refine gP _ ?_ ?_|refine sN _ ?_ ?_|refine gN _ ?_ ?_)<;>intro hc<;>(first|replace hc:=eqn hc|replace hc:=eqp hc)<;>simp[*,flows,zf,arrs])|((first|refine sM _ ?_ ?_|refine gM _ ?_ ?_|refine sB _ ?_ ?_|refine gB _ ?_ ?_)<;>intro hc<;>simp[*,flows,zf,arrs])))
structure USz(u:Unt):Prop where
 arrs:u.arrays.length<1099511627776
 flows:u.flows.length<1099511627776
 types:∀f∈u.flows,f.types.length<1099511627776
 body:∀f∈u.flows,wtL f.body<1099511627776
theorem USz.ok{u:Unt}(h:USz u)(hh:zkd u=true):UOk u:=by
 refine⟨h.arrs,h.flows,fun f hf=>?_,h.types⟩;simp only[zkd,ya,yo]at hh;have:=hh.1.1.2 f hf;simp only[zbc,ya,decide_eq_true_eq]at this;exact⟨this.1.2,this.2⟩
def zXc(u:Unt):Int×Int:=if zkd u then(match u.flows.findIdx? (fun f=> !flowM u f)with
 |some i=>(80,(i:Int))
 |none=>(0,0))else(1,0)
theorem check_spec(u:Unt)(hu:USz u):zm E 9 [encUnt u] []=some (.ret (.tup [.int .i64 (zXc u).1,.int .i64 (zXc u).2]),[]):=by
 refine zc rfl rfl rfl (by simp[encUnt]) ?_;have h1:=head_spec u hu.arrs hu.flows;cases hh:zkd u
 ·simp[encUnt,hh,flows]at h1;have hc:zXc u=(1,0):=by simp[zXc,hh]
  (simp[*,F9,encUnt,flows])<;>(repeat' (first|((first|refine sP _ ?_ ?_|refine gP _ ?_ ?_|refine sN _ ?_ ?_|refine gN _ ?_ ?_)<;>intro hc<;>(first|replace hc:=eqn hc|replace hc:=eqp hc)<;>simp[*,F9,encUnt,flows])|((first|refine sM _ ?_ ?_|refine gM _ ?_ ?_|refine sB _ ?_ ?_|refine gB _ ?_ ?_)<;>intro hc<;>simp[*,F9,encUnt,flows])))
 ·have ho:=hu.ok hh;simp[encUnt,hh,flows]at h1;have hf:∀f∈u.flows,zm E 24 [encUnt u,zf f] []=some (.ret (.bool (flowM u f)),[]):=fun f hf=>flow_spec u f ho (ho.pars f hf) (hu.types f hf) (hu.body f hf)
  have hfl:=hu.flows;simp[F9,encUnt,flows,h1];refine zH u.flows K9_0 B9_0 (fun d=>[(12,.int .i64 d.length)]) (fun d=>[]) (fun d=>∀f∈d,flowM u f=true) (by omega) (by simp) ?_ ?_
  ·intros d x r s hl' hlt hget hget' hw hp q1 q2 q3 q4;simp at q1 q2 q3;have hfx:=hf x hl'.mem;simp[encUnt,flows,zf]at hfx;clear hf hu ho h1;cases hx:flowM u x
   ·have hi:=zGc (p:=fun f=> !flowM u f) hl' (by simpa using hp) (by simp[hx]);have hcx:zXc u=(80,(d.length:Int)):=by
     unfold idx at hi;simp only[zXc,hh,if_true];cases hfi:u.flows.findIdx? (fun f=> !flowM u f)with
     |none=>rw[hfi]at hi;simp at hi
     |some i=>rw[hfi]at hi;simp at hi;simp[hi]
    (simp[*,zf,flows])<;>(repeat' (first|((first|refine sP _ ?_ ?_|refine gP _ ?_ ?_|refine sN _ ?_ ?_|refine gN _ ?_ ?_)<;>intro hc<;>(first|replace hc:=eqn hc|replace hc:=eqp hc)<;>simp[*,zf,flows])|((first|refine sM _ ?_ ?_|refine gM _ ?_ ?_|refine sB _ ?_ ?_|refine gB _ ?_ ?_)<;>intro hc<;>simp[*,zf,flows])))
   ·(simp[*,zf,flows])<;>(repeat' (first|((first|refine sP _ ?_ ?_|refine gP _ ?_ ?_|refine sN _ ?_ ?_|refine gN _ ?_ ?_)<;>intro hc<;>(first|replace hc:=eqn hc|replace hc:=eqp hc)<;>simp[*,zf,flows])|((first|refine sM _ ?_ ?_|refine gM _ ?_ ?_|refine sB _ ?_ ?_|refine gB _ ?_ ?_)<;>intro hc<;>simp[*,zf,flows])))
    all_goals(try grind)
  ·intros s hp q1 q2 q3 q4;simp at q1 q2 q3;have hcx:zXc u=(0,0):=by
    have:u.flows.findIdx? (fun f=> !flowM u f)=none:=by rw[yfa];simpa using hp
    simp[zXc,hh,this]
   clear hf hu ho hh h1 hp
   (simp[*])<;>(repeat' (first|((first|refine sP _ ?_ ?_|refine gP _ ?_ ?_|refine sN _ ?_ ?_|refine gN _ ?_ ?_)<;>intro hc<;>(first|replace hc:=eqn hc|replace hc:=eqp hc)<;>simp[*])|((first|refine sM _ ?_ ?_|refine gM _ ?_ ?_|refine sB _ ?_ ?_|refine gB _ ?_ ?_)<;>intro hc<;>simp[*])))
structure RS where
 inp:List Int
 arrs:List (List Int)
 out:List Int
 cost:Int
 fuel:Nat
inductive Rt(α:Type) where
 |ok (a:α)
 |stop (k:Int)
structure Wy where
 kind:Int
 l:List Int
abbrev NEv:=Node->List Int->RS->Rt Wy×List Int×RS
def atA(l:List Int)(i:Nat):Int:=(l[i]?).getD 0
section
variable (u:Unt) (ev:NEv)
end
structure Rn where
 status:Int
 code:Int
 out:List Int
 cost:Int
 fuel:Nat
abbrev Set1:=List Bool
def seO(Z:Set1):Obj:= .arr 1 (Z.map PV.bool)
def atB(l:List Bool)(v:Int):Bool:=(l[v.toNat]?).getD false
theorem atB_get{l:List Bool}{v:Int}(h0:0<=v)(h1:v<l.length):l[v.toNat]? =some (atB l v):=by
 unfold atB;have:v.toNat<l.length:=by omega
 simp[this]
theorem atB_get'{l:List Bool}{v:Int}(h0:0<=v)(h1:v<l.length)(h:v.toNat<l.length):l[v.toNat]'h=atB l v:=by
 unfold atB;simp[h]
theorem in_spec(l:List Int)(n:Int)(σ:zb)(hl:l.length<1099511627776):zm E 100 [ints l,.int .i64 n] σ=some (.ret (.bool (l.contains n)),σ):=by
 refine zc rfl rfl rfl (by simp) ?_;simp[F100];refine zH l K100_0 B100_0 (fun d=>[(5,.int .i64 d.length)]) (fun _=>σ) (fun d=>n ∉ d) (by omega) (by simp) ?_ ?_
 ·intros d x r s hl' hlt hget hget' hw hp h1 h2 h3 h4;simp at h1 h3;have hm:=hl'.mem
  (simp[*,ints])<;>(repeat' (first|((first|refine sP _ ?_ ?_|refine gP _ ?_ ?_|refine sN _ ?_ ?_|refine gN _ ?_ ?_)<;>intro hc<;>(first|replace hc:=eqn hc|replace hc:=eqp hc)<;>simp[*,ints])|((first|refine sM _ ?_ ?_|refine gM _ ?_ ?_|refine sB _ ?_ ?_|refine gB _ ?_ ?_)<;>intro hc<;>simp[*,ints])))
  all_goals(try grind)
 ·intros s hp h1 h2 h3 h4;simp at h1 h3
  (simp[*,ints])<;>(repeat' (first|((first|refine sP _ ?_ ?_|refine gP _ ?_ ?_|refine sN _ ?_ ?_|refine gN _ ?_ ?_)<;>intro hc<;>(first|replace hc:=eqn hc|replace hc:=eqp hc)<;>simp[*,ints])|((first|refine sM _ ?_ ?_|refine gM _ ?_ ?_|refine sB _ ?_ ?_|refine gB _ ?_ ?_)<;>intro hc<;>simp[*,ints])))
theorem of_spec(u:Unt)(f:Flow)(n:Nat)(l:List Int)(σ:zb)(hl:l.length<1099511627776):zm E 87 [chkV u f n,ints l] σ=some (.ret (ints (zK f.types l)),σ):=by
 refine zc rfl rfl rfl (by simp) ?_;simp[F87,ints];refine zH l K87_0 B87_0 (fun d=>[(6,.int .i64 d.length),(5,acc 1 (d.map fun v=> .int .i64 (at0 f.types v)))]) (fun _=>σ) (fun d=>d.all (fun v=>valM f.types v 0)=true) (by omega) (by simp) ?_ ?_
 ·intros d x r s hl' hlt hget hget' hw hp h1 h2 h3 h4;simp at h1 h3;clear h2;have hn:valM f.types x 0=false->zK f.types l=[]:=by
   intro hx;unfold zK;rw[if_neg];rw[hl'.eq];simp[hx]
  by_cases r0:x<0
  ·have hn:=hn (by simp[valM];omega)
   (simp[*,chkV,ints])<;>(repeat' (first|((first|refine sP _ ?_ ?_|refine gP _ ?_ ?_|refine sN _ ?_ ?_|refine gN _ ?_ ?_)<;>intro hc<;>(first|replace hc:=eqn hc|replace hc:=eqp hc)<;>simp[*,chkV,ints])|((first|refine sM _ ?_ ?_|refine gM _ ?_ ?_|refine sB _ ?_ ?_|refine gB _ ?_ ?_)<;>intro hc<;>simp[*,chkV,ints])))
  by_cases r1:(f.types.length:Int)<=x
  ·have hn:=hn (by simp[valM];omega)
   (simp[*,chkV,ints])<;>(repeat' (first|((first|refine sP _ ?_ ?_|refine gP _ ?_ ?_|refine sN _ ?_ ?_|refine gN _ ?_ ?_)<;>intro hc<;>(first|replace hc:=eqn hc|replace hc:=eqp hc)<;>simp[*,chkV,ints])|((first|refine sM _ ?_ ?_|refine gM _ ?_ ?_|refine sB _ ?_ ?_|refine gB _ ?_ ?_)<;>intro hc<;>simp[*,chkV,ints])))
  ·have r0':0<=x:=by omega
   have r1':x<f.types.length:=by omega
   have hv:valM f.types x 0=true:=by simp[valM];omega
   have q1:=zJb r0' r1';have q2:x.toNat<f.types.length:=by omega
   have q3:=zrb r0' r1' q2;have q4:(d.length+1)*8<=zk:=by simp only[zk];omega
   clear hn
   (simp[*,chkV,ints])<;>(repeat' (first|((first|refine sP _ ?_ ?_|refine gP _ ?_ ?_|refine sN _ ?_ ?_|refine gN _ ?_ ?_)<;>intro hc<;>(first|replace hc:=eqn hc|replace hc:=eqp hc)<;>simp[*,chkV,ints])|((first|refine sM _ ?_ ?_|refine gM _ ?_ ?_|refine sB _ ?_ ?_|refine gB _ ?_ ?_)<;>intro hc<;>simp[*,chkV,ints])))
 ·intros s hp h1 h2 h3 h4;simp at h1 h3;have:zK f.types l=l.map (at0 f.types):=by
   unfold zK;rw[if_pos hp]
  (simp[*,ints])<;>(repeat' (first|((first|refine sP _ ?_ ?_|refine gP _ ?_ ?_|refine sN _ ?_ ?_|refine gN _ ?_ ?_)<;>intro hc<;>(first|replace hc:=eqn hc|replace hc:=eqp hc)<;>simp[*,ints])|((first|refine sM _ ?_ ?_|refine gM _ ?_ ?_|refine sB _ ?_ ?_|refine gB _ ?_ ?_)<;>intro hc<;>simp[*,ints])))
def useR(ty:List Int)(seen:List Int)(v t:Int):Bool:=decide (0<=v)&&(decide (v<ty.length)&&(seen.contains v&&(decide (t=0)||decide (at0 ty v=t))))
def zJ(ty:List Int)(seen:List Int)(l want:List Int):Bool:=decide (l.length=want.length)&&(l.zip want).all fun p=>useR ty seen p.1 p.2
theorem zip_get{l ts d:List Int}{q:Nat}{v t:Int}(hget:(l.zip ts)[q]? =some (v,t)):l[q]? =some v/\ts[q]? =some t:=by
 rw[List.getElem?_zip_eq_some]at hget;exact hget
theorem rtypes_spec(u:Unt)(f:Flow)(n:Nat)(l seen want:List Int)(σ:zb)(hl:l.length<1099511627776)(hs:seen.length<1099511627776):
  zm E 88 [chkV u f n,ints l,ints seen,ints want] σ=some (.ret (.bool (zJ f.types seen l want)),σ):=by
 refine zc rfl rfl rfl (by simp) ?_;by_cases hlen:l.length=want.length
 ·simp[F88,ints,hlen];have ht:zJ f.types seen l want=(l.zip want).all fun p=>useR f.types seen p.1 p.2:=by simp[zJ,hlen]
  refine zH (l.zip want) K88_0 B88_0 (fun d=>[(9,.int .i64 d.length)]) (fun _=>σ) (fun d=>∀p∈d,useR f.types seen p.1 p.2=true) (by simp;omega) (by simp) ?_ ?_
  ·rintro d ⟨v,t⟩ r s hl' hlt hget hget' hw hp h1 h2 h3 h4
   simp at h1 h3;clear h2;obtain⟨g1,g2⟩:=zip_get (d:=l) hget;have hlt1:d.length<l.length:=by simp at hlt;omega
   have hlt2:d.length<want.length:=by omega
   have g1':l[d.length]=v:=by simpa[hlt1]using g1
   have g2':want[d.length]=t:=by simpa[hlt2]using g2
   have hin:=in_spec seen v [] hs;have hf:useR f.types seen v t=false->zJ f.types seen l want=false:=fun hx=>by
    rw[ht,hl'.eq];simp[hx]
   clear hget hget' ht;simp[ints]at hin;by_cases r0:v<0
   ·have hf:=hf (by simp[useR];omega)
    (simp[*,chkV,ints])<;>(repeat' (first|((first|refine sP _ ?_ ?_|refine gP _ ?_ ?_|refine sN _ ?_ ?_|refine gN _ ?_ ?_)<;>intro hc<;>(first|replace hc:=eqn hc|replace hc:=eqp hc)<;>simp[*,chkV,ints])|((first|refine sM _ ?_ ?_|refine gM _ ?_ ?_|refine sB _ ?_ ?_|refine gB _ ?_ ?_)<;>intro hc<;>simp[*,chkV,ints])))
   by_cases r1:(f.types.length:Int)<=v
   ·have hf:=hf (by simp[useR];omega)
    (simp[*,chkV,ints])<;>(repeat' (first|((first|refine sP _ ?_ ?_|refine gP _ ?_ ?_|refine sN _ ?_ ?_|refine gN _ ?_ ?_)<;>intro hc<;>(first|replace hc:=eqn hc|replace hc:=eqp hc)<;>simp[*,chkV,ints])|((first|refine sM _ ?_ ?_|refine gM _ ?_ ?_|refine sB _ ?_ ?_|refine gB _ ?_ ?_)<;>intro hc<;>simp[*,chkV,ints])))
   have r0':0<=v:=by omega
   have r1':v<f.types.length:=by omega
   have q1:=zJb r0' r1';have q2:v.toNat<f.types.length:=by omega
   have q3:=zrb r0' r1' q2;have hu:(seen.contains v&&(decide (t=0)||decide (at0 f.types v=t)))=useR f.types seen v t:=by simp[useR,r0',r1']
   cases hx:useR f.types seen v t
   ·have hf:=hf hx;rw[hx]at hu
    (simp[*,chkV,ints])<;>(repeat' (first|((first|refine sP _ ?_ ?_|refine gP _ ?_ ?_|refine sN _ ?_ ?_|refine gN _ ?_ ?_)<;>intro hc<;>(first|replace hc:=eqn hc|replace hc:=eqp hc)<;>simp[*,chkV,ints])|((first|refine sM _ ?_ ?_|refine gM _ ?_ ?_|refine sB _ ?_ ?_|refine gB _ ?_ ?_)<;>intro hc<;>simp[*,chkV,ints])))
    all_goals(try grind)
   ·clear hf;rw[hx]at hu
    (simp[*,chkV,ints])<;>(repeat' (first|((first|refine sP _ ?_ ?_|refine gP _ ?_ ?_|refine sN _ ?_ ?_|refine gN _ ?_ ?_)<;>intro hc<;>(first|replace hc:=eqn hc|replace hc:=eqp hc)<;>simp[*,chkV,ints])|((first|refine sM _ ?_ ?_|refine gM _ ?_ ?_|refine sB _ ?_ ?_|refine gB _ ?_ ?_)<;>intro hc<;>simp[*,chkV,ints])))
    all_goals(try grind)
  ·rintro s hp h1 h2 h3 h4
   have hz:(l.zip want).length=l.length:=by simp;omega
   rw[hz]at h3;simp at h1 h3;have ht2:zJ f.types seen l want=true:=by rw[ht,yo];exact hp
   clear hp ht
   (simp[*,ints])<;>(repeat' (first|((first|refine sP _ ?_ ?_|refine gP _ ?_ ?_|refine sN _ ?_ ?_|refine gN _ ?_ ?_)<;>intro hc<;>(first|replace hc:=eqn hc|replace hc:=eqp hc)<;>simp[*,ints])|((first|refine sM _ ?_ ?_|refine gM _ ?_ ?_|refine sB _ ?_ ?_|refine gB _ ?_ ?_)<;>intro hc<;>simp[*,ints])))
 ·have ht:zJ f.types seen l want=false:=by simp[zJ,hlen]
  have hlen':¬(l.length:Int)=want.length:=by omega
  (simp[*,F88,ints])<;>(repeat' (first|((first|refine sP _ ?_ ?_|refine gP _ ?_ ?_|refine sN _ ?_ ?_|refine gN _ ?_ ?_)<;>intro hc<;>(first|replace hc:=eqn hc|replace hc:=eqp hc)<;>simp[*,F88,ints])|((first|refine sM _ ?_ ?_|refine gM _ ?_ ?_|refine sB _ ?_ ?_|refine gB _ ?_ ?_)<;>intro hc<;>simp[*,F88,ints])))
def zAb(ty:List Int)(Z:Set1)(v t:Int):Bool×Set1:=if valM ty v t&& !atB Z v then(true,Z.set v.toNat true)else(false,Z)
def zBa(ty:List Int)(Z:Set1)(l want:List Int):Bool×Set1:=eqM (zAb ty) Z l want
theorem setRG_len(ty:List Int)(Z:Set1)(v t:Int):(zAb ty Z v t).2.length=Z.length:=by
 unfold zAb;split<;>simp
theorem zHc(ty:List Int):∀(l:List (Int×Int)) (S:Set1),(eqGo (zAb ty) S l).2.length=S.length
 | [],S=>rfl
 |p::r,S=>by
  simp only[eqGo];split
  ·rw[zHc ty r,setRG_len]
  ·rw[setRG_len]
theorem setsR_len(ty:List Int)(S:Set1)(l ts:List Int):(zBa ty S l ts).2.length=S.length:=by
 unfold zBa eqM;split
 ·exact zHc _ _ _
 ·rfl
theorem rsets_spec(u:Unt)(f:Flow)(Z:Set1)(l want:List Int)(hZ:Z.length=f.types.length)(hl:l.length<1099511627776):
  zm E 89 [chkV u f f.types.length,ints l,ints want] [seO Z]=some (.ret (.bool (zBa f.types Z l want).1),[seO (zBa f.types Z l want).2]):=by
 refine zc rfl rfl rfl (by simp) ?_;by_cases hlen:l.length=want.length
 ·simp[F89,ints,hlen];have hm:zBa f.types Z l want=eqGo (zAb f.types) Z (l.zip want):=by simp[zBa,eqM,hlen]
  refine zH (l.zip want) K89_0 B89_0 (fun d=>[(7,.int .i64 d.length)]) (fun d=>[seO (eqGo (zAb f.types) Z d).2]) (fun d=>(eqGo (zAb f.types) Z d).1=true) (by simp;omega) (by simp[eqGo]) ?_ ?_
  ·rintro d ⟨v,t⟩ r s hl' hlt hget hget' hw hp h1 h2 h3 h4
   simp at h1 h3;clear h2;obtain⟨g1,g2⟩:=zip_get (d:=l) hget;have hlt1:d.length<l.length:=by simp at hlt;omega
   have hlt2:d.length<want.length:=by omega
   have g1':l[d.length]=v:=by simpa[hlt1]using g1
   have g2':want[d.length]=t:=by simpa[hlt2]using g2
   have hZ1:(eqGo (zAb f.types) Z d).2.length=f.types.length:=by rw[zHc];exact hZ
   generalize hzd:(eqGo (zAb f.types) Z d).2=Z1 at*;have e1:eqGo (zAb f.types) Z (d++[(v,t)])=((zAb f.types Z1 v t).1,(zAb f.types Z1 v t).2):=by
    rw[zdc,hp,hzd];simp only[eqGo,if_true];cases(zAb f.types Z1 v t).1<;>rfl
   have e2:(zAb f.types Z1 v t).1=false->zBa f.types Z l want=(false,Z1):=by
    intro hf;have h2:(zAb f.types Z1 v t).2=Z1:=by
     by_cases hc:(valM f.types v t&& !atB Z1 v)=true
     ·rw[zAb,if_pos hc]at hf;cases hf
     ·rw[zAb,if_neg hc]
    rw[hm,hl'.eq,zdc,hp,hzd];simp[eqGo,hf,h2]
   clear hget hget' hm;by_cases r0:v<0
   ·have hv:valM f.types v t=false:=by simp[valM];omega
    have e2:=e2 (by simp[zAb,hv])
    (simp[*,chkV,ints])<;>(repeat' (first|((first|refine sP _ ?_ ?_|refine gP _ ?_ ?_|refine sN _ ?_ ?_|refine gN _ ?_ ?_)<;>intro hc<;>(first|replace hc:=eqn hc|replace hc:=eqp hc)<;>simp[*,chkV,ints])|((first|refine sM _ ?_ ?_|refine gM _ ?_ ?_|refine sB _ ?_ ?_|refine gB _ ?_ ?_)<;>intro hc<;>simp[*,chkV,ints])))
   by_cases r1:(f.types.length:Int)<=v
   ·have hv:valM f.types v t=false:=by simp[valM];omega
    have e2:=e2 (by simp[zAb,hv])
    (simp[*,chkV,ints])<;>(repeat' (first|((first|refine sP _ ?_ ?_|refine gP _ ?_ ?_|refine sN _ ?_ ?_|refine gN _ ?_ ?_)<;>intro hc<;>(first|replace hc:=eqn hc|replace hc:=eqp hc)<;>simp[*,chkV,ints])|((first|refine sM _ ?_ ?_|refine gM _ ?_ ?_|refine sB _ ?_ ?_|refine gB _ ?_ ?_)<;>intro hc<;>simp[*,chkV,ints])))
   have r0':0<=v:=by omega
   have r1':v<f.types.length:=by omega
   have rz:v<Z1.length:=by omega
   have q1:=zJb r0' r1';have q2:v.toNat<f.types.length:=by omega
   have q3:=zrb r0' r1' q2;have q4:=atB_get r0' rz;have q5:v.toNat<Z1.length:=by omega
   have q6:=atB_get' r0' rz q5;have hv:(decide (t=0)||decide (at0 f.types v=t))=valM f.types v t:=by simp[valM,r0',r1']
   cases hb:atB Z1 v
   ·cases hx:valM f.types v t
    ·have e2:=e2 (by simp[zAb,hx]);rw[hx]at hv
     (simp[*,chkV,ints,seO,zz,zka])<;>(repeat' (first|((first|refine sP _ ?_ ?_|refine gP _ ?_ ?_|refine sN _ ?_ ?_|refine gN _ ?_ ?_)<;>intro hc<;>(first|replace hc:=eqn hc|replace hc:=eqp hc)<;>simp[*,chkV,ints,seO,zz,zka])|((first|refine sM _ ?_ ?_|refine gM _ ?_ ?_|refine sB _ ?_ ?_|refine gB _ ?_ ?_)<;>intro hc<;>simp[*,chkV,ints,seO,zz,zka])))
     all_goals(try grind)
    ·have e3:zAb f.types Z1 v t=(true,Z1.set v.toNat true):=by simp[zAb,hx,hb]
     rw[hx]at hv;rw[e3]at e1;clear e2
     (simp[*,chkV,ints,seO,zz,zka,ysa])<;>(repeat' (first|((first|refine sP _ ?_ ?_|refine gP _ ?_ ?_|refine sN _ ?_ ?_|refine gN _ ?_ ?_)<;>intro hc<;>(first|replace hc:=eqn hc|replace hc:=eqp hc)<;>simp[*,chkV,ints,seO,zz,zka,ysa])|((first|refine sM _ ?_ ?_|refine gM _ ?_ ?_|refine sB _ ?_ ?_|refine gB _ ?_ ?_)<;>intro hc<;>simp[*,chkV,ints,seO,zz,zka,ysa])))
     all_goals(try grind)
   ·have e2:=e2 (by simp[zAb,hb])
    (simp[*,chkV,ints,seO])<;>(repeat' (first|((first|refine sP _ ?_ ?_|refine gP _ ?_ ?_|refine sN _ ?_ ?_|refine gN _ ?_ ?_)<;>intro hc<;>(first|replace hc:=eqn hc|replace hc:=eqp hc)<;>simp[*,chkV,ints,seO])|((first|refine sM _ ?_ ?_|refine gM _ ?_ ?_|refine sB _ ?_ ?_|refine gB _ ?_ ?_)<;>intro hc<;>simp[*,chkV,ints,seO])))
  ·rintro s hp h1 h2 h3 h4
   have hz:(l.zip want).length=l.length:=by simp;omega
   rw[hz]at h3;simp at h1 h3
   (simp[*,ints])<;>(repeat' (first|((first|refine sP _ ?_ ?_|refine gP _ ?_ ?_|refine sN _ ?_ ?_|refine gN _ ?_ ?_)<;>intro hc<;>(first|replace hc:=eqn hc|replace hc:=eqp hc)<;>simp[*,ints])|((first|refine sM _ ?_ ?_|refine gM _ ?_ ?_|refine sB _ ?_ ?_|refine gB _ ?_ ?_)<;>intro hc<;>simp[*,ints])))
 ·have ht:zBa f.types Z l want=(false,Z):=by simp[zBa,eqM,hlen]
  have hlen':¬(l.length:Int)=want.length:=by omega
  (simp[*,F89,ints])<;>(repeat' (first|((first|refine sP _ ?_ ?_|refine gP _ ?_ ?_|refine sN _ ?_ ?_|refine gN _ ?_ ?_)<;>intro hc<;>(first|replace hc:=eqn hc|replace hc:=eqp hc)<;>simp[*,F89,ints])|((first|refine sM _ ?_ ?_|refine gM _ ?_ ?_|refine sB _ ?_ ?_|refine gB _ ?_ ?_)<;>intro hc<;>simp[*,F89,ints])))
end PE.U
