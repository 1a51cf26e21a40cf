/-
  Texts joined by program: PfWp, PfOps, Tz81Fnsa, Tz81Fnsb, Tz81Fns, AZX10, AZW1, AZU0, AZU1, AZU1b, AZU2, AZU3, AZU4, AZU5, AZU6.
-/
import Derived.Test.YtianoihfjikdgaaGreatD02
import Derived.Test.YtianoihfjikdgaaGreatProg
import Derived.Laws.BitsLemmas
import Derived.Laws.RangeAny
import Derived.Laws.RangeString
set_option linter.unusedVariables false
set_option linter.unusedSectionVars false
set_option linter.unusedSimpArgs false
open BitVec renaming ofInt→yy
open Bool renaming or_eq_false_iff→yB,or_eq_true→yw
open Eq renaming trans→ye
open Go.IntKind renaming bits→yca,wrap→yba
open List renaming all_eq_true→yj,append_nil→yla,cons_append→yI,eq_nil_or_concat→yz,findIdx?_eq_none_iff→yfa,getElem?_zip_eq_some→yM,map_set→yxa,mem_cons→yA,replicate→yf
open Nat renaming le_refl→yg,strongRecOn→ysa
namespace PE
open Go
def zua(x:Option (Ex×St))(Q:Ex->St->Prop):Prop:=match x with
 |some (e,s)=>Q e s
 |none=>False
@[simp] theorem holds_some(e:Ex)(s:St)(Q:Ex->St->Prop):zua (some (e,s)) Q=Q e s:=ye rfl rfl
theorem holds_iff{x:Option (Ex×St)}{Q:Ex->St->Prop}:zua x Q<->∃e s,x=some (e,s)/\Q e s:=by
 cases x with
 |none=>exact⟨fun h=>h.elim,fun⟨_,_,h,_⟩=>by cases h⟩
 |some q=>obtain⟨e,s⟩:=q;exact⟨fun h=>⟨e,s,rfl,h⟩,fun⟨_,_,h,h'⟩=>by cases h;exact h'⟩
theorem zua.mono{x:Option (Ex×St)}{Q R:Ex->St->Prop}(h:zua x Q)(hq:∀e s,Q e s->R e s):zua x R:=by
 cases x with
 |none=>exact h
 |some q=>obtain⟨e,s⟩:=q;exact hq e s h
def seqQ(k:St->Option (Ex×St))(Q:Ex->St->Prop):Ex->St->Prop
 | .normal,s=>zua (k s) Q
 |e,s=>Q e s
@[simp] theorem seqQ_normal(k:St->Option (Ex×St))(Q:Ex->St->Prop)(s:St):seqQ k Q .normal s=zua (k s) Q:=ye rfl rfl
@[simp] theorem seqQ_exit(k:St->Option (Ex×St))(Q:Ex->St->Prop)(s:St)(i:Nat):seqQ k Q (.exit i) s=Q (.exit i) s:=ye rfl rfl
@[simp] theorem seqQ_ret(k:St->Option (Ex×St))(Q:Ex->St->Prop)(s:St):seqQ k Q .ret s=Q .ret s:=ye rfl rfl
@[simp] theorem holds_thenSeq(k:St->Option (Ex×St))(x:Option (Ex×St))(Q:Ex->St->Prop):zua (thenSeq k x) Q=zua x (seqQ k Q):=by
 cases x with
 |none=>rfl
 |some q=>obtain⟨e,s⟩:=q;cases e<;>rfl
def blkQ(id:Nat)(Q:Ex->St->Prop):Ex->St->Prop
 | .exit i,s=>if i=id then Q .normal s else Q (.exit i) s
 |e,s=>Q e s
@[simp] theorem blkQ_normal(id:Nat)(Q:Ex->St->Prop)(s:St):blkQ id Q .normal s=Q .normal s:=ye rfl rfl
@[simp] theorem blkQ_exit(id i:Nat)(Q:Ex->St->Prop)(s:St):blkQ id Q (.exit i) s=if i=id then Q .normal s else Q (.exit i) s:=ye rfl rfl
@[simp] theorem blkQ_ret(id:Nat)(Q:Ex->St->Prop)(s:St):blkQ id Q .ret s=Q .ret s:=ye rfl rfl
@[simp] theorem holds_leaveBlock(id:Nat)(x:Option (Ex×St))(Q:Ex->St->Prop):zua (leaveBlock id x) Q=zua x (blkQ id Q):=by
 cases x with
 |none=>rfl
 |some q=>
  obtain⟨e,s⟩:=q;cases e<;>try rfl
  rename_i i;by_cases h:i=id<;>simp[leaveBlock,h]
noncomputable def wpS(cf:zM)(s0:St)(ops:List GOp)(s:St)(Q:Ex->St->Prop):Prop:=zua (regionEnd s0 (zGc cf ops s)) Q
def after(cf:zM)(s0:St)(r:List GOp)(Q:Ex->St->Prop):Option SR->Prop
 |some (.ok s')=>wpS cf s0 r s' Q
 |some (.pan v st)=>Q (.pan v) {s0 with st:=st}
 |none=>False
@[simp] theorem after_ok(cf:zM)(s0:St)(r:List GOp)(Q:Ex->St->Prop)(s:St):after cf s0 r Q (some (.ok s))=wpS cf s0 r s Q:=ye rfl rfl
@[simp] theorem wpS_nil(cf:zM)(s0 s:St)(Q:Ex->St->Prop):wpS cf s0 [] s Q=Q .normal s:=ye rfl rfl
noncomputable def zfa(cf:zM)(w:Bool)(d:Option Nat)(o:IOp)(s:St):PV->Option SR
 | .bool b=>if b=w then zO cf d o s else some (.ok {s with fr:=zgb s.fr d (.tup [])})
 | .tup []=>some (.ok {s with fr:=zgb s.fr d (.tup [])})
 |_=>none
theorem step_guarded(cf:zM)(g:Nat)(w:Bool)(d:Option Nat)(o:IOp)(s:St):step cf ⟨some (g,w),d,o⟩ s=zfa cf w d o s (s.fr g):=by
 simp only[step];generalize s.fr g=v;cases v<;>try rfl
 ·rename_i b;cases b<;>cases w<;>rfl
 ·rename_i l;cases l<;>rfl
@[simp] theorem wpS_free(cf:zM)(s0:St)(d:Option Nat)(o:IOp)(r:List GOp)(s:St)(Q:Ex->St->Prop):wpS cf s0 (⟨none,d,o⟩::r) s Q=after cf s0 r Q (zO cf d o s):=by
 have:step cf ⟨none,d,o⟩ s=zO cf d o s:=rfl;simp only[wpS,zGc,this];cases zO cf d o s with
 |none=>rfl
 |some q=>cases q<;>rfl
@[simp] theorem wpS_guard(cf:zM)(s0:St)(g:Nat)(w:Bool)(d:Option Nat)(o:IOp)(r:List GOp)(s:St)(Q:Ex->St->Prop):wpS cf s0 (⟨some (g,w),d,o⟩::r) s Q=after cf s0 r Q (zfa cf w d o s (s.fr g)):=by
 simp only[wpS,zGc,step_guarded];cases zfa cf w d o s (s.fr g)with
 |none=>rfl
 |some q=>cases q<;>rfl
@[simp] theorem guarded_tt(cf:zM)(d:Option Nat)(o:IOp)(s:St):zfa cf true d o s (.bool true)=zO cf d o s:=ye rfl rfl
@[simp] theorem guarded_ff(cf:zM)(d:Option Nat)(o:IOp)(s:St):zfa cf false d o s (.bool false)=zO cf d o s:=ye rfl rfl
@[simp] theorem guarded_tf(cf:zM)(d:Option Nat)(o:IOp)(s:St):zfa cf true d o s (.bool false)=some (.ok {s with fr:=zgb s.fr d (.tup [])}):=ye rfl rfl
@[simp] theorem guarded_ft(cf:zM)(d:Option Nat)(o:IOp)(s:St):zfa cf false d o s (.bool true)=some (.ok {s with fr:=zgb s.fr d (.tup [])}):=ye rfl rfl
@[simp] theorem guarded_nil(cf:zM)(w:Bool)(d:Option Nat)(o:IOp)(s:St):zfa cf w d o s (.tup [])=some (.ok {s with fr:=zgb s.fr d (.tup [])}):=ye rfl rfl
theorem wp_region(cf:zM)(ops:List GOp)(s:St)(Q:Ex->St->Prop):zua (exec cf (.region ops) s) Q=wpS cf s ops s Q:=by
 rw[exec_region];rfl
theorem guard_split{cf:zM}{s0:St}{r:List GOp}{Q:Ex->St->Prop}{w:Bool}{d:Option Nat}{o:IOp}{s:St}(b:Bool)
  (h1:b=true->after cf s0 r Q (zfa cf w d o s (.bool true))) (h2:b=false->after cf s0 r Q (zfa cf w d o s (.bool false))):after cf s0 r Q (zfa cf w d o s (.bool b)):=by
 cases b
 ·exact h2 rfl
 ·exact h1 rfl
theorem guard_splitP{cf:zM}{s0:St}{r:List GOp}{Q:Ex->St->Prop}{w:Bool}{d:Option Nat}{o:IOp}{s:St}(p:Prop)[Decidable p]
  (h1:p->after cf s0 r Q (zfa cf w d o s (.bool true))) (h2:¬p->after cf s0 r Q (zfa cf w d o s (.bool false))):after cf s0 r Q (zfa cf w d o s (.bool (decide p))):=by
 by_cases h:p
 ·simpa[h]using h1 h
 ·simpa[h]using h2 h
noncomputable def condX(cf:zM)(a b:ICode)(s:St):PV->Option (Ex×St)
 | .bool true=>exec cf a s
 | .bool false=>exec cf b s
 |_=>none
@[simp] theorem condX_true(cf:zM)(a b:ICode)(s:St):condX cf a b s (.bool true)=exec cf a s:=ye rfl rfl
@[simp] theorem condX_false(cf:zM)(a b:ICode)(s:St):condX cf a b s (.bool false)=exec cf b s:=ye rfl rfl
@[simp] theorem wp_cond(cf:zM)(c:Arg)(a b:ICode)(s:St):exec cf (.cond c a b) s=condX cf a b s (c.val s.fr):=by
 rw[exec_cond];generalize c.val s.fr=v;cases v with
 |bool x=>cases x<;>rfl
 |_=>rfl
theorem cond_split{cf:zM}{x y:ICode}{s:St}{Q:Ex->St->Prop}(b:Bool)(h1:b=true->zua (exec cf x s) Q)(h2:b=false->zua (exec cf y s) Q):zua (condX cf x y s (.bool b)) Q:=by
 cases b
 ·exact h2 rfl
 ·exact h1 rfl
theorem cond_splitP{cf:zM}{x y:ICode}{s:St}{Q:Ex->St->Prop}(p:Prop)[Decidable p](h1:p->zua (exec cf x s) Q)(h2:¬p->zua (exec cf y s) Q):zua (condX cf x y s (.bool (decide p))) Q:=by
 by_cases h:p
 ·have:decide p=true:=decide_eq_true h;rw[this];exact h1 h
 ·have:decide p=false:=decide_eq_false h;rw[this];exact h2 h
theorem guard_splitN{cf:zM}{s0:St}{r:List GOp}{Q:Ex->St->Prop}{w:Bool}{d:Option Nat}{o:IOp}{s:St}(p:Prop)[Decidable p]
  (h1:¬p->after cf s0 r Q (zfa cf w d o s (.bool true))) (h2:p->after cf s0 r Q (zfa cf w d o s (.bool false))):after cf s0 r Q (zfa cf w d o s (.bool (!decide p))):=by
 by_cases h:p
 ·simpa[h]using h2 h
 ·simpa[h]using h1 h
theorem guard_splitM{cf:zM}{s0:St}{r:List GOp}{Q:Ex->St->Prop}{w:Bool}{d:Option Nat}{o:IOp}{s:St}(b:Bool)
  (h1:b=false->after cf s0 r Q (zfa cf w d o s (.bool true))) (h2:b=true->after cf s0 r Q (zfa cf w d o s (.bool false))):after cf s0 r Q (zfa cf w d o s (.bool (!b))):=by
 cases b
 ·exact h1 rfl
 ·exact h2 rfl
theorem cond_splitN{cf:zM}{x y:ICode}{s:St}{Q:Ex->St->Prop}(p:Prop)[Decidable p](h1:¬p->zua (exec cf x s) Q)(h2:p->zua (exec cf y s) Q):zua (condX cf x y s (.bool (!decide p))) Q:=by
 by_cases h:p
 ·have:decide p=true:=decide_eq_true h;rw[this];exact h2 h
 ·have:decide p=false:=decide_eq_false h;rw[this];exact h1 h
theorem cond_splitM{cf:zM}{x y:ICode}{s:St}{Q:Ex->St->Prop}(b:Bool)(h1:b=false->zua (exec cf x s) Q)(h2:b=true->zua (exec cf y s) Q):zua (condX cf x y s (.bool (!b))) Q:=by
 cases b
 ·exact h1 rfl
 ·exact h2 rfl
theorem sP{cf:zM}{x y:ICode}{s:St}{Q:Ex->St->Prop}(p:Prop)[Decidable p](h1:p->zua (exec cf x s) Q)(h2:¬p->zua (exec cf y s) Q):zua (condX cf x y s (.bool (decide p))) Q:=cond_splitP p h1 h2
theorem gP{cf:zM}{s0:St}{r:List GOp}{Q:Ex->St->Prop}{w:Bool}{d:Option Nat}{o:IOp}{s:St}(p:Prop)[Decidable p]
  (h1:p->after cf s0 r Q (zfa cf w d o s (.bool true))) (h2:¬p->after cf s0 r Q (zfa cf w d o s (.bool false))):after cf s0 r Q (zfa cf w d o s (.bool (decide p))):=guard_splitP p h1 h2
theorem sN{cf:zM}{x y:ICode}{s:St}{Q:Ex->St->Prop}(p:Prop)[Decidable p](h1:¬p->zua (exec cf x s) Q)(h2:p->zua (exec cf y s) Q):zua (condX cf x y s (.bool (!decide p))) Q:=cond_splitN p h1 h2
theorem gN{cf:zM}{s0:St}{r:List GOp}{Q:Ex->St->Prop}{w:Bool}{d:Option Nat}{o:IOp}{s:St}(p:Prop)[Decidable p]
  (h1:¬p->after cf s0 r Q (zfa cf w d o s (.bool true))) (h2:p->after cf s0 r Q (zfa cf w d o s (.bool false))):after cf s0 r Q (zfa cf w d o s (.bool (!decide p))):=guard_splitN p h1 h2
theorem sM{cf:zM}{x y:ICode}{s:St}{Q:Ex->St->Prop}(b:Bool)(h1:b=false->zua (exec cf x s) Q)(h2:b=true->zua (exec cf y s) Q):zua (condX cf x y s (.bool (!b))) Q:=cond_splitM b h1 h2
theorem gM{cf:zM}{s0:St}{r:List GOp}{Q:Ex->St->Prop}{w:Bool}{d:Option Nat}{o:IOp}{s:St}(b:Bool)
  (h1:b=false->after cf s0 r Q (zfa cf w d o s (.bool true))) (h2:b=true->after cf s0 r Q (zfa cf w d o s (.bool false))):after cf s0 r Q (zfa cf w d o s (.bool (!b))):=guard_splitM b h1 h2
theorem sB{cf:zM}{x y:ICode}{s:St}{Q:Ex->St->Prop}(b:Bool)(h1:b=true->zua (exec cf x s) Q)(h2:b=false->zua (exec cf y s) Q):zua (condX cf x y s (.bool b)) Q:=cond_split b h1 h2
theorem gB{cf:zM}{s0:St}{r:List GOp}{Q:Ex->St->Prop}{w:Bool}{d:Option Nat}{o:IOp}{s:St}(b:Bool)
  (h1:b=true->after cf s0 r Q (zfa cf w d o s (.bool true))) (h2:b=false->after cf s0 r Q (zfa cf w d o s (.bool false))):after cf s0 r Q (zfa cf w d o s (.bool b)):=guard_split b h1 h2
theorem eqp{p:Prop}(h:p):p=True:=eq_true h
theorem eqn{p:Prop}(h:¬p):p=False:=eq_false h
def loopQ(I:St->Prop)(Q:Ex->St->Prop):Ex->St->Prop
 | .normal,s=>I s
 |e,s=>Q e s
@[simp] theorem loopQ_normal(I:St->Prop)(Q:Ex->St->Prop)(s:St):loopQ I Q .normal s=I s:=ye rfl rfl
@[simp] theorem loopQ_exit(I:St->Prop)(Q:Ex->St->Prop)(s:St)(i:Nat):loopQ I Q (.exit i) s=Q (.exit i) s:=ye rfl rfl
@[simp] theorem loopQ_ret(I:St->Prop)(Q:Ex->St->Prop)(s:St):loopQ I Q .ret s=Q .ret s:=ye rfl rfl
def round(cf:zM)(keep dead:List Nat)(b:ICode)(s:St)(Q:Ex->St->Prop):Prop:=match havoc keep dead s with
 |some s0=>zua (exec cf b s0) Q
 |none=>False
theorem round_eq(cf:zM)(keep dead:List Nat)(b:ICode)(s:St)(Q:Ex->St->Prop):
  round cf keep dead b s Q=(keep.all (fun t=>zwe dead (s.fr t))=true/\zua (exec cf b {fr:=keepFr s.fr keep,bx:=dropBx s.bx dead,st:=s.st}) Q):=by
 unfold round havoc;generalize keep.all (fun t=>zwe dead (s.fr t))=c;cases c<;>simp
theorem holds_loop(cf:zM)(keep dead:List Nat)(b:ICode)(s:St)(Q:Ex->St->Prop):
  zua (exec cf (.loop keep dead b) s) Q=round cf keep dead b s (seqQ (exec cf (.loop keep dead b)) Q):=by
 rw[exec_loop];unfold round;cases havoc keep dead s with
 |none=>rfl
 |some s0=>exact holds_thenSeq _ _ _
theorem wp_loop{cf:zM}{keep dead:List Nat}{b:ICode}{Q:Ex->St->Prop}(I:Nat->St->Prop)
  (hstep:∀n s,I n s->round cf keep dead b s (loopQ (fun s'=>∃m,m<n/\I m s') Q)):∀n s,I n s->zua (exec cf (.loop keep dead b) s) Q:=by
 intro n
 induction n using ysa with
 |ind n ih=>
  intro s hI;rw[holds_loop];have h:=hstep n s hI;unfold round at h ⊢;cases hh:havoc keep dead s with
  |none=>rw[hh]at h;exact h
  |some s0=>
   rw[hh]at h;refine zua.mono h ?_;intro e s' h';cases e with
   |normal=>obtain⟨m,hm,hI'⟩:=h';exact ih m hm s' hI'
   |exit i=>exact h'
   |ret=>exact h'
   |pan v=>exact h'
theorem zm{n:Int}(h0: -9223372036854775808<=n)(h1:n<=9223372036854775807):zW .i64 n=n:=by
 rw[zY];simp only[yba,yca,IntKind.signed,Bool.true_and];split
 ·rename_i h;have:=of_decide_eq_true h;omega
 ·rename_i h;have:¬(n%2^64>=2^(64-1)):=fun hh=>h (decide_eq_true hh)
  omega
theorem wp_list{α:Type}{cf:zM}{keep dead:List Nat}{b:ICode}{Q:Ex->St->Prop}{s:St}(l:List α)(I:List α->St->Prop)(hb:l.length<2^62)(h0:I [] s)
  (hstep:∀d x r s,l=d++x::r->(hlt:d.length<l.length)->l[d.length]? =some x->l[d.length]'hlt=x->zW .i64 ((d.length:Int)+1)=(d.length:Int)+1->I d s->round cf keep dead b s (loopQ (I (d++[x])) Q))
  (hend:∀s,I l s->round cf keep dead b s (loopQ (fun _=>False) Q)):zua (exec cf (.loop keep dead b) s) Q:=by
 have key:∀(r d:List α) (s:St),l=d++r->I d s->zua (exec cf (.loop keep dead b) s) Q:=by
  intro r
  induction r with
  |nil=>
   intro d s hl hI;rw[yla]at hl;subst hl;rw[holds_loop];have h:=hend s hI;unfold round at h ⊢;cases hh:havoc keep dead s with
   |none=>rw[hh]at h;exact h
   |some s0=>
    rw[hh]at h;refine zua.mono h ?_;intro e s' h';cases e with
    |normal=>exact h'.elim
    |exit i=>exact h'
    |ret=>exact h'
    |pan v=>exact h'
  |cons x r ih=>
   intro d s hl hI;rw[holds_loop];have h:=hstep d x r s hl (by rw[hl];simp) (by rw[hl];simp) (by simp[hl]) (zm (by omega) (by have:=congrArg List.length hl;simp at this;omega)) hI;unfold round at h ⊢;cases hh:havoc keep dead s with
   |none=>rw[hh]at h;exact h
   |some s0=>
    rw[hh]at h;refine zua.mono h ?_;intro e s' h';cases e with
    |normal=>exact ih (d++[x]) s' (by simpa using hl) h'
    |exit i=>exact h'
    |ret=>exact h'
    |pan v=>exact h'
 exact key l [] s rfl h0
def Split{α:Type}(l d:List α)(x:α)(r:List α):Prop:=l=d++x::r
def kept(K B:List Nat)(s0 s:St):Prop:=(∀t∈K,s.fr t=s0.fr t)/\(∀k∈B,s.bx k=s0.bx k)
def has(V:List (Nat×PV))(s:St):Prop:=∀p∈V,s.fr p.1=p.2
@[simp] theorem kept_eq(K B:List Nat)(s0 s:St):kept K B s0 s=((∀t∈K,s.fr t=s0.fr t)/\(∀k∈B,s.bx k=s0.bx k)):=ye rfl rfl
@[simp] theorem has_nil(s:St):has [] s=True:=by simp[has]
@[simp] theorem has_cons(t:Nat)(v:PV)(V:List (Nat×PV))(s:St):has ((t,v)::V) s=(s.fr t=v/\has V s):=by simp[has]
def hasB(W:List (Nat×Bx))(s:St):Prop:=∀p∈W,s.bx p.1=p.2
@[simp] theorem hasB_nil(s:St):hasB [] s=True:=by simp[hasB]
@[simp] theorem hasB_cons(t:Nat)(v:Bx)(W:List (Nat×Bx))(s:St):hasB ((t,v)::W) s=(s.bx t=v/\hasB W s):=by simp[hasB]
def Inv(K B:List Nat)(s0:St)(V:List (Nat×PV))(W:List (Nat×Bx))(σ:zd)(P:Prop)(s:St):Prop:=kept K B s0 s/\has V s/\hasB W s/\s.st=σ/\P
@[simp] theorem Inv_eq(K B:List Nat)(s0:St)(V:List (Nat×PV))(W:List (Nat×Bx))(σ:zd)(P:Prop)(s:St):Inv K B s0 V W σ P s=(kept K B s0 s/\has V s/\hasB W s/\s.st=σ/\P):=ye rfl rfl
theorem wp_eachB{α:Type}{cf:zM}{keep dead:List Nat}{b:ICode}{Q:Ex->St->Prop}{s0:St}(l:List α)(K B:List Nat)(V:List α->List (Nat×PV))(W:List α->List (Nat×Bx))(σ:List α->zd)(P:List α->Prop)
  (hb:l.length<2^62) (h0:has (V []) s0/\hasB (W []) s0/\s0.st=σ []/\P [])
  (hstep:∀d x r s,Split l d x r->(hlt:d.length<l.length)->l[d.length]? =some x->l[d.length]'hlt=x->zW .i64 ((d.length:Int)+1)=(d.length:Int)+1->P d→
   (∀t∈K,s.fr t=s0.fr t)->(∀k∈B,s.bx k=s0.bx k)->has (V d) s->hasB (W d) s->s.st=σ d->round cf keep dead b s (loopQ (Inv K B s0 (V (d++[x])) (W (d++[x])) (σ (d++[x])) (P (d++[x]))) Q))
  (hend:∀s,P l->(∀t∈K,s.fr t=s0.fr t)->(∀k∈B,s.bx k=s0.bx k)->has (V l) s->hasB (W l) s->s.st=σ l->round cf keep dead b s (loopQ (fun _=>False) Q)):zua (exec cf (.loop keep dead b) s0) Q:=by
 refine wp_list l (fun d s=>Inv K B s0 (V d) (W d) (σ d) (P d) s) hb ?_ ?_ ?_
 ·exact⟨⟨fun _ _=>rfl,fun _ _=>rfl⟩,h0⟩
 ·rintro d x r s hl hlt hg hg' hw ⟨⟨h1,h2⟩,h3,h3',h4,h5⟩
  exact hstep d x r s hl hlt hg hg' hw h5 h1 h2 h3 h3' h4
 ·rintro s ⟨⟨h1,h2⟩,h3,h3',h4,h5⟩
  exact hend s h5 h1 h2 h3 h3' h4
theorem zG{α:Type}{cf:zM}{keep dead:List Nat}{b:ICode}{Q:Ex->St->Prop}{s0:St}(l:List α)(K B:List Nat)(V:List α->List (Nat×PV))(σ:List α->zd)(P:List α->Prop)
  (hb:l.length<2^62) (h0:has (V []) s0/\s0.st=σ []/\P [])
  (hstep:∀d x r s,Split l d x r->(hlt:d.length<l.length)->l[d.length]? =some x->l[d.length]'hlt=x->zW .i64 ((d.length:Int)+1)=(d.length:Int)+1->P d→
   (∀t∈K,s.fr t=s0.fr t)->(∀k∈B,s.bx k=s0.bx k)->has (V d) s->s.st=σ d->round cf keep dead b s (loopQ (Inv K B s0 (V (d++[x])) [] (σ (d++[x])) (P (d++[x]))) Q))
  (hend:∀s,P l->(∀t∈K,s.fr t=s0.fr t)->(∀k∈B,s.bx k=s0.bx k)->has (V l) s->s.st=σ l->round cf keep dead b s (loopQ (fun _=>False) Q)):zua (exec cf (.loop keep dead b) s0) Q:=
 wp_eachB l K B V (fun _=>[]) σ P hb ⟨h0.1,by simp,h0.2⟩ (fun d x r s a1 a2 a3 a4 a5 a6 a7 a8 a9 _ a10=>hstep d x r s a1 a2 a3 a4 a5 a6 a7 a8 a9 a10) (fun s a1 a2 a3 a4 _ a5=>hend s a1 a2 a3 a4 a5)
theorem zje{β:Type}{cf:zM}{keep dead:List Nat}{b:ICode}{Q:Ex->St->Prop}{s0:St}(K B:List Nat)(μ:β->Nat)(V:β->List (Nat×PV))(W:β->List (Nat×Bx))(σ:β->zd)(P:β->Prop)(c0:β)
  (h0:has (V c0) s0/\hasB (W c0) s0/\s0.st=σ c0/\P c0)
  (hstep:∀c s,P c->(∀t∈K,s.fr t=s0.fr t)->(∀k∈B,s.bx k=s0.bx k)->has (V c) s->hasB (W c) s->s.st=σ c→
   round cf keep dead b s (loopQ (fun s'=>∃c',μ c'<μ c/\Inv K B s0 (V c') (W c') (σ c') (P c') s') Q)):zua (exec cf (.loop keep dead b) s0) Q:=by
 refine wp_loop (fun n s=>∃c,μ c=n/\Inv K B s0 (V c) (W c) (σ c) (P c) s) ?_ (μ c0) s0 ⟨c0,rfl,⟨fun _ _=>rfl,fun _ _=>rfl⟩,h0⟩
 rintro n s ⟨c,rfl,⟨h1,h2⟩,h3,h3',h4,h5⟩
 have h:=hstep c s h5 h1 h2 h3 h3' h4;unfold round at h ⊢;cases hh:havoc keep dead s with
 |none=>rw[hh]at h;exact h
 |some s1=>
  rw[hh]at h;refine zua.mono h ?_;intro e s' h';cases e with
  |normal=>obtain⟨c',q1,q2⟩:=h';exact⟨μ c',q1,c',rfl,q2⟩
  |exit i=>exact h'
  |ret=>exact h'
  |pan v=>exact h'
def PC(x:Option (CRes×zd))(R:CRes->zd->Prop):Prop:=match x with
 |some (r,st)=>R r st
 |none=>False
theorem PC_iff{x:Option (CRes×zd)}{R:CRes->zd->Prop}:PC x R<->∃r st,x=some (r,st)/\R r st:=by
 cases x with
 |none=>exact⟨fun h=>h.elim,fun⟨_,_,h,_⟩=>by cases h⟩
 |some q=>obtain⟨e,s⟩:=q;exact⟨fun h=>⟨e,s,rfl,h⟩,fun⟨_,_,h,h'⟩=>by cases h;exact h'⟩
def fin(res:List IRes)(fz:Bool)(n:Nat)(s:St):Option (CRes×zd):=
 match getAll s res with
 |none=>none
 |some vs=>if vs.all zJ then
   if fz then
    if zU n (vs.map (zXd n s.st))&&zd.wf n (s.st.take n)&&decide (n<=s.st.length)then some (.ret (zPe (vs.map (zXd n s.st))),s.st.take n)else none
   else some (.ret (zPe vs),s.st)
  else none
def finPan(fz:Bool)(n:Nat)(v:PV)(s:St):Option (CRes×zd):=
 if fz then
  if zE n v&&zd.wf n (s.st.take n)&&decide (n<=s.st.length)then some (.pan v,s.st.take n)else none
 else some (.pan v,s.st)
def leaveQ(res:List IRes)(fz:Bool)(n:Nat)(R:CRes->zd->Prop):Ex->St->Prop
 | .normal,s=>PC (fin res fz n s) R
 | .ret,s=>PC (fin res fz n s) R
 | .pan v,s=>PC (finPan fz n v s) R
 |_,_=>False
section
variable (res:List IRes) (fz:Bool) (n:Nat) (R:CRes->zd->Prop) (s:St)
@[simp] theorem leaveQ_normal:leaveQ res fz n R .normal s=PC (fin res fz n s) R:=ye rfl rfl
@[simp] theorem leaveQ_ret:leaveQ res fz n R .ret s=PC (fin res fz n s) R:=ye rfl rfl
@[simp] theorem fin_false:fin res false n s=match getAll s res with
 |none=>none
 |some vs=>if vs.all zJ then some (.ret (zPe vs),s.st)else none:=ye rfl rfl
@[simp] theorem PC_some(r:CRes)(st:zd):PC (some (r,st)) R=R r st:=ye rfl rfl
end
section
variable (res:List IRes) (n:Nat) (R:CRes->zd->Prop) (s:St)
end
theorem pcall_wpP{E:Env}{f:Nat}{F:IFn}{args:List PV}{st:zd}{R:CRes->zd->Prop}(hx:E.ext f=none)(hf:E.fn f=some F)(hl:args.length=F.nargs)(hv:args.all zJ=true)
  (h:zua (exec (zk E) F.body {fr:=frOf args 0,bx:=fun _=> .no,st:=st}) (leaveQ F.res F.freeze st.length R)) (hh:E.hand f=none:=by rfl) (hd:F.deep=false:=by rfl) (ho:F.own=none:=by rfl):PC (zk E f args st) R:=by
 rw[holds_iff]at h;obtain⟨e,s,h1,h2⟩:=h;have h3:PC (leave F st.length (some (e,s))) R:=by
  cases e with
  |normal=>show PC (zte F st.length s) R;unfold zte;rw[ho,hd];exact h2
  |ret=>show PC (zte F st.length s) R;unfold zte;rw[ho,hd];exact h2
  |pan v=>exact h2
  |exit i=>exact h2.elim
 rw[PC_iff]at h3;obtain⟨r,st',h4,h5⟩:=h3;rw[pcall_body hx hf hl hv hh (by rw[h1];exact h4)];exact h5
def isR(r:CRes×zd):CRes->zd->Prop:=fun r' st'=>r'=r.1/\st'=r.2
theorem zc{E:Env}{f:Nat}{F:IFn}{args:List PV}{st:zd}{r:CRes×zd}(hx:E.ext f=none)(hf:E.fn f=some F)(hl:args.length=F.nargs)(hv:args.all zJ=true)
  (h:zua (exec (zk E) F.body {fr:=frOf args 0,bx:=fun _=> .no,st:=st}) (leaveQ F.res F.freeze st.length (isR r))) (hh:E.hand f=none:=by rfl) (hd:F.deep=false:=by rfl) (ho:F.own=none:=by rfl):zk E f args st=some r:=by
 have h1:=pcall_wpP (R:=isR r) hx hf hl hv h hh hd ho;rw[PC_iff]at h1;obtain⟨r',st',e,q1,q2⟩:=h1;rw[e,q1,q2]
def finO(t:Nat)(s:St):Option (CRes×zd):=if zJ (s.fr t)then some (.ret (s.fr t),s.st)else none
def leaveO(t:Nat)(R:CRes->zd->Prop):Ex->St->Prop
 | .normal,s=>PC (finO t s) R
 | .ret,s=>PC (finO t s) R
 | .pan v,s=>PC (some (.pan v,s.st)) R
 |_,_=>False
section
variable (t:Nat) (R:CRes->zd->Prop) (s:St)
@[simp] theorem leaveO_ret:leaveO t R .ret s=PC (finO t s) R:=ye rfl rfl
@[simp] theorem finO_eq:finO t s=if zJ (s.fr t)then some (.ret (s.fr t),s.st)else none:=ye rfl rfl
end
theorem pcall_wpO{E:Env}{f:Nat}{F:IFn}{args:List PV}{st:zd}{r:CRes×zd}(t:Nat)(hx:E.ext f=none)(hf:E.fn f=some F)(hl:args.length=F.nargs)(hv:args.all zJ=true)
  (h:zua (exec (zk E) F.body {fr:=frOf args 0,bx:=fun _=> .no,st:=st}) (leaveO t (isR r))) (hh:E.hand f=none:=by rfl) (hz:F.freeze=false:=by rfl) (ho:F.own=some t:=by rfl):zk E f args st=some r:=by
 rw[holds_iff]at h;obtain⟨e,s,h1,h2⟩:=h;have h3:PC (leave F st.length (some (e,s))) (isR r):=by
  cases e with
  |normal=>show PC (zte F st.length s) (isR r);unfold zte;rw[ho];exact h2
  |ret=>show PC (zte F st.length s) (isR r);unfold zte;rw[ho];exact h2
  |pan v=>show PC (finishPan F st.length v s) (isR r);unfold finishPan;rw[hz];exact h2
  |exit i=>exact h2.elim
 rw[PC_iff]at h3;obtain⟨r',st',h4,q1,q2⟩:=h3;rw[pcall_body hx hf hl hv hh (by rw[h1];exact h4),q1,q2]
@[simp] theorem isR_mk(r r':CRes)(st st':zd):isR (r,st) r' st'=(r'=r/\st'=st):=ye rfl rfl
attribute [simp] wp_region round_eq exec_sealK
section
variable (n:Nat)
@[simp] theorem below_bool(b:Bool):zE n (.bool b)=true:=ye rfl rfl
@[simp] theorem below_int(k:IntKind)(m:Int):zE n (.int k m)=true:=ye rfl rfl
@[simp] theorem below_str(m:List UInt8):zE n (.str m)=true:=ye rfl rfl
@[simp] theorem below_mslice(l i o z:Nat):zE n (.mslice l i o z)=decide (l<n):=ye rfl rfl
@[simp] theorem below_slice(k:SK)(z:Nat)(l:List PV):zE n (.slice k z l)=zU n l:=ye rfl rfl
@[simp] theorem below_agg(l:List PV):zE n (.agg l)=zU n l:=ye rfl rfl
@[simp] theorem below_tup(l:List PV):zE n (.tup l)=zU n l:=ye rfl rfl
@[simp] theorem belowL_nil:zU n []=true:=ye rfl rfl
@[simp] theorem belowL_cons(v:PV)(l:List PV):zU n (v::l)=(zE n v&&zU n l):=ye rfl rfl
end
@[simp] theorem zdf{α:Type}(n:Nat)(f:α->PV)(l:List α)(h:∀x,zE n (f x)=true):zU n (l.map f)=true:=by
 induction l with
 |nil=>rfl
 |cons x r ih=>simp[h,ih]
@[simp] theorem belowL_append(n:Nat)(a b:List PV):zU n (a++b)=(zU n a&&zU n b):=by
 induction a with
 |nil=>simp
 |cons x r ih=>simp[ih,Bool.and_assoc]
theorem Split.mem{α:Type}{l d:List α}{x:α}{r:List α}(h:Split l d x r):x∈l:=by
 have h:l=d++x::r:=h;rw[h];simp
theorem Split.eq{α:Type}{l d:List α}{x:α}{r:List α}(h:Split l d x r):l=d++x::r:=h
theorem byte_lt(b:UInt8):(b.toNat:Int)<256:=by
 have:=b.toNat_lt;omega
@[simp] theorem wrapK_byte(k:IntKind)(h:k≠ .i8)(b:UInt8):zW k b.toNat=b.toNat:=by
 have:=byte_lt b;have h0:(0:Int)<=b.toNat:=by omega
 rw[zY];cases k<;>first|exact absurd rfl h|(simp only[yba,yca,IntKind.signed,Bool.true_and,Bool.false_and];split<;>rename_i h<;>first|omega|(have:=of_decide_eq_true h;omega)|(exact absurd h (by simp)))
section
variable (n:Nat) (st:zd)
@[simp] theorem frA_bool(b:Bool):zXd n st (.bool b)=(.bool b):=ye rfl rfl
@[simp] theorem fr1_int(k:IntKind)(m:Int):zvf n st (.int k m)=(.int k m):=ye rfl rfl
@[simp] theorem frA_int(k:IntKind)(m:Int):zXd n st (.int k m)=(.int k m):=ye rfl rfl
@[simp] theorem fr1_slice(k:SK)(z:Nat)(l:List PV):zvf n st (.slice k z l)=(.slice k z l):=ye rfl rfl
@[simp] theorem frA_agg(l:List PV):zXd n st (.agg l)= .agg (l.map (zvf n st)):=ye rfl rfl
end
@[simp] theorem fin_true0(res:List IRes)(s:St):fin res true 0 s=match getAll s res with
 |none=>none
 |some vs=>if vs.all zJ then if zU 0 (vs.map (zXd 0 s.st))then some (.ret (zPe (vs.map (zXd 0 s.st))),[])else none else none:=by
 unfold fin;cases getAll s res with
 |none=>rfl
 |some vs=>simp[zd.wf]
def acc(sz:Nat)(l:List PV):PV:=match l with
 | []=> .slice .fit sz []
 |x::r=> .slice .own sz (x::r)
@[simp] theorem acc_nil(sz:Nat):acc sz []= .slice .fit sz []:=ye rfl rfl
@[simp] theorem acc_cons(sz:Nat)(x:PV)(r:List PV):acc sz (x::r)= .slice .own sz (x::r):=ye rfl rfl
theorem acc_ne{sz:Nat}{l:List PV}(h:l≠ []):acc sz l= .slice .own sz l:=by cases l<;>first|exact absurd rfl h|rfl
@[simp] theorem canon1_acc(sz:Nat)(l:List PV):canon1 (acc sz l)= .slice .plain sz l:=by cases l<;>rfl
@[simp] theorem stripA_acc(sz:Nat)(l:List PV):stripA (acc sz l)= .slice .plain sz l:=by cases l<;>rfl
@[simp] theorem isVar_acc(sz:Nat)(l:List PV):zJ (acc sz l)=true:=by cases l<;>rfl
@[simp] theorem avoids_acc(dead:List Nat)(sz:Nat)(l:List PV):zwe dead (acc sz l)=true:=by cases l<;>rfl
@[simp] theorem appendS_acc(sz bytes:Nat)(b:Bx)(st:zd)(l l':List PV)(h:(l.length+l'.length)*bytes<=zo):appendS sz bytes b st (some l') (acc sz l)=some (acc sz (l++l'),b,st):=by
 cases l with
 |nil=>
  cases l' with
  |nil=>simp
  |cons y r=>
   simp at h;simp;exact h
 |cons x r=>simp at h;simp;exact h
@[simp high] theorem appendS_nil(sz bytes:Nat)(b:Bx)(st:zd)(l':List PV)(h:l'.length*bytes<=zo):appendS sz bytes b st (some l') (.slice .fit sz [])=some (acc sz l',b,st):=by
 have:=appendS_acc sz bytes b st [] l' (by simpa using h);simpa using this
@[simp] theorem canon1_sacc(sz:Nat)(l:List PV):canon1 (strip (acc sz l))= .slice .plain sz l:=by cases l<;>rfl
@[simp] theorem stripA_sacc(sz:Nat)(l:List PV):stripA (strip (acc sz l))= .slice .plain sz l:=by cases l<;>rfl
@[simp] theorem isVar_sacc(sz:Nat)(l:List PV):zJ (strip (acc sz l))=true:=by cases l<;>rfl
@[simp] theorem cellsOf_sacc(sz:Nat)(l:List PV):cellsOf (strip (acc sz l))=[strip (acc sz l)]:=by cases l<;>rfl
@[simp] theorem src_sacc(st:zd)(sz z:Nat)(l:List PV):zZb st sz (strip (acc z l))=if sz=z then some l else none:=by cases l<;>rfl
@[simp] def cI(n:Int):Arg:= .c (.int .i64 n)
@[simp] def oM(a b:Nat):GOp:=⟨none,some a,.mv (.t b)⟩
@[simp] def oC(a:Nat)(v:PV):GOp:=⟨none,some a,.mv (.c v)⟩
@[simp] def oO(a:Nat)(x:IOp):GOp:=⟨none,some a,x⟩
@[simp] def oN(x:IOp):GOp:=⟨none,none,x⟩
@[simp] def oT(g a:Nat)(x:IOp):GOp:=⟨some (g,true),some a,x⟩
@[simp] def oF(g a:Nat)(x:IOp):GOp:=⟨some (g,false),some a,x⟩
@[simp] def oA(a off t:Nat):GOp:=⟨none,some a,.faddr off (.t t)⟩
@[simp] def oX(a t i:Nat):GOp:=⟨none,some a,.ext (.t t) i⟩
@[simp] def oL(a k t:Nat):GOp:=⟨none,some a,.load (.box k) false 1 (.t t)⟩
@[simp] def oLa(a k sz t:Nat):GOp:=⟨none,some a,.load (.box k) true sz (.t t)⟩
@[simp] def oG(a t:Nat):GOp:=⟨none,some a,.load .any false 1 (.t t)⟩
@[simp] def oS(k sz t v:Nat):GOp:=⟨none,none,.store (.box k) sz (.t t) (.t v)⟩
@[simp] def oB(a:Nat)(op:BinOp)(x y:Arg):GOp:=⟨none,some a,.bin 0 [] op x y⟩
@[simp] def bF:PV:= .bool false
@[simp] def bT:PV:= .bool true
@[simp] def sr(o:List GOp)(r:ICode):ICode:= .seq (.region o) r
@[simp] def cP(a f:Nat)(l:List Arg):GOp:=⟨none,some a,.callP false (.c (.fn f [] [])) l⟩
@[simp] def cF(a f:Nat)(l:List Arg):GOp:=⟨none,some a,.call false (.c (.fn f [] [])) l⟩
@[simp] def oK(a t:Nat):GOp:=⟨none,some a,.nilck (.t t)⟩
@[simp] def oI(a z t i:Nat):GOp:=⟨none,some a,.iaddr z (.t t) (.t i)⟩
@[simp] def oE(a t:Nat):GOp:=⟨none,some a,.take t⟩
@[simp] def oZ(a:Nat)(n:Int):GOp:=⟨none,some a,.mv (.c (.int .i64 n))⟩
@[simp] def oY(a t:Nat):GOp:=⟨none,some a,.len 1 (.t t)⟩
@[simp] def oW(a z t:Nat):GOp:=⟨none,some a,.load .any true z (.t t)⟩
@[simp] def oH(a t:Nat):GOp:=⟨none,some a,.load .imm false 1 (.t t)⟩
@[simp] def oU(a t:Nat):GOp:=⟨none,some a,.un .not (.t t)⟩
@[simp] def oV(t v:Nat):GOp:=⟨none,none,.store .any 1 (.t t) (.t v)⟩
@[simp] def oP(a:Nat)(op:BinOp)(x y:Nat):GOp:=⟨none,some a,.bin 0 [] op (.t x) (.t y)⟩
@[simp] def oD(a:Nat)(op:BinOp)(x:Nat)(y:Int):GOp:=⟨none,some a,.bin 0 [] op (.t x) (.c (.int .i64 y))⟩
@[simp] def oTm(g a t:Nat):GOp:=⟨some (g,true),some a,.mv (.t t)⟩
@[simp] def oFm(g a t:Nat):GOp:=⟨some (g,false),some a,.mv (.t t)⟩
@[simp] def pP(n:Nat)(l:List Arg):IOp:= .callP false (.c (.fn n [] [])) l
@[simp] def pF(n:Nat)(l:List Arg):IOp:= .call false (.c (.fn n [] [])) l
end PE

set_option maxRecDepth 100000
namespace PE.U
open Go PE Go.Proofs
def F12:IFn:=⟨9,1,[.tmp 2],false,false,none,(sr [oC 2 (.slice .fit 1 [])] (.seq (sr [oM 3 0,oY 4 3,oD 5 .gtr 4 10] (.cond (.t 5) (sr [oE 6 0,oO 7 (.slc false 1 (.t 6) none (some (cI 10)) none),oE 2 7] .ret) .skip)) (sr [oE 8 0,oE 2 8] .ret)))⟩
theorem ok12:ze Tryz.prog Tryz.f12 F12=true:=by kernel_rfl
def F46:IFn:=⟨21,2,[.tmp 4],false,false,none,(sr [oZ 4 0] (sr [oM 5 0,oM 6 0,oK 7 6,oA 8 2 7,oO 9 (.loadT .any (.t 8)),oM 10 1,oO 11 (.bslice 1 (.int .i64 0) 1 [(0,(.t 10))]),oO 12 (.append 1 8 (.t 9) (.t 11)),oK 13 5,oA 14 2 13,oN (.storeT .any (.t 14) 12)] (sr [oM 15 0,oK 16 15,oA 17 2 16,oG 18 17,oY 19 18,oD 20 .sub 19 1,oM 4 20] .ret)))⟩
theorem ok46:ze Tryz.prog Tryz.f46 F46=true:=by kernel_rfl
def L45_0:ICode:= .loop [0,1,5,6] []
 (.seq
 (sr [
 oM 7 6,
 oM 8 1,
 oY 9 8,
 oP 10 .lss 7 9]
 (.cond (.t 10)
 .skip
 (.exit 0)))
 (.seq
 (.block 1
 (.region [
 oE 13 5,
 oM 14 0,
 oM 15 1,
 oM 16 6,
 oI 17 1 15 16,
 oG 18 17,
 cF 19 46 [.t 14,.t 18],
 oO 20 (.bslice 1 (.int .i64 0) 1 [(0,(.t 19))]),
 oO 21 (.append 1 8 (.t 13) (.t 20)),
 oE 5 21]))
 (.region [
 oM 11 6,
 oD 12 .add 11 1,
 oM 6 12])))
abbrev K45_0:List Nat:=[0,1]
abbrev B45_0:List Nat:=[]
def F45:IFn:=⟨23,2,[.tmp 4],false,false,some 4,(sr [oC 4 (.slice .fit 1 [])] (sr [oC 5 (.slice .fit 1 [])] (.seq (sr [oZ 6 0] (.block 0 L45_0)) (sr [oE 22 5,oE 4 22] .ret))))⟩
theorem ok45:ze Tryz.prog Tryz.f45 F45=true:=by kernel_rfl
def F69:IFn:=⟨43,2,[.tmp 4],false,false,none,(sr [oZ 4 0] (sr [oM 5 0,oK 6 5,oA 7 1 6,oG 8 7,oD 9 .add 8 1,oK 10 5,oA 11 1 10,oV 11 9] (.seq (sr [oM 12 0,oK 13 12,oA 14 1 13,oG 15 14,oM 16 0,oK 17 16,oA 18 0 17,oG 19 18,oY 20 19,oP 21 .gtr 15 20,oM 22 21,oFm 22 23 0,oF 22 24 (.nilck (.t 23)),oF 22 25 (.faddr 1 (.t 24)),oF 22 26 (.load .any false 1 (.t 25)),oF 22 27 (.bin 0 [] .gtr (.t 26) (cI 150)),oO 28 (.pick (.t 22) (.c bT) (.t 27))] (.cond (.t 28) (sr [oZ 4 0] .ret) .skip)) (sr [oM 29 0,oK 30 29,oA 31 0 30,oG 32 31,oM 33 0,oK 34 33,oA 35 1 34,oG 36 35,oD 37 .sub 36 1,oI 38 1 32 37,oH 39 38,oO 40 (.conv .i64 (.t 39)),oM 41 1,oP 42 .rem 40 41,oM 4 42] .ret))))⟩
theorem ok69:ze Tryz.prog Tryz.f69 F69=true:=by kernel_rfl
def L95_0:ICode:= .loop [0,1,2,7,8,9] []
 (.seq
 (sr [
 oM 13 9,
 oM 14 1,
 oY 15 14,
 oP 16 .lss 13 15]
 (.cond (.t 16)
 .skip
 (.exit 0)))
 (.seq
 (.block 1
 (sr [
 oM 19 0,
 oK 20 19,
 oA 21 2 20,
 oG 22 21,
 oM 23 1,
 oM 24 9,
 oI 25 1 23 24,
 oH 26 25,
 oI 27 1 22 26,
 oH 28 27,
 oM 29 2,
 oP 30 .eql 28 29,
 oM 31 30,
 oTm 31 32 9,
 oT 31 33 (.bin 0 [] .eql (.t 32) (cI 0)),
 oTm 31 34 33,
 oFm 34 35 7,
 oF 34 36 (.bin 0 [] .gtr (.t 35) (cI 0)),
 oT 31 37 (.pick (.t 34) (.c bT) (.t 36)),
 oO 38 (.pick (.t 31) (.t 37) (.c bF))]
 (.cond (.t 38)
 (sr [
 oM 39 1,
 oM 40 9,
 oI 41 1 39 40,
 oG 42 41,
 oM 8 42]
 (.region [
 oM 43 7,
 oD 44 .sub 43 1,
 oM 7 44]))
 .skip)))
 (.region [
 oM 17 9,
 oD 18 .add 17 1,
 oM 9 18])))
def L95_1:ICode:= .loop [0,1,2,8,10] []
 (.seq
 (sr [
 oM 45 10,
 oM 46 1,
 oY 47 46,
 oP 48 .lss 45 47,
 oM 49 48,
 oTm 49 50 0,
 oT 49 51 (.nilck (.t 50)),
 oT 49 52 (.faddr 2 (.t 51)),
 oT 49 53 (.load .any false 1 (.t 52)),
 oTm 49 54 8,
 oT 49 55 (.iaddr 1 (.t 53) (.t 54)),
 oT 49 56 (.load .any false 1 (.t 55)),
 oTm 49 57 2,
 oT 49 58 (.bin 0 [] .neq (.t 56) (.t 57)),
 oO 59 (.pick (.t 49) (.t 58) (.c bF))]
 (.cond (.t 59)
 .skip
 (.exit 2)))
 (.seq
 (.block 3
 (sr [
 oM 62 0,
 oK 63 62,
 oA 64 2 63,
 oG 65 64,
 oM 66 1,
 oM 67 10,
 oI 68 1 66 67,
 oH 69 68,
 oI 70 1 65 69,
 oH 71 70,
 oM 72 2,
 oP 73 .eql 71 72]
 (.cond (.t 73)
 (.region [
 oM 74 1,
 oM 75 10,
 oI 76 1 74 75,
 oG 77 76,
 oM 8 77])
 .skip)))
 (.region [
 oM 60 10,
 oD 61 .add 60 1,
 oM 10 61])))
abbrev K95_0:List Nat:=[0,1,2]
abbrev B95_0:List Nat:=[]
abbrev K95_1:List Nat:=[0,1,2]
abbrev B95_1:List Nat:=[]
def F95:IFn:=⟨79,3,[.tmp 6],false,false,none,(sr [oZ 6 0] (sr [oM 11 0,cF 12 69 [.t 11,cI 8],oM 7 12] (sr [oZ 8 0] (.seq (sr [oZ 9 0] (.block 0 L95_0)) (.seq (sr [oZ 10 0] (.block 2 L95_1)) (sr [oM 78 8,oM 6 78] .ret))))))⟩
theorem ok95:ze Tryz.prog Tryz.f95 F95=true:=by kernel_rfl
def L72_0:ICode:= .loop [0,1,2,7,8] []
 (.seq
 (sr [
 oM 9 8,
 oM 10 2,
 oY 11 10,
 oP 12 .lss 9 11]
 (.cond (.t 12)
 .skip
 (.exit 0)))
 (.seq
 (.block 1
 (.region [
 oE 15 7,
 oM 16 0,
 oM 17 1,
 oM 18 2,
 oM 19 8,
 oI 20 1 18 19,
 oG 21 20,
 cF 22 95 [.t 16,.t 17,.t 21],
 oO 23 (.bslice 1 (.int .i64 0) 1 [(0,(.t 22))]),
 oO 24 (.append 1 8 (.t 15) (.t 23)),
 oE 7 24]))
 (.region [
 oM 13 8,
 oD 14 .add 13 1,
 oM 8 14])))
abbrev K72_0:List Nat:=[0,1,2]
abbrev B72_0:List Nat:=[]
def F72:IFn:=⟨26,3,[.tmp 6],false,false,none,(sr [oC 6 (.slice .fit 1 [])] (sr [oC 7 (.slice .fit 1 [])] (.seq (sr [oZ 8 0] (.block 0 L72_0)) (sr [oE 25 7,oE 6 25] .ret))))⟩
theorem ok72:ze Tryz.prog Tryz.f72 F72=true:=by kernel_rfl
def F70:IFn:=⟨137,2,[.cell 4 true 8],false,false,none,(sr [oO 4 (.boxL 4 (.c (.agg [.int .i64 0,.int .i64 0,.int .i64 0,.str [],.slice .fit 1 [],.slice .fit 1 [],.slice .fit 1 [],.slice .fit 1 []])))] (sr [oZ 5 1] (.seq (sr [oM 6 0,cF 7 69 [.t 6,cI 12]] (.block 0 (sr [oD 9 .eql 7 0,oM 8 9] (.cond (.t 8) (sr [oO 10 (.bslice 1 (.int .i64 0) 6 [(0,(cI 0)),(1,(cI 1)),(2,(cI 2)),(3,(cI 3)),(4,(cI (-1))),(5,(cI 100))]),oM 11 0,cF 12 69 [.t 11,cI 6],oI 13 1 10 12,oH 14 13,oM 15 0,oM 16 5,oO 17 (.bslice 1 (.int .i64 0) 1 [(0,(.t 16))]),cF 18 45 [.t 15,.t 17],oO 19 (.build [.int .i64 0,.int .i64 0,.int .i64 0,.str [],.slice .fit 1 [],.slice .fit 1 [],.slice .fit 1 [],.slice .fit 1 []] [(0,1,(cI 1)),(2,1,(.t 14)),(5,1,(.t 18))]),oS 4 8 4 19] .ret) (sr [oD 21 .eql 7 1,oM 20 21] (.cond (.t 20) (sr [oM 22 0,cF 23 69 [.t 22,cI 2],oM 24 0,oO 25 (.bslice 1 (.int .i64 0) 1 [(0,(cI 2))]),cF 26 45 [.t 24,.t 25],oO 27 (.build [.int .i64 0,.int .i64 0,.int .i64 0,.str [],.slice .fit 1 [],.slice .fit 1 [],.slice .fit 1 [],.slice .fit 1 []] [(0,1,(cI 2)),(2,1,(.t 23)),(5,1,(.t 26))]),oS 4 8 4 27] .ret) (sr [oD 29 .eql 7 2,oM 28 29] (.cond (.t 28) (sr [oO 30 (.bslice 1 (.int .i64 0) 4 [(0,(cI 20)),(1,(cI 21)),(2,(cI 23)),(3,(cI 27))]),oM 31 0,cF 32 69 [.t 31,cI 4],oI 33 1 30 32,oH 34 33,oM 35 0,oE 36 1,oM 37 5,oO 38 (.bslice 1 (.int .i64 0) 1 [(0,(.t 37))]),cF 39 72 [.t 35,.t 36,.t 38],oM 40 0,oM 41 5,oO 42 (.bslice 1 (.int .i64 0) 1 [(0,(.t 41))]),cF 43 45 [.t 40,.t 42],oO 44 (.build [.int .i64 0,.int .i64 0,.int .i64 0,.str [],.slice .fit 1 [],.slice .fit 1 [],.slice .fit 1 [],.slice .fit 1 []] [(0,1,(cI 3)),(1,1,(.t 34)),(4,1,(.t 39)),(5,1,(.t 43))]),oS 4 8 4 44] .ret) (sr [oD 46 .eql 7 3,oM 45 46] (.cond (.t 45) (sr [oM 47 0,oE 48 1,oO 49 (.bslice 1 (.int .i64 0) 1 [(0,(cI 2))]),cF 50 72 [.t 47,.t 48,.t 49],oM 51 0,oO 52 (.bslice 1 (.int .i64 0) 1 [(0,(cI 2))]),cF 53 45 [.t 51,.t 52],oO 54 (.build [.int .i64 0,.int .i64 0,.int .i64 0,.str [],.slice .fit 1 [],.slice .fit 1 [],.slice .fit 1 [],.slice .fit 1 []] [(0,1,(cI 3)),(1,1,(cI 22)),(4,1,(.t 50)),(5,1,(.t 53))]),oS 4 8 4 54] .ret) (.seq (sr [oD 56 .eql 7 4,oM 55 56] (.cond (.t 55) .skip (sr [oD 57 .eql 7 5,oM 55 57] (.cond (.t 55) .skip (.region [oD 58 .eql 7 6,oM 55 58]))))) (.cond (.t 55) (sr [oM 59 0,cF 60 69 [.t 59,cI 11],oB 61 .add (cI 1) (.t 60),oM 62 0,oE 63 1,oM 64 5,oM 65 5,oO 66 (.bslice 1 (.int .i64 0) 2 [(0,(.t 64)),(1,(.t 65))]),cF 67 72 [.t 62,.t 63,.t 66],oM 68 0,oM 69 5,oO 70 (.bslice 1 (.int .i64 0) 1 [(0,(.t 69))]),cF 71 45 [.t 68,.t 70],oO 72 (.build [.int .i64 0,.int .i64 0,.int .i64 0,.str [],.slice .fit 1 [],.slice .fit 1 [],.slice .fit 1 [],.slice .fit 1 []] [(0,1,(cI 4)),(1,1,(.t 61)),(4,1,(.t 67)),(5,1,(.t 71))]),oS 4 8 4 72] .ret) (.seq (sr [oD 74 .eql 7 7,oM 73 74] (.cond (.t 73) .skip (.region [oD 75 .eql 7 8,oM 73 75]))) (.cond (.t 73) (sr [oM 76 0,cF 77 69 [.t 76,cI 6],oB 78 .add (cI 12) (.t 77),oM 79 0,oE 80 1,oM 81 5,oM 82 5,oO 83 (.bslice 1 (.int .i64 0) 2 [(0,(.t 81)),(1,(.t 82))]),cF 84 72 [.t 79,.t 80,.t 83],oM 85 0,oO 86 (.bslice 1 (.int .i64 0) 1 [(0,(cI 2))]),cF 87 45 [.t 85,.t 86],oO 88 (.build [.int .i64 0,.int .i64 0,.int .i64 0,.str [],.slice .fit 1 [],.slice .fit 1 [],.slice .fit 1 [],.slice .fit 1 []] [(0,1,(cI 4)),(1,1,(.t 78)),(4,1,(.t 84)),(5,1,(.t 87))]),oS 4 8 4 88] .ret) (sr [oD 90 .eql 7 9,oM 89 90] (.cond (.t 89) (sr [oM 91 0,oE 92 1,oM 93 5,oO 94 (.bslice 1 (.int .i64 0) 1 [(0,(.t 93))]),cF 95 72 [.t 91,.t 92,.t 94],oM 96 0,oM 97 5,oO 98 (.bslice 1 (.int .i64 0) 1 [(0,(.t 97))]),cF 99 45 [.t 96,.t 98],oO 100 (.build [.int .i64 0,.int .i64 0,.int .i64 0,.str [],.slice .fit 1 [],.slice .fit 1 [],.slice .fit 1 [],.slice .fit 1 []] [(0,1,(cI 5)),(3,1,(.c (.str [97]))),(4,1,(.t 95)),(5,1,(.t 99))]),oS 4 8 4 100] .ret) (sr [oD 102 .eql 7 10,oM 101 102] (.cond (.t 101) (sr [oM 103 0,oE 104 1,oM 105 5,oM 106 5,oO 107 (.bslice 1 (.int .i64 0) 2 [(0,(.t 105)),(1,(.t 106))]),cF 108 72 [.t 103,.t 104,.t 107],oO 109 (.build [.int .i64 0,.int .i64 0,.int .i64 0,.str [],.slice .fit 1 [],.slice .fit 1 [],.slice .fit 1 [],.slice .fit 1 []] [(0,1,(cI 6)),(3,1,(.c (.str [97]))),(4,1,(.t 108))]),oS 4 8 4 109] .ret) .skip)))))))))))))))))) (.seq (sr [oM 110 0,cF 111 69 [.t 110,cI 4]] (.block 1 (sr [oD 113 .eql 111 0,oM 112 113] (.cond (.t 112) (sr [oM 114 0,oE 115 1,oM 116 5,oO 117 (.bslice 1 (.int .i64 0) 2 [(0,(.t 116)),(1,(cI 2))]),cF 118 72 [.t 114,.t 115,.t 117],oM 119 0,oM 120 5,oO 121 (.bslice 1 (.int .i64 0) 1 [(0,(.t 120))]),cF 122 45 [.t 119,.t 121],oO 123 (.build [.int .i64 0,.int .i64 0,.int .i64 0,.str [],.slice .fit 1 [],.slice .fit 1 [],.slice .fit 1 [],.slice .fit 1 []] [(0,1,(cI 7)),(3,1,(.c (.str [102]))),(4,1,(.t 118)),(5,1,(.t 122))]),oS 4 8 4 123] .ret) (sr [oD 125 .eql 111 1,oM 124 125] (.cond (.t 124) (sr [oM 126 0,oM 127 5,oO 128 (.bslice 1 (.int .i64 0) 1 [(0,(.t 127))]),cF 129 45 [.t 126,.t 128],oO 130 (.build [.int .i64 0,.int .i64 0,.int .i64 0,.str [],.slice .fit 1 [],.slice .fit 1 [],.slice .fit 1 [],.slice .fit 1 []] [(0,1,(cI 8)),(5,1,(.t 129))]),oS 4 8 4 130] .ret) .skip)))))) (sr [oM 131 0,oE 132 1,oM 133 5,oO 134 (.bslice 1 (.int .i64 0) 1 [(0,(.t 133))]),cF 135 72 [.t 131,.t 132,.t 134],oO 136 (.build [.int .i64 0,.int .i64 0,.int .i64 0,.str [],.slice .fit 1 [],.slice .fit 1 [],.slice .fit 1 [],.slice .fit 1 []] [(0,1,(cI 9)),(4,1,(.t 135))]),oS 4 8 4 136] .ret)))))⟩
theorem ok70:ze Tryz.prog Tryz.f70 F70=true:=by kernel_rfl
def L71_0:ICode:= .loop [0,3,4] []
 (.seq
 (sr [
 oM 7 4,
 oD 8 .gtr 7 0]
 (.cond (.t 8)
 .skip
 (.exit 0)))
 (.seq
 (.block 1
 (.region [
 oE 11 3,
 oM 12 0,
 cF 13 69 [.t 12,cI 2],
 oB 14 .add (cI 1) (.t 13),
 oO 15 (.bslice 1 (.int .i64 0) 1 [(0,(.t 14))]),
 oO 16 (.append 1 8 (.t 11) (.t 15)),
 oE 3 16]))
 (.region [
 oM 9 4,
 oD 10 .sub 9 1,
 oM 4 10])))
abbrev K71_0:List Nat:=[0]
abbrev B71_0:List Nat:=[]
def F71:IFn:=⟨18,1,[.tmp 2],false,false,none,(sr [oC 2 (.slice .fit 1 [])] (sr [oC 3 (.slice .fit 1 [])] (.seq (sr [oM 5 0,cF 6 69 [.t 5,cI 3],oM 4 6] (.block 0 L71_0)) (sr [oE 17 3,oE 2 17] .ret))))⟩
theorem ok71:ze Tryz.prog Tryz.f71 F71=true:=by kernel_rfl
def F98:IFn:=⟨11,1,[.tmp 2],false,false,none,(sr [oO 1 (.boxL 1 (.t 0)),oC 2 bF] (sr [oA 3 0 1,oL 4 1 3,oD 5 .geq 4 12,oM 6 5,oT 6 7 (.faddr 0 (.t 1)),oT 6 8 (.load (.box 1) false 1 (.t 7)),oT 6 9 (.bin 0 [] .leq (.t 8) (cI 15)),oO 10 (.pick (.t 6) (.t 9) (.c bF)),oM 2 10] .ret))⟩
theorem ok98:ze Tryz.prog Tryz.f98 F98=true:=by kernel_rfl
def F96:IFn:=⟨23,1,[.tmp 2],false,false,none,(sr [oZ 2 0] (.seq (sr [oM 3 0,oY 4 3,oD 5 .eql 4 0,oM 6 5,oFm 6 7 0,oFm 6 8 0,oF 6 9 (.len 1 (.t 8)),oF 6 10 (.bin 0 [] .sub (.t 9) (cI 1)),oF 6 11 (.iaddr 8 (.t 7) (.t 10)),oF 6 12 (.load .any true 8 (.t 11)),oF 6 13 (pP 98 [.t 12]),oF 6 14 (.un .not (.t 13)),oO 15 (.pick (.t 6) (.c bT) (.t 14))] (.cond (.t 15) (sr [oZ 2 0] .ret) .skip)) (sr [oM 16 0,oE 17 0,oY 18 17,oD 19 .sub 18 1,oI 20 8 16 19,oA 21 0 20,oG 22 21,oM 2 22] .ret)))⟩
theorem ok96:ze Tryz.prog Tryz.f96 F96=true:=by kernel_rfl
def L97_0:ICode:= .loop [0,3,4] []
 (.seq
 (sr [
 oM 17 4,
 oM 18 0,
 oM 19 3,
 oI 20 8 18 19,
 oA 21 7 20,
 oG 22 21,
 oY 23 22,
 oP 24 .lss 17 23,
 oM 25 24,
 oTm 25 26 0,
 oTm 25 27 3,
 oT 25 28 (.iaddr 8 (.t 26) (.t 27)),
 oT 25 29 (.faddr 0 (.t 28)),
 oT 25 30 (.load .any false 1 (.t 29)),
 oT 25 31 (.bin 0 [] .eql (.t 30) (cI 10)),
 oO 32 (.pick (.t 25) (.t 31) (.c bF))]
 (.cond (.t 32)
 .skip
 (.exit 2)))
 (.seq
 (.block 3
 (sr [
 oM 35 0,
 oM 36 3,
 oI 37 8 35 36,
 oA 38 7 37,
 oG 39 38,
 oM 40 4,
 oI 41 1 39 40,
 oG 42 41,
 cP 43 97 [.t 42]]
 (.cond (.t 43)
 (sr [
 oC 2 bT]
 .ret)
 .skip)))
 (.region [
 oM 33 4,
 oD 34 .add 33 1,
 oM 4 34])))
def L97_1:ICode:= .loop [0,3] []
 (.seq
 (sr [
 oM 5 3,
 oM 6 0,
 oY 7 6,
 oP 8 .lss 5 7]
 (.cond (.t 8)
 .skip
 (.exit 0)))
 (.seq
 (.block 1
 (.seq
 (sr [
 oM 11 0,
 oM 12 3,
 oI 13 8 11 12,
 oA 14 0 13,
 oG 15 14,
 oD 16 .eql 15 14]
 (.cond (.t 16)
 (sr [
 oC 2 bT]
 .ret)
 .skip))
 (sr [
 oZ 4 0]
 (.block 2
 L97_0))))
 (.region [
 oM 9 3,
 oD 10 .add 9 1,
 oM 3 10])))
abbrev K97_0:List Nat:=[0,3]
abbrev B97_0:List Nat:=[]
abbrev K97_1:List Nat:=[0]
abbrev B97_1:List Nat:=[]
def F97:IFn:=⟨44,1,[.tmp 2],false,false,none,(sr [oC 2 bF] (.seq (sr [oZ 3 0] (.block 0 L97_1)) (sr [oC 2 bF] .ret)))⟩
theorem ok97:ze Tryz.prog Tryz.f97 F97=true:=by kernel_rfl
def F73:IFn:=⟨45,1,[.tmp 2],false,false,none,(sr [oO 1 (.boxL 1 (.t 0)),oC 2 bF] (.seq (.block 0 (sr [oA 4 0 1,oL 5 1 4,oD 6 .eql 5 10,oM 7 6,oT 7 8 (.faddr 7 (.t 1)),oT 7 9 (.load (.box 1) false 1 (.t 8)),oT 7 10 (.len 1 (.t 9)),oT 7 11 (.bin 0 [] .eql (.t 10) (cI 2)),oO 12 (.pick (.t 7) (.t 11) (.c bF)),oM 3 12] (.cond (.t 3) (sr [oA 13 7 1,oL 14 1 13,oO 15 (.iaddr 1 (.t 14) (cI 0)),oG 16 15,cP 17 96 [.t 16],oD 18 .neq 17 12,oM 19 18,oT 19 20 (.faddr 7 (.t 1)),oT 19 21 (.load (.box 1) false 1 (.t 20)),oT 19 22 (.iaddr 1 (.t 21) (cI 1)),oT 19 23 (.load .any false 1 (.t 22)),oT 19 24 (pP 96 [.t 23]),oT 19 25 (.bin 0 [] .neq (.t 24) (cI 12)),oO 26 (.pick (.t 19) (.t 25) (.c bF)),oM 2 26] .ret) (sr [oA 28 0 1,oL 29 1 28,oD 30 .eql 29 11,oM 31 30,oT 31 32 (.faddr 7 (.t 1)),oT 31 33 (.load (.box 1) false 1 (.t 32)),oT 31 34 (.len 1 (.t 33)),oT 31 35 (.bin 0 [] .eql (.t 34) (cI 1)),oO 36 (.pick (.t 31) (.t 35) (.c bF)),oM 27 36] (.cond (.t 27) (sr [oA 37 7 1,oL 38 1 37,oO 39 (.iaddr 1 (.t 38) (cI 0)),oG 40 39,cP 41 97 [.t 40],oU 42 41,oM 2 42] .ret) .skip))))) (sr [oLa 43 1 8 1,cP 44 98 [.t 43],oM 2 44] .ret)))⟩
theorem ok73:ze Tryz.prog Tryz.f73 F73=true:=by kernel_rfl
def F74:IFn:=⟨51,3,[.cell 6 true 8],false,false,none,(sr [oO 5 (.boxL 5 (.t 2)),oO 6 (.boxL 6 (.c (.agg [.int .i64 0,.int .i64 0,.int .i64 0,.str [],.slice .fit 1 [],.slice .fit 1 [],.slice .fit 1 [],.slice .fit 1 []])))] (sr [oM 8 0,cF 9 69 [.t 8,cI 6],oM 7 9] (.seq (.block 0 (sr [oA 11 0 5,oL 12 5 11,oM 13 12,oTm 13 14 7,oT 13 15 (.bin 0 [] .lss (.t 14) (cI 4)),oO 16 (.pick (.t 13) (.t 15) (.c bF)),oM 10 16] (.cond (.t 10) (sr [oM 17 0,oE 18 1,oA 19 2 5,oL 20 5 19,cF 21 72 [.t 17,.t 18,.t 20],oO 22 (.build [.int .i64 0,.int .i64 0,.int .i64 0,.str [],.slice .fit 1 [],.slice .fit 1 [],.slice .fit 1 [],.slice .fit 1 []] [(0,1,(cI 12)),(4,1,(.t 21))]),oS 6 8 6 22] .ret) (sr [oA 24 1 5,oL 25 5 24,oM 26 25,oTm 26 27 7,oT 26 28 (.bin 0 [] .rem (.t 27) (cI 2)),oT 26 29 (.bin 0 [] .eql (.t 28) (cI 0)),oO 30 (.pick (.t 26) (.t 29) (.c bF)),oM 23 30] (.cond (.t 23) (sr [oM 31 0,oE 32 1,oA 33 3 5,oL 34 5 33,cF 35 72 [.t 31,.t 32,.t 34],oO 36 (.build [.int .i64 0,.int .i64 0,.int .i64 0,.str [],.slice .fit 1 [],.slice .fit 1 [],.slice .fit 1 [],.slice .fit 1 []] [(0,1,(cI 13)),(4,1,(.t 35))]),oS 6 8 6 36] .ret) (sr [oA 38 1 5,oL 39 5 38,oM 37 39] (.cond (.t 37) (sr [oM 40 0,oE 41 1,oA 42 4 5,oL 43 5 42,cF 44 72 [.t 40,.t 41,.t 43],oO 45 (.build [.int .i64 0,.int .i64 0,.int .i64 0,.str [],.slice .fit 1 [],.slice .fit 1 [],.slice .fit 1 [],.slice .fit 1 []] [(0,1,(cI 14)),(4,1,(.t 44))]),oS 6 8 6 45] .ret) .skip))))))) (sr [oM 46 0,oE 47 1,oO 48 (.bslice 1 (.int .i64 0) 1 [(0,(cI 1))]),cF 49 72 [.t 46,.t 47,.t 48],oO 50 (.build [.int .i64 0,.int .i64 0,.int .i64 0,.str [],.slice .fit 1 [],.slice .fit 1 [],.slice .fit 1 [],.slice .fit 1 []] [(0,1,(cI 15)),(4,1,(.t 49))]),oS 6 8 6 50] .ret))))⟩
theorem ok74:ze Tryz.prog Tryz.f74 F74=true:=by kernel_rfl
def L47_0:ICode:= .loop [0,3,6,9,10,11] [12,15]
 (.seq
 (sr [
 oM 25 11,
 oD 26 .gtr 25 0,
 oM 27 26,
 oTm 27 28 0,
 oT 27 29 (.nilck (.t 28)),
 oT 27 30 (.faddr 3 (.t 29)),
 oT 27 31 (.load .any false 1 (.t 30)),
 oT 27 32 (.bin 0 [] .gtr (.t 31) (cI 0)),
 oO 33 (.pick (.t 27) (.t 32) (.c bF))]
 (.cond (.t 33)
 .skip
 (.exit 0)))
 (.seq
 (.block 1
 (sr [
 oM 36 0,
 oM 37 0,
 oK 38 37,
 oA 39 3 38,
 oG 40 39,
 oD 41 .sub 40 1,
 oK 42 36,
 oA 43 3 42,
 oV 43 41]
 (sr [
 oM 44 0,
 oM 45 10,
 cF 46 70 [.t 44,.t 45],
 oO 12 (.boxL 12 (.c (.agg [.int .i64 0,.int .i64 0,.int .i64 0,.str [],.slice .fit 1 [],.slice .fit 1 [],.slice .fit 1 [],.slice .fit 1 []]))),
 oS 12 8 12 46]
 (sr [
 oM 47 0,
 cF 48 69 [.t 47,cI 6],
 oM 13 48]
 (.seq
 (.block 2
 (sr [
 oM 50 13,
 oD 51 .eql 50 0,
 oM 52 51,
 oTm 52 53 3,
 oT 52 54 (.bin 0 [] .gtr (.t 53) (cI 0)),
 oO 55 (.pick (.t 52) (.t 54) (.c bF)),
 oM 49 55]
 (.cond (.t 49)
 (sr [
 oM 56 0,
 cF 57 71 [.t 56],
 oE 14 57]
 (sr [
 oA 58 1 6,
 oL 59 6 58,
 oM 60 14,
 oA 61 3 6,
 oL 62 6 61,
 oA 63 4 6,
 oL 64 6 63,
 oO 65 (.build [.bool false,.bool false,.slice .fit 1 [],.slice .fit 1 [],.slice .fit 1 []] [(0,1,(.c bT)),(1,1,(.t 59)),(2,1,(.t 60)),(3,1,(.t 62)),(4,1,(.t 64))]),
 oO 15 (.boxL 15 (.c (.agg [.bool false,.bool false,.slice .fit 1 [],.slice .fit 1 [],.slice .fit 1 []]))),
 oS 15 5 15 65]
 (sr [
 oM 66 0,
 oM 67 10,
 oO 68 (.bslice 1 (.int .i64 0) 1 [(0,(cI 2))]),
 cF 69 72 [.t 66,.t 67,.t 68],
 oO 70 (.build [.int .i64 0,.int .i64 0,.int .i64 0,.str [],.slice .fit 1 [],.slice .fit 1 [],.slice .fit 1 [],.slice .fit 1 []] [(0,1,(cI 10)),(4,1,(.t 69))]),
 oS 12 8 12 70]
 (sr [
 oM 71 0,
 oM 72 10,
 oLa 73 15 5 15,
 oM 74 3,
 oD 75 .sub 74 1,
 cF 76 47 [.t 71,.t 72,.t 73,.t 75],
 oE 16 76]
 (sr [
 oE 77 16,
 oM 78 0,
 oM 79 10,
 oLa 80 15 5 15,
 oM 81 3,
 oD 82 .sub 81 1,
 cF 83 47 [.t 78,.t 79,.t 80,.t 82],
 oO 84 (.bslice 1 (.slice .fit 8 []) 2 [(0,(.t 77)),(1,(.t 83))]),
 oA 85 7 12,
 oS 12 1 85 84]
 (sr [
 oLa 86 12 8 12,
 cP 87 73 [.t 86],
 oU 88 87]
 (.cond (.t 88)
 (.region [
 oM 89 0,
 oE 90 14,
 cF 91 45 [.t 89,.t 90],
 oA 92 5 12,
 oS 12 1 92 91])
 .skip)))))))
 (sr [
 oM 94 13,
 oD 95 .eql 94 1,
 oM 96 95,
 oTm 96 97 3,
 oT 96 98 (.bin 0 [] .gtr (.t 97) (cI 0)),
 oO 99 (.pick (.t 96) (.t 98) (.c bF)),
 oM 93 99]
 (.cond (.t 93)
 (sr [
 oM 100 0,
 cF 101 71 [.t 100],
 oM 102 0,
 cF 103 71 [.t 102],
 oE 17 101,
 oE 18 103]
 (sr [
 oM 104 0,
 oM 105 10,
 oM 106 17,
 cF 107 72 [.t 104,.t 105,.t 106],
 oM 108 0,
 oM 109 17,
 cF 110 45 [.t 108,.t 109],
 oO 111 (.build [.int .i64 0,.int .i64 0,.int .i64 0,.str [],.slice .fit 1 [],.slice .fit 1 [],.slice .fit 1 [],.slice .fit 1 []] [(0,1,(cI 11)),(4,1,(.t 107)),(6,1,(.t 110))]),
 oS 12 8 12 111]
 (sr [
 oC 19 (.slice .fit 1 [])]
 (sr [
 oE 112 19,
 oM 113 10,
 oO 114 (.append 1 8 (.t 112) (.t 113)),
 oE 19 114]
 (sr [
 oE 115 19,
 oA 116 6 12,
 oL 117 12 116,
 oO 118 (.append 1 8 (.t 115) (.t 117)),
 oE 19 118]
 (sr [
 oM 119 0,
 oE 120 19,
 oE 121 17,
 oM 122 18,
 oO 123 (.build [.bool false,.bool false,.slice .fit 1 [],.slice .fit 1 [],.slice .fit 1 []] [(1,1,(.c bT)),(3,1,(.t 121)),(4,1,(.t 122))]),
 oM 124 3,
 oD 125 .sub 124 1,
 cF 126 47 [.t 119,.t 120,.t 123,.t 125],
 oO 127 (.bslice 1 (.slice .fit 8 []) 1 [(0,(.t 126))]),
 oA 128 7 12,
 oS 12 1 128 127]
 (sr [
 oLa 129 12 8 12,
 cP 130 73 [.t 129],
 oU 131 130]
 (.cond (.t 131)
 (.region [
 oM 132 0,
 oE 133 18,
 cF 134 45 [.t 132,.t 133],
 oA 135 5 12,
 oS 12 1 135 134])
 .skip))))))))
 .skip)))))
 (sr [
 oE 136 9,
 oLa 137 12 8 12,
 oO 138 (.bslice 8 (.agg [.int .i64 0,.int .i64 0,.int .i64 0,.str [],.slice .fit 1 [],.slice .fit 1 [],.slice .fit 1 [],.slice .fit 1 []]) 1 [(0,(.t 137))]),
 oO 139 (.append 8 136 (.t 136) (.t 138)),
 oE 9 139]
 (.seq
 (sr [
 oLa 140 12 8 12,
 cP 141 73 [.t 140]]
 (.cond (.t 141)
 (sr [
 oE 142 9,
 oE 8 142]
 .ret)
 .skip))
 (.region [
 oE 143 10,
 oA 144 5 12,
 oL 145 12 144,
 oO 146 (.append 1 8 (.t 143) (.t 145)),
 oE 10 146]))))))))
 (.region [
 oM 34 11,
 oD 35 .sub 34 1,
 oM 11 35])))
abbrev K47_0:List Nat:=[0,3,6]
abbrev B47_0:List Nat:=[6]
def F47:IFn:=⟨154,4,[.tmp 8],false,false,none,(sr [oO 6 (.boxL 6 (.t 2)),oC 8 (.slice .fit 8 [])] (sr [oC 9 (.slice .fit 8 [])] (sr [oC 10 (.slice .fit 1 [])] (sr [oE 20 10,oE 21 1,oO 22 (.append 1 8 (.t 20) (.t 21)),oE 10 22] (.seq (sr [oM 23 0,cF 24 69 [.t 23,cI 6],oM 11 24] (.block 0 L47_0)) (sr [oE 147 9,oM 148 0,oE 149 10,oLa 150 6 5 6,cF 151 74 [.t 148,.t 149,.t 150],oO 152 (.bslice 8 (.agg [.int .i64 0,.int .i64 0,.int .i64 0,.str [],.slice .fit 1 [],.slice .fit 1 [],.slice .fit 1 [],.slice .fit 1 []]) 1 [(0,(.t 151))]),oO 153 (.append 8 136 (.t 147) (.t 152)),oE 8 153] .ret))))))⟩
theorem ok47:ze Tryz.prog Tryz.f47 F47=true:=by kernel_rfl
def F29:IFn:=⟨51,3,[.cell 6 true 5],false,false,none,(sr [oO 6 (.boxL 6 (.c (.agg [.str [],.int .i64 0,.int .i64 0,.slice .fit 1 [],.slice .fit 8 []])))] (sr [oM 11 0,oM 12 0,oK 13 11,oA 14 2 13,oN (.store .any 1 (.t 14) (.c (.slice .fit 1 []))),oK 15 12,oA 16 3 15,oN (.store .any 1 (.t 16) (cI 30))] (sr [oM 17 0,oM 18 2,cF 19 45 [.t 17,.t 18],oE 7 19] (sr [oM 20 0,cF 21 46 [.t 20,cI 1],oM 22 0,cF 23 46 [.t 22,cI 2],oM 8 21,oM 9 23] (sr [oM 24 8,oO 25 (.bslice 1 (.int .i64 0) 1 [(0,(.t 24))]),oO 26 (.build [.int .i64 0,.int .i64 0,.int .i64 0,.str [],.slice .fit 1 [],.slice .fit 1 [],.slice .fit 1 [],.slice .fit 1 []] [(0,1,(cI 1)),(2,1,(cI 3)),(5,1,(.t 25))]),oM 27 9,oO 28 (.bslice 1 (.int .i64 0) 1 [(0,(.t 27))]),oO 29 (.build [.int .i64 0,.int .i64 0,.int .i64 0,.str [],.slice .fit 1 [],.slice .fit 1 [],.slice .fit 1 [],.slice .fit 1 []] [(0,1,(cI 2)),(2,1,(cI 1)),(5,1,(.t 28))]),oO 30 (.bslice 8 (.agg [.int .i64 0,.int .i64 0,.int .i64 0,.str [],.slice .fit 1 [],.slice .fit 1 [],.slice .fit 1 [],.slice .fit 1 []]) 2 [(0,(.t 26)),(1,(.t 29))]),oE 10 30] (sr [oE 31 7,oM 32 8,oM 33 9,oO 34 (.bslice 1 (.int .i64 0) 2 [(0,(.t 32)),(1,(.t 33))]),oO 35 (.append 1 8 (.t 31) (.t 34)),oE 7 35] (sr [oE 36 10,oM 37 0,oE 38 7,oO 39 (.build [.bool false,.bool false,.slice .fit 1 [],.slice .fit 1 [],.slice .fit 1 []] []),cF 40 47 [.t 37,.t 38,.t 39,cI 3],oO 41 (.append 8 136 (.t 36) (.t 40)),oE 10 41] (sr [oM 42 1,oE 43 2,oY 44 43,oM 45 0,oK 46 45,oA 47 2 46,oG 48 47,oE 49 10,oO 50 (.build [.str [],.int .i64 0,.int .i64 0,.slice .fit 1 [],.slice .fit 8 []] [(0,1,(.t 42)),(1,1,(cI 1)),(2,1,(.t 44)),(3,1,(.t 48)),(4,1,(.t 49))]),oS 6 5 6 50] .ret))))))))⟩
theorem ok29:ze Tryz.prog Tryz.f29 F29=true:=by kernel_rfl
def F14:IFn:=⟨27,1,[.cell 2 true 2],true,false,none,(sr [oO 2 (.boxL 2 (.c (.agg [.slice .fit 2 [],.slice .fit 5 []])))] (sr [oE 5 0,oO 6 (.build [.slice .fit 1 [],.int .i64 0,.slice .fit 1 [],.int .i64 0] [(0,1,(.t 5))]),oO 7 (.boxS 4 (.t 6)),oM 3 7] (sr [oO 8 (.build [.str [],.int .i64 0] [(0,1,(.c (.str [97]))),(1,1,(cI 4))]),oO 9 (.bslice 2 (.agg [.str [],.int .i64 0]) 1 [(0,(.t 8))]),oO 10 (.build [.slice .fit 2 [],.slice .fit 5 []] [(0,1,(.t 9))]),oO 4 (.boxL 4 (.c (.agg [.slice .fit 2 [],.slice .fit 5 []]))),oS 4 2 4 10] (sr [oA 11 1 4,oO 12 (.loadT (.box 4) (.t 11)),oM 13 3,cF 14 29 [(.t 13),(.c (.str [109,97,105,110])),(.c (.slice .fit 1 []))],oO 15 (.bslice 5 (.agg [.str [],.int .i64 0,.int .i64 0,.slice .fit 1 [],.slice .fit 8 []]) 1 [(0,(.t 14))]),oO 16 (.append 5 80 (.t 12) (.t 15)),oA 17 1 4,oN (.storeT (.box 4) (.t 17) 16)] (sr [oA 18 1 4,oO 19 (.loadT (.box 4) (.t 18)),oM 20 3,oO 21 (.bslice 1 (.int .i64 0) 2 [(0,(cI 1)),(1,(cI 2))]),cF 22 29 [(.t 20),(.c (.str [102])),(.t 21)],oO 23 (.bslice 5 (.agg [.str [],.int .i64 0,.int .i64 0,.slice .fit 1 [],.slice .fit 8 []]) 1 [(0,(.t 22))]),oO 24 (.append 5 80 (.t 19) (.t 23)),oA 25 1 4,oN (.storeT (.box 4) (.t 25) 24)] (sr [oLa 26 4 2 4,oS 2 2 2 26] .ret))))))⟩
theorem ok14:ze Tryz.prog Tryz.f14 F14=true:=by kernel_rfl
def L27_0:ICode:= .loop [1,2,5] []
 (.seq
 (sr [
 oM 6 5,
 oA 7 1 2,
 oL 8 2 7,
 oY 9 8,
 oP 10 .lss 6 9]
 (.cond (.t 10)
 .skip
 (.exit 0)))
 (.seq
 (.block 1
 (sr [
 oA 13 1 2,
 oL 14 2 13,
 oM 15 5,
 oI 16 5 14 15,
 oA 17 0 16,
 oG 18 17,
 oM 19 1,
 oP 20 .eql 18 19]
 (.cond (.t 20)
 (sr [
 oM 21 5,
 oM 4 21]
 .ret)
 .skip)))
 (.region [
 oM 11 5,
 oD 12 .add 11 1,
 oM 5 12])))
abbrev K27_0:List Nat:=[1,2]
abbrev B27_0:List Nat:=[2]
def F27:IFn:=⟨22,2,[.tmp 4],false,false,none,(sr [oO 2 (.boxL 2 (.t 0)),oZ 4 0] (.seq (sr [oZ 5 0] (.block 0 L27_0)) (sr [oO 4 (.mv (cI (-1)))] .ret)))⟩
theorem ok27:ze Tryz.prog Tryz.f27 F27=true:=by kernel_rfl
def F88:IFn:=⟨21,1,[.tmp 2],false,false,none,(sr [oC 2 bF] (sr [oM 3 0,oB 4 .geq (.t 3) (.c (.int .u8 97)),oM 5 4,oTm 5 6 0,oT 5 7 (.bin 0 [] .leq (.t 6) (.c (.int .u8 122))),oO 8 (.pick (.t 5) (.t 7) (.c bF)),oM 9 8,oFm 9 10 0,oF 9 11 (.bin 0 [] .geq (.t 10) (.c (.int .u8 65))),oFm 9 12 11,oTm 12 13 0,oT 12 14 (.bin 0 [] .leq (.t 13) (.c (.int .u8 90))),oF 9 15 (.pick (.t 12) (.t 14) (.c bF)),oO 16 (.pick (.t 9) (.c bT) (.t 15)),oM 17 16,oFm 17 18 0,oF 17 19 (.bin 0 [] .eql (.t 18) (.c (.int .u8 95))),oO 20 (.pick (.t 17) (.c bT) (.t 19)),oM 2 20] .ret))⟩
theorem ok88:ze Tryz.prog Tryz.f88 F88=true:=by kernel_rfl
def F89:IFn:=⟨23,1,[.tmp 2],false,false,none,(sr [oC 2 bF] (.seq (sr [oM 3 0] (.block 0 (.seq (sr [oB 5 .eql (.t 3) (.c (.str [105,110,116])),oM 4 5] (.cond (.t 4) .skip (sr [oB 6 .eql (.t 3) (.c (.str [98,111,111,108])),oM 4 6] (.cond (.t 4) .skip (sr [oB 7 .eql (.t 3) (.c (.str [105,102])),oM 4 7] (.cond (.t 4) .skip (sr [oB 8 .eql (.t 3) (.c (.str [101,108,115,101])),oM 4 8] (.cond (.t 4) .skip (sr [oB 9 .eql (.t 3) (.c (.str [119,104,105,108,101])),oM 4 9] (.cond (.t 4) .skip (sr [oB 10 .eql (.t 3) (.c (.str [98,114,101,97,107])),oM 4 10] (.cond (.t 4) .skip (sr [oB 11 .eql (.t 3) (.c (.str [99,111,110,116,105,110,117,101])),oM 4 11] (.cond (.t 4) .skip (sr [oB 12 .eql (.t 3) (.c (.str [114,101,116,117,114,110])),oM 4 12] (.cond (.t 4) .skip (sr [oB 13 .eql (.t 3) (.c (.str [112,114,105,110,116])),oM 4 13] (.cond (.t 4) .skip (sr [oB 14 .eql (.t 3) (.c (.str [114,101,97,100])),oM 4 14] (.cond (.t 4) .skip (sr [oB 15 .eql (.t 3) (.c (.str [116,114,117,101])),oM 4 15] (.cond (.t 4) .skip (sr [oB 16 .eql (.t 3) (.c (.str [102,97,108,115,101])),oM 4 16] (.cond (.t 4) .skip (sr [oB 17 .eql (.t 3) (.c (.str [105,56])),oM 4 17] (.cond (.t 4) .skip (sr [oB 18 .eql (.t 3) (.c (.str [105,49,54])),oM 4 18] (.cond (.t 4) .skip (sr [oB 19 .eql (.t 3) (.c (.str [105,51,50])),oM 4 19] (.cond (.t 4) .skip (sr [oB 20 .eql (.t 3) (.c (.str [117,56])),oM 4 20] (.cond (.t 4) .skip (sr [oB 21 .eql (.t 3) (.c (.str [117,49,54])),oM 4 21] (.cond (.t 4) .skip (.region [oB 22 .eql (.t 3) (.c (.str [117,51,50])),oM 4 22]))))))))))))))))))))))))))))))))))) (.cond (.t 4) (sr [oC 2 bT] .ret) .skip)))) (sr [oC 2 bF] .ret)))⟩
theorem ok89:ze Tryz.prog Tryz.f89 F89=true:=by kernel_rfl
def F90:IFn:=⟨9,1,[.tmp 2],false,false,none,(sr [oC 2 bF] (sr [oM 3 0,oB 4 .geq (.t 3) (.c (.int .u8 48)),oM 5 4,oTm 5 6 0,oT 5 7 (.bin 0 [] .leq (.t 6) (.c (.int .u8 57))),oO 8 (.pick (.t 5) (.t 7) (.c bF)),oM 2 8] .ret))⟩
theorem ok90:ze Tryz.prog Tryz.f90 F90=true:=by kernel_rfl
def L61_0:ICode:= .loop [0,3] []
 (.seq
 (sr [
 oM 21 3,
 oM 22 0,
 oO 23 (.len 0 (.t 22)),
 oP 24 .lss 21 23]
 (.cond (.t 24)
 .skip
 (.exit 0)))
 (.seq
 (.block 1
 (sr [
 oM 27 0,
 oM 28 3,
 oO 29 (.idxS (.t 27) (.t 28)),
 cP 30 88 [.t 29],
 oU 31 30,
 oM 32 31,
 oTm 32 33 0,
 oTm 32 34 3,
 oT 32 35 (.idxS (.t 33) (.t 34)),
 oT 32 36 (pP 90 [.t 35]),
 oT 32 37 (.un .not (.t 36)),
 oO 38 (.pick (.t 32) (.t 37) (.c bF))]
 (.cond (.t 38)
 (sr [
 oC 2 bF]
 .ret)
 .skip)))
 (.region [
 oM 25 3,
 oD 26 .add 25 1,
 oM 3 26])))
abbrev K61_0:List Nat:=[0]
abbrev B61_0:List Nat:=[]
def F61:IFn:=⟨39,1,[.tmp 2],false,false,none,(sr [oC 2 bF] (.seq (sr [oM 4 0,oB 5 .eql (.t 4) (.c (.str [])),oM 6 5,oFm 6 7 0,oF 6 8 (.len 0 (.t 7)),oF 6 9 (.bin 0 [] .gtr (.t 8) (cI 20)),oO 10 (.pick (.t 6) (.c bT) (.t 9)),oM 11 10,oFm 11 12 0,oF 11 13 (.idxS (.t 12) (cI 0)),oF 11 14 (pP 88 [.t 13]),oF 11 15 (.un .not (.t 14)),oO 16 (.pick (.t 11) (.c bT) (.t 15)),oM 17 16,oFm 17 18 0,oF 17 19 (pP 89 [.t 18]),oO 20 (.pick (.t 17) (.c bT) (.t 19))] (.cond (.t 20) (sr [oC 2 bF] .ret) .skip)) (.seq (sr [oZ 3 0] (.block 0 L61_0)) (sr [oC 2 bT] .ret))))⟩
theorem ok61:ze Tryz.prog Tryz.f61 F61=true:=by kernel_rfl
def L62_0:ICode:= .loop [1,2,5] []
 (.seq
 (sr [
 oM 6 5,
 oA 7 0 2,
 oL 8 2 7,
 oY 9 8,
 oP 10 .lss 6 9]
 (.cond (.t 10)
 .skip
 (.exit 0)))
 (.seq
 (.block 1
 (sr [
 oA 13 0 2,
 oL 14 2 13,
 oM 15 5,
 oI 16 2 14 15,
 oA 17 0 16,
 oG 18 17,
 oM 19 1,
 oP 20 .eql 18 19]
 (.cond (.t 20)
 (sr [
 oM 21 5,
 oM 4 21]
 .ret)
 .skip)))
 (.region [
 oM 11 5,
 oD 12 .add 11 1,
 oM 5 12])))
abbrev K62_0:List Nat:=[1,2]
abbrev B62_0:List Nat:=[2]
def F62:IFn:=⟨22,2,[.tmp 4],false,false,none,(sr [oO 2 (.boxL 2 (.t 0)),oZ 4 0] (.seq (sr [oZ 5 0] (.block 0 L62_0)) (sr [oO 4 (.mv (cI (-1)))] .ret)))⟩
theorem ok62:ze Tryz.prog Tryz.f62 F62=true:=by kernel_rfl
def L42_0:ICode:= .loop [1,3] [4]
 (.seq
 (sr [
 oM 8 3,
 oA 9 0 1,
 oL 10 1 9,
 oY 11 10,
 oP 12 .lss 8 11]
 (.cond (.t 12)
 .skip
 (.exit 0)))
 (.seq
 (.block 1
 (sr [
 oA 15 0 1,
 oL 16 1 15,
 oM 17 3,
 oI 18 2 16 17,
 oW 19 2 18,
 oO 4 (.boxL 4 (.c (.agg [.str [],.int .i64 0]))),
 oS 4 2 4 19]
 (sr [
 oA 20 0 4,
 oL 21 4 20,
 cP 22 61 [.t 21],
 oU 23 22,
 oM 24 23,
 oF 24 25 (.faddr 1 (.t 4)),
 oF 24 26 (.load (.box 4) false 1 (.t 25)),
 oF 24 27 (.bin 0 [] .lss (.t 26) (cI 1)),
 oO 28 (.pick (.t 24) (.c bT) (.t 27)),
 oM 29 28,
 oF 29 30 (.faddr 1 (.t 4)),
 oF 29 31 (.load (.box 4) false 1 (.t 30)),
 oF 29 32 (.bin 0 [] .gtr (.t 31) (cI 1000)),
 oO 33 (.pick (.t 29) (.c bT) (.t 32)),
 oM 34 33,
 oF 34 35 (.load (.box 1) true 2 (.t 1)),
 oF 34 36 (.faddr 0 (.t 4)),
 oF 34 37 (.load (.box 4) false 1 (.t 36)),
 oF 34 38 (pP 62 [.t 35,.t 37]),
 oFm 34 39 3,
 oF 34 40 (.bin 0 [] .neq (.t 38) (.t 39)),
 oO 41 (.pick (.t 34) (.c bT) (.t 40)),
 oM 42 41,
 oF 42 43 (.load (.box 1) true 2 (.t 1)),
 oF 42 44 (.faddr 0 (.t 4)),
 oF 42 45 (.load (.box 4) false 1 (.t 44)),
 oF 42 46 (pP 27 [.t 43,.t 45]),
 oF 42 47 (.bin 0 [] .geq (.t 46) (cI 0)),
 oO 48 (.pick (.t 42) (.c bT) (.t 47))]
 (.cond (.t 48)
 (sr [
 oC 2 bF]
 .ret)
 .skip))))
 (.region [
 oM 13 3,
 oD 14 .add 13 1,
 oM 3 14])))
def L42_1:ICode:= .loop [1,5] [6]
 (.seq
 (sr [
 oM 49 5,
 oA 50 1 1,
 oL 51 1 50,
 oY 52 51,
 oP 53 .lss 49 52]
 (.cond (.t 53)
 .skip
 (.exit 2)))
 (.seq
 (.block 3
 (sr [
 oA 56 1 1,
 oL 57 1 56,
 oM 58 5,
 oI 59 5 57 58,
 oW 60 5 59,
 oO 6 (.boxL 6 (.c (.agg [.str [],.int .i64 0,.int .i64 0,.slice .fit 1 [],.slice .fit 8 []]))),
 oS 6 5 6 60]
 (sr [
 oA 61 0 6,
 oL 62 6 61,
 cP 63 61 [.t 62],
 oU 64 63,
 oM 65 64,
 oF 65 66 (.load (.box 1) true 2 (.t 1)),
 oF 65 67 (.faddr 0 (.t 6)),
 oF 65 68 (.load (.box 6) false 1 (.t 67)),
 oF 65 69 (pP 27 [.t 66,.t 68]),
 oFm 65 70 5,
 oF 65 71 (.bin 0 [] .neq (.t 69) (.t 70)),
 oO 72 (.pick (.t 65) (.c bT) (.t 71)),
 oM 73 72,
 oF 73 74 (.faddr 1 (.t 6)),
 oF 73 75 (.load (.box 6) false 1 (.t 74)),
 oF 73 76 (.bin 0 [] .neq (.t 75) (cI 1)),
 oFm 73 77 76,
 oT 77 78 (.faddr 1 (.t 6)),
 oT 77 79 (.load (.box 6) false 1 (.t 78)),
 oT 77 80 (.bin 0 [] .neq (.t 79) (cI 2)),
 oF 73 81 (.pick (.t 77) (.t 80) (.c bF)),
 oO 82 (.pick (.t 73) (.c bT) (.t 81)),
 oM 83 82,
 oF 83 84 (.faddr 2 (.t 6)),
 oF 83 85 (.load (.box 6) false 1 (.t 84)),
 oF 83 86 (.bin 0 [] .lss (.t 85) (cI 0)),
 oO 87 (.pick (.t 83) (.c bT) (.t 86)),
 oM 88 87,
 oF 88 89 (.faddr 2 (.t 6)),
 oF 88 90 (.load (.box 6) false 1 (.t 89)),
 oF 88 91 (.faddr 3 (.t 6)),
 oF 88 92 (.load (.box 6) false 1 (.t 91)),
 oF 88 93 (.len 1 (.t 92)),
 oF 88 94 (.bin 0 [] .gtr (.t 90) (.t 93)),
 oO 95 (.pick (.t 88) (.c bT) (.t 94))]
 (.cond (.t 95)
 (sr [
 oC 2 bF]
 .ret)
 .skip))))
 (.region [
 oM 54 5,
 oD 55 .add 54 1,
 oM 5 55])))
abbrev K42_0:List Nat:=[1]
abbrev B42_0:List Nat:=[1]
abbrev K42_1:List Nat:=[1]
abbrev B42_1:List Nat:=[1]
def F42:IFn:=⟨118,1,[.tmp 2],false,false,none,(sr [oO 1 (.boxL 1 (.t 0)),oC 2 bF] (.seq (sr [oZ 3 0] (.block 0 L42_0)) (.seq (sr [oZ 5 0] (.block 2 L42_1)) (sr [oLa 96 1 2 1,cP 97 27 [(.t 96),(.c (.str [109,97,105,110]))],oM 7 97] (sr [oM 98 7,oD 99 .geq 98 0,oM 100 99,oT 100 101 (.faddr 1 (.t 1)),oT 100 102 (.load (.box 1) false 1 (.t 101)),oTm 100 103 7,oT 100 104 (.iaddr 5 (.t 102) (.t 103)),oT 100 105 (.faddr 1 (.t 104)),oT 100 106 (.load .any false 1 (.t 105)),oT 100 107 (.bin 0 [] .eql (.t 106) (cI 1)),oO 108 (.pick (.t 100) (.t 107) (.c bF)),oM 109 108,oT 109 110 (.faddr 1 (.t 1)),oT 109 111 (.load (.box 1) false 1 (.t 110)),oTm 109 112 7,oT 109 113 (.iaddr 5 (.t 111) (.t 112)),oT 109 114 (.faddr 2 (.t 113)),oT 109 115 (.load .any false 1 (.t 114)),oT 109 116 (.bin 0 [] .eql (.t 115) (cI 0)),oO 117 (.pick (.t 109) (.t 116) (.c bF)),oM 2 117] .ret)))))⟩
theorem ok42:ze Tryz.prog Tryz.f42 F42=true:=by kernel_rfl
def F119:IFn:=⟨82,1,[.tmp 2],false,false,none,(sr [oO 1 (.boxL 1 (.t 0)),oC 2 bF] (sr [oA 7 0 1,oL 8 1 7,oD 9 .eql 8 3,oM 10 9,oF 10 11 (.faddr 0 (.t 1)),oF 10 12 (.load (.box 1) false 1 (.t 11)),oF 10 13 (.bin 0 [] .eql (.t 12) (cI 4)),oO 14 (.pick (.t 10) (.c bT) (.t 13)),oM 3 14] (sr [oA 15 0 1,oL 16 1 15,oD 17 .eql 16 1,oM 18 17,oF 18 19 (.faddr 0 (.t 1)),oF 18 20 (.load (.box 1) false 1 (.t 19)),oF 18 21 (.bin 0 [] .eql (.t 20) (cI 2)),oO 22 (.pick (.t 18) (.c bT) (.t 21)),oM 4 22] (sr [oA 23 0 1,oL 24 1 23,oD 25 .eql 24 5,oM 26 25,oF 26 27 (.faddr 0 (.t 1)),oF 26 28 (.load (.box 1) false 1 (.t 27)),oF 26 29 (.bin 0 [] .eql (.t 28) (cI 6)),oO 30 (.pick (.t 26) (.c bT) (.t 29)),oM 31 30,oF 31 32 (.faddr 0 (.t 1)),oF 31 33 (.load (.box 1) false 1 (.t 32)),oF 31 34 (.bin 0 [] .eql (.t 33) (cI 7)),oO 35 (.pick (.t 31) (.c bT) (.t 34)),oM 5 35] (sr [oZ 6 0] (.seq (sr [oA 36 0 1,oL 37 1 36,oD 38 .eql 37 10] (.cond (.t 38) (.region [oZ 6 2]) .skip)) (.seq (sr [oA 39 0 1,oL 40 1 39,oD 41 .eql 40 11] (.cond (.t 41) (.region [oZ 6 1]) .skip)) (sr [oM 42 3,oM 43 42,oF 43 44 (.faddr 1 (.t 1)),oF 43 45 (.load (.box 1) false 1 (.t 44)),oF 43 46 (.bin 0 [] .eql (.t 45) (cI 0)),oO 47 (.pick (.t 43) (.c bT) (.t 46)),oM 48 47,oTm 48 49 4,oTm 48 50 49,oF 50 51 (.faddr 2 (.t 1)),oF 50 52 (.load (.box 1) false 1 (.t 51)),oF 50 53 (.bin 0 [] .eql (.t 52) (cI 0)),oT 48 54 (.pick (.t 50) (.c bT) (.t 53)),oO 55 (.pick (.t 48) (.t 54) (.c bF)),oM 56 55,oTm 56 57 5,oTm 56 58 57,oF 58 59 (.faddr 3 (.t 1)),oF 58 60 (.load (.box 1) false 1 (.t 59)),oF 58 61 (.bin 0 [] .eql (.t 60) (.c (.str []))),oT 56 62 (.pick (.t 58) (.c bT) (.t 61)),oO 63 (.pick (.t 56) (.t 62) (.c bF)),oM 64 63,oT 64 65 (.faddr 7 (.t 1)),oT 64 66 (.load (.box 1) false 1 (.t 65)),oT 64 67 (.len 1 (.t 66)),oTm 64 68 6,oT 64 69 (.bin 0 [] .eql (.t 67) (.t 68)),oO 70 (.pick (.t 64) (.t 69) (.c bF)),oM 71 70,oT 71 72 (.faddr 0 (.t 1)),oT 71 73 (.load (.box 1) false 1 (.t 72)),oT 71 74 (.bin 0 [] .eql (.t 73) (cI 11)),oTm 71 75 74,oF 75 76 (.faddr 6 (.t 1)),oF 75 77 (.load (.box 1) false 1 (.t 76)),oF 75 78 (.len 1 (.t 77)),oF 75 79 (.bin 0 [] .eql (.t 78) (cI 0)),oT 71 80 (.pick (.t 75) (.c bT) (.t 79)),oO 81 (.pick (.t 71) (.t 80) (.c bF)),oM 2 81] .ret))))))))⟩
theorem ok119:ze Tryz.prog Tryz.f119 F119=true:=by kernel_rfl
def L120_0:ICode:= .loop [0,1,5,6] []
 (.seq
 (sr [
 oM 7 6,
 oM 8 1,
 oY 9 8,
 oP 10 .lss 7 9]
 (.cond (.t 10)
 .skip
 (.exit 0)))
 (.seq
 (.block 1
 (.seq
 (sr [
 oM 13 1,
 oM 14 6,
 oI 15 1 13 14,
 oH 16 15,
 oD 17 .lss 16 0,
 oM 18 17,
 oFm 18 19 1,
 oFm 18 20 6,
 oF 18 21 (.iaddr 1 (.t 19) (.t 20)),
 oF 18 22 (.load .imm false 1 (.t 21)),
 oFm 18 23 0,
 oF 18 24 (.nilck (.t 23)),
 oF 18 25 (.faddr 2 (.t 24)),
 oF 18 26 (.faddr 3 (.t 25)),
 oF 18 27 (.load .imm false 1 (.t 26)),
 oF 18 28 (.len 1 (.t 27)),
 oF 18 29 (.bin 0 [] .geq (.t 22) (.t 28)),
 oO 30 (.pick (.t 18) (.c bT) (.t 29))]
 (.cond (.t 30)
 (sr [
 oC 4 (.slice .fit 1 [])]
 .ret)
 .skip))
 (.region [
 oE 31 5,
 oM 32 0,
 oK 33 32,
 oA 34 2 33,
 oA 35 3 34,
 oH 36 35,
 oM 37 1,
 oM 38 6,
 oI 39 1 37 38,
 oH 40 39,
 oI 41 1 36 40,
 oH 42 41,
 oO 43 (.bslice 1 (.int .i64 0) 1 [(0,(.t 42))]),
 oO 44 (.append 1 8 (.t 31) (.t 43)),
 oE 5 44])))
 (.region [
 oM 11 6,
 oD 12 .add 11 1,
 oM 6 12])))
abbrev K120_0:List Nat:=[0,1]
abbrev B120_0:List Nat:=[]
def F120:IFn:=⟨46,2,[.tmp 4],false,false,none,(sr [oC 4 (.slice .fit 1 [])] (sr [oC 5 (.slice .fit 1 [])] (.seq (sr [oZ 6 0] (.block 0 L120_0)) (sr [oE 45 5,oE 4 45] .ret))))⟩
theorem ok120:ze Tryz.prog Tryz.f120 F120=true:=by kernel_rfl
def L143_0:ICode:= .loop [0,1,5] []
 (.seq
 (sr [
 oM 6 5,
 oM 7 0,
 oY 8 7,
 oP 9 .lss 6 8]
 (.cond (.t 9)
 .skip
 (.exit 0)))
 (.seq
 (.block 1
 (sr [
 oM 12 0,
 oM 13 5,
 oI 14 1 12 13,
 oG 15 14,
 oM 16 1,
 oP 17 .eql 15 16]
 (.cond (.t 17)
 (sr [
 oC 4 bT]
 .ret)
 .skip)))
 (.region [
 oM 10 5,
 oD 11 .add 10 1,
 oM 5 11])))
abbrev K143_0:List Nat:=[0,1]
abbrev B143_0:List Nat:=[]
def F143:IFn:=⟨18,2,[.tmp 4],false,false,none,(sr [oC 4 bF] (.seq (sr [oZ 5 0] (.block 0 L143_0)) (sr [oC 4 bF] .ret)))⟩
theorem ok143:ze Tryz.prog Tryz.f143 F143=true:=by kernel_rfl
def L121_0:ICode:= .loop [0,1,2,3,9] []
 (.seq
 (sr [
 oM 15 9,
 oM 16 1,
 oY 17 16,
 oP 18 .lss 15 17]
 (.cond (.t 18)
 .skip
 (.exit 0)))
 (.seq
 (.block 1
 (sr [
 oM 21 1,
 oM 22 9,
 oI 23 1 21 22,
 oH 24 23,
 oD 25 .lss 24 0,
 oM 26 25,
 oFm 26 27 1,
 oFm 26 28 9,
 oF 26 29 (.iaddr 1 (.t 27) (.t 28)),
 oF 26 30 (.load .imm false 1 (.t 29)),
 oFm 26 31 0,
 oF 26 32 (.nilck (.t 31)),
 oF 26 33 (.faddr 2 (.t 32)),
 oF 26 34 (.faddr 3 (.t 33)),
 oF 26 35 (.load .imm false 1 (.t 34)),
 oF 26 36 (.len 1 (.t 35)),
 oF 26 37 (.bin 0 [] .geq (.t 30) (.t 36)),
 oO 38 (.pick (.t 26) (.c bT) (.t 37)),
 oM 39 38,
 oFm 39 40 2,
 oFm 39 41 1,
 oFm 39 42 9,
 oF 39 43 (.iaddr 1 (.t 41) (.t 42)),
 oF 39 44 (.load .imm false 1 (.t 43)),
 oF 39 45 (pP 143 [.t 40,.t 44]),
 oF 39 46 (.un .not (.t 45)),
 oO 47 (.pick (.t 39) (.c bT) (.t 46)),
 oM 48 47,
 oFm 48 49 3,
 oFm 48 50 9,
 oF 48 51 (.iaddr 1 (.t 49) (.t 50)),
 oF 48 52 (.load .imm false 1 (.t 51)),
 oF 48 53 (.bin 0 [] .neq (.t 52) (cI 0)),
 oFm 48 54 53,
 oTm 54 55 0,
 oT 54 56 (.nilck (.t 55)),
 oT 54 57 (.faddr 2 (.t 56)),
 oT 54 58 (.faddr 3 (.t 57)),
 oT 54 59 (.load .imm false 1 (.t 58)),
 oTm 54 60 1,
 oTm 54 61 9,
 oT 54 62 (.iaddr 1 (.t 60) (.t 61)),
 oT 54 63 (.load .imm false 1 (.t 62)),
 oT 54 64 (.iaddr 1 (.t 59) (.t 63)),
 oT 54 65 (.load .imm false 1 (.t 64)),
 oTm 54 66 3,
 oTm 54 67 9,
 oT 54 68 (.iaddr 1 (.t 66) (.t 67)),
 oT 54 69 (.load .imm false 1 (.t 68)),
 oT 54 70 (.bin 0 [] .neq (.t 65) (.t 69)),
 oF 48 71 (.pick (.t 54) (.t 70) (.c bF)),
 oO 72 (.pick (.t 48) (.c bT) (.t 71))]
 (.cond (.t 72)
 (sr [
 oC 8 bF]
 .ret)
 .skip)))
 (.region [
 oM 19 9,
 oD 20 .add 19 1,
 oM 9 20])))
abbrev K121_0:List Nat:=[0,1,2,3]
abbrev B121_0:List Nat:=[]
def F121:IFn:=⟨73,4,[.tmp 8],false,false,none,(sr [oC 8 bF] (.seq (sr [oM 10 1,oY 11 10,oM 12 3,oY 13 12,oP 14 .neq 11 13] (.cond (.t 14) (sr [oC 8 bF] .ret) .skip)) (.seq (sr [oZ 9 0] (.block 0 L121_0)) (sr [oC 8 bT] .ret))))⟩
theorem ok121:ze Tryz.prog Tryz.f121 F121=true:=by kernel_rfl
def L122_0:ICode:= .loop [0,1,2,7] []
 (.seq
 (sr [
 oM 13 7,
 oM 14 1,
 oY 15 14,
 oP 16 .lss 13 15]
 (.cond (.t 16)
 .skip
 (.exit 0)))
 (.seq
 (.block 1
 (.seq
 (sr [
 oM 19 1,
 oM 20 7,
 oI 21 1 19 20,
 oH 22 21,
 oD 23 .lss 22 0,
 oM 24 23,
 oFm 24 25 1,
 oFm 24 26 7,
 oF 24 27 (.iaddr 1 (.t 25) (.t 26)),
 oF 24 28 (.load .imm false 1 (.t 27)),
 oFm 24 29 0,
 oF 24 30 (.nilck (.t 29)),
 oF 24 31 (.faddr 2 (.t 30)),
 oF 24 32 (.faddr 3 (.t 31)),
 oF 24 33 (.load .imm false 1 (.t 32)),
 oF 24 34 (.len 1 (.t 33)),
 oF 24 35 (.bin 0 [] .geq (.t 28) (.t 34)),
 oO 36 (.pick (.t 24) (.c bT) (.t 35)),
 oM 37 36,
 oFm 37 38 0,
 oF 37 39 (.nilck (.t 38)),
 oF 37 40 (.faddr 7 (.t 39)),
 oF 37 41 (.load .imm false 1 (.t 40)),
 oFm 37 42 1,
 oFm 37 43 7,
 oF 37 44 (.iaddr 1 (.t 42) (.t 43)),
 oF 37 45 (.load .imm false 1 (.t 44)),
 oF 37 46 (.iaddr 1 (.t 41) (.t 45)),
 oF 37 47 (.load .any false 1 (.t 46)),
 oO 48 (.pick (.t 37) (.c bT) (.t 47)),
 oM 49 48,
 oFm 49 50 2,
 oFm 49 51 7,
 oF 49 52 (.iaddr 1 (.t 50) (.t 51)),
 oF 49 53 (.load .imm false 1 (.t 52)),
 oF 49 54 (.bin 0 [] .neq (.t 53) (cI 0)),
 oFm 49 55 54,
 oTm 55 56 0,
 oT 55 57 (.nilck (.t 56)),
 oT 55 58 (.faddr 2 (.t 57)),
 oT 55 59 (.faddr 3 (.t 58)),
 oT 55 60 (.load .imm false 1 (.t 59)),
 oTm 55 61 1,
 oTm 55 62 7,
 oT 55 63 (.iaddr 1 (.t 61) (.t 62)),
 oT 55 64 (.load .imm false 1 (.t 63)),
 oT 55 65 (.iaddr 1 (.t 60) (.t 64)),
 oT 55 66 (.load .imm false 1 (.t 65)),
 oTm 55 67 2,
 oTm 55 68 7,
 oT 55 69 (.iaddr 1 (.t 67) (.t 68)),
 oT 55 70 (.load .imm false 1 (.t 69)),
 oT 55 71 (.bin 0 [] .neq (.t 66) (.t 70)),
 oF 49 72 (.pick (.t 55) (.t 71) (.c bF)),
 oO 73 (.pick (.t 49) (.c bT) (.t 72))]
 (.cond (.t 73)
 (sr [
 oC 6 bF]
 .ret)
 .skip))
 (.region [
 oM 74 0,
 oK 75 74,
 oA 76 7 75,
 oH 77 76,
 oM 78 1,
 oM 79 7,
 oI 80 1 78 79,
 oH 81 80,
 oI 82 1 77 81,
 oN (.store .any 1 (.t 82) (.c bT))])))
 (.region [
 oM 17 7,
 oD 18 .add 17 1,
 oM 7 18])))
abbrev K122_0:List Nat:=[0,1,2]
abbrev B122_0:List Nat:=[]
def F122:IFn:=⟨83,3,[.tmp 6],false,false,none,(sr [oC 6 bF] (.seq (sr [oM 8 1,oY 9 8,oM 10 2,oY 11 10,oP 12 .neq 9 11] (.cond (.t 12) (sr [oC 6 bF] .ret) .skip)) (.seq (sr [oZ 7 0] (.block 0 L122_0)) (sr [oC 6 bT] .ret))))⟩
theorem ok122:ze Tryz.prog Tryz.f122 F122=true:=by kernel_rfl
def F144:IFn:=⟨29,1,[.tmp 2,.tmp 3],false,false,none,(sr [oZ 2 0,oZ 3 0] (.seq (.block 0 (sr [oM 5 0,oD 6 .eql 5 18,oM 7 6,oFm 7 8 0,oF 7 9 (.bin 0 [] .eql (.t 8) (cI 19)),oO 10 (.pick (.t 7) (.c bT) (.t 9)),oM 11 10,oFm 11 12 0,oF 11 13 (.bin 0 [] .eql (.t 12) (cI 22)),oO 14 (.pick (.t 11) (.c bT) (.t 13)),oM 4 14] (.cond (.t 4) (sr [oZ 2 2,oZ 3 2] .ret) (sr [oM 16 0,oD 17 .eql 16 16,oM 18 17,oFm 18 19 0,oF 18 20 (.bin 0 [] .eql (.t 19) (cI 17)),oO 21 (.pick (.t 18) (.c bT) (.t 20)),oM 15 21] (.cond (.t 15) (sr [oZ 2 0,oZ 3 2] .ret) (sr [oM 23 0,oD 24 .geq 23 12,oM 25 24,oTm 25 26 0,oT 25 27 (.bin 0 [] .leq (.t 26) (cI 15)),oO 28 (.pick (.t 25) (.t 27) (.c bF)),oM 22 28] (.cond (.t 22) (sr [oZ 2 1,oZ 3 2] .ret) .skip))))))) (sr [oZ 2 1,oZ 3 1] .ret)))⟩
theorem ok144:ze Tryz.prog Tryz.f144 F144=true:=by kernel_rfl
def F145:IFn:=⟨9,1,[.tmp 2],false,false,none,(sr [oC 2 bF] (sr [oM 3 0,oD 4 .geq 3 20,oM 5 4,oTm 5 6 0,oT 5 7 (.bin 0 [] .leq (.t 6) (cI 28)),oO 8 (.pick (.t 5) (.t 7) (.c bF)),oM 2 8] .ret))⟩
theorem ok145:ze Tryz.prog Tryz.f145 F145=true:=by kernel_rfl
def F146:IFn:=⟨9,1,[.tmp 2],false,false,none,(sr [oC 2 bF] (sr [oM 3 0,oD 4 .geq 3 1,oM 5 4,oTm 5 6 0,oT 5 7 (.bin 0 [] .leq (.t 6) (cI 17)),oO 8 (.pick (.t 5) (.t 7) (.c bF)),oM 2 8] .ret))⟩
theorem ok146:ze Tryz.prog Tryz.f146 F146=true:=by kernel_rfl
def F123:IFn:=⟨345,4,[.tmp 8],false,false,none,(sr [oO 5 (.boxL 5 (.t 1)),oO 7 (.boxL 7 (.t 3)),oC 8 bF] (sr [oO 16 (.bslice 1 (.int .i64 0) 1 [(0,(cI 1))]),oO 17 (.bslice 1 (.int .i64 0) 1 [(0,(cI 2))]),oE 9 16,oE 10 17] (.seq (sr [oA 18 0 5,oL 19 5 18] (.block 0 (sr [oD 21 .eql 19 1,oM 20 21] (.cond (.t 20) (sr [oM 22 0,oA 23 4 5,oL 24 5 23,oE 25 2,cF 26 121 [(.t 22),(.t 24),(.t 25),(.c (.slice .fit 1 []))],oM 27 26,oTm 27 28 0,oT 27 29 (.faddr 5 (.t 5)),oT 27 30 (.load (.box 5) false 1 (.t 29)),oT 27 31 (.take 9),oT 27 32 (pF 122 [.t 28,.t 30,.t 31]),oO 33 (.pick (.t 27) (.t 32) (.c bF)),oM 8 33] .ret) (sr [oD 35 .eql 19 2,oM 34 35] (.cond (.t 34) (sr [oA 36 2 5,oL 37 5 36,oD 38 .eql 37 0,oM 39 38,oF 39 40 (.faddr 2 (.t 5)),oF 39 41 (.load (.box 5) false 1 (.t 40)),oF 39 42 (.bin 0 [] .eql (.t 41) (cI 1)),oO 43 (.pick (.t 39) (.c bT) (.t 42)),oM 44 43,oTm 44 45 0,oT 44 46 (.faddr 4 (.t 5)),oT 44 47 (.load (.box 5) false 1 (.t 46)),oT 44 48 (.take 2),oT 44 49 (pF 121 [(.t 45),(.t 47),(.t 48),(.c (.slice .fit 1 []))]),oO 50 (.pick (.t 44) (.t 49) (.c bF)),oM 51 50,oTm 51 52 0,oT 51 53 (.faddr 5 (.t 5)),oT 51 54 (.load (.box 5) false 1 (.t 53)),oT 51 55 (.take 10),oT 51 56 (pF 122 [.t 52,.t 54,.t 55]),oO 57 (.pick (.t 51) (.t 56) (.c bF)),oM 8 57] .ret) (sr [oD 59 .eql 19 3,oM 58 59] (.cond (.t 58) (sr [oA 61 1 5,oL 62 5 61,cP 63 144 [.t 62],oM 60 63,oX 64 60 0,oX 65 60 1,oM 11 64,oM 12 65] (sr [oA 66 1 5,oL 67 5 66,cP 68 145 [.t 67],oM 69 68,oTm 69 70 0,oT 69 71 (.faddr 4 (.t 5)),oT 69 72 (.load (.box 5) false 1 (.t 71)),oT 69 73 (.take 2),oTm 69 74 11,oT 69 75 (.bslice 1 (.int .i64 0) 1 [(0,(.t 74))]),oT 69 76 (pF 121 [.t 70,.t 72,.t 73,.t 75]),oO 77 (.pick (.t 69) (.t 76) (.c bF)),oM 78 77,oTm 78 79 0,oT 78 80 (.faddr 5 (.t 5)),oT 78 81 (.load (.box 5) false 1 (.t 80)),oTm 78 82 12,oT 78 83 (.bslice 1 (.int .i64 0) 1 [(0,(.t 82))]),oT 78 84 (pF 122 [.t 79,.t 81,.t 83]),oO 85 (.pick (.t 78) (.t 84) (.c bF)),oM 8 85] .ret)) (sr [oD 87 .eql 19 4,oM 86 87] (.cond (.t 86) (sr [oA 89 1 5,oL 90 5 89,cP 91 144 [.t 90],oM 88 91,oX 92 88 0,oX 93 88 1,oM 13 92,oM 14 93] (sr [oA 94 1 5,oL 95 5 94,cP 96 146 [.t 95],oM 97 96,oTm 97 98 0,oT 97 99 (.faddr 4 (.t 5)),oT 97 100 (.load (.box 5) false 1 (.t 99)),oT 97 101 (.take 2),oTm 97 102 13,oTm 97 103 13,oT 97 104 (.bslice 1 (.int .i64 0) 2 [(0,(.t 102)),(1,(.t 103))]),oT 97 105 (pF 121 [.t 98,.t 100,.t 101,.t 104]),oO 106 (.pick (.t 97) (.t 105) (.c bF)),oM 107 106,oTm 107 108 0,oT 107 109 (.nilck (.t 108)),oT 107 110 (.faddr 2 (.t 109)),oT 107 111 (.faddr 3 (.t 110)),oT 107 112 (.load .imm false 1 (.t 111)),oT 107 113 (.faddr 4 (.t 5)),oT 107 114 (.load (.box 5) false 1 (.t 113)),oT 107 115 (.iaddr 1 (.t 114) (cI 0)),oT 107 116 (.load .imm false 1 (.t 115)),oT 107 117 (.iaddr 1 (.t 112) (.t 116)),oT 107 118 (.load .imm false 1 (.t 117)),oTm 107 119 0,oT 107 120 (.nilck (.t 119)),oT 107 121 (.faddr 2 (.t 120)),oT 107 122 (.faddr 3 (.t 121)),oT 107 123 (.load .imm false 1 (.t 122)),oT 107 124 (.faddr 4 (.t 5)),oT 107 125 (.load (.box 5) false 1 (.t 124)),oT 107 126 (.iaddr 1 (.t 125) (cI 1)),oT 107 127 (.load .imm false 1 (.t 126)),oT 107 128 (.iaddr 1 (.t 123) (.t 127)),oT 107 129 (.load .imm false 1 (.t 128)),oT 107 130 (.bin 0 [] .eql (.t 118) (.t 129)),oO 131 (.pick (.t 107) (.t 130) (.c bF)),oM 132 131,oTm 132 133 0,oT 132 134 (.faddr 5 (.t 5)),oT 132 135 (.load (.box 5) false 1 (.t 134)),oTm 132 136 14,oT 132 137 (.bslice 1 (.int .i64 0) 1 [(0,(.t 136))]),oT 132 138 (pF 122 [.t 133,.t 135,.t 137]),oO 139 (.pick (.t 132) (.t 138) (.c bF)),oM 8 139] .ret)) (sr [oD 141 .eql 19 5,oM 140 141] (.cond (.t 140) (sr [oM 142 0,oK 143 142,oA 144 0 143,oO 145 (.load .imm true 2 (.t 144)),oA 146 3 5,oL 147 5 146,cP 148 62 [.t 145,.t 147],oD 149 .geq 148 0,oM 150 149,oTm 150 151 0,oT 150 152 (.faddr 4 (.t 5)),oT 150 153 (.load (.box 5) false 1 (.t 152)),oT 150 154 (.take 2),oTm 150 155 9,oT 150 156 (pF 121 [.t 151,.t 153,.t 154,.t 155]),oO 157 (.pick (.t 150) (.t 156) (.c bF)),oM 158 157,oTm 158 159 0,oT 158 160 (.faddr 5 (.t 5)),oT 158 161 (.load (.box 5) false 1 (.t 160)),oTm 158 162 9,oT 158 163 (pF 122 [.t 159,.t 161,.t 162]),oO 164 (.pick (.t 158) (.t 163) (.c bF)),oM 8 164] .ret) (sr [oD 166 .eql 19 6,oM 165 166] (.cond (.t 165) (sr [oM 167 0,oK 168 167,oA 169 0 168,oO 170 (.load .imm true 2 (.t 169)),oA 171 3 5,oL 172 5 171,cP 173 62 [.t 170,.t 172],oD 174 .geq 173 0,oM 175 174,oTm 175 176 0,oT 175 177 (.faddr 4 (.t 5)),oT 175 178 (.load (.box 5) false 1 (.t 177)),oT 175 179 (.take 2),oT 175 180 (.bslice 1 (.int .i64 0) 2 [(0,(cI 1)),(1,(cI 1))]),oT 175 181 (pF 121 [.t 176,.t 178,.t 179,.t 180]),oO 182 (.pick (.t 175) (.t 181) (.c bF)),oM 183 182,oT 183 184 (.faddr 5 (.t 5)),oT 183 185 (.load (.box 5) false 1 (.t 184)),oT 183 186 (.len 1 (.t 185)),oT 183 187 (.bin 0 [] .eql (.t 186) (cI 0)),oO 188 (.pick (.t 183) (.t 187) (.c bF)),oM 8 188] .ret) (sr [oD 190 .eql 19 7,oM 189 190] (.cond (.t 189) (sr [oM 191 0,oK 192 191,oA 193 0 192,oO 194 (.load .imm true 2 (.t 193)),oA 195 3 5,oL 196 5 195,cP 197 27 [.t 194,.t 196],oM 15 197] (sr [oM 198 15,oD 199 .geq 198 0,oM 200 199,oTm 200 201 0,oT 200 202 (.faddr 4 (.t 5)),oT 200 203 (.load (.box 5) false 1 (.t 202)),oT 200 204 (.take 2),oTm 200 205 0,oT 200 206 (.nilck (.t 205)),oT 200 207 (.faddr 0 (.t 206)),oT 200 208 (.faddr 1 (.t 207)),oT 200 209 (.load .imm false 1 (.t 208)),oTm 200 210 15,oT 200 211 (.iaddr 5 (.t 209) (.t 210)),oT 200 212 (.faddr 3 (.t 211)),oT 200 213 (.load .imm false 1 (.t 212)),oTm 200 214 0,oT 200 215 (.nilck (.t 214)),oT 200 216 (.faddr 0 (.t 215)),oT 200 217 (.faddr 1 (.t 216)),oT 200 218 (.load .imm false 1 (.t 217)),oTm 200 219 15,oT 200 220 (.iaddr 5 (.t 218) (.t 219)),oT 200 221 (.faddr 2 (.t 220)),oT 200 222 (.load .imm false 1 (.t 221)),oT 200 223 (.slc false 1 (.t 213) none (some (.t 222)) none),oT 200 224 (pF 121 [.t 201,.t 203,.t 204,.t 223]),oO 225 (.pick (.t 200) (.t 224) (.c bF)),oM 226 225,oTm 226 227 0,oT 226 228 (.faddr 5 (.t 5)),oT 226 229 (.load (.box 5) false 1 (.t 228)),oTm 226 230 0,oT 226 231 (.nilck (.t 230)),oT 226 232 (.faddr 0 (.t 231)),oT 226 233 (.faddr 1 (.t 232)),oT 226 234 (.load .imm false 1 (.t 233)),oTm 226 235 15,oT 226 236 (.iaddr 5 (.t 234) (.t 235)),oT 226 237 (.faddr 1 (.t 236)),oT 226 238 (.load .imm false 1 (.t 237)),oT 226 239 (.bslice 1 (.int .i64 0) 1 [(0,(.t 238))]),oT 226 240 (pF 122 [.t 227,.t 229,.t 239]),oO 241 (.pick (.t 226) (.t 240) (.c bF)),oM 8 241] .ret)) (sr [oD 243 .eql 19 8,oM 242 243] (.cond (.t 242) (sr [oA 244 4 5,oL 245 5 244,oY 246 245,oD 247 .eql 246 0,oM 248 247,oTm 248 249 0,oT 248 250 (.faddr 5 (.t 5)),oT 248 251 (.load (.box 5) false 1 (.t 250)),oT 248 252 (.take 9),oT 248 253 (pF 122 [.t 249,.t 251,.t 252]),oO 254 (.pick (.t 248) (.t 253) (.c bF)),oM 8 254] .ret) (sr [oD 256 .eql 19 9,oM 255 256] (.cond (.t 255) (sr [oM 257 0,oA 258 4 5,oL 259 5 258,oE 260 2,oE 261 9,cF 262 121 [.t 257,.t 259,.t 260,.t 261],oM 263 262,oT 263 264 (.faddr 5 (.t 5)),oT 263 265 (.load (.box 5) false 1 (.t 264)),oT 263 266 (.len 1 (.t 265)),oT 263 267 (.bin 0 [] .eql (.t 266) (cI 0)),oO 268 (.pick (.t 263) (.t 267) (.c bF)),oM 8 268] .ret) (sr [oD 270 .eql 19 12,oM 269 270] (.cond (.t 269) (sr [oA 271 0 7,oL 272 7 271,oM 273 272,oTm 273 274 0,oT 273 275 (.faddr 4 (.t 5)),oT 273 276 (.load (.box 5) false 1 (.t 275)),oT 273 277 (.take 2),oT 273 278 (.faddr 2 (.t 7)),oT 273 279 (.load (.box 7) false 1 (.t 278)),oT 273 280 (pF 121 [.t 274,.t 276,.t 277,.t 279]),oO 281 (.pick (.t 273) (.t 280) (.c bF)),oM 282 281,oT 282 283 (.faddr 5 (.t 5)),oT 282 284 (.load (.box 5) false 1 (.t 283)),oT 282 285 (.len 1 (.t 284)),oT 282 286 (.bin 0 [] .eql (.t 285) (cI 0)),oO 287 (.pick (.t 282) (.t 286) (.c bF)),oM 8 287] .ret) (sr [oD 289 .eql 19 13,oM 288 289] (.cond (.t 288) (sr [oA 290 1 7,oL 291 7 290,oM 292 291,oTm 292 293 0,oT 292 294 (.faddr 4 (.t 5)),oT 292 295 (.load (.box 5) false 1 (.t 294)),oT 292 296 (.take 2),oT 292 297 (.faddr 3 (.t 7)),oT 292 298 (.load (.box 7) false 1 (.t 297)),oT 292 299 (pF 121 [.t 293,.t 295,.t 296,.t 298]),oO 300 (.pick (.t 292) (.t 299) (.c bF)),oM 301 300,oT 301 302 (.faddr 5 (.t 5)),oT 301 303 (.load (.box 5) false 1 (.t 302)),oT 301 304 (.len 1 (.t 303)),oT 301 305 (.bin 0 [] .eql (.t 304) (cI 0)),oO 306 (.pick (.t 301) (.t 305) (.c bF)),oM 8 306] .ret) (sr [oD 308 .eql 19 14,oM 307 308] (.cond (.t 307) (sr [oA 309 1 7,oL 310 7 309,oM 311 310,oTm 311 312 0,oT 311 313 (.faddr 4 (.t 5)),oT 311 314 (.load (.box 5) false 1 (.t 313)),oT 311 315 (.take 2),oT 311 316 (.faddr 4 (.t 7)),oT 311 317 (.load (.box 7) false 1 (.t 316)),oT 311 318 (pF 121 [.t 312,.t 314,.t 315,.t 317]),oO 319 (.pick (.t 311) (.t 318) (.c bF)),oM 320 319,oT 320 321 (.faddr 5 (.t 5)),oT 320 322 (.load (.box 5) false 1 (.t 321)),oT 320 323 (.len 1 (.t 322)),oT 320 324 (.bin 0 [] .eql (.t 323) (cI 0)),oO 325 (.pick (.t 320) (.t 324) (.c bF)),oM 8 325] .ret) (sr [oD 327 .eql 19 15,oM 326 327] (.cond (.t 326) (sr [oM 328 0,oA 329 4 5,oL 330 5 329,oE 331 2,oM 332 0,oK 333 332,oA 334 2 333,oA 335 1 334,oH 336 335,oO 337 (.bslice 1 (.int .i64 0) 1 [(0,(.t 336))]),cF 338 121 [.t 328,.t 330,.t 331,.t 337],oM 339 338,oT 339 340 (.faddr 5 (.t 5)),oT 339 341 (.load (.box 5) false 1 (.t 340)),oT 339 342 (.len 1 (.t 341)),oT 339 343 (.bin 0 [] .eql (.t 342) (cI 0)),oO 344 (.pick (.t 339) (.t 343) (.c bF)),oM 8 344] .ret) .skip)))))))))))))))))))))))))))) (sr [oC 8 bF] .ret))))⟩
theorem ok123:ze Tryz.prog Tryz.f123 F123=true:=by kernel_rfl
def F91:IFn:=⟨160,5,[.tmp 10],false,false,none,(sr [oO 6 (.boxL 6 (.t 1)),oO 8 (.boxL 8 (.t 3)),oC 10 bF] (.seq (sr [oLa 15 6 8 6,cP 16 119 [.t 15],oU 17 16] (.cond (.t 17) (sr [oC 10 bF] .ret) .skip)) (.seq (sr [oA 18 0 6,oL 19 6 18] (.block 0 (sr [oD 21 .eql 19 10,oM 20 21] (.cond (.t 20) (sr [oA 22 1 8,oL 23 8 22,oM 24 0,oA 25 5 6,oL 26 6 25,cF 27 120 [.t 24,.t 26],oA 28 3 8,oL 29 8 28,oA 30 4 8,oL 31 8 30,oO 32 (.build [.bool false,.bool false,.slice .fit 1 [],.slice .fit 1 [],.slice .fit 1 []] [(0,1,(.c bT)),(1,1,(.t 23)),(2,1,(.t 27)),(3,1,(.t 29)),(4,1,(.t 31))]),oO 11 (.boxL 11 (.c (.agg [.bool false,.bool false,.slice .fit 1 [],.slice .fit 1 [],.slice .fit 1 []]))),oS 11 5 11 32] (sr [oM 33 0,oA 34 4 6,oL 35 6 34,oM 36 2,oO 37 (.bslice 1 (.int .i64 0) 1 [(0,(cI 2))]),cF 38 121 [.t 33,.t 35,.t 36,.t 37],oM 39 38,oTm 39 40 0,oT 39 41 (.faddr 7 (.t 6)),oT 39 42 (.load (.box 6) false 1 (.t 41)),oT 39 43 (.iaddr 1 (.t 42) (cI 0)),oT 39 44 (.load .imm false 1 (.t 43)),oTm 39 45 2,oT 39 46 (.load (.box 11) true 5 (.t 11)),oTm 39 47 4,oT 39 48 (.bin 0 [] .add (.t 47) (cI 1)),oT 39 49 (pF 63 [.t 40,.t 44,.t 45,.t 46,.t 48]),oO 50 (.pick (.t 39) (.t 49) (.c bF)),oM 51 50,oTm 51 52 0,oT 51 53 (.faddr 7 (.t 6)),oT 51 54 (.load (.box 6) false 1 (.t 53)),oT 51 55 (.iaddr 1 (.t 54) (cI 1)),oT 51 56 (.load .imm false 1 (.t 55)),oTm 51 57 2,oT 51 58 (.load (.box 11) true 5 (.t 11)),oTm 51 59 4,oT 51 60 (.bin 0 [] .add (.t 59) (cI 1)),oT 51 61 (pF 63 [.t 52,.t 56,.t 57,.t 58,.t 60]),oO 62 (.pick (.t 51) (.t 61) (.c bF)),oM 12 62] (sr [oM 63 12,oM 64 63,oT 64 65 (.faddr 5 (.t 6)),oT 64 66 (.load (.box 6) false 1 (.t 65)),oT 64 67 (.len 1 (.t 66)),oT 64 68 (.bin 0 [] .eql (.t 67) (cI 0)),oTm 64 69 68,oF 69 70 (.load (.box 6) true 8 (.t 6)),oF 69 71 (pP 73 [.t 70]),oF 69 72 (.un .not (.t 71)),oT 64 73 (.pick (.t 69) (.c bT) (.t 72)),oO 74 (.pick (.t 64) (.t 73) (.c bF)),oM 75 74,oTm 75 76 0,oT 75 77 (.faddr 5 (.t 6)),oT 75 78 (.load (.box 6) false 1 (.t 77)),oT 75 79 (.faddr 5 (.t 6)),oT 75 80 (.load (.box 6) false 1 (.t 79)),oT 75 81 (.len 1 (.t 80)),oT 75 82 (.mkslice 1 (.int .i64 0) 8 (.t 81) (.t 81)),oT 75 83 (pF 122 [.t 76,.t 78,.t 82]),oO 84 (.pick (.t 75) (.t 83) (.c bF)),oM 10 84] .ret))) (sr [oD 86 .eql 19 11,oM 85 86] (.cond (.t 85) (sr [oM 87 0,oA 88 6 6,oL 89 6 88,cF 90 120 [.t 87,.t 89],oM 91 0,oA 92 5 6,oL 93 6 92,cF 94 120 [.t 91,.t 93],oO 95 (.build [.bool false,.bool false,.slice .fit 1 [],.slice .fit 1 [],.slice .fit 1 []] [(1,1,(.c bT)),(3,1,(.t 90)),(4,1,(.t 94))]),oO 13 (.boxL 13 (.c (.agg [.bool false,.bool false,.slice .fit 1 [],.slice .fit 1 [],.slice .fit 1 []]))),oS 13 5 13 95] (.seq (sr [oM 96 0,oA 97 4 6,oL 98 6 97,oM 99 2,oM 100 0,oA 101 6 6,oL 102 6 101,cF 103 120 [.t 100,.t 102],cF 104 121 [.t 96,.t 98,.t 99,.t 103],oU 105 104,oM 106 105,oFm 106 107 0,oF 106 108 (.faddr 6 (.t 6)),oF 106 109 (.load (.box 6) false 1 (.t 108)),oF 106 110 (.faddr 6 (.t 6)),oF 106 111 (.load (.box 6) false 1 (.t 110)),oF 106 112 (.len 1 (.t 111)),oF 106 113 (.mkslice 1 (.int .i64 0) 8 (.t 112) (.t 112)),oF 106 114 (pF 122 [.t 107,.t 109,.t 113]),oF 106 115 (.un .not (.t 114)),oO 116 (.pick (.t 106) (.c bT) (.t 115))] (.cond (.t 116) (sr [oC 10 bF] .ret) .skip)) (sr [oC 14 (.slice .fit 1 [])] (sr [oE 117 14,oE 118 2,oO 119 (.append 1 8 (.t 117) (.t 118)),oE 14 119] (sr [oE 120 14,oA 121 6 6,oL 122 6 121,oO 123 (.append 1 8 (.t 120) (.t 122)),oE 14 123] (sr [oM 124 0,oA 125 7 6,oL 126 6 125,oO 127 (.iaddr 1 (.t 126) (cI 0)),oH 128 127,oE 129 14,oLa 130 13 5 13,oM 131 4,oD 132 .add 131 1,cF 133 63 [.t 124,.t 128,.t 129,.t 130,.t 132],oM 134 133,oT 134 135 (.faddr 5 (.t 6)),oT 134 136 (.load (.box 6) false 1 (.t 135)),oT 134 137 (.len 1 (.t 136)),oT 134 138 (.bin 0 [] .eql (.t 137) (cI 0)),oTm 134 139 138,oF 139 140 (.load (.box 6) true 8 (.t 6)),oF 139 141 (pP 73 [.t 140]),oF 139 142 (.un .not (.t 141)),oT 134 143 (.pick (.t 139) (.c bT) (.t 142)),oO 144 (.pick (.t 134) (.t 143) (.c bF)),oM 145 144,oTm 145 146 0,oT 145 147 (.faddr 5 (.t 6)),oT 145 148 (.load (.box 6) false 1 (.t 147)),oT 145 149 (.faddr 5 (.t 6)),oT 145 150 (.load (.box 6) false 1 (.t 149)),oT 145 151 (.len 1 (.t 150)),oT 145 152 (.mkslice 1 (.int .i64 0) 8 (.t 151) (.t 151)),oT 145 153 (pF 122 [.t 146,.t 148,.t 152]),oO 154 (.pick (.t 145) (.t 153) (.c bF)),oM 10 154] .ret)))))) .skip)))))) (sr [oM 155 0,oLa 156 6 8 6,oE 157 2,oLa 158 8 5 8,cF 159 123 [.t 155,.t 156,.t 157,.t 158],oM 10 159] .ret))))⟩
theorem ok91:ze Tryz.prog Tryz.f91 F91=true:=by kernel_rfl
def L63_0:ICode:= .loop [0,1,4,8,11,12] []
 (.seq
 (sr [
 oM 16 12,
 oM 17 1,
 oY 18 17,
 oP 19 .lss 16 18]
 (.cond (.t 19)
 .skip
 (.exit 0)))
 (.seq
 (.block 1
 (.seq
 (sr [
 oM 22 4,
 oD 23 .gtr 22 100,
 oM 24 23,
 oFm 24 25 0,
 oFm 24 26 1,
 oFm 24 27 12,
 oF 24 28 (.iaddr 8 (.t 26) (.t 27)),
 oF 24 29 (.load .imm true 8 (.t 28)),
 oFm 24 30 11,
 oF 24 31 (.load (.box 8) true 5 (.t 8)),
 oFm 24 32 4,
 oF 24 33 (pF 91 [.t 25,.t 29,.t 30,.t 31,.t 32]),
 oF 24 34 (.un .not (.t 33)),
 oO 35 (.pick (.t 24) (.c bT) (.t 34)),
 oM 36 35,
 oFm 36 37 1,
 oFm 36 38 12,
 oF 36 39 (.iaddr 8 (.t 37) (.t 38)),
 oF 36 40 (.load .imm true 8 (.t 39)),
 oF 36 41 (pP 73 [.t 40]),
 oFm 36 42 12,
 oFm 36 43 1,
 oF 36 44 (.len 1 (.t 43)),
 oF 36 45 (.bin 0 [] .sub (.t 44) (cI 1)),
 oF 36 46 (.bin 0 [] .eql (.t 42) (.t 45)),
 oF 36 47 (.bin 1 [] .neq (.t 41) (.t 46)),
 oO 48 (.pick (.t 36) (.c bT) (.t 47))]
 (.cond (.t 48)
 (sr [
 oC 10 bF]
 .ret)
 .skip))
 (.region [
 oE 49 11,
 oM 50 1,
 oM 51 12,
 oI 52 8 50 51,
 oA 53 5 52,
 oG 54 53,
 oO 55 (.append 1 8 (.t 49) (.t 54)),
 oE 11 55])))
 (.region [
 oM 20 12,
 oD 21 .add 20 1,
 oM 12 21])))
abbrev K63_0:List Nat:=[0,1,4,8]
abbrev B63_0:List Nat:=[8]
def F63:IFn:=⟨59,5,[.tmp 10],false,false,none,(sr [oO 8 (.boxL 8 (.t 3)),oC 10 bF] (sr [oC 11 (.slice .fit 1 [])] (sr [oE 13 11,oE 14 2,oO 15 (.append 1 8 (.t 13) (.t 14)),oE 11 15] (.seq (sr [oZ 12 0] (.block 0 L63_0)) (sr [oE 56 1,oY 57 56,oD 58 .gtr 57 0,oM 10 58] .ret)))))⟩
theorem ok63:ze Tryz.prog Tryz.f63 F63=true:=by kernel_rfl
def L43_0:ICode:= .loop [2,3,5] []
 (.seq
 (sr [
 oM 31 5,
 oA 32 3 3,
 oL 33 3 32,
 oY 34 33,
 oP 35 .lss 31 34]
 (.cond (.t 35)
 .skip
 (.exit 0)))
 (.seq
 (.block 1
 (sr [
 oA 38 3 3,
 oL 39 3 38,
 oM 40 5,
 oI 41 1 39 40,
 oG 42 41,
 oD 43 .neq 42 1,
 oM 44 43,
 oT 44 45 (.faddr 3 (.t 3)),
 oT 44 46 (.load (.box 3) false 1 (.t 45)),
 oTm 44 47 5,
 oT 44 48 (.iaddr 1 (.t 46) (.t 47)),
 oT 44 49 (.load .any false 1 (.t 48)),
 oT 44 50 (.bin 0 [] .neq (.t 49) (cI 2)),
 oO 51 (.pick (.t 44) (.t 50) (.c bF))]
 (.cond (.t 51)
 (sr [
 oC 4 bF]
 .ret)
 .skip)))
 (.region [
 oM 36 5,
 oD 37 .add 36 1,
 oM 5 37])))
def L43_1:ICode:= .loop [3,6,7,8] []
 (.seq
 (sr [
 oM 60 8,
 oA 61 2 3,
 oL 62 3 61,
 oP 63 .lss 60 62]
 (.cond (.t 63)
 .skip
 (.exit 2)))
 (.seq
 (.block 3
 (sr [
 oM 66 6,
 oK 67 66,
 oA 68 7 67,
 oG 69 68,
 oM 70 8,
 oI 71 1 69 70,
 oN (.store .any 1 (.t 71) (.c bT))]
 (.region [
 oE 72 7,
 oM 73 8,
 oO 74 (.bslice 1 (.int .i64 0) 1 [(0,(.t 73))]),
 oO 75 (.append 1 8 (.t 72) (.t 74)),
 oE 7 75])))
 (.region [
 oM 64 8,
 oD 65 .add 64 1,
 oM 8 65])))
abbrev K43_0:List Nat:=[2,3]
abbrev B43_0:List Nat:=[2,3]
abbrev K43_1:List Nat:=[3,6]
abbrev B43_1:List Nat:=[3]
def F43:IFn:=⟨82,2,[.tmp 4],true,false,none,(sr [oO 2 (.boxL 2 (.t 0)),oO 3 (.boxL 3 (.t 1)),oC 4 bF] (.seq (sr [oA 9 2 3,oL 10 3 9,oD 11 .lss 10 0,oM 12 11,oF 12 13 (.faddr 2 (.t 3)),oF 12 14 (.load (.box 3) false 1 (.t 13)),oF 12 15 (.bin 0 [] .gtr (.t 14) (cI 8)),oO 16 (.pick (.t 12) (.c bT) (.t 15)),oM 17 16,oF 17 18 (.faddr 2 (.t 3)),oF 17 19 (.load (.box 3) false 1 (.t 18)),oF 17 20 (.faddr 3 (.t 3)),oF 17 21 (.load (.box 3) false 1 (.t 20)),oF 17 22 (.len 1 (.t 21)),oF 17 23 (.bin 0 [] .gtr (.t 19) (.t 22)),oO 24 (.pick (.t 17) (.c bT) (.t 23)),oM 25 24,oF 25 26 (.faddr 3 (.t 3)),oF 25 27 (.load (.box 3) false 1 (.t 26)),oF 25 28 (.len 1 (.t 27)),oF 25 29 (.bin 0 [] .gtr (.t 28) (cI 20000)),oO 30 (.pick (.t 25) (.c bT) (.t 29))] (.cond (.t 30) (sr [oC 4 bF] .ret) .skip)) (.seq (sr [oZ 5 0] (.block 0 L43_0)) (sr [oLa 52 2 2 2,oLa 53 3 5 3,oA 54 3 3,oL 55 3 54,oY 56 55,oO 57 (.mksliceS 1 (.bool false) 1 (.t 56) (.t 56)),oO 58 (.build [.slice .fit 2 [],.slice .fit 5 [],.str [],.int .i64 0,.int .i64 0,.slice .fit 1 [],.slice .fit 8 [],.slice .fit 1 []] [(0,2,(.t 52)),(2,5,(.t 53)),(7,1,(.t 57))]),oO 59 (.boxI (.t 58)),oM 6 59] (sr [oC 7 (.slice .fit 1 [])] (.seq (sr [oZ 8 0] (.block 2 L43_1)) (sr [oM 76 6,oA 77 4 3,oL 78 3 77,oE 79 7,oO 80 (.build [.bool false,.bool false,.slice .fit 1 [],.slice .fit 1 [],.slice .fit 1 []] []),cF 81 63 [.t 76,.t 78,.t 79,.t 80,cI 1],oM 4 81] .ret)))))))⟩
theorem ok43:ze Tryz.prog Tryz.f43 F43=true:=by kernel_rfl
def L25_0:ICode:= .loop [1,4] []
 (.seq
 (sr [
 oM 8 4,
 oA 9 1 1,
 oL 10 1 9,
 oY 11 10,
 oP 12 .lss 8 11]
 (.cond (.t 12)
 .skip
 (.exit 0)))
 (.seq
 (.block 1
 (sr [
 oLa 15 1 2 1,
 oA 16 1 1,
 oL 17 1 16,
 oM 18 4,
 oI 19 5 17 18,
 oO 20 (.load .imm true 5 (.t 19)),
 cP 21 43 [.t 15,.t 20],
 oU 22 21]
 (.cond (.t 22)
 (sr [
 oM 23 4,
 oZ 2 80,
 oM 3 23]
 .ret)
 .skip)))
 (.region [
 oM 13 4,
 oD 14 .add 13 1,
 oM 4 14])))
abbrev K25_0:List Nat:=[1]
abbrev B25_0:List Nat:=[1]
def F25:IFn:=⟨24,1,[.tmp 2,.tmp 3],false,false,none,(sr [oO 1 (.boxL 1 (.t 0)),oZ 2 0,oZ 3 0] (.seq (sr [oLa 5 1 2 1,cP 6 42 [.t 5],oU 7 6] (.cond (.t 7) (sr [oZ 2 1,oZ 3 0] .ret) .skip)) (.seq (sr [oZ 4 0] (.block 0 L25_0)) (sr [oZ 2 0,oZ 3 0] .ret))))⟩
theorem ok25:ze Tryz.prog Tryz.f25 F25=true:=by kernel_rfl
def F28:IFn:=⟨15,1,[.tmp 2],false,false,none,(sr [oC 2 bF] (sr [oM 3 0,oK 4 3,oA 5 9 4,oG 6 5,oM 7 6,oFm 7 8 0,oF 7 9 (.nilck (.t 8)),oF 7 10 (.faddr 4 (.t 9)),oF 7 11 (.faddr 0 (.t 10)),oF 7 12 (.load .any false 1 (.t 11)),oF 7 13 (.bin 0 [] .neq (.t 12) (cI 0)),oO 14 (.pick (.t 7) (.c bT) (.t 13)),oM 2 14] .ret))⟩
theorem ok28:ze Tryz.prog Tryz.f28 F28=true:=by kernel_rfl
def F64:IFn:=⟨24,1,[.tmp 2],false,false,none,(sr [oC 2 bF] (.seq (sr [oM 3 0,cF 4 28 [.t 3]] (.cond (.t 4) (sr [oC 2 bF] .ret) .skip)) (.seq (sr [oM 5 0,oK 6 5,oA 7 4 6,oA 8 4 7,oG 9 8,oD 10 .lss 9 1] (.cond (.t 10) (sr [oM 11 0,oK 12 11,oA 13 9 12,oN (.store .any 1 (.t 13) (.c bT))] (sr [oC 2 bF] .ret)) .skip)) (sr [oM 14 0,oM 15 0,oK 16 15,oA 17 4 16,oA 18 4 17,oG 19 18,oD 20 .sub 19 1,oK 21 14,oA 22 4 21,oA 23 4 22,oV 23 20] (sr [oC 2 bT] .ret)))))⟩
theorem ok64:ze Tryz.prog Tryz.f64 F64=true:=by kernel_rfl
def L65_0:ICode:= .loop [0,1,5,6] []
 (.seq
 (sr [
 oM 7 6,
 oM 8 1,
 oY 9 8,
 oP 10 .lss 7 9]
 (.cond (.t 10)
 .skip
 (.exit 0)))
 (.seq
 (.block 1
 (.region [
 oE 13 5,
 oM 14 0,
 oM 15 1,
 oM 16 6,
 oI 17 1 15 16,
 oG 18 17,
 oI 19 1 14 18,
 oG 20 19,
 oO 21 (.bslice 1 (.int .i64 0) 1 [(0,(.t 20))]),
 oO 22 (.append 1 8 (.t 13) (.t 21)),
 oE 5 22]))
 (.region [
 oM 11 6,
 oD 12 .add 11 1,
 oM 6 12])))
abbrev K65_0:List Nat:=[0,1]
abbrev B65_0:List Nat:=[]
def F65:IFn:=⟨24,2,[.tmp 4],false,false,none,(sr [oC 4 (.slice .fit 1 [])] (sr [oC 5 (.slice .fit 1 [])] (.seq (sr [oZ 6 0] (.block 0 L65_0)) (sr [oE 23 5,oE 4 23] .ret))))⟩
theorem ok65:ze Tryz.prog Tryz.f65 F65=true:=by kernel_rfl
def L66_0:ICode:= .loop [0,1,2,6] []
 (.seq
 (sr [
 oM 7 6,
 oM 8 1,
 oY 9 8,
 oP 10 .lss 7 9]
 (.cond (.t 10)
 .skip
 (.exit 0)))
 (.seq
 (.block 1
 (.region [
 oM 13 0,
 oM 14 1,
 oM 15 6,
 oI 16 1 14 15,
 oH 17 16,
 oM 18 2,
 oM 19 6,
 oI 20 1 18 19,
 oH 21 20,
 oI 22 1 13 17,
 oV 22 21]))
 (.region [
 oM 11 6,
 oD 12 .add 11 1,
 oM 6 12])))
abbrev K66_0:List Nat:=[0,1,2]
abbrev B66_0:List Nat:=[]
def F66:IFn:=⟨23,3,[],false,false,none,(sr [oZ 6 0] (.block 0 L66_0))⟩
theorem ok66:ze Tryz.prog Tryz.f66 F66=true:=by kernel_rfl
def L67_0:ICode:= .loop [0,2,3,5,8] [9]
 (.block 1
 (sr [
 oM 10 2,
 oA 11 6 5,
 oL 12 5 11,
 oE 13 3,
 cF 14 66 [.t 10,.t 12,.t 13]]
 (sr [
 oM 15 0,
 oA 16 7 5,
 oL 17 5 16,
 oO 18 (.iaddr 1 (.t 17) (cI 0)),
 oG 19 18,
 oM 20 2,
 cF 21 44 [.t 15,.t 19,.t 20],
 oO 9 (.boxL 9 (.c (.agg [.int .i64 0,.slice .fit 1 []]))),
 oS 9 2 9 21]
 (.seq
 (.block 2
 (sr [
 oM 23 0,
 cF 24 28 [.t 23],
 oM 25 24,
 oF 25 26 (.faddr 0 (.t 9)),
 oF 25 27 (.load (.box 9) false 1 (.t 26)),
 oF 25 28 (.bin 0 [] .eql (.t 27) (cI 15)),
 oO 29 (.pick (.t 25) (.c bT) (.t 28)),
 oM 22 29]
 (.cond (.t 22)
 (sr [
 oLa 30 9 2 9,
 oS 8 2 8 30]
 .ret)
 (sr [
 oA 32 0 9,
 oL 33 9 32,
 oD 34 .eql 33 14,
 oM 31 34]
 (.cond (.t 31)
 (sr [
 oE 35 2,
 oA 36 5 5,
 oL 37 5 36,
 oA 38 1 9,
 oL 39 9 38,
 cF 40 66 [.t 35,.t 37,.t 39]]
 (sr [
 oO 41 (.build [.int .i64 0,.slice .fit 1 []] []),
 oS 8 2 8 41]
 .ret))
 .skip)))))
 (.region [
 oA 42 1 9,
 oL 43 9 42,
 oE 3 43])))))
abbrev K67_0:List Nat:=[0,2,5,8]
abbrev B67_0:List Nat:=[5]
def F67:IFn:=⟨44,4,[.cell 8 true 2],false,false,none,(sr [oO 5 (.boxL 5 (.t 1)),oO 8 (.boxL 8 (.c (.agg [.int .i64 0,.slice .fit 1 []])))] (.block 0 L67_0))⟩
theorem ok67:ze Tryz.prog Tryz.f67 F67=true:=by kernel_rfl
def F124:IFn:=⟨4,1,[.tmp 2],false,false,none,(sr [oZ 2 0] (.seq (sr [oM 3 0] (.cond (.t 3) (sr [oZ 2 1] .ret) .skip)) (sr [oZ 2 0] .ret)))⟩
theorem ok124:ze Tryz.prog Tryz.f124 F124=true:=by kernel_rfl
def F92:IFn:=⟨49,2,[.tmp 4],false,false,none,(sr [oZ 4 0] (.seq (sr [oM 5 0] (.block 0 (sr [oD 7 .eql 5 20,oM 6 7] (.cond (.t 6) (sr [oM 8 1,oB 9 .sub (cI 0) (.t 8),oM 4 9] .ret) (sr [oD 11 .eql 5 21,oM 10 11] (.cond (.t 10) (sr [oM 12 1,oB 13 .sub (cI (-1)) (.t 12),oM 4 13] .ret) (sr [oD 15 .eql 5 22,oM 14 15] (.cond (.t 14) (sr [oM 16 1,oD 17 .eql 16 0,cP 18 124 [.t 17],oM 4 18] .ret) (sr [oD 20 .eql 5 26,oM 19 20] (.cond (.t 19) (sr [oM 21 1,oD 22 .and 21 255,oM 4 22] .ret) (sr [oD 24 .eql 5 27,oM 23 24] (.cond (.t 23) (sr [oM 25 1,oD 26 .and 25 65535,oM 4 26] .ret) (sr [oD 28 .eql 5 28,oM 27 28] (.cond (.t 27) (sr [oM 29 1,oD 30 .and 29 4294967295,oM 4 30] .ret) (sr [oD 32 .eql 5 23,oM 31 32] (.cond (.t 31) (sr [oM 33 1,oD 34 .and 33 255,oD 35 .xor 34 128,oD 36 .sub 35 128,oM 4 36] .ret) (sr [oD 38 .eql 5 24,oM 37 38] (.cond (.t 37) (sr [oM 39 1,oD 40 .and 39 65535,oD 41 .xor 40 32768,oD 42 .sub 41 32768,oM 4 42] .ret) (sr [oD 44 .eql 5 25,oM 43 44] (.cond (.t 43) (sr [oM 45 1,oD 46 .and 45 4294967295,oD 47 .xor 46 2147483648,oD 48 .sub 47 2147483648,oM 4 48] .ret) .skip)))))))))))))))))))) (sr [oZ 4 0] .ret)))⟩
theorem ok92:ze Tryz.prog Tryz.f92 F92=true:=by kernel_rfl
def F93:IFn:=⟨108,3,[.tmp 6,.tmp 7],false,false,none,(sr [oZ 6 0,oC 7 bF] (.seq (sr [oM 8 0] (.block 0 (sr [oD 10 .eql 8 1,oM 9 10] (.cond (.t 9) (sr [oM 11 1,oM 12 2,oP 13 .add 11 12,oM 6 13,oC 7 bT] .ret) (sr [oD 15 .eql 8 2,oM 14 15] (.cond (.t 14) (sr [oM 16 1,oM 17 2,oP 18 .sub 16 17,oM 6 18,oC 7 bT] .ret) (sr [oD 20 .eql 8 3,oM 19 20] (.cond (.t 19) (sr [oM 21 1,oM 22 2,oP 23 .mul 21 22,oM 6 23,oC 7 bT] .ret) (.seq (sr [oD 25 .eql 8 4,oM 24 25] (.cond (.t 24) .skip (.region [oD 26 .eql 8 5,oM 24 26]))) (.cond (.t 24) (.seq (sr [oM 27 2,oD 28 .eql 27 0] (.cond (.t 28) (sr [oZ 6 0,oC 7 bF] .ret) .skip)) (.seq (sr [oM 29 0,oD 30 .eql 29 4] (.cond (.t 30) (sr [oM 31 1,oM 32 2,oP 33 .quo 31 32,oM 6 33,oC 7 bT] .ret) .skip)) (sr [oM 34 1,oM 35 2,oP 36 .rem 34 35,oM 6 36,oC 7 bT] .ret))) (sr [oD 38 .eql 8 6,oM 37 38] (.cond (.t 37) (sr [oM 39 1,oM 40 2,oP 41 .and 39 40,oM 6 41,oC 7 bT] .ret) (sr [oD 43 .eql 8 7,oM 42 43] (.cond (.t 42) (sr [oM 44 1,oM 45 2,oP 46 .or 44 45,oM 6 46,oC 7 bT] .ret) (sr [oD 48 .eql 8 8,oM 47 48] (.cond (.t 47) (sr [oM 49 1,oM 50 2,oP 51 .xor 49 50,oM 6 51,oC 7 bT] .ret) (sr [oD 53 .eql 8 9,oM 52 53] (.cond (.t 52) (sr [oM 54 1,oM 55 2,oD 56 .and 55 63,oP 57 .shl 54 56,oM 6 57,oC 7 bT] .ret) (sr [oD 59 .eql 8 10,oM 58 59] (.cond (.t 58) (sr [oM 60 1,oM 61 2,oD 62 .and 61 63,oP 63 .shr 60 62,oM 6 63,oC 7 bT] .ret) (sr [oD 65 .eql 8 11,oM 64 65] (.cond (.t 64) (sr [oM 66 1,oO 67 (.conv .u64 (.t 66)),oM 68 2,oD 69 .and 68 63,oP 70 .shr 67 69,oO 71 (.conv .i64 (.t 70)),oM 6 71,oC 7 bT] .ret) (sr [oD 73 .eql 8 12,oM 72 73] (.cond (.t 72) (sr [oM 74 1,oM 75 2,oP 76 .lss 74 75,cP 77 124 [.t 76],oM 6 77,oC 7 bT] .ret) (sr [oD 79 .eql 8 13,oM 78 79] (.cond (.t 78) (sr [oM 80 1,oM 81 2,oP 82 .leq 80 81,cP 83 124 [.t 82],oM 6 83,oC 7 bT] .ret) (sr [oD 85 .eql 8 14,oM 84 85] (.cond (.t 84) (sr [oM 86 1,oM 87 2,oP 88 .gtr 86 87,cP 89 124 [.t 88],oM 6 89,oC 7 bT] .ret) (sr [oD 91 .eql 8 15,oM 90 91] (.cond (.t 90) (sr [oM 92 1,oM 93 2,oP 94 .geq 92 93,cP 95 124 [.t 94],oM 6 95,oC 7 bT] .ret) (sr [oD 97 .eql 8 16,oM 96 97] (.cond (.t 96) (sr [oM 98 1,oM 99 2,oP 100 .eql 98 99,cP 101 124 [.t 100],oM 6 101,oC 7 bT] .ret) (sr [oD 103 .eql 8 17,oM 102 103] (.cond (.t 102) (sr [oM 104 1,oM 105 2,oP 106 .neq 104 105,cP 107 124 [.t 106],oM 6 107,oC 7 bT] .ret) .skip)))))))))))))))))))))))))))))))))) (sr [oZ 6 0,oC 7 bF] .ret)))⟩
theorem ok93:ze Tryz.prog Tryz.f93 F93=true:=by kernel_rfl
def F94:IFn:=⟨25,3,[.tmp 6],false,false,none,(sr [oC 6 bF] (.seq (sr [oM 7 2,oD 8 .lss 7 0,oM 9 8,oFm 9 10 2,oFm 9 11 0,oF 9 12 (.nilck (.t 11)),oF 9 13 (.faddr 3 (.t 12)),oF 9 14 (.load .any false 1 (.t 13)),oFm 9 15 1,oF 9 16 (.iaddr 1 (.t 14) (.t 15)),oF 9 17 (.load .any false 1 (.t 16)),oF 9 18 (.len 1 (.t 17)),oF 9 19 (.bin 0 [] .geq (.t 10) (.t 18)),oO 20 (.pick (.t 9) (.c bT) (.t 19))] (.cond (.t 20) (sr [oM 21 0,oK 22 21,oA 23 4 22,oA 24 0 23,oN (.store .any 1 (.t 24) (cI 3))] (sr [oC 6 bF] .ret)) .skip)) (sr [oC 6 bT] .ret)))⟩
theorem ok94:ze Tryz.prog Tryz.f94 F94=true:=by kernel_rfl
def F68:IFn:=⟨156,3,[.tmp 6],false,false,none,(sr [oO 4 (.boxL 4 (.t 1)),oZ 6 0] (sr [oM 11 0,oM 12 0,oK 13 12,oA 14 4 13,oA 15 3 14,oG 16 15,oD 17 .add 16 1,oK 18 11,oA 19 4 18,oA 20 3 19,oV 20 17] (sr [oM 21 0,oK 22 21,oA 23 0 22,oW 24 2 23,oA 25 3 4,oL 26 4 25,cP 27 62 [.t 24,.t 26],oM 7 27] (.seq (sr [oA 28 0 4,oL 29 4 28] (.block 0 (sr [oD 31 .eql 29 3,oM 30 31] (.cond (.t 30) (sr [oA 32 1 4,oL 33 4 32,oE 34 2,oO 35 (.iaddr 1 (.t 34) (cI 0)),oH 36 35,cP 37 92 [.t 33,.t 36],oM 6 37] .ret) (sr [oD 39 .eql 29 4,oM 38 39] (.cond (.t 38) (sr [oA 41 1 4,oL 42 4 41,oM 43 2,oO 44 (.iaddr 1 (.t 43) (cI 0)),oH 45 44,oM 46 2,oO 47 (.iaddr 1 (.t 46) (cI 1)),oH 48 47,cP 49 93 [.t 42,.t 45,.t 48],oM 40 49,oX 50 40 0,oX 51 40 1,oM 8 50,oM 9 51] (.seq (sr [oM 52 9,oU 53 52] (.cond (.t 53) (.region [oM 54 0,oK 55 54,oA 56 4 55,oA 57 0 56,oN (.store .any 1 (.t 57) (cI 2))]) .skip)) (sr [oM 58 8,oM 6 58] .ret))) (sr [oD 60 .eql 29 5,oM 59 60] (.cond (.t 59) (sr [oM 61 0,oM 62 7,oM 63 2,oO 64 (.iaddr 1 (.t 63) (cI 0)),oG 65 64,cF 66 94 [.t 61,.t 62,.t 65]] (.cond (.t 66) (sr [oM 67 0,oK 68 67,oA 69 3 68,oG 70 69,oM 71 7,oI 72 1 70 71,oH 73 72,oE 74 2,oO 75 (.iaddr 1 (.t 74) (cI 0)),oH 76 75,oI 77 1 73 76,oG 78 77,oM 6 78] .ret) .skip)) (sr [oD 80 .eql 29 6,oM 79 80] (.cond (.t 79) (sr [oM 81 0,oM 82 7,oM 83 2,oO 84 (.iaddr 1 (.t 83) (cI 0)),oG 85 84,cF 86 94 [.t 81,.t 82,.t 85]] (.cond (.t 86) (.region [oM 87 0,oK 88 87,oA 89 3 88,oG 90 89,oM 91 7,oI 92 1 90 91,oH 93 92,oM 94 2,oO 95 (.iaddr 1 (.t 94) (cI 0)),oH 96 95,oM 97 2,oO 98 (.iaddr 1 (.t 97) (cI 1)),oH 99 98,oI 100 1 93 96,oV 100 99]) .skip)) (sr [oD 102 .eql 29 7,oM 101 102] (.cond (.t 101) (sr [oM 103 0,oM 104 0,oK 105 104,oA 106 0 105,oW 107 2 106,oA 108 3 4,oL 109 4 108,cP 110 27 [.t 107,.t 109],oE 111 2,cF 112 26 [.t 103,.t 110,.t 111],oM 6 112] .ret) (sr [oD 114 .eql 29 9,oM 113 114] (.cond (.t 113) (.region [oM 115 0,oM 116 0,oK 117 116,oA 118 4 117,oA 119 2 118,oO 120 (.loadT .any (.t 119)),oE 121 2,oO 122 (.iaddr 1 (.t 121) (cI 0)),oH 123 122,oO 124 (.bslice 1 (.int .i64 0) 1 [(0,(.t 123))]),oO 125 (.append 1 8 (.t 120) (.t 124)),oK 126 115,oA 127 4 126,oA 128 2 127,oN (.storeT .any (.t 128) 125)]) (sr [oD 130 .eql 29 8,oM 129 130] (.cond (.t 129) (.seq (sr [oM 131 0,oK 132 131,oA 133 2 132,oG 134 133,oY 135 134,oD 136 .eql 135 0] (.cond (.t 136) (sr [oM 137 0,oK 138 137,oA 139 4 138,oA 140 0 139,oN (.store .any 1 (.t 140) (cI 4))] (sr [oZ 6 0] .ret)) .skip)) (sr [oM 141 0,oK 142 141,oA 143 2 142,oG 144 143,oO 145 (.iaddr 1 (.t 144) (cI 0)),oG 146 145,oM 10 146] (sr [oM 147 0,oM 148 0,oK 149 148,oA 150 2 149,oG 151 150,oO 152 (.slc false 1 (.t 151) (some (cI 1)) none none),oK 153 147,oA 154 2 153,oV 154 152] (sr [oM 155 10,oM 6 155] .ret)))) .skip)))))))))))))))) (sr [oZ 6 0] .ret)))))⟩
theorem ok68:ze Tryz.prog Tryz.f68 F68=true:=by kernel_rfl
def L44_0:ICode:= .loop [0,1,2,6,7] [8,10]
 (.seq
 (sr [
 oM 13 7,
 oM 14 1,
 oY 15 14,
 oP 16 .lss 13 15]
 (.cond (.t 16)
 .skip
 (.exit 0)))
 (.seq
 (.block 1
 (sr [
 oM 19 1,
 oM 20 7,
 oI 21 8 19 20,
 oW 22 8 21,
 oO 8 (.boxL 8 (.c (.agg [.int .i64 0,.int .i64 0,.int .i64 0,.str [],.slice .fit 1 [],.slice .fit 1 [],.slice .fit 1 [],.slice .fit 1 []]))),
 oS 8 8 8 22]
 (.seq
 (sr [
 oM 23 0,
 cF 24 64 [.t 23],
 oU 25 24]
 (.cond (.t 25)
 (sr [
 oO 26 (.build [.int .i64 0,.slice .fit 1 []] []),
 oS 6 2 6 26]
 .ret)
 .skip))
 (sr [
 oM 27 2,
 oA 28 4 8,
 oL 29 8 28,
 cF 30 65 [.t 27,.t 29],
 oE 9 30]
 (sr [
 oO 10 (.boxL 10 (.c (.agg [.int .i64 0,.slice .fit 1 []])))]
 (.seq
 (sr [
 oA 31 0 8,
 oL 32 8 31]
 (.block 2
 (.seq
 (sr [
 oD 54 .eql 32 1,
 oM 53 54]
 (.cond (.t 53)
 .skip
 (.region [
 oD 55 .eql 32 2,
 oM 53 55])))
 (.cond (.t 53)
 (.region [
 oM 56 2,
 oA 57 5 8,
 oL 58 8 57,
 oO 59 (.iaddr 1 (.t 58) (cI 0)),
 oH 60 59,
 oA 61 2 8,
 oL 62 8 61,
 oI 63 1 56 60,
 oV 63 62])
 (.seq
 (sr [
 oD 65 .eql 32 12,
 oM 64 65]
 (.cond (.t 64)
 .skip
 (sr [
 oD 66 .eql 32 13,
 oM 64 66]
 (.cond (.t 64)
 .skip
 (sr [
 oD 67 .eql 32 14,
 oM 64 67]
 (.cond (.t 64)
 .skip
 (.region [
 oD 68 .eql 32 15,
 oM 64 68])))))))
 (.cond (.t 64)
 (sr [
 oA 69 0 8,
 oL 70 8 69,
 oE 71 9,
 oO 72 (.build [.int .i64 0,.slice .fit 1 []] [(0,1,(.t 70)),(1,1,(.t 71))]),
 oS 6 2 6 72]
 .ret)
 (sr [
 oD 74 .eql 32 10,
 oM 73 74]
 (.cond (.t 73)
 (sr [
 oZ 11 1]
 (.seq
 (sr [
 oE 75 9,
 oO 76 (.iaddr 1 (.t 75) (cI 0)),
 oG 77 76,
 oD 78 .neq 77 0]
 (.cond (.t 78)
 (.region [
 oZ 11 0])
 .skip))
 (sr [
 oM 79 0,
 oA 80 7 8,
 oL 81 8 80,
 oM 82 11,
 oI 83 1 81 82,
 oG 84 83,
 oM 85 2,
 cF 86 44 [.t 79,.t 84,.t 85],
 oS 10 2 10 86]
 (sr [
 oM 87 0,
 cF 88 28 [.t 87],
 oU 89 88,
 oM 90 89,
 oT 90 91 (.faddr 0 (.t 10)),
 oT 90 92 (.load (.box 10) false 1 (.t 91)),
 oT 90 93 (.bin 0 [] .eql (.t 92) (cI 12)),
 oO 94 (.pick (.t 90) (.t 93) (.c bF))]
 (.cond (.t 94)
 (sr [
 oM 95 2,
 oA 96 5 8,
 oL 97 8 96,
 oA 98 1 10,
 oL 99 10 98,
 cF 100 66 [.t 95,.t 97,.t 99]]
 (.region [
 oO 101 (.build [.int .i64 0,.slice .fit 1 []] []),
 oS 10 2 10 101]))
 .skip)))))
 (sr [
 oD 103 .eql 32 11,
 oM 102 103]
 (.cond (.t 102)
 (.region [
 oM 104 0,
 oLa 105 8 8 8,
 oM 106 2,
 oE 107 9,
 cF 108 67 [.t 104,.t 105,.t 106,.t 107],
 oS 10 2 10 108])
 (sr [
 oM 33 0,
 oLa 34 8 8 8,
 oE 35 9,
 cF 36 68 [.t 33,.t 34,.t 35],
 oM 12 36]
 (sr [
 oM 37 0,
 cF 38 28 [.t 37],
 oU 39 38,
 oM 40 39,
 oT 40 41 (.faddr 5 (.t 8)),
 oT 40 42 (.load (.box 8) false 1 (.t 41)),
 oT 40 43 (.len 1 (.t 42)),
 oT 40 44 (.bin 0 [] .gtr (.t 43) (cI 0)),
 oO 45 (.pick (.t 40) (.t 44) (.c bF))]
 (.cond (.t 45)
 (.region [
 oM 46 2,
 oA 47 5 8,
 oL 48 8 47,
 oO 49 (.iaddr 1 (.t 48) (cI 0)),
 oG 50 49,
 oM 51 12,
 oI 52 1 46 50,
 oV 52 51])
 .skip)))))))))))))
 (sr [
 oM 109 0,
 cF 110 28 [.t 109],
 oM 111 110,
 oF 111 112 (.faddr 0 (.t 10)),
 oF 111 113 (.load (.box 10) false 1 (.t 112)),
 oF 111 114 (.bin 0 [] .neq (.t 113) (cI 0)),
 oO 115 (.pick (.t 111) (.c bT) (.t 114))]
 (.cond (.t 115)
 (sr [
 oLa 116 10 2 10,
 oS 6 2 6 116]
 .ret)
 .skip))))))))
 (.region [
 oM 17 7,
 oD 18 .add 17 1,
 oM 7 18])))
abbrev K44_0:List Nat:=[0,1,2,6]
abbrev B44_0:List Nat:=[]
def F44:IFn:=⟨118,3,[.cell 6 true 2],false,false,none,(sr [oO 6 (.boxL 6 (.c (.agg [.int .i64 0,.slice .fit 1 []])))] (.seq (sr [oZ 7 0] (.block 0 L44_0)) (sr [oO 117 (.build [.int .i64 0,.slice .fit 1 []] []),oS 6 2 6 117] .ret)))⟩
theorem ok44:ze Tryz.prog Tryz.f44 F44=true:=by kernel_rfl
def L26_0:ICode:= .loop [0,2,7,8,9] []
 (.seq
 (sr [
 oM 23 9,
 oM 24 2,
 oY 25 24,
 oP 26 .lss 23 25]
 (.cond (.t 26)
 .skip
 (.exit 0)))
 (.seq
 (.block 1
 (.region [
 oM 29 8,
 oM 30 9,
 oM 31 2,
 oM 32 9,
 oI 33 1 31 32,
 oG 34 33,
 oI 35 1 29 30,
 oV 35 34]))
 (.region [
 oM 27 9,
 oD 28 .add 27 1,
 oM 9 28])))
abbrev K26_0:List Nat:=[0,2,7,8]
def F26:IFn:=⟨53,3,[.tmp 6],true,false,none,(sr [oZ 6 0] (sr [oM 11 0,oK 12 11,oA 13 0 12,oA 14 1 13,oG 15 14,oM 16 1,oI 17 5 15 16,oW 18 5 17,oO 7 (.boxL 7 (.c (.agg [.str [],.int .i64 0,.int .i64 0,.slice .fit 1 [],.slice .fit 8 []]))),oS 7 5 7 18] (sr [oA 19 3 7,oL 20 7 19,oY 21 20,oO 22 (.mksliceS 1 (.int .i64 0) 8 (.t 21) (.t 21)),oE 8 22] (.seq (sr [oZ 9 0] (.block 0 L26_0)) (sr [oM 36 0,oA 37 4 7,oL 38 7 37,oE 39 8,cF 40 44 [.t 36,.t 38,.t 39],oO 10 (.boxL 10 (.c (.agg [.int .i64 0,.slice .fit 1 []]))),oS 10 2 10 40] (.seq (sr [oM 41 0,cF 42 28 [.t 41],oM 43 42,oF 43 44 (.faddr 1 (.t 10)),oF 43 45 (.load (.box 10) false 1 (.t 44)),oF 43 46 (.len 1 (.t 45)),oF 43 47 (.bin 0 [] .eql (.t 46) (cI 0)),oO 48 (.pick (.t 43) (.c bT) (.t 47))] (.cond (.t 48) (sr [oZ 6 0] .ret) .skip)) (sr [oA 49 1 10,oL 50 10 49,oO 51 (.iaddr 1 (.t 50) (cI 0)),oG 52 51,oM 6 52] .ret)))))))⟩
theorem ok26:ze Tryz.prog Tryz.f26 F26=true:=by kernel_rfl
def L13_0:ICode:= .loop [3,6,9,10] []
 (.seq
 (sr [
 oM 27 10,
 oA 28 0 3,
 oL 29 3 28,
 oY 30 29,
 oP 31 .lss 27 30]
 (.cond (.t 31)
 .skip
 (.exit 0)))
 (.seq
 (.block 1
 (.region [
 oM 34 9,
 oM 35 9,
 oK 36 35,
 oA 37 3 36,
 oO 38 (.loadT .any (.t 37)),
 oA 39 0 3,
 oL 40 3 39,
 oM 41 10,
 oI 42 2 40 41,
 oA 43 1 42,
 oH 44 43,
 oO 45 (.mksliceS 1 (.int .i64 0) 8 (.t 44) (.t 44)),
 oO 46 (.bslice 1 (.slice .fit 1 []) 1 [(0,(.t 45))]),
 oO 47 (.append 1 24 (.t 38) (.t 46)),
 oK 48 34,
 oA 49 3 48,
 oN (.storeT .any (.t 49) 47)]))
 (.region [
 oM 32 10,
 oD 33 .add 32 1,
 oM 10 33])))
abbrev K13_0:List Nat:=[3,6,9]
abbrev B13_0:List Nat:=[3,6]
def F13:IFn:=⟨70,3,[.cell 6 true 5],true,false,none,(sr [oO 3 (.boxL 3 (.t 0)),oO 6 (.boxL 6 (.c (.agg [.int .i64 0,.int .i64 0,.slice .fit 1 [],.int .i64 0,.int .i64 0])))] (.seq (sr [oLa 13 3 2 3,cP 14 25 [.t 13],oM 12 14,oX 15 12 0,oX 16 12 1,oM 7 15,oM 8 16] (sr [oM 17 7,oD 18 .neq 17 0] (.cond (.t 18) (sr [oO 19 (.build [.int .i64 0,.int .i64 0,.slice .fit 1 [],.int .i64 0,.int .i64 0] []),oS 6 5 6 19] .ret) .skip))) (sr [oLa 20 3 2 3,oE 21 1,oM 22 2,oO 23 (.max2 (.t 22) (cI 0)),oO 24 (.build [.int .i64 0,.int .i64 0,.slice .fit 1 [],.int .i64 0,.int .i64 0] [(4,1,(.t 23))]),oO 25 (.buildF [.slice .fit 2 [],.slice .fit 5 [],.slice .fit 1 [],.slice .fit 1 [],.int .i64 0,.int .i64 0,.slice .fit 1 [],.int .i64 0,.int .i64 0,.bool false] [(0,2,(.t 20)),(2,1,(.t 21)),(4,5,(.t 24))]),oO 26 (.boxS 10 (.t 25)),oM 9 26] (.seq (sr [oZ 10 0] (.block 0 L13_0)) (sr [oM 50 9,oLa 51 3 2 3,cP 52 27 [(.t 51),(.c (.str [109,97,105,110]))],cF 53 26 [(.t 50),(.t 52),(.c (.slice .fit 1 []))],oM 11 53] (.seq (sr [oM 54 9,cF 55 28 [.t 54],oU 56 55] (.cond (.t 56) (.region [oM 57 9,oM 58 9,oM 59 11,oK 60 57,oA 61 4 60,oA 62 0 61,oN (.store .any 1 (.t 62) (cI 1)),oK 63 58,oA 64 4 63,oA 65 1 64,oV 65 59]) .skip)) (sr [oM 66 9,oK 67 66,oA 68 4 67,oW 69 5 68,oS 6 5 6 69] .ret)))))))⟩
theorem ok13:ze Tryz.prog Tryz.f13 F13=true:=by kernel_rfl
def F79:IFn:=⟨21,1,[.tmp 2],false,false,none,(sr [oC 2 bF] (sr [oM 3 0,oB 4 .geq (.t 3) (.c (.int .i32 97)),oM 5 4,oTm 5 6 0,oT 5 7 (.bin 0 [] .leq (.t 6) (.c (.int .i32 122))),oO 8 (.pick (.t 5) (.t 7) (.c bF)),oM 9 8,oFm 9 10 0,oF 9 11 (.bin 0 [] .geq (.t 10) (.c (.int .i32 65))),oFm 9 12 11,oTm 12 13 0,oT 12 14 (.bin 0 [] .leq (.t 13) (.c (.int .i32 90))),oF 9 15 (.pick (.t 12) (.t 14) (.c bF)),oO 16 (.pick (.t 9) (.c bT) (.t 15)),oM 17 16,oFm 17 18 0,oF 17 19 (.bin 0 [] .eql (.t 18) (.c (.int .i32 95))),oO 20 (.pick (.t 17) (.c bT) (.t 19)),oM 2 20] .ret))⟩
theorem ok79:ze Tryz.prog Tryz.f79 F79=true:=by kernel_rfl
def F107:IFn:=⟨9,1,[.tmp 2],false,false,none,(sr [oC 2 bF] (sr [oM 3 0,oB 4 .geq (.t 3) (.c (.int .i32 48)),oM 5 4,oTm 5 6 0,oT 5 7 (.bin 0 [] .leq (.t 6) (.c (.int .i32 57))),oO 8 (.pick (.t 5) (.t 7) (.c bF)),oM 2 8] .ret))⟩
theorem ok107:ze Tryz.prog Tryz.f107 F107=true:=by kernel_rfl
def L80_0:ICode:= .loop [0,6] []
 (sr [
 oO 7 (.next 6 (.t 6)),
 oX 8 7 0]
 (.seq
 (.cond (.t 8)
 .skip
 (.exit 0))
 (.block 1
 (sr [
 oX 9 7 1,
 oX 10 7 2,
 oM 3 9,
 oM 4 10]
 (sr [
 oM 11 4,
 cP 12 79 [.t 11],
 oU 13 12,
 oM 14 13,
 oTm 14 15 4,
 oT 14 16 (pP 107 [.t 15]),
 oT 14 17 (.un .not (.t 16)),
 oO 18 (.pick (.t 14) (.t 17) (.c bF))]
 (.cond (.t 18)
 (sr [
 oM 19 0,
 oM 20 3,
 oO 21 (.slc true 0 (.t 19) none (some (.t 20)) none),
 oM 2 21]
 .ret)
 .skip))))))
abbrev K80_0:List Nat:=[0,6]
abbrev B80_0:List Nat:=[]
def F80:IFn:=⟨23,1,[.tmp 2],false,false,none,(sr [oC 2 (.str [])] (.seq (sr [oM 5 0,oO 6 (.rng 6 (.t 5))] (.block 0 L80_0)) (sr [oM 22 0,oM 2 22] .ret)))⟩
theorem ok80:ze Tryz.prog Tryz.f80 F80=true:=by kernel_rfl
def F81:IFn:=⟨23,1,[.tmp 2],false,false,none,(sr [oC 2 bF] (.seq (sr [oM 3 0] (.block 0 (.seq (sr [oB 5 .eql (.t 3) (.c (.str [105,110,116])),oM 4 5] (.cond (.t 4) .skip (sr [oB 6 .eql (.t 3) (.c (.str [98,111,111,108])),oM 4 6] (.cond (.t 4) .skip (sr [oB 7 .eql (.t 3) (.c (.str [105,102])),oM 4 7] (.cond (.t 4) .skip (sr [oB 8 .eql (.t 3) (.c (.str [101,108,115,101])),oM 4 8] (.cond (.t 4) .skip (sr [oB 9 .eql (.t 3) (.c (.str [119,104,105,108,101])),oM 4 9] (.cond (.t 4) .skip (sr [oB 10 .eql (.t 3) (.c (.str [98,114,101,97,107])),oM 4 10] (.cond (.t 4) .skip (sr [oB 11 .eql (.t 3) (.c (.str [99,111,110,116,105,110,117,101])),oM 4 11] (.cond (.t 4) .skip (sr [oB 12 .eql (.t 3) (.c (.str [114,101,116,117,114,110])),oM 4 12] (.cond (.t 4) .skip (sr [oB 13 .eql (.t 3) (.c (.str [112,114,105,110,116])),oM 4 13] (.cond (.t 4) .skip (sr [oB 14 .eql (.t 3) (.c (.str [114,101,97,100])),oM 4 14] (.cond (.t 4) .skip (sr [oB 15 .eql (.t 3) (.c (.str [116,114,117,101])),oM 4 15] (.cond (.t 4) .skip (sr [oB 16 .eql (.t 3) (.c (.str [102,97,108,115,101])),oM 4 16] (.cond (.t 4) .skip (sr [oB 17 .eql (.t 3) (.c (.str [105,56])),oM 4 17] (.cond (.t 4) .skip (sr [oB 18 .eql (.t 3) (.c (.str [105,49,54])),oM 4 18] (.cond (.t 4) .skip (sr [oB 19 .eql (.t 3) (.c (.str [105,51,50])),oM 4 19] (.cond (.t 4) .skip (sr [oB 20 .eql (.t 3) (.c (.str [117,56])),oM 4 20] (.cond (.t 4) .skip (sr [oB 21 .eql (.t 3) (.c (.str [117,49,54])),oM 4 21] (.cond (.t 4) .skip (.region [oB 22 .eql (.t 3) (.c (.str [117,51,50])),oM 4 22]))))))))))))))))))))))))))))))))))) (.cond (.t 4) (sr [oC 2 bT] .ret) .skip)))) (sr [oC 2 bF] .ret)))⟩
theorem ok81:ze Tryz.prog Tryz.f81 F81=true:=by kernel_rfl
def F54:IFn:=⟨27,1,[.tmp 2],false,false,none,(sr [oC 2 bF] (sr [oM 3 0,oB 4 .neq (.t 3) (.c (.str [])),oM 5 4,oTm 5 6 0,oT 5 7 (.idxS (.t 6) (cI 0)),oT 5 8 (.conv .i32 (.t 7)),oT 5 9 (pP 79 [.t 8]),oO 10 (.pick (.t 5) (.t 9) (.c bF)),oM 11 10,oTm 11 12 0,oT 11 13 (pP 80 [.t 12]),oTm 11 14 0,oT 11 15 (.bin 0 [] .eql (.t 13) (.t 14)),oO 16 (.pick (.t 11) (.t 15) (.c bF)),oM 17 16,oTm 17 18 0,oT 17 19 (.len 0 (.t 18)),oT 17 20 (.bin 0 [] .leq (.t 19) (cI 20)),oO 21 (.pick (.t 17) (.t 20) (.c bF)),oM 22 21,oTm 22 23 0,oT 22 24 (pP 81 [.t 23]),oT 22 25 (.un .not (.t 24)),oO 26 (.pick (.t 22) (.t 25) (.c bF)),oM 2 26] .ret))⟩
theorem ok54:ze Tryz.prog Tryz.f54 F54=true:=by kernel_rfl
def F55:IFn:=⟨9,1,[.tmp 2],false,false,none,(sr [oC 2 bF] (sr [oM 3 0,oD 4 .eql 3 1,oM 5 4,oFm 5 6 0,oF 5 7 (.bin 0 [] .eql (.t 6) (cI 2)),oO 8 (.pick (.t 5) (.c bT) (.t 7)),oM 2 8] .ret))⟩
theorem ok55:ze Tryz.prog Tryz.f55 F55=true:=by kernel_rfl
def L82_0:ICode:= .loop [0,1,7,8] []
 (sr [
 oP 9 .lss 8 7]
 (.seq
 (.cond (.t 9)
 .skip
 (.exit 0))
 (.seq
 (.block 1
 (sr [
 oM 10 8,
 oM 5 10]
 (sr [
 oM 11 1,
 oM 12 0,
 oM 13 5,
 oI 14 5 12 13,
 oW 15 5 14,
 oO 16 (.call false (.t 11) [.t 15])]
 (.cond (.t 16)
 (sr [
 oM 17 5,
 oM 4 17]
 .ret)
 .skip))))
 (.region [
 oD 18 .add 8 1,
 oM 8 18]))))
abbrev K82_0:List Nat:=[0,1,7]
abbrev B82_0:List Nat:=[]
def F82:IFn:=⟨19,2,[.tmp 4],false,false,none,(sr [oZ 4 0] (.seq (sr [oM 6 0,oY 7 6,oZ 8 0] (.block 0 L82_0)) (sr [oO 4 (.mv (cI (-1)))] .ret)))⟩
theorem ok82:ze Tryz.prog Tryz.f82 F82=true:=by kernel_rfl
end PE.U

set_option maxRecDepth 100000
namespace PE.U
open Go PE Go.Proofs
def F83:IFn:=⟨8,2,[.tmp 3],false,false,none,(sr [oO 2 (.boxL 2 (.t 0)),oC 3 bF] (sr [oA 4 0 2,oL 5 2 4,oG 6 1,oP 7 .eql 5 6,oM 3 7] .ret))⟩
theorem ok83:ze Tryz.prog Tryz.f83 F83=true:=by kernel_rfl
def F56:IFn:=⟨9,2,[.tmp 4],false,false,none,(sr [oO 2 (.boxL 2 (.t 0)),oO 3 (.boxI (.t 1)),oZ 4 0] (sr [oA 5 1 2,oL 6 2 5,oO 7 (.mkfn 83 [] [.t 3]),cF 8 82 [.t 6,.t 7],oM 4 8] .ret))⟩
theorem ok56:ze Tryz.prog Tryz.f56 F56=true:=by kernel_rfl
def L38_0:ICode:= .loop [1,3,11,12,13] [5]
 (sr [
 oP 14 .lss 13 12]
 (.seq
 (.cond (.t 14)
 .skip
 (.exit 0))
 (.seq
 (.block 1
 (sr [
 oI 15 2 11 13,
 oW 16 2 15,
 oO 5 (.boxL 5 (.c (.agg [.str [],.int .i64 0]))),
 oS 5 2 5 16]
 (sr [
 oM 17 3,
 oA 18 0 5,
 oL 19 5 18,
 oO 20 (.lookup true false (.int .i64 0) (.t 17) (.t 19)),
 oD 21 .add 20 1,
 oN (.mapset true (.t 17) (.t 19) (.t 21))]
 (sr [
 oA 22 0 5,
 oL 23 5 22,
 cP 24 54 [.t 23],
 oU 25 24,
 oM 26 25,
 oF 26 27 (.faddr 1 (.t 5)),
 oF 26 28 (.load (.box 5) false 1 (.t 27)),
 oF 26 29 (.bin 0 [] .lss (.t 28) (cI 1)),
 oO 30 (.pick (.t 26) (.c bT) (.t 29)),
 oM 31 30,
 oF 31 32 (.faddr 1 (.t 5)),
 oF 31 33 (.load (.box 5) false 1 (.t 32)),
 oF 31 34 (.bin 0 [] .gtr (.t 33) (cI 1000)),
 oO 35 (.pick (.t 31) (.c bT) (.t 34))]
 (.cond (.t 35)
 (sr [
 oC 2 bF]
 .ret)
 .skip)))))
 (.region [
 oD 36 .add 13 1,
 oM 13 36]))))
def L38_1:ICode:= .loop [1,3,38,39,40] [7]
 (sr [
 oP 41 .lss 40 39]
 (.seq
 (.cond (.t 41)
 .skip
 (.exit 2))
 (.seq
 (.block 3
 (sr [
 oI 42 5 38 40,
 oW 43 5 42,
 oO 7 (.boxL 7 (.c (.agg [.str [],.int .i64 0,.int .i64 0,.slice .fit 1 [],.slice .fit 8 []]))),
 oS 7 5 7 43]
 (sr [
 oM 44 3,
 oA 45 0 7,
 oL 46 7 45,
 oO 47 (.lookup true false (.int .i64 0) (.t 44) (.t 46)),
 oD 48 .add 47 1,
 oN (.mapset true (.t 44) (.t 46) (.t 48))]
 (sr [
 oA 49 0 7,
 oL 50 7 49,
 cP 51 54 [.t 50],
 oU 52 51,
 oM 53 52,
 oF 53 54 (.faddr 1 (.t 7)),
 oF 53 55 (.load (.box 7) false 1 (.t 54)),
 oF 53 56 (pP 55 [.t 55]),
 oF 53 57 (.un .not (.t 56)),
 oO 58 (.pick (.t 53) (.c bT) (.t 57)),
 oM 59 58,
 oF 59 60 (.faddr 2 (.t 7)),
 oF 59 61 (.load (.box 7) false 1 (.t 60)),
 oF 59 62 (.bin 0 [] .lss (.t 61) (cI 0)),
 oO 63 (.pick (.t 59) (.c bT) (.t 62)),
 oM 64 63,
 oF 64 65 (.faddr 2 (.t 7)),
 oF 64 66 (.load (.box 7) false 1 (.t 65)),
 oF 64 67 (.faddr 3 (.t 7)),
 oF 64 68 (.load (.box 7) false 1 (.t 67)),
 oF 64 69 (.len 1 (.t 68)),
 oF 64 70 (.bin 0 [] .gtr (.t 66) (.t 69)),
 oO 71 (.pick (.t 64) (.c bT) (.t 70))]
 (.cond (.t 71)
 (sr [
 oC 2 bF]
 .ret)
 .skip)))))
 (.region [
 oD 72 .add 40 1,
 oM 40 72]))))
abbrev K38_0:List Nat:=[1,3,11,12]
abbrev B38_0:List Nat:=[1]
abbrev K38_1:List Nat:=[1,3,38,39]
abbrev B38_1:List Nat:=[1]
def F38:IFn:=⟨107,1,[.tmp 2],true,false,none,(sr [oO 1 (.boxL 1 (.t 0)),oC 2 bF] (sr [oO 9 (.mkmap),oM 3 9] (.seq (sr [oA 10 0 1,oL 11 1 10,oY 12 11,oZ 13 0] (.block 0 L38_0)) (.seq (sr [oA 37 1 1,oL 38 1 37,oY 39 38,oZ 40 0] (.block 2 L38_1)) (sr [oLa 73 1 2 1,cP 74 56 [(.t 73),(.c (.str [109,97,105,110]))],oM 8 74] (sr [oM 75 3,oO 76 (.len 2 (.t 75)),oA 77 0 1,oL 78 1 77,oY 79 78,oA 80 1 1,oL 81 1 80,oY 82 81,oP 83 .add 79 82,oP 84 .eql 76 83,oM 85 84,oTm 85 86 8,oT 85 87 (.bin 0 [] .geq (.t 86) (cI 0)),oO 88 (.pick (.t 85) (.t 87) (.c bF)),oM 89 88,oT 89 90 (.faddr 1 (.t 1)),oT 89 91 (.load (.box 1) false 1 (.t 90)),oTm 89 92 8,oT 89 93 (.iaddr 5 (.t 91) (.t 92)),oT 89 94 (.faddr 1 (.t 93)),oT 89 95 (.load .any false 1 (.t 94)),oT 89 96 (.bin 0 [] .eql (.t 95) (cI 1)),oO 97 (.pick (.t 89) (.t 96) (.c bF)),oM 98 97,oT 98 99 (.faddr 1 (.t 1)),oT 98 100 (.load (.box 1) false 1 (.t 99)),oTm 98 101 8,oT 98 102 (.iaddr 5 (.t 100) (.t 101)),oT 98 103 (.faddr 2 (.t 102)),oT 98 104 (.load .any false 1 (.t 103)),oT 98 105 (.bin 0 [] .eql (.t 104) (cI 0)),oO 106 (.pick (.t 98) (.t 105) (.c bF)),oM 2 106] .ret))))))⟩
theorem ok38:ze Tryz.prog Tryz.f38 F38=true:=by kernel_rfl
def L84_0:ICode:= .loop [0,1,7,8] []
 (sr [
 oP 9 .lss 8 7]
 (.seq
 (.cond (.t 9)
 .skip
 (.exit 0))
 (.seq
 (.block 1
 (sr [
 oM 10 8,
 oM 5 10]
 (sr [
 oM 11 1,
 oM 12 0,
 oM 13 5,
 oI 14 1 12 13,
 oG 15 14,
 oO 16 (.call false (.t 11) [.t 15])]
 (.cond (.t 16)
 (sr [
 oM 17 5,
 oM 4 17]
 .ret)
 .skip))))
 (.region [
 oD 18 .add 8 1,
 oM 8 18]))))
abbrev K84_0:List Nat:=[0,1,7]
abbrev B84_0:List Nat:=[]
def F84:IFn:=⟨19,2,[.tmp 4],false,false,none,(sr [oZ 4 0] (.seq (sr [oM 6 0,oY 7 6,oZ 8 0] (.block 0 L84_0)) (sr [oO 4 (.mv (cI (-1)))] .ret)))⟩
theorem ok84:ze Tryz.prog Tryz.f84 F84=true:=by kernel_rfl
def F57:IFn:=⟨9,2,[.tmp 4],false,false,none,(sr [oC 4 bF] (sr [oE 5 0,oM 6 1,cF 7 84 [.t 5,.t 6],oD 8 .geq 7 0,oM 4 8] .ret))⟩
theorem ok57:ze Tryz.prog Tryz.f57 F57=true:=by kernel_rfl
def F58:IFn:=⟨6,1,[.tmp 2],false,false,none,(sr [oC 2 bF] (sr [oM 3 0,cP 4 55 [.t 3],oU 5 4,oM 2 5] .ret))⟩
theorem ok58:ze Tryz.prog Tryz.f58 F58=true:=by kernel_rfl
def F104:IFn:=⟨16,1,[.tmp 2],false,false,none,(sr [oC 2 bF] (sr [oM 3 0,oY 4 3,oD 5 .gtr 4 0,oM 6 5,oTm 6 7 0,oT 6 8 (.take 0),oT 6 9 (.len 1 (.t 8)),oT 6 10 (.bin 0 [] .sub (.t 9) (cI 1)),oT 6 11 (.iaddr 8 (.t 7) (.t 10)),oT 6 12 (.faddr 0 (.t 11)),oT 6 13 (.load .any false 1 (.t 12)),oT 6 14 (.bin 0 [] .eql (.t 13) (cI 12)),oO 15 (.pick (.t 6) (.t 14) (.c bF)),oM 2 15] .ret))⟩
theorem ok104:ze Tryz.prog Tryz.f104 F104=true:=by kernel_rfl
def L150_0:ICode:= .loop [0,1,7,8] []
 (sr [
 oP 9 .lss 8 7]
 (.seq
 (.cond (.t 9)
 .skip
 (.exit 0))
 (.seq
 (.block 1
 (sr [
 oM 10 8,
 oM 5 10]
 (sr [
 oM 11 1,
 oM 12 0,
 oM 13 5,
 oI 14 8 12 13,
 oW 15 8 14,
 oO 16 (.call false (.t 11) [.t 15])]
 (.cond (.t 16)
 (sr [
 oM 17 5,
 oM 4 17]
 .ret)
 .skip))))
 (.region [
 oD 18 .add 8 1,
 oM 8 18]))))
abbrev K150_0:List Nat:=[0,1,7]
abbrev B150_0:List Nat:=[]
def F150:IFn:=⟨19,2,[.tmp 4],false,false,none,(sr [oZ 4 0] (.seq (sr [oM 6 0,oY 7 6,oZ 8 0] (.block 0 L150_0)) (sr [oO 4 (.mv (cI (-1)))] .ret)))⟩
theorem ok150:ze Tryz.prog Tryz.f150 F150=true:=by kernel_rfl
def F130:IFn:=⟨9,2,[.tmp 4],false,false,none,(sr [oC 4 bF] (sr [oE 5 0,oM 6 1,cF 7 150 [.t 5,.t 6],oD 8 .geq 7 0,oM 4 8] .ret))⟩
theorem ok130:ze Tryz.prog Tryz.f130 F130=true:=by kernel_rfl
def L151_0:ICode:= .loop [0,1,7,8] []
 (sr [
 oP 9 .lss 8 7]
 (.seq
 (.cond (.t 9)
 .skip
 (.exit 0))
 (.seq
 (.block 1
 (sr [
 oM 10 8,
 oM 5 10]
 (sr [
 oM 11 1,
 oM 12 0,
 oM 13 5,
 oI 14 1 12 13,
 oG 15 14,
 oO 16 (.call false (.t 11) [.t 15])]
 (.cond (.t 16)
 (sr [
 oM 17 5,
 oM 4 17]
 .ret)
 .skip))))
 (.region [
 oD 18 .add 8 1,
 oM 8 18]))))
abbrev K151_0:List Nat:=[0,1,7]
abbrev B151_0:List Nat:=[]
def F151:IFn:=⟨19,2,[.tmp 4],false,false,none,(sr [oZ 4 0] (.seq (sr [oM 6 0,oY 7 6,oZ 8 0] (.block 0 L151_0)) (sr [oO 4 (.mv (cI (-1)))] .ret)))⟩
theorem ok151:ze Tryz.prog Tryz.f151 F151=true:=by kernel_rfl
def F132:IFn:=⟨9,2,[.tmp 4],false,false,none,(sr [oC 4 bF] (sr [oE 5 0,oM 6 1,cF 7 151 [.t 5,.t 6],oD 8 .geq 7 0,oM 4 8] .ret))⟩
theorem ok132:ze Tryz.prog Tryz.f132 F132=true:=by kernel_rfl
def F131:IFn:=⟨16,1,[.tmp 2],false,false,none,(sr [oO 1 (.boxL 1 (.t 0)),oC 2 bF] (sr [oA 3 0 1,oL 4 1 3,oD 5 .eql 4 14,oM 6 5,oF 6 7 (.faddr 0 (.t 1)),oF 6 8 (.load (.box 1) false 1 (.t 7)),oF 6 9 (.bin 0 [] .eql (.t 8) (cI 10)),oFm 6 10 9,oT 10 11 (.faddr 7 (.t 1)),oT 10 12 (.load (.box 1) false 1 (.t 11)),oT 10 13 (pF 132 [(.t 12),(.c (.fn 105 [] []))]),oF 6 14 (.pick (.t 10) (.t 13) (.c bF)),oO 15 (.pick (.t 6) (.c bT) (.t 14)),oM 2 15] .ret))⟩
theorem ok131:ze Tryz.prog Tryz.f131 F131=true:=by kernel_rfl
def F105:IFn:=⟨5,1,[.tmp 2],false,false,none,(sr [oC 2 bF] (sr [oE 3 0,cF 4 130 [(.t 3),(.c (.fn 131 [] []))],oM 2 4] .ret))⟩
theorem ok105:ze Tryz.prog Tryz.f105 F105=true:=by kernel_rfl
def F106:IFn:=⟨11,1,[.tmp 2],false,false,none,(sr [oO 1 (.boxL 1 (.t 0)),oC 2 bF] (sr [oA 3 0 1,oL 4 1 3,oD 5 .geq 4 12,oM 6 5,oT 6 7 (.faddr 0 (.t 1)),oT 6 8 (.load (.box 1) false 1 (.t 7)),oT 6 9 (.bin 0 [] .leq (.t 8) (cI 15)),oO 10 (.pick (.t 6) (.t 9) (.c bF)),oM 2 10] .ret))⟩
theorem ok106:ze Tryz.prog Tryz.f106 F106=true:=by kernel_rfl
def F77:IFn:=⟨45,1,[.tmp 2],false,false,none,(sr [oO 1 (.boxL 1 (.t 0)),oC 2 bF] (.seq (.block 0 (sr [oA 4 0 1,oL 5 1 4,oD 6 .eql 5 10,oM 7 6,oT 7 8 (.faddr 7 (.t 1)),oT 7 9 (.load (.box 1) false 1 (.t 8)),oT 7 10 (.len 1 (.t 9)),oT 7 11 (.bin 0 [] .eql (.t 10) (cI 2)),oO 12 (.pick (.t 7) (.t 11) (.c bF)),oM 3 12] (.cond (.t 3) (sr [oA 13 7 1,oL 14 1 13,oO 15 (.iaddr 1 (.t 14) (cI 0)),oG 16 15,cP 17 104 [.t 16],oU 18 17,oM 19 18,oT 19 20 (.faddr 7 (.t 1)),oT 19 21 (.load (.box 1) false 1 (.t 20)),oT 19 22 (.iaddr 1 (.t 21) (cI 1)),oT 19 23 (.load .any false 1 (.t 22)),oT 19 24 (pP 104 [.t 23]),oT 19 25 (.un .not (.t 24)),oO 26 (.pick (.t 19) (.t 25) (.c bF)),oM 2 26] .ret) (sr [oA 28 0 1,oL 29 1 28,oD 30 .eql 29 11,oM 31 30,oT 31 32 (.faddr 7 (.t 1)),oT 31 33 (.load (.box 1) false 1 (.t 32)),oT 31 34 (.len 1 (.t 33)),oT 31 35 (.bin 0 [] .eql (.t 34) (cI 1)),oO 36 (.pick (.t 31) (.t 35) (.c bF)),oM 27 36] (.cond (.t 27) (sr [oA 37 7 1,oL 38 1 37,oO 39 (.iaddr 1 (.t 38) (cI 0)),oG 40 39,cP 41 105 [.t 40],oU 42 41,oM 2 42] .ret) .skip))))) (sr [oLa 43 1 8 1,cP 44 106 [.t 43],oM 2 44] .ret)))⟩
theorem ok77:ze Tryz.prog Tryz.f77 F77=true:=by kernel_rfl
def F108:IFn:=⟨53,1,[.tmp 2],true,false,none,(sr [oO 1 (.boxL 1 (.t 0)),oC 2 bF] (sr [oO 4 (.mkmap),oN (.mapset false (.t 4) (cI 10) (cI 2)),oN (.mapset false (.t 4) (cI 11) (cI 1)),oM 5 4,oA 6 0 1,oL 7 1 6,oO 8 (.lookup false false (.int .i64 0) (.t 5) (.t 7)),oM 3 8] (.seq (sr [oA 9 0 1,oL 10 1 9] (.block 0 (.seq (sr [oD 12 .eql 10 3,oM 11 12] (.cond (.t 11) .skip (.region [oD 13 .eql 10 4,oM 11 13]))) (.cond (.t 11) (.region [oA 14 1 1,oN (.store (.box 1) 1 (.t 14) (cI 0))]) (.seq (sr [oD 16 .eql 10 1,oM 15 16] (.cond (.t 15) .skip (.region [oD 17 .eql 10 2,oM 15 17]))) (.cond (.t 15) (.region [oA 18 2 1,oN (.store (.box 1) 1 (.t 18) (cI 0))]) (.seq (sr [oD 20 .eql 10 5,oM 19 20] (.cond (.t 19) .skip (sr [oD 21 .eql 10 6,oM 19 21] (.cond (.t 19) .skip (.region [oD 22 .eql 10 7,oM 19 22]))))) (.cond (.t 19) (.region [oA 23 3 1,oN (.store (.box 1) 1 (.t 23) (.c (.str [])))]) (sr [oD 25 .eql 10 11,oM 24 25] (.cond (.t 24) (.region [oA 26 6 1,oN (.store (.box 1) 1 (.t 26) (.c (.slice .fit 1 [])))]) .skip)))))))))) (sr [oA 27 1 1,oL 28 1 27,oD 29 .eql 28 0,oM 30 29,oT 30 31 (.faddr 2 (.t 1)),oT 30 32 (.load (.box 1) false 1 (.t 31)),oT 30 33 (.bin 0 [] .eql (.t 32) (cI 0)),oO 34 (.pick (.t 30) (.t 33) (.c bF)),oM 35 34,oT 35 36 (.faddr 3 (.t 1)),oT 35 37 (.load (.box 1) false 1 (.t 36)),oT 35 38 (.bin 0 [] .eql (.t 37) (.c (.str []))),oO 39 (.pick (.t 35) (.t 38) (.c bF)),oM 40 39,oT 40 41 (.faddr 6 (.t 1)),oT 40 42 (.load (.box 1) false 1 (.t 41)),oT 40 43 (.len 1 (.t 42)),oT 40 44 (.bin 0 [] .eql (.t 43) (cI 0)),oO 45 (.pick (.t 40) (.t 44) (.c bF)),oM 46 45,oT 46 47 (.faddr 7 (.t 1)),oT 46 48 (.load (.box 1) false 1 (.t 47)),oT 46 49 (.len 1 (.t 48)),oTm 46 50 3,oT 46 51 (.bin 0 [] .eql (.t 49) (.t 50)),oO 52 (.pick (.t 46) (.t 51) (.c bF)),oM 2 52] .ret))))⟩
theorem ok108:ze Tryz.prog Tryz.f108 F108=true:=by kernel_rfl
def F152:IFn:=⟨35,3,[.tmp 6],false,false,none,(sr [oC 6 bF] (sr [oM 7 1,oD 8 .geq 7 0,oM 9 8,oTm 9 10 1,oTm 9 11 0,oT 9 12 (.nilck (.t 11)),oT 9 13 (.faddr 2 (.t 12)),oT 9 14 (.faddr 3 (.t 13)),oT 9 15 (.load .any false 1 (.t 14)),oT 9 16 (.len 1 (.t 15)),oT 9 17 (.bin 0 [] .lss (.t 10) (.t 16)),oO 18 (.pick (.t 9) (.t 17) (.c bF)),oM 19 18,oTm 19 20 2,oT 19 21 (.bin 0 [] .eql (.t 20) (cI 0)),oTm 19 22 21,oFm 22 23 0,oF 22 24 (.nilck (.t 23)),oF 22 25 (.faddr 2 (.t 24)),oF 22 26 (.faddr 3 (.t 25)),oF 22 27 (.load .any false 1 (.t 26)),oFm 22 28 1,oF 22 29 (.iaddr 1 (.t 27) (.t 28)),oF 22 30 (.load .any false 1 (.t 29)),oFm 22 31 2,oF 22 32 (.bin 0 [] .eql (.t 30) (.t 31)),oT 19 33 (.pick (.t 22) (.c bT) (.t 32)),oO 34 (.pick (.t 19) (.t 33) (.c bF)),oM 6 34] .ret))⟩
theorem ok152:ze Tryz.prog Tryz.f152 F152=true:=by kernel_rfl
def L133_0:ICode:= .loop [0,4,7,8,9] []
 (sr [
 oP 10 .lss 9 8]
 (.seq
 (.cond (.t 10)
 .skip
 (.exit 0))
 (.seq
 (.block 1
 (sr [
 oI 11 1 7 9,
 oG 12 11,
 oM 6 12]
 (.seq
 (sr [
 oM 13 0,
 oM 14 6,
 cF 15 152 [.t 13,.t 14,cI 0],
 oU 16 15]
 (.cond (.t 16)
 (sr [
 oC 4 (.slice .fit 1 [])]
 .ret)
 .skip))
 (.region [
 oE 17 4,
 oM 18 0,
 oK 19 18,
 oA 20 2 19,
 oA 21 3 20,
 oG 22 21,
 oM 23 6,
 oI 24 1 22 23,
 oG 25 24,
 oO 26 (.bslice 1 (.int .i64 0) 1 [(0,(.t 25))]),
 oO 27 (.append 1 8 (.t 17) (.t 26)),
 oE 4 27]))))
 (.region [
 oD 28 .add 9 1,
 oM 9 28]))))
abbrev K133_0:List Nat:=[0,7,8]
abbrev B133_0:List Nat:=[]
def F133:IFn:=⟨30,2,[.tmp 4],false,false,none,(sr [oC 4 (.slice .fit 1 [])] (.seq (sr [oE 7 1,oY 8 7,oZ 9 0] (.block 0 L133_0)) (sr [oE 29 4,oE 4 29] .ret)))⟩
theorem ok133:ze Tryz.prog Tryz.f133 F133=true:=by kernel_rfl
def L153_0:ICode:= .loop [1,2,15,16,17] []
 (sr [
 oP 18 .lss 17 16]
 (.seq
 (.cond (.t 18)
 .skip
 (.exit 0))
 (.seq
 (.block 1
 (sr [
 oM 19 17,
 oI 20 1 15 17,
 oG 21 20,
 oM 7 19,
 oM 8 21]
 (sr [
 oM 22 1,
 oM 23 7,
 oI 24 1 22 23,
 oG 25 24,
 oM 9 25]
 (sr [
 oM 26 2,
 oM 27 8,
 oM 28 9,
 oO 29 (.call false (.t 26) [.t 27,.t 28]),
 oU 30 29]
 (.cond (.t 30)
 (sr [
 oC 6 bF]
 .ret)
 .skip)))))
 (.region [
 oD 31 .add 17 1,
 oM 17 31]))))
abbrev K153_0:List Nat:=[1,2,15,16]
abbrev B153_0:List Nat:=[]
def F153:IFn:=⟨32,3,[.tmp 6],false,false,none,(sr [oC 6 bF] (.seq (sr [oM 10 0,oY 11 10,oM 12 1,oY 13 12,oP 14 .neq 11 13] (.cond (.t 14) (sr [oC 6 bF] .ret) .skip)) (.seq (sr [oE 15 0,oY 16 15,oZ 17 0] (.block 0 L153_0)) (sr [oC 6 bT] .ret))))⟩
theorem ok153:ze Tryz.prog Tryz.f153 F153=true:=by kernel_rfl
def F154:IFn:=⟨20,3,[.tmp 5],false,false,none,(sr [oC 5 bF] (sr [oG 6 2,oM 7 0,oM 8 1,cF 9 152 [.t 6,.t 7,.t 8],oM 10 9,oT 10 11 (.load .any false 1 (.t 2)),oT 10 12 (.nilck (.t 11)),oT 10 13 (.faddr 7 (.t 12)),oT 10 14 (.load .any false 1 (.t 13)),oTm 10 15 0,oT 10 16 (.iaddr 1 (.t 14) (.t 15)),oT 10 17 (.load .any false 1 (.t 16)),oT 10 18 (.bin 0 [] .eql (.t 17) (cI 1)),oO 19 (.pick (.t 10) (.t 18) (.c bF)),oM 5 19] .ret))⟩
theorem ok154:ze Tryz.prog Tryz.f154 F154=true:=by kernel_rfl
def F134:IFn:=⟨11,3,[.tmp 6],false,false,none,(sr [oO 3 (.boxI (.t 0)),oC 6 bF] (sr [oE 7 1,oE 8 2,oO 9 (.mkfn 154 [] [.t 3]),cF 10 153 [.t 7,.t 8,.t 9],oM 6 10] .ret))⟩
theorem ok134:ze Tryz.prog Tryz.f134 F134=true:=by kernel_rfl
def F155:IFn:=⟨27,3,[.tmp 5],false,false,none,(sr [oC 5 bF] (.seq (sr [oG 6 2,oM 7 0,oM 8 1,cF 9 152 [.t 6,.t 7,.t 8],oU 10 9,oM 11 10,oF 11 12 (.load .any false 1 (.t 2)),oF 11 13 (.nilck (.t 12)),oF 11 14 (.faddr 7 (.t 13)),oF 11 15 (.load .any false 1 (.t 14)),oFm 11 16 0,oF 11 17 (.iaddr 1 (.t 15) (.t 16)),oF 11 18 (.load .any false 1 (.t 17)),oF 11 19 (.bin 0 [] .neq (.t 18) (cI 0)),oO 20 (.pick (.t 11) (.c bT) (.t 19))] (.cond (.t 20) (sr [oC 5 bF] .ret) .skip)) (sr [oG 21 2,oK 22 21,oA 23 7 22,oG 24 23,oM 25 0,oI 26 1 24 25,oN (.store .any 1 (.t 26) (cI 1))] (sr [oC 5 bT] .ret))))⟩
theorem ok155:ze Tryz.prog Tryz.f155 F155=true:=by kernel_rfl
def F136:IFn:=⟨11,3,[.tmp 6],false,false,none,(sr [oO 3 (.boxI (.t 0)),oC 6 bF] (sr [oE 7 1,oE 8 2,oO 9 (.mkfn 155 [] [.t 3]),cF 10 153 [.t 7,.t 8,.t 9],oM 6 10] .ret))⟩
theorem ok136:ze Tryz.prog Tryz.f136 F136=true:=by kernel_rfl
def F135:IFn:=⟨11,2,[.tmp 4],false,false,none,(sr [oC 4 bF] (sr [oM 5 0,oM 6 1,oE 7 1,oY 8 7,oO 9 (.mkslice 1 (.int .i64 0) 8 (.t 8) (.t 8)),cF 10 136 [.t 5,.t 6,.t 9],oM 4 10] .ret))⟩
theorem ok135:ze Tryz.prog Tryz.f135 F135=true:=by kernel_rfl
def F109:IFn:=⟨57,4,[.tmp 8],false,false,none,(sr [oO 5 (.boxL 5 (.t 1)),oO 6 (.boxL 6 (.t 2)),oC 8 bF] (sr [oM 9 0,oA 10 5 5,oL 11 5 10,cF 12 133 [.t 9,.t 11],oA 13 0 6,oN (.store (.box 6) 1 (.t 13) (.c bT)),oA 14 2 6,oS 6 1 14 12] (sr [oM 15 0,oA 16 4 5,oL 17 5 16,oO 18 (.bslice 1 (.int .i64 0) 1 [(0,(cI 2))]),cF 19 134 [.t 15,.t 17,.t 18],oM 20 19,oTm 20 21 0,oT 20 22 (.faddr 7 (.t 5)),oT 20 23 (.load (.box 5) false 1 (.t 22)),oT 20 24 (.iaddr 1 (.t 23) (cI 0)),oT 20 25 (.load .imm false 1 (.t 24)),oT 20 26 (.load (.box 6) true 5 (.t 6)),oTm 20 27 3,oT 20 28 (pF 59 [.t 21,.t 25,.t 26,.t 27]),oO 29 (.pick (.t 20) (.t 28) (.c bF)),oM 30 29,oTm 30 31 0,oT 30 32 (.faddr 7 (.t 5)),oT 30 33 (.load (.box 5) false 1 (.t 32)),oT 30 34 (.iaddr 1 (.t 33) (cI 1)),oT 30 35 (.load .imm false 1 (.t 34)),oT 30 36 (.load (.box 6) true 5 (.t 6)),oTm 30 37 3,oT 30 38 (pF 59 [.t 31,.t 35,.t 36,.t 37]),oO 39 (.pick (.t 30) (.t 38) (.c bF)),oM 40 39,oT 40 41 (.faddr 5 (.t 5)),oT 40 42 (.load (.box 5) false 1 (.t 41)),oT 40 43 (.len 1 (.t 42)),oT 40 44 (.bin 0 [] .eql (.t 43) (cI 0)),oTm 40 45 44,oF 45 46 (.load (.box 5) true 8 (.t 5)),oF 45 47 (pP 77 [.t 46]),oF 45 48 (.un .not (.t 47)),oT 40 49 (.pick (.t 45) (.c bT) (.t 48)),oO 50 (.pick (.t 40) (.t 49) (.c bF)),oM 51 50,oTm 51 52 0,oT 51 53 (.faddr 5 (.t 5)),oT 51 54 (.load (.box 5) false 1 (.t 53)),oT 51 55 (pF 135 [.t 52,.t 54]),oO 56 (.pick (.t 51) (.t 55) (.c bF)),oM 8 56] .ret)))⟩
theorem ok109:ze Tryz.prog Tryz.f109 F109=true:=by kernel_rfl
def L86_0:ICode:= .loop [0,6,7,8] []
 (sr [
 oP 9 .lss 8 7]
 (.seq
 (.cond (.t 9)
 .skip
 (.exit 0))
 (.seq
 (.block 1
 (sr [
 oI 10 1 6 8,
 oG 11 10,
 oM 5 11]
 (.region [
 oM 12 0,
 oK 13 12,
 oA 14 7 13,
 oG 15 14,
 oM 16 5,
 oI 17 1 15 16,
 oN (.store .any 1 (.t 17) (cI 2))])))
 (.region [
 oD 18 .add 8 1,
 oM 8 18]))))
abbrev K86_0:List Nat:=[0,6,7]
abbrev B86_0:List Nat:=[]
def F86:IFn:=⟨19,2,[],false,false,none,(sr [oE 6 1,oY 7 6,oZ 8 0] (.block 0 L86_0))⟩
theorem ok86:ze Tryz.prog Tryz.f86 F86=true:=by kernel_rfl
def F110:IFn:=⟨61,3,[.tmp 6],false,false,none,(sr [oO 4 (.boxL 4 (.t 1)),oC 6 bF] (sr [oM 8 0,oA 9 6 4,oL 10 4 9,cF 11 133 [.t 8,.t 10],oM 12 0,oA 13 5 4,oL 14 4 13,cF 15 133 [.t 12,.t 14],oO 16 (.build [.bool false,.bool false,.slice .fit 1 [],.slice .fit 1 [],.slice .fit 1 []] [(1,1,(.c bT)),(3,1,(.t 11)),(4,1,(.t 15))]),oO 7 (.boxL 7 (.c (.agg [.bool false,.bool false,.slice .fit 1 [],.slice .fit 1 [],.slice .fit 1 []]))),oS 7 5 7 16] (.seq (sr [oM 17 0,oA 18 4 4,oL 19 4 18,oA 20 3 7,oL 21 7 20,cF 22 134 [.t 17,.t 19,.t 21],oU 23 22,oM 24 23,oFm 24 25 0,oF 24 26 (.faddr 6 (.t 4)),oF 24 27 (.load (.box 4) false 1 (.t 26)),oF 24 28 (pF 135 [.t 25,.t 27]),oF 24 29 (.un .not (.t 28)),oO 30 (.pick (.t 24) (.c bT) (.t 29)),oM 31 30,oFm 31 32 0,oF 31 33 (.faddr 7 (.t 4)),oF 31 34 (.load (.box 4) false 1 (.t 33)),oF 31 35 (.iaddr 1 (.t 34) (cI 0)),oF 31 36 (.load .imm false 1 (.t 35)),oF 31 37 (.load (.box 7) true 5 (.t 7)),oFm 31 38 2,oF 31 39 (pF 59 [.t 32,.t 36,.t 37,.t 38]),oF 31 40 (.un .not (.t 39)),oO 41 (.pick (.t 31) (.c bT) (.t 40))] (.cond (.t 41) (sr [oC 6 bF] .ret) .skip)) (sr [oM 42 0,oA 43 6 4,oL 44 4 43,cF 45 86 [.t 42,.t 44]] (sr [oA 46 5 4,oL 47 4 46,oY 48 47,oD 49 .eql 48 0,oM 50 49,oF 50 51 (.load (.box 4) true 8 (.t 4)),oF 50 52 (pP 77 [.t 51]),oF 50 53 (.un .not (.t 52)),oO 54 (.pick (.t 50) (.c bT) (.t 53)),oM 55 54,oTm 55 56 0,oT 55 57 (.faddr 5 (.t 4)),oT 55 58 (.load (.box 4) false 1 (.t 57)),oT 55 59 (pF 135 [.t 56,.t 58]),oO 60 (.pick (.t 55) (.t 59) (.c bF)),oM 6 60] .ret)))))⟩
theorem ok110:ze Tryz.prog Tryz.f110 F110=true:=by kernel_rfl
def F111:IFn:=⟨72,3,[.tmp 6],false,false,none,(sr [oO 4 (.boxL 4 (.t 1)),oO 5 (.boxL 5 (.t 2)),oC 6 bF] (sr [oA 8 5 4,oL 9 4 8,oY 10 9,oD 11 .eql 10 0,oM 7 11] (.seq (sr [oA 12 0 4,oL 13 4 12] (.block 0 (sr [oD 15 .eql 13 12,oM 14 15] (.cond (.t 14) (sr [oM 16 7,oM 17 16,oT 17 18 (.faddr 0 (.t 5)),oT 17 19 (.load (.box 5) false 1 (.t 18)),oO 20 (.pick (.t 17) (.t 19) (.c bF)),oM 21 20,oTm 21 22 0,oT 21 23 (.faddr 4 (.t 4)),oT 21 24 (.load (.box 4) false 1 (.t 23)),oT 21 25 (.faddr 2 (.t 5)),oT 21 26 (.load (.box 5) false 1 (.t 25)),oT 21 27 (pF 134 [.t 22,.t 24,.t 26]),oO 28 (.pick (.t 21) (.t 27) (.c bF)),oM 6 28] .ret) (sr [oD 30 .eql 13 13,oM 29 30] (.cond (.t 29) (sr [oM 31 7,oM 32 31,oT 32 33 (.faddr 1 (.t 5)),oT 32 34 (.load (.box 5) false 1 (.t 33)),oO 35 (.pick (.t 32) (.t 34) (.c bF)),oM 36 35,oTm 36 37 0,oT 36 38 (.faddr 4 (.t 4)),oT 36 39 (.load (.box 4) false 1 (.t 38)),oT 36 40 (.faddr 3 (.t 5)),oT 36 41 (.load (.box 5) false 1 (.t 40)),oT 36 42 (pF 134 [.t 37,.t 39,.t 41]),oO 43 (.pick (.t 36) (.t 42) (.c bF)),oM 6 43] .ret) (sr [oD 45 .eql 13 14,oM 44 45] (.cond (.t 44) (sr [oM 46 7,oM 47 46,oT 47 48 (.faddr 1 (.t 5)),oT 47 49 (.load (.box 5) false 1 (.t 48)),oO 50 (.pick (.t 47) (.t 49) (.c bF)),oM 51 50,oTm 51 52 0,oT 51 53 (.faddr 4 (.t 4)),oT 51 54 (.load (.box 4) false 1 (.t 53)),oT 51 55 (.faddr 4 (.t 5)),oT 51 56 (.load (.box 5) false 1 (.t 55)),oT 51 57 (pF 134 [.t 52,.t 54,.t 56]),oO 58 (.pick (.t 51) (.t 57) (.c bF)),oM 6 58] .ret) .skip)))))))) (sr [oM 59 7,oM 60 59,oTm 60 61 0,oT 60 62 (.faddr 4 (.t 4)),oT 60 63 (.load (.box 4) false 1 (.t 62)),oTm 60 64 0,oT 60 65 (.nilck (.t 64)),oT 60 66 (.faddr 2 (.t 65)),oT 60 67 (.faddr 1 (.t 66)),oT 60 68 (.load .imm false 1 (.t 67)),oT 60 69 (.bslice 1 (.int .i64 0) 1 [(0,(.t 68))]),oT 60 70 (pF 134 [.t 61,.t 63,.t 69]),oO 71 (.pick (.t 60) (.t 70) (.c bF)),oM 6 71] .ret))))⟩
theorem ok111:ze Tryz.prog Tryz.f111 F111=true:=by kernel_rfl
def F156:IFn:=⟨15,1,[.tmp 2,.tmp 3],false,false,none,(sr [oZ 2 0,oZ 3 0] (.seq (sr [oM 4 0] (.block 0 (sr [oD 6 .eql 4 22,oM 5 6] (.cond (.t 5) (sr [oZ 2 2,oZ 3 2] .ret) (.seq (sr [oD 8 .eql 4 16,oM 7 8] (.cond (.t 7) .skip (.region [oD 9 .eql 4 17,oM 7 9]))) (.cond (.t 7) (sr [oZ 2 0,oZ 3 2] .ret) (.seq (sr [oD 11 .eql 4 12,oM 10 11] (.cond (.t 10) .skip (sr [oD 12 .eql 4 13,oM 10 12] (.cond (.t 10) .skip (sr [oD 13 .eql 4 14,oM 10 13] (.cond (.t 10) .skip (.region [oD 14 .eql 4 15,oM 10 14]))))))) (.cond (.t 10) (sr [oZ 2 1,oZ 3 2] .ret) .skip)))))))) (sr [oZ 2 1,oZ 3 1] .ret)))⟩
theorem ok156:ze Tryz.prog Tryz.f156 F156=true:=by kernel_rfl
def F163:IFn:=⟨43,1,[.cell 2 true 2],false,false,none,(sr [oO 2 (.boxL 2 (.c (.agg [.str [],.int .i64 0])))] (sr [oO 4 (.build [.str [],.int .i64 0] [(0,1,(.c (.str [43]))),(1,1,(cI 9))]),oO 5 (.build [.str [],.int .i64 0] [(0,1,(.c (.str [45]))),(1,1,(cI 9))]),oO 6 (.build [.str [],.int .i64 0] [(0,1,(.c (.str [42]))),(1,1,(cI 10))]),oO 7 (.build [.str [],.int .i64 0] [(0,1,(.c (.str [47]))),(1,1,(cI 10))]),oO 8 (.build [.str [],.int .i64 0] [(0,1,(.c (.str [37]))),(1,1,(cI 10))]),oO 9 (.build [.str [],.int .i64 0] [(0,1,(.c (.str [38]))),(1,1,(cI 5))]),oO 10 (.build [.str [],.int .i64 0] [(0,1,(.c (.str [124]))),(1,1,(cI 3))]),oO 11 (.build [.str [],.int .i64 0] [(0,1,(.c (.str [94]))),(1,1,(cI 4))]),oO 12 (.build [.str [],.int .i64 0] [(0,1,(.c (.str [60,60]))),(1,1,(cI 8))]),oO 13 (.build [.str [],.int .i64 0] [(0,1,(.c (.str [62,62]))),(1,1,(cI 8))]),oO 14 (.build [.str [],.int .i64 0] [(0,1,(.c (.str [62,62,62]))),(1,1,(cI 8))]),oO 15 (.build [.str [],.int .i64 0] [(0,1,(.c (.str [60]))),(1,1,(cI 7))]),oO 16 (.build [.str [],.int .i64 0] [(0,1,(.c (.str [60,61]))),(1,1,(cI 7))]),oO 17 (.build [.str [],.int .i64 0] [(0,1,(.c (.str [62]))),(1,1,(cI 7))]),oO 18 (.build [.str [],.int .i64 0] [(0,1,(.c (.str [62,61]))),(1,1,(cI 7))]),oO 19 (.build [.str [],.int .i64 0] [(0,1,(.c (.str [61,61]))),(1,1,(cI 6))]),oO 20 (.build [.str [],.int .i64 0] [(0,1,(.c (.str [33,61]))),(1,1,(cI 6))]),oO 21 (.build [.str [],.int .i64 0] [(0,1,(.c (.str [38,38]))),(1,1,(cI 2))]),oO 22 (.build [.str [],.int .i64 0] [(0,1,(.c (.str [124,124]))),(1,1,(cI 1))]),oO 23 (.build [.str [],.int .i64 0] [(0,1,(.c (.str [45]))),(1,1,(cI 0))]),oO 24 (.build [.str [],.int .i64 0] [(0,1,(.c (.str [126]))),(1,1,(cI 0))]),oO 25 (.build [.str [],.int .i64 0] [(0,1,(.c (.str [33]))),(1,1,(cI 0))]),oO 26 (.build [.str [],.int .i64 0] [(0,1,(.c (.str [105,56]))),(1,1,(cI 0))]),oO 27 (.build [.str [],.int .i64 0] [(0,1,(.c (.str [105,49,54]))),(1,1,(cI 0))]),oO 28 (.build [.str [],.int .i64 0] [(0,1,(.c (.str [105,51,50]))),(1,1,(cI 0))]),oO 29 (.build [.str [],.int .i64 0] [(0,1,(.c (.str [117,56]))),(1,1,(cI 0))]),oO 30 (.build [.str [],.int .i64 0] [(0,1,(.c (.str [117,49,54]))),(1,1,(cI 0))]),oO 31 (.build [.str [],.int .i64 0] [(0,1,(.c (.str [117,51,50]))),(1,1,(cI 0))]),oO 32 (.build [.str [],.int .i64 0,.str [],.int .i64 0,.str [],.int .i64 0,.str [],.int .i64 0,.str [],.int .i64 0,.str [],.int .i64 0,.str [],.int .i64 0,.str [],.int .i64 0,.str [],.int .i64 0,.str [],.int .i64 0,.str [],.int .i64 0,.str [],.int .i64 0,.str [],.int .i64 0,.str [],.int .i64 0,.str [],.int .i64 0,.str [],.int .i64 0,.str [],.int .i64 0,.str [],.int .i64 0,.str [],.int .i64 0,.str [],.int .i64 0,.str [],.int .i64 0,.str [],.int .i64 0,.str [],.int .i64 0,.str [],.int .i64 0,.str [],.int .i64 0,.str [],.int .i64 0,.str [],.int .i64 0,.str [],.int .i64 0,.str [],.int .i64 0] [(2,2,(.t 4)),(4,2,(.t 5)),(6,2,(.t 6)),(8,2,(.t 7)),(10,2,(.t 8)),(12,2,(.t 9)),(14,2,(.t 10)),(16,2,(.t 11)),(18,2,(.t 12)),(20,2,(.t 13)),(22,2,(.t 14)),(24,2,(.t 15)),(26,2,(.t 16)),(28,2,(.t 17)),(30,2,(.t 18)),(32,2,(.t 19)),(34,2,(.t 20)),(36,2,(.t 21)),(38,2,(.t 22)),(40,2,(.t 23)),(42,2,(.t 24)),(44,2,(.t 25)),(46,2,(.t 26)),(48,2,(.t 27)),(50,2,(.t 28)),(52,2,(.t 29)),(54,2,(.t 30)),(56,2,(.t 31))]),oO 3 (.boxL 3 (.c (.agg [.str [],.int .i64 0,.str [],.int .i64 0,.str [],.int .i64 0,.str [],.int .i64 0,.str [],.int .i64 0,.str [],.int .i64 0,.str [],.int .i64 0,.str [],.int .i64 0,.str [],.int .i64 0,.str [],.int .i64 0,.str [],.int .i64 0,.str [],.int .i64 0,.str [],.int .i64 0,.str [],.int .i64 0,.str [],.int .i64 0,.str [],.int .i64 0,.str [],.int .i64 0,.str [],.int .i64 0,.str [],.int .i64 0,.str [],.int .i64 0,.str [],.int .i64 0,.str [],.int .i64 0,.str [],.int .i64 0,.str [],.int .i64 0,.str [],.int .i64 0,.str [],.int .i64 0,.str [],.int .i64 0,.str [],.int .i64 0,.str [],.int .i64 0]))),oS 3 58 3 32] (.seq (sr [oM 33 0,oD 34 .lss 33 0,oM 35 34,oFm 35 36 0,oF 35 37 (.bin 0 [] .geq (.t 36) (cI 29)),oO 38 (.pick (.t 35) (.c bT) (.t 37))] (.cond (.t 38) (sr [oO 39 (.build [.str [],.int .i64 0] []),oS 2 2 2 39] .ret) .skip)) (sr [oM 40 0,oO 41 (.iaddrA 29 2 (.t 3) (.t 40)),oLa 42 3 2 41,oS 2 2 2 42] .ret))))⟩
theorem ok163:ze Tryz.prog Tryz.f163 F163=true:=by kernel_rfl
def F157:IFn:=⟨6,1,[.tmp 2],false,false,none,(sr [oZ 2 0] (sr [oM 3 0,cP 4 163 [.t 3],oO 5 (.fld false 1 1 (.t 4)),oM 2 5] .ret))⟩
theorem ok157:ze Tryz.prog Tryz.f157 F157=true:=by kernel_rfl
def F137:IFn:=⟨93,2,[.tmp 4],false,false,none,(sr [oO 3 (.boxL 3 (.t 1)),oC 4 bF] (sr [oA 9 1 3,oL 10 3 9,cP 11 156 [.t 10],oM 8 11,oX 12 8 0,oX 13 8 1,oM 5 12,oM 6 13] (.seq (sr [oA 14 0 3,oL 15 3 14,oD 16 .eql 15 3] (.cond (.t 16) (sr [oA 17 1 3,oL 18 3 17,oD 19 .geq 18 20,oM 20 19,oT 20 21 (.faddr 1 (.t 3)),oT 20 22 (.load (.box 3) false 1 (.t 21)),oT 20 23 (.bin 0 [] .leq (.t 22) (cI 28)),oO 24 (.pick (.t 20) (.t 23) (.c bF)),oM 25 24,oTm 25 26 0,oT 25 27 (.faddr 4 (.t 3)),oT 25 28 (.load (.box 3) false 1 (.t 27)),oTm 25 29 5,oT 25 30 (.bslice 1 (.int .i64 0) 1 [(0,(.t 29))]),oT 25 31 (pF 134 [.t 26,.t 28,.t 30]),oO 32 (.pick (.t 25) (.t 31) (.c bF)),oM 33 32,oTm 33 34 0,oT 33 35 (.faddr 5 (.t 3)),oT 33 36 (.load (.box 3) false 1 (.t 35)),oTm 33 37 6,oT 33 38 (.bslice 1 (.int .i64 0) 1 [(0,(.t 37))]),oT 33 39 (pF 136 [.t 34,.t 36,.t 38]),oO 40 (.pick (.t 33) (.t 39) (.c bF)),oM 4 40] .ret) .skip)) (sr [oA 41 1 3,oL 42 3 41,cP 43 157 [.t 42],oD 44 .gtr 43 0,oM 45 44,oT 45 46 (.faddr 1 (.t 3)),oT 45 47 (.load (.box 3) false 1 (.t 46)),oT 45 48 (.bin 0 [] .leq (.t 47) (cI 17)),oO 49 (.pick (.t 45) (.t 48) (.c bF)),oM 50 49,oTm 50 51 0,oT 50 52 (.faddr 4 (.t 3)),oT 50 53 (.load (.box 3) false 1 (.t 52)),oTm 50 54 5,oTm 50 55 5,oT 50 56 (.bslice 1 (.int .i64 0) 2 [(0,(.t 54)),(1,(.t 55))]),oT 50 57 (pF 134 [.t 51,.t 53,.t 56]),oO 58 (.pick (.t 50) (.t 57) (.c bF)),oM 7 58] (sr [oM 59 7,oM 60 59,oTm 60 61 0,oT 60 62 (.nilck (.t 61)),oT 60 63 (.faddr 2 (.t 62)),oT 60 64 (.faddr 3 (.t 63)),oT 60 65 (.load .imm false 1 (.t 64)),oT 60 66 (.faddr 4 (.t 3)),oT 60 67 (.load (.box 3) false 1 (.t 66)),oT 60 68 (.iaddr 1 (.t 67) (cI 0)),oT 60 69 (.load .imm false 1 (.t 68)),oT 60 70 (.iaddr 1 (.t 65) (.t 69)),oT 60 71 (.load .imm false 1 (.t 70)),oTm 60 72 0,oT 60 73 (.nilck (.t 72)),oT 60 74 (.faddr 2 (.t 73)),oT 60 75 (.faddr 3 (.t 74)),oT 60 76 (.load .imm false 1 (.t 75)),oT 60 77 (.faddr 4 (.t 3)),oT 60 78 (.load (.box 3) false 1 (.t 77)),oT 60 79 (.iaddr 1 (.t 78) (cI 1)),oT 60 80 (.load .imm false 1 (.t 79)),oT 60 81 (.iaddr 1 (.t 76) (.t 80)),oT 60 82 (.load .imm false 1 (.t 81)),oT 60 83 (.bin 0 [] .eql (.t 71) (.t 82)),oO 84 (.pick (.t 60) (.t 83) (.c bF)),oM 85 84,oTm 85 86 0,oT 85 87 (.faddr 5 (.t 3)),oT 85 88 (.load (.box 3) false 1 (.t 87)),oTm 85 89 6,oT 85 90 (.bslice 1 (.int .i64 0) 1 [(0,(.t 89))]),oT 85 91 (pF 136 [.t 86,.t 88,.t 90]),oO 92 (.pick (.t 85) (.t 91) (.c bF)),oM 4 92] .ret)))))⟩
theorem ok137:ze Tryz.prog Tryz.f137 F137=true:=by kernel_rfl
def L164_0:ICode:= .loop [0,1,7,8] []
 (sr [
 oP 9 .lss 8 7]
 (.seq
 (.cond (.t 9)
 .skip
 (.exit 0))
 (.seq
 (.block 1
 (sr [
 oM 10 8,
 oM 5 10]
 (sr [
 oM 11 1,
 oM 12 0,
 oM 13 5,
 oI 14 2 12 13,
 oW 15 2 14,
 oO 16 (.call false (.t 11) [.t 15])]
 (.cond (.t 16)
 (sr [
 oM 17 5,
 oM 4 17]
 .ret)
 .skip))))
 (.region [
 oD 18 .add 8 1,
 oM 8 18]))))
abbrev K164_0:List Nat:=[0,1,7]
abbrev B164_0:List Nat:=[]
def F164:IFn:=⟨19,2,[.tmp 4],false,false,none,(sr [oZ 4 0] (.seq (sr [oM 6 0,oY 7 6,oZ 8 0] (.block 0 L164_0)) (sr [oO 4 (.mv (cI (-1)))] .ret)))⟩
theorem ok164:ze Tryz.prog Tryz.f164 F164=true:=by kernel_rfl
def F158:IFn:=⟨9,2,[.tmp 4],false,false,none,(sr [oC 4 bF] (sr [oE 5 0,oM 6 1,cF 7 164 [.t 5,.t 6],oD 8 .geq 7 0,oM 4 8] .ret))⟩
theorem ok158:ze Tryz.prog Tryz.f158 F158=true:=by kernel_rfl
def F159:IFn:=⟨8,2,[.tmp 3],false,false,none,(sr [oO 2 (.boxL 2 (.t 0)),oC 3 bF] (sr [oA 4 0 2,oL 5 2 4,oG 6 1,oP 7 .eql 5 6,oM 3 7] .ret))⟩
theorem ok159:ze Tryz.prog Tryz.f159 F159=true:=by kernel_rfl
def F138:IFn:=⟨9,2,[.tmp 4],false,false,none,(sr [oO 2 (.boxL 2 (.t 0)),oO 3 (.boxI (.t 1)),oC 4 bF] (sr [oA 5 0 2,oL 6 2 5,oO 7 (.mkfn 159 [] [.t 3]),cF 8 158 [.t 6,.t 7],oM 4 8] .ret))⟩
theorem ok138:ze Tryz.prog Tryz.f138 F138=true:=by kernel_rfl
def F112:IFn:=⟨159,2,[.tmp 4],false,false,none,(sr [oO 3 (.boxL 3 (.t 1)),oC 4 bF] (.seq (sr [oA 7 0 3,oL 8 3 7] (.block 0 (sr [oD 10 .eql 8 1,oM 9 10] (.cond (.t 9) (sr [oM 11 0,oA 12 4 3,oL 13 3 12,cF 14 134 [(.t 11),(.t 13),(.c (.slice .fit 1 []))],oM 15 14,oTm 15 16 0,oT 15 17 (.faddr 5 (.t 3)),oT 15 18 (.load (.box 3) false 1 (.t 17)),oT 15 19 (.bslice 1 (.int .i64 0) 1 [(0,(cI 1))]),oT 15 20 (pF 136 [.t 16,.t 18,.t 19]),oO 21 (.pick (.t 15) (.t 20) (.c bF)),oM 4 21] .ret) (sr [oD 23 .eql 8 2,oM 22 23] (.cond (.t 22) (sr [oA 24 2 3,oL 25 3 24,oD 26 .eql 25 0,oM 27 26,oF 27 28 (.faddr 2 (.t 3)),oF 27 29 (.load (.box 3) false 1 (.t 28)),oF 27 30 (.bin 0 [] .eql (.t 29) (cI 1)),oO 31 (.pick (.t 27) (.c bT) (.t 30)),oM 32 31,oTm 32 33 0,oT 32 34 (.faddr 4 (.t 3)),oT 32 35 (.load (.box 3) false 1 (.t 34)),oT 32 36 (pF 134 [(.t 33),(.t 35),(.c (.slice .fit 1 []))]),oO 37 (.pick (.t 32) (.t 36) (.c bF)),oM 38 37,oTm 38 39 0,oT 38 40 (.faddr 5 (.t 3)),oT 38 41 (.load (.box 3) false 1 (.t 40)),oT 38 42 (.bslice 1 (.int .i64 0) 1 [(0,(cI 2))]),oT 38 43 (pF 136 [.t 39,.t 41,.t 42]),oO 44 (.pick (.t 38) (.t 43) (.c bF)),oM 4 44] .ret) (.seq (sr [oD 46 .eql 8 3,oM 45 46] (.cond (.t 45) .skip (.region [oD 47 .eql 8 4,oM 45 47]))) (.cond (.t 45) (sr [oM 48 0,oLa 49 3 8 3,cF 50 137 [.t 48,.t 49],oM 4 50] .ret) (sr [oD 52 .eql 8 5,oM 51 52] (.cond (.t 51) (sr [oM 53 0,oK 54 53,oA 55 0 54,oO 56 (.load .imm true 2 (.t 55)),oA 57 3 3,oL 58 3 57,cP 59 138 [.t 56,.t 58],oM 60 59,oTm 60 61 0,oT 60 62 (.faddr 4 (.t 3)),oT 60 63 (.load (.box 3) false 1 (.t 62)),oT 60 64 (.bslice 1 (.int .i64 0) 1 [(0,(cI 1))]),oT 60 65 (pF 134 [.t 61,.t 63,.t 64]),oO 66 (.pick (.t 60) (.t 65) (.c bF)),oM 67 66,oTm 67 68 0,oT 67 69 (.faddr 5 (.t 3)),oT 67 70 (.load (.box 3) false 1 (.t 69)),oT 67 71 (.bslice 1 (.int .i64 0) 1 [(0,(cI 1))]),oT 67 72 (pF 136 [.t 68,.t 70,.t 71]),oO 73 (.pick (.t 67) (.t 72) (.c bF)),oM 4 73] .ret) (sr [oD 75 .eql 8 6,oM 74 75] (.cond (.t 74) (sr [oM 76 0,oK 77 76,oA 78 0 77,oO 79 (.load .imm true 2 (.t 78)),oA 80 3 3,oL 81 3 80,cP 82 138 [.t 79,.t 81],oM 83 82,oTm 83 84 0,oT 83 85 (.faddr 4 (.t 3)),oT 83 86 (.load (.box 3) false 1 (.t 85)),oT 83 87 (.bslice 1 (.int .i64 0) 2 [(0,(cI 1)),(1,(cI 1))]),oT 83 88 (pF 134 [.t 84,.t 86,.t 87]),oO 89 (.pick (.t 83) (.t 88) (.c bF)),oM 90 89,oTm 90 91 0,oT 90 92 (.faddr 5 (.t 3)),oT 90 93 (.load (.box 3) false 1 (.t 92)),oT 90 94 (pF 136 [(.t 91),(.t 93),(.c (.slice .fit 1 []))]),oO 95 (.pick (.t 90) (.t 94) (.c bF)),oM 4 95] .ret) (sr [oD 97 .eql 8 8,oM 96 97] (.cond (.t 96) (sr [oM 98 0,oA 99 4 3,oL 100 3 99,cF 101 134 [(.t 98),(.t 100),(.c (.slice .fit 1 []))],oM 102 101,oTm 102 103 0,oT 102 104 (.faddr 5 (.t 3)),oT 102 105 (.load (.box 3) false 1 (.t 104)),oT 102 106 (.bslice 1 (.int .i64 0) 1 [(0,(cI 1))]),oT 102 107 (pF 136 [.t 103,.t 105,.t 106]),oO 108 (.pick (.t 102) (.t 107) (.c bF)),oM 4 108] .ret) (sr [oD 110 .eql 8 9,oM 109 110] (.cond (.t 109) (sr [oM 111 0,oA 112 4 3,oL 113 3 112,oO 114 (.bslice 1 (.int .i64 0) 1 [(0,(cI 1))]),cF 115 134 [.t 111,.t 113,.t 114],oM 116 115,oTm 116 117 0,oT 116 118 (.faddr 5 (.t 3)),oT 116 119 (.load (.box 3) false 1 (.t 118)),oT 116 120 (pF 136 [(.t 117),(.t 119),(.c (.slice .fit 1 []))]),oO 121 (.pick (.t 116) (.t 120) (.c bF)),oM 4 121] .ret) (sr [oD 123 .eql 8 7,oM 122 123] (.cond (.t 122) (sr [oM 124 0,oK 125 124,oA 126 0 125,oO 127 (.load .imm true 2 (.t 126)),oA 128 3 3,oL 129 3 128,cP 130 56 [.t 127,.t 129],oM 5 130] (.seq (sr [oM 131 5,oD 132 .lss 131 0] (.cond (.t 132) (sr [oC 4 bF] .ret) .skip)) (sr [oM 133 0,oK 134 133,oA 135 0 134,oA 136 1 135,oG 137 136,oM 138 5,oI 139 5 137 138,oW 140 5 139,oO 6 (.boxL 6 (.c (.agg [.str [],.int .i64 0,.int .i64 0,.slice .fit 1 [],.slice .fit 8 []]))),oS 6 5 6 140] (sr [oM 141 0,oA 142 4 3,oL 143 3 142,oA 144 3 6,oL 145 6 144,oA 146 2 6,oL 147 6 146,oO 148 (.slc false 1 (.t 145) none (some (.t 147)) none),cF 149 134 [.t 141,.t 143,.t 148],oM 150 149,oTm 150 151 0,oT 150 152 (.faddr 5 (.t 3)),oT 150 153 (.load (.box 3) false 1 (.t 152)),oT 150 154 (.faddr 1 (.t 6)),oT 150 155 (.load (.box 6) false 1 (.t 154)),oT 150 156 (.bslice 1 (.int .i64 0) 1 [(0,(.t 155))]),oT 150 157 (pF 136 [.t 151,.t 153,.t 156]),oO 158 (.pick (.t 150) (.t 157) (.c bF)),oM 4 158] .ret)))) .skip)))))))))))))))))) (sr [oC 4 bF] .ret)))⟩
theorem ok112:ze Tryz.prog Tryz.f112 F112=true:=by kernel_rfl
def F85:IFn:=⟨42,4,[.tmp 8],false,false,none,(sr [oO 5 (.boxL 5 (.t 1)),oO 6 (.boxL 6 (.t 2)),oC 8 bF] (.seq (.block 0 (sr [oLa 10 5 8 5,cP 11 108 [.t 10],oU 12 11,oM 9 12] (.cond (.t 9) (sr [oC 8 bF] .ret) (sr [oA 14 0 5,oL 15 5 14,oD 16 .eql 15 10,oM 13 16] (.cond (.t 13) (sr [oM 17 0,oLa 18 5 8 5,oLa 19 6 5 6,oM 20 3,oD 21 .add 20 1,cF 22 109 [.t 17,.t 18,.t 19,.t 21],oM 8 22] .ret) (sr [oA 24 0 5,oL 25 5 24,oD 26 .eql 25 11,oM 23 26] (.cond (.t 23) (sr [oM 27 0,oLa 28 5 8 5,oM 29 3,oD 30 .add 29 1,cF 31 110 [.t 27,.t 28,.t 30],oM 8 31] .ret) (sr [oLa 33 5 8 5,cP 34 106 [.t 33],oM 32 34] (.cond (.t 32) (sr [oM 35 0,oLa 36 5 8 5,oLa 37 6 5 6,cF 38 111 [.t 35,.t 36,.t 37],oM 8 38] .ret) .skip))))))))) (sr [oM 39 0,oLa 40 5 8 5,cF 41 112 [.t 39,.t 40],oM 8 41] .ret)))⟩
theorem ok85:ze Tryz.prog Tryz.f85 F85=true:=by kernel_rfl
def L59_0:ICode:= .loop [0,1,3,6,13,14,15] [10]
 (sr [
 oP 16 .lss 15 14]
 (.seq
 (.cond (.t 16)
 .skip
 (.exit 0))
 (.seq
 (.block 1
 (sr [
 oM 17 15,
 oI 18 8 13 15,
 oW 19 8 18,
 oO 10 (.boxL 10 (.c (.agg [.int .i64 0,.int .i64 0,.int .i64 0,.str [],.slice .fit 1 [],.slice .fit 1 [],.slice .fit 1 [],.slice .fit 1 []]))),
 oM 9 17,
 oS 10 8 10 19]
 (sr [
 oM 20 3,
 oD 21 .gtr 20 100,
 oM 22 21,
 oFm 22 23 0,
 oF 22 24 (.load (.box 10) true 8 (.t 10)),
 oF 22 25 (.load (.box 6) true 5 (.t 6)),
 oFm 22 26 3,
 oF 22 27 (pF 85 [.t 23,.t 24,.t 25,.t 26]),
 oF 22 28 (.un .not (.t 27)),
 oO 29 (.pick (.t 22) (.c bT) (.t 28)),
 oM 30 29,
 oF 30 31 (.load (.box 10) true 8 (.t 10)),
 oF 30 32 (pP 77 [.t 31]),
 oFm 30 33 9,
 oFm 30 34 1,
 oF 30 35 (.len 1 (.t 34)),
 oF 30 36 (.bin 0 [] .sub (.t 35) (cI 1)),
 oF 30 37 (.bin 0 [] .eql (.t 33) (.t 36)),
 oF 30 38 (.bin 1 [] .neq (.t 32) (.t 37)),
 oO 39 (.pick (.t 30) (.c bT) (.t 38))]
 (.cond (.t 39)
 (sr [
 oC 8 bF]
 .ret)
 .skip))))
 (.region [
 oD 40 .add 15 1,
 oM 15 40]))))
def L59_1:ICode:= .loop [0,1,41,42,43] [12]
 (sr [
 oP 44 .lss 43 42]
 (.seq
 (.cond (.t 44)
 .skip
 (.exit 2))
 (.seq
 (.block 3
 (sr [
 oI 45 8 41 43,
 oW 46 8 45,
 oO 12 (.boxL 12 (.c (.agg [.int .i64 0,.int .i64 0,.int .i64 0,.str [],.slice .fit 1 [],.slice .fit 1 [],.slice .fit 1 [],.slice .fit 1 []]))),
 oS 12 8 12 46]
 (.region [
 oM 47 0,
 oA 48 5 12,
 oL 49 12 48,
 cF 50 86 [.t 47,.t 49]])))
 (.region [
 oD 51 .add 43 1,
 oM 43 51]))))
abbrev K59_0:List Nat:=[0,1,3,6,13,14]
abbrev B59_0:List Nat:=[6]
abbrev K59_1:List Nat:=[0,1,41,42]
abbrev B59_1:List Nat:=[]
def F59:IFn:=⟨55,4,[.tmp 8],false,false,none,(sr [oO 6 (.boxL 6 (.t 2)),oC 8 bF] (.seq (sr [oM 13 1,oY 14 13,oZ 15 0] (.block 0 L59_0)) (.seq (sr [oM 41 1,oY 42 41,oZ 43 0] (.block 2 L59_1)) (sr [oE 52 1,oY 53 52,oD 54 .gtr 53 0,oM 8 54] .ret))))⟩
theorem ok59:ze Tryz.prog Tryz.f59 F59=true:=by kernel_rfl
def L39_0:ICode:= .loop [3,5,30,31] []
 (sr [
 oP 32 .lss 31 30]
 (.seq
 (.cond (.t 32)
 .skip
 (.exit 0))
 (.seq
 (.block 1
 (sr [
 oM 33 31,
 oM 6 33]
 (.region [
 oM 34 5,
 oK 35 34,
 oA 36 7 35,
 oG 37 36,
 oM 38 6,
 oI 39 1 37 38,
 oN (.store .any 1 (.t 39) (cI 1))])))
 (.region [
 oD 40 .add 31 1,
 oM 31 40]))))
abbrev K39_0:List Nat:=[3,5,30]
abbrev B39_0:List Nat:=[3]
def F39:IFn:=⟨46,2,[.tmp 4],true,false,none,(sr [oO 2 (.boxL 2 (.t 0)),oO 3 (.boxL 3 (.t 1)),oC 4 bF] (.seq (sr [oA 7 2 3,oL 8 3 7,oD 9 .gtr 8 8,oM 10 9,oF 10 11 (.faddr 3 (.t 3)),oF 10 12 (.load (.box 3) false 1 (.t 11)),oF 10 13 (.len 1 (.t 12)),oF 10 14 (.bin 0 [] .gtr (.t 13) (cI 20000)),oO 15 (.pick (.t 10) (.c bT) (.t 14)),oM 16 15,oF 16 17 (.faddr 3 (.t 3)),oF 16 18 (.load (.box 3) false 1 (.t 17)),oF 16 19 (pF 57 [(.t 18),(.c (.fn 58 [] []))]),oO 20 (.pick (.t 16) (.c bT) (.t 19))] (.cond (.t 20) (sr [oC 4 bF] .ret) .skip)) (sr [oLa 21 2 2 2,oLa 22 3 5 3,oA 23 3 3,oL 24 3 23,oY 25 24,oO 26 (.mksliceS 1 (.int .i64 0) 8 (.t 25) (.t 25)),oO 27 (.build [.slice .fit 2 [],.slice .fit 5 [],.str [],.int .i64 0,.int .i64 0,.slice .fit 1 [],.slice .fit 8 [],.slice .fit 1 []] [(0,2,(.t 21)),(2,5,(.t 22)),(7,1,(.t 26))]),oO 28 (.boxI (.t 27)),oM 5 28] (.seq (sr [oA 29 2 3,oL 30 3 29,oZ 31 0] (.block 0 L39_0)) (sr [oM 41 5,oA 42 4 3,oL 43 3 42,oO 44 (.build [.bool false,.bool false,.slice .fit 1 [],.slice .fit 1 [],.slice .fit 1 []] []),cF 45 59 [.t 41,.t 43,.t 44,cI 1],oM 4 45] .ret)))))⟩
theorem ok39:ze Tryz.prog Tryz.f39 F39=true:=by kernel_rfl
def L23_0:ICode:= .loop [1,10,11,12] [5]
 (sr [
 oP 13 .lss 12 11]
 (.seq
 (.cond (.t 13)
 .skip
 (.exit 0))
 (.seq
 (.block 1
 (sr [
 oM 14 12,
 oI 15 5 10 12,
 oW 16 5 15,
 oO 5 (.boxL 5 (.c (.agg [.str [],.int .i64 0,.int .i64 0,.slice .fit 1 [],.slice .fit 8 []]))),
 oM 4 14,
 oS 5 5 5 16]
 (sr [
 oLa 17 1 2 1,
 oLa 18 5 5 5,
 cP 19 39 [.t 17,.t 18],
 oU 20 19]
 (.cond (.t 20)
 (sr [
 oM 21 4,
 oZ 2 80,
 oM 3 21]
 .ret)
 .skip))))
 (.region [
 oD 22 .add 12 1,
 oM 12 22]))))
abbrev K23_0:List Nat:=[1,10,11]
abbrev B23_0:List Nat:=[1]
def F23:IFn:=⟨23,1,[.tmp 2,.tmp 3],false,false,none,(sr [oO 1 (.boxL 1 (.t 0)),oZ 2 0,oZ 3 0] (.seq (sr [oLa 6 1 2 1,cP 7 38 [.t 6],oU 8 7] (.cond (.t 8) (sr [oZ 2 1,oZ 3 0] .ret) .skip)) (.seq (sr [oA 9 1 1,oL 10 1 9,oY 11 10,oZ 12 0] (.block 0 L23_0)) (sr [oZ 2 0,oZ 3 0] .ret))))⟩
theorem ok23:ze Tryz.prog Tryz.f23 F23=true:=by kernel_rfl
def F125:IFn:=⟨40,3,[],false,false,none,(sr [oO 5 (.boxL 5 (.t 2))] (sr [oM 9 0,oK 10 9,oA 11 0 10,oG 12 11,oM 13 1,oO 14 (.lookup false true (.agg [.bool false,.int .i64 0]) (.t 12) (.t 13)),oM 8 14,oX 15 8 0,oX 16 8 1,oO 6 (.boxL 6 (.c (.agg [.bool false,.int .i64 0]))),oS 6 2 6 15,oM 7 16] (.seq (sr [oM 17 7,oM 18 17,oT 18 19 (.load (.box 6) true 2 (.t 6)),oT 18 20 (.load (.box 5) true 2 (.t 5)),oT 18 21 (.bin 4 [1,0] .neq (.t 19) (.t 20)),oO 22 (.pick (.t 18) (.t 21) (.c bF))] (.cond (.t 22) (.region [oO 23 (.build [.bool false,.int .i64 0] [(0,1,(.c bT))]),oS 5 2 5 23]) .skip)) (sr [oM 24 7,oU 25 24,oM 26 25,oF 26 27 (.load (.box 6) true 2 (.t 6)),oF 26 28 (.load (.box 5) true 2 (.t 5)),oF 26 29 (.bin 4 [1,0] .neq (.t 27) (.t 28)),oO 30 (.pick (.t 26) (.c bT) (.t 29))] (.cond (.t 30) (sr [oM 31 0,oK 32 31,oA 33 0 32,oG 34 33,oM 35 1,oLa 36 5 2 5,oN (.mapset false (.t 34) (.t 35) (.t 36))] (.region [oM 37 0,oK 38 37,oA 39 1 38,oN (.store .any 1 (.t 39) (.c bT))])) .skip)))))⟩
theorem ok125:ze Tryz.prog Tryz.f125 F125=true:=by kernel_rfl
def F102:IFn:=⟨25,2,[.tmp 4,.tmp 5],false,false,none,(sr [oZ 4 0,oC 5 bF] (sr [oM 9 0,oK 10 9,oA 11 0 10,oG 12 11,oM 13 1,oO 14 (.lookup false true (.agg [.bool false,.int .i64 0]) (.t 12) (.t 13)),oM 8 14,oX 15 8 0,oX 16 8 1,oO 6 (.boxL 6 (.c (.agg [.bool false,.int .i64 0]))),oS 6 2 6 15,oM 7 16] (sr [oA 17 1 6,oL 18 6 17,oM 19 7,oM 20 19,oT 20 21 (.faddr 0 (.t 6)),oT 20 22 (.load (.box 6) false 1 (.t 21)),oT 20 23 (.un .not (.t 22)),oO 24 (.pick (.t 20) (.t 23) (.c bF)),oM 4 18,oM 5 24] .ret)))⟩
theorem ok102:ze Tryz.prog Tryz.f102 F102=true:=by kernel_rfl
def F160:IFn:=⟨4,1,[.tmp 2],false,false,none,(sr [oZ 2 0] (.seq (sr [oM 3 0] (.cond (.t 3) (sr [oZ 2 1] .ret) .skip)) (sr [oZ 2 0] .ret)))⟩
theorem ok160:ze Tryz.prog Tryz.f160 F160=true:=by kernel_rfl
def F139:IFn:=⟨49,2,[.tmp 4],false,false,none,(sr [oZ 4 0] (.seq (sr [oM 5 0] (.block 0 (sr [oD 7 .eql 5 20,oM 6 7] (.cond (.t 6) (sr [oM 8 1,oO 9 (.un .neg (.t 8)),oM 4 9] .ret) (sr [oD 11 .eql 5 21,oM 10 11] (.cond (.t 10) (sr [oM 12 1,oO 13 (.un .xor (.t 12)),oM 4 13] .ret) (sr [oD 15 .eql 5 22,oM 14 15] (.cond (.t 14) (sr [oM 16 1,oD 17 .eql 16 0,cP 18 160 [.t 17],oM 4 18] .ret) (sr [oD 20 .eql 5 23,oM 19 20] (.cond (.t 19) (sr [oM 21 1,oO 22 (.conv .i8 (.t 21)),oO 23 (.conv .i64 (.t 22)),oM 4 23] .ret) (sr [oD 25 .eql 5 24,oM 24 25] (.cond (.t 24) (sr [oM 26 1,oO 27 (.conv .i16 (.t 26)),oO 28 (.conv .i64 (.t 27)),oM 4 28] .ret) (sr [oD 30 .eql 5 25,oM 29 30] (.cond (.t 29) (sr [oM 31 1,oO 32 (.conv .i32 (.t 31)),oO 33 (.conv .i64 (.t 32)),oM 4 33] .ret) (sr [oD 35 .eql 5 26,oM 34 35] (.cond (.t 34) (sr [oM 36 1,oO 37 (.conv .u8 (.t 36)),oO 38 (.conv .i64 (.t 37)),oM 4 38] .ret) (sr [oD 40 .eql 5 27,oM 39 40] (.cond (.t 39) (sr [oM 41 1,oO 42 (.conv .u16 (.t 41)),oO 43 (.conv .i64 (.t 42)),oM 4 43] .ret) (sr [oD 45 .eql 5 28,oM 44 45] (.cond (.t 44) (sr [oM 46 1,oO 47 (.conv .u32 (.t 46)),oO 48 (.conv .i64 (.t 47)),oM 4 48] .ret) .skip)))))))))))))))))))) (sr [oZ 4 0] .ret)))⟩
theorem ok139:ze Tryz.prog Tryz.f139 F139=true:=by kernel_rfl
def F161:IFn:=⟨39,3,[.tmp 6,.tmp 7],false,false,none,(sr [oC 6 bF,oC 7 bF] (.seq (sr [oM 8 0] (.block 0 (sr [oD 10 .eql 8 12,oM 9 10] (.cond (.t 9) (sr [oM 11 1,oM 12 2,oP 13 .lss 11 12,oM 6 13,oC 7 bT] .ret) (sr [oD 15 .eql 8 13,oM 14 15] (.cond (.t 14) (sr [oM 16 1,oM 17 2,oP 18 .leq 16 17,oM 6 18,oC 7 bT] .ret) (sr [oD 20 .eql 8 14,oM 19 20] (.cond (.t 19) (sr [oM 21 1,oM 22 2,oP 23 .gtr 21 22,oM 6 23,oC 7 bT] .ret) (sr [oD 25 .eql 8 15,oM 24 25] (.cond (.t 24) (sr [oM 26 1,oM 27 2,oP 28 .geq 26 27,oM 6 28,oC 7 bT] .ret) (sr [oD 30 .eql 8 16,oM 29 30] (.cond (.t 29) (sr [oM 31 1,oM 32 2,oP 33 .eql 31 32,oM 6 33,oC 7 bT] .ret) (sr [oD 35 .eql 8 17,oM 34 35] (.cond (.t 34) (sr [oM 36 1,oM 37 2,oP 38 .neq 36 37,oM 6 38,oC 7 bT] .ret) .skip)))))))))))))) (sr [oC 6 bF,oC 7 bF] .ret)))⟩
theorem ok161:ze Tryz.prog Tryz.f161 F161=true:=by kernel_rfl
def F147:IFn:=⟨86,3,[.tmp 6,.tmp 7],false,false,none,(sr [oZ 6 0,oC 7 bF] (.seq (sr [oM 11 0,oM 12 1,oM 13 2,cP 14 161 [.t 11,.t 12,.t 13],oM 10 14,oX 15 10 0,oX 16 10 1,oM 8 15,oM 9 16] (sr [oM 17 9] (.cond (.t 17) (sr [oM 18 8,cP 19 160 [.t 18],oM 6 19,oC 7 bT] .ret) .skip))) (.seq (sr [oM 20 0] (.block 0 (sr [oD 22 .eql 20 1,oM 21 22] (.cond (.t 21) (sr [oM 23 1,oM 24 2,oP 25 .add 23 24,oM 6 25,oC 7 bT] .ret) (sr [oD 27 .eql 20 2,oM 26 27] (.cond (.t 26) (sr [oM 28 1,oM 29 2,oP 30 .sub 28 29,oM 6 30,oC 7 bT] .ret) (sr [oD 32 .eql 20 3,oM 31 32] (.cond (.t 31) (sr [oM 33 1,oM 34 2,oP 35 .mul 33 34,oM 6 35,oC 7 bT] .ret) (sr [oD 37 .eql 20 6,oM 36 37] (.cond (.t 36) (sr [oM 38 1,oM 39 2,oP 40 .and 38 39,oM 6 40,oC 7 bT] .ret) (sr [oD 42 .eql 20 7,oM 41 42] (.cond (.t 41) (sr [oM 43 1,oM 44 2,oP 45 .or 43 44,oM 6 45,oC 7 bT] .ret) (sr [oD 47 .eql 20 8,oM 46 47] (.cond (.t 46) (sr [oM 48 1,oM 49 2,oP 50 .xor 48 49,oM 6 50,oC 7 bT] .ret) (sr [oD 52 .eql 20 9,oM 51 52] (.cond (.t 51) (sr [oM 53 1,oM 54 2,oD 55 .and 54 63,oP 56 .shl 53 55,oM 6 56,oC 7 bT] .ret) (sr [oD 58 .eql 20 10,oM 57 58] (.cond (.t 57) (sr [oM 59 1,oM 60 2,oD 61 .and 60 63,oP 62 .shr 59 61,oM 6 62,oC 7 bT] .ret) (sr [oD 64 .eql 20 11,oM 63 64] (.cond (.t 63) (sr [oM 65 1,oO 66 (.conv .u64 (.t 65)),oM 67 2,oD 68 .and 67 63,oP 69 .shr 66 68,oO 70 (.conv .i64 (.t 69)),oM 6 70,oC 7 bT] .ret) .skip)))))))))))))))))))) (.seq (.block 1 (sr [oM 72 2,oD 73 .eql 72 0,oM 71 73] (.cond (.t 71) (sr [oZ 6 0,oC 7 bF] .ret) (sr [oM 75 0,oD 76 .eql 75 4,oM 74 76] (.cond (.t 74) (sr [oM 77 1,oM 78 2,oP 79 .quo 77 78,oM 6 79,oC 7 bT] .ret) (sr [oM 81 0,oD 82 .eql 81 5,oM 80 82] (.cond (.t 80) (sr [oM 83 1,oM 84 2,oP 85 .rem 83 84,oM 6 85,oC 7 bT] .ret) .skip))))))) (sr [oZ 6 0,oC 7 bF] .ret)))))⟩
theorem ok147:ze Tryz.prog Tryz.f147 F147=true:=by kernel_rfl
def F126:IFn:=⟨54,2,[.cell 4 true 2],false,false,none,(sr [oO 3 (.boxL 3 (.t 1)),oO 4 (.boxL 4 (.c (.agg [.bool false,.int .i64 0])))] (sr [oM 12 0,oA 13 4 3,oL 14 3 13,oO 15 (.iaddr 1 (.t 14) (cI 0)),oG 16 15,cF 17 102 [.t 12,.t 16],oM 11 17,oX 18 11 0,oX 19 11 1,oM 5 18,oM 6 19] (.seq (.block 0 (sr [oM 42 6,oU 43 42,oM 41 43] (.cond (.t 41) .skip (sr [oA 45 0 3,oL 46 3 45,oD 47 .eql 46 3,oM 44 47] (.cond (.t 44) (sr [oA 48 1 3,oL 49 3 48,oM 50 5,cP 51 139 [.t 49,.t 50],oO 52 (.build [.bool false,.int .i64 0] [(1,1,(.t 51))]),oS 4 2 4 52] .ret) (sr [oM 21 0,oA 22 4 3,oL 23 3 22,oO 24 (.iaddr 1 (.t 23) (cI 1)),oG 25 24,cF 26 102 [.t 21,.t 25],oM 20 26,oX 27 20 0,oX 28 20 1,oM 7 27,oM 8 28] (sr [oM 29 8] (.cond (.t 29) (sr [oA 31 1 3,oL 32 3 31,oM 33 5,oM 34 7,cP 35 147 [.t 32,.t 33,.t 34],oM 30 35,oX 36 30 0,oX 37 30 1,oM 9 36,oM 10 37] (sr [oM 38 10] (.cond (.t 38) (sr [oM 39 9,oO 40 (.build [.bool false,.int .i64 0] [(1,1,(.t 39))]),oS 4 2 4 40] .ret) .skip))) .skip)))))))) (sr [oO 53 (.build [.bool false,.int .i64 0] [(0,1,(.c bT))]),oS 4 2 4 53] .ret))))⟩
theorem ok126:ze Tryz.prog Tryz.f126 F126=true:=by kernel_rfl
def L149_0:ICode:= .loop [0,9,10,11] [6]
 (sr [
 oP 12 .lss 11 10]
 (.seq
 (.cond (.t 12)
 .skip
 (.exit 0))
 (.seq
 (.block 1
 (sr [
 oI 13 8 9 11,
 oW 14 8 13,
 oO 6 (.boxL 6 (.c (.agg [.int .i64 0,.int .i64 0,.int .i64 0,.str [],.slice .fit 1 [],.slice .fit 1 [],.slice .fit 1 [],.slice .fit 1 []]))),
 oS 6 8 6 14]
 (sr [
 oZ 7 0,
 oC 8 bF]
 (.seq
 (sr [
 oA 15 0 6,
 oL 16 6 15,
 oD 17 .eql 16 10]
 (.cond (.t 17)
 (.region [
 oM 19 0,
 oA 20 4 6,
 oL 21 6 20,
 oO 22 (.iaddr 1 (.t 21) (cI 0)),
 oG 23 22,
 cF 24 102 [.t 19,.t 23],
 oM 18 24,
 oX 25 18 0,
 oX 26 18 1,
 oM 7 25,
 oM 8 26])
 .skip))
 (.block 2
 (sr [
 oA 28 0 6,
 oL 29 6 28,
 oD 30 .eql 29 14,
 oM 27 30]
 (.cond (.t 27)
 (sr [
 oC 4 bT]
 .ret)
 (sr [
 oA 32 0 6,
 oL 33 6 32,
 oD 34 .eql 33 10,
 oM 35 34,
 oTm 35 36 8,
 oTm 35 37 36,
 oTm 37 38 7,
 oT 37 39 (.bin 0 [] .eql (.t 38) (cI 0)),
 oT 35 40 (.pick (.t 37) (.t 39) (.c bF)),
 oT 35 41 (.un .not (.t 40)),
 oTm 35 42 41,
 oTm 42 43 0,
 oT 42 44 (.faddr 7 (.t 6)),
 oT 42 45 (.load (.box 6) false 1 (.t 44)),
 oT 42 46 (.iaddr 1 (.t 45) (cI 0)),
 oT 42 47 (.load .any false 1 (.t 46)),
 oT 42 48 (pF 149 [.t 43,.t 47]),
 oT 35 49 (.pick (.t 42) (.t 48) (.c bF)),
 oTm 35 50 49,
 oFm 50 51 8,
 oFm 50 52 51,
 oTm 52 53 7,
 oT 52 54 (.bin 0 [] .neq (.t 53) (cI 0)),
 oF 50 55 (.pick (.t 52) (.t 54) (.c bF)),
 oF 50 56 (.un .not (.t 55)),
 oFm 50 57 56,
 oTm 57 58 0,
 oT 57 59 (.faddr 7 (.t 6)),
 oT 57 60 (.load (.box 6) false 1 (.t 59)),
 oT 57 61 (.iaddr 1 (.t 60) (cI 1)),
 oT 57 62 (.load .any false 1 (.t 61)),
 oT 57 63 (pF 149 [.t 58,.t 62]),
 oF 50 64 (.pick (.t 57) (.t 63) (.c bF)),
 oT 35 65 (.pick (.t 50) (.c bT) (.t 64)),
 oO 66 (.pick (.t 35) (.t 65) (.c bF)),
 oM 31 66]
 (.cond (.t 31)
 (sr [
 oC 4 bT]
 .ret)
 (sr [
 oM 68 0,
 oLa 69 6 8 6,
 cF 70 162 [.t 68,.t 69],
 oU 71 70,
 oM 67 71]
 (.cond (.t 67)
 (sr [
 oC 4 bF]
 .ret)
 .skip)))))))))))
 (.region [
 oD 72 .add 11 1,
 oM 11 72]))))
abbrev K149_0:List Nat:=[0,9,10]
abbrev B149_0:List Nat:=[]
def F149:IFn:=⟨73,2,[.tmp 4],false,false,none,(sr [oC 4 bF] (.seq (sr [oE 9 1,oY 10 9,oZ 11 0] (.block 0 L149_0)) (sr [oC 4 bF] .ret)))⟩
theorem ok149:ze Tryz.prog Tryz.f149 F149=true:=by kernel_rfl
def F162:IFn:=⟨66,2,[.tmp 4],false,false,none,(sr [oO 3 (.boxL 3 (.t 1)),oC 4 bF] (.seq (sr [oA 7 0 3,oL 8 3 7] (.block 0 (sr [oD 10 .eql 8 10,oM 9 10] (.cond (.t 9) (sr [oM 12 0,oA 13 4 3,oL 14 3 13,oO 15 (.iaddr 1 (.t 14) (cI 0)),oG 16 15,cF 17 102 [.t 12,.t 16],oM 11 17,oX 18 11 0,oX 19 11 1,oM 5 18,oM 6 19] (sr [oM 20 6,oM 21 20,oTm 21 22 5,oT 21 23 (.bin 0 [] .eql (.t 22) (cI 0)),oO 24 (.pick (.t 21) (.t 23) (.c bF)),oU 25 24,oM 26 25,oTm 26 27 0,oT 26 28 (.faddr 7 (.t 3)),oT 26 29 (.load (.box 3) false 1 (.t 28)),oT 26 30 (.iaddr 1 (.t 29) (cI 0)),oT 26 31 (.load .any false 1 (.t 30)),oT 26 32 (pF 148 [.t 27,.t 31]),oO 33 (.pick (.t 26) (.t 32) (.c bF)),oM 34 33,oFm 34 35 6,oFm 34 36 35,oTm 36 37 5,oT 36 38 (.bin 0 [] .neq (.t 37) (cI 0)),oF 34 39 (.pick (.t 36) (.t 38) (.c bF)),oF 34 40 (.un .not (.t 39)),oFm 34 41 40,oTm 41 42 0,oT 41 43 (.faddr 7 (.t 3)),oT 41 44 (.load (.box 3) false 1 (.t 43)),oT 41 45 (.iaddr 1 (.t 44) (cI 1)),oT 41 46 (.load .any false 1 (.t 45)),oT 41 47 (pF 148 [.t 42,.t 46]),oF 34 48 (.pick (.t 41) (.t 47) (.c bF)),oO 49 (.pick (.t 34) (.c bT) (.t 48)),oM 4 49] .ret)) (sr [oD 51 .eql 8 11,oM 50 51] (.cond (.t 50) (sr [oM 52 0,oA 53 7 3,oL 54 3 53,oO 55 (.iaddr 1 (.t 54) (cI 0)),oG 56 55,cF 57 149 [.t 52,.t 56],oM 4 57] .ret) .skip)))))) (sr [oA 58 0 3,oL 59 3 58,oD 60 .eql 59 12,oM 61 60,oF 61 62 (.load (.box 3) true 8 (.t 3)),oF 61 63 (pP 77 [.t 62]),oF 61 64 (.un .not (.t 63)),oO 65 (.pick (.t 61) (.c bT) (.t 64)),oM 4 65] .ret)))⟩
theorem ok162:ze Tryz.prog Tryz.f162 F162=true:=by kernel_rfl
def L148_0:ICode:= .loop [0,1,7,8,9] [6]
 (sr [
 oP 10 .lss 9 8]
 (.seq
 (.cond (.t 10)
 .skip
 (.exit 0))
 (.seq
 (.block 1
 (sr [
 oI 11 8 7 9,
 oW 12 8 11,
 oO 6 (.boxL 6 (.c (.agg [.int .i64 0,.int .i64 0,.int .i64 0,.str [],.slice .fit 1 [],.slice .fit 1 [],.slice .fit 1 [],.slice .fit 1 []]))),
 oS 6 8 6 12]
 (sr [
 oM 13 0,
 oLa 14 6 8 6,
 cF 15 162 [.t 13,.t 14],
 oU 16 15]
 (.cond (.t 16)
 (sr [
 oC 4 bF]
 .ret)
 .skip))))
 (.region [
 oD 17 .add 9 1,
 oM 9 17]))))
abbrev K148_0:List Nat:=[0,1,7,8]
abbrev B148_0:List Nat:=[]
def F148:IFn:=⟨26,2,[.tmp 4],false,false,none,(sr [oC 4 bF] (.seq (sr [oM 7 1,oY 8 7,oZ 9 0] (.block 0 L148_0)) (sr [oM 18 1,oE 19 1,oY 20 19,oD 21 .sub 20 1,oI 22 8 18 21,oA 23 0 22,oG 24 23,oD 25 .eql 24 12,oM 4 25] .ret)))⟩
theorem ok148:ze Tryz.prog Tryz.f148 F148=true:=by kernel_rfl
def L127_0:ICode:= .loop [0,5,7,8,9,25,26,27] []
 (sr [
 oP 28 .lss 27 26]
 (.seq
 (.cond (.t 28)
 .skip
 (.exit 0))
 (.seq
 (.block 1
 (sr [
 oM 29 27,
 oI 30 1 25 27,
 oG 31 30,
 oM 10 29,
 oE 11 31]
 (.seq
 (sr [
 oM 32 8,
 oM 33 32,
 oTm 33 34 7,
 oT 33 35 (.bin 0 [] .neq (.t 34) (cI 0)),
 oTm 33 36 10,
 oT 33 37 (.bin 0 [] .eql (.t 36) (cI 0)),
 oT 33 38 (.bin 1 [] .neq (.t 35) (.t 37)),
 oO 39 (.pick (.t 33) (.t 38) (.c bF))]
 (.cond (.t 39)
 (.exit 1)
 .skip))
 (sr [
 oM 40 0,
 oM 41 11,
 oLa 42 5 3 5,
 cF 43 75 [.t 40,.t 41,.t 42]]
 (.region [
 oM 44 9,
 oM 45 44,
 oFm 45 46 0,
 oF 45 47 (.take 11),
 oF 45 48 (pF 148 [.t 46,.t 47]),
 oO 49 (.pick (.t 45) (.c bT) (.t 48)),
 oM 9 49])))))
 (.region [
 oD 50 .add 27 1,
 oM 27 50]))))
abbrev K127_0:List Nat:=[0,5,7,8,25,26]
abbrev B127_0:List Nat:=[5]
def F127:IFn:=⟨52,3,[.tmp 6],false,false,none,(sr [oO 4 (.boxL 4 (.t 1)),oO 5 (.boxL 5 (.t 2)),oC 6 bF] (sr [oA 12 5 4,oL 13 4 12,oA 14 0 5,oS 5 1 14 13] (sr [oM 16 0,oA 17 4 4,oL 18 4 17,oO 19 (.iaddr 1 (.t 18) (cI 0)),oG 20 19,cF 21 102 [.t 16,.t 20],oM 15 21,oX 22 15 0,oX 23 15 1,oM 7 22,oM 8 23] (sr [oC 9 bF] (.seq (sr [oA 24 7 4,oL 25 4 24,oY 26 25,oZ 27 0] (.block 0 L127_0)) (sr [oM 51 9,oM 6 51] .ret))))))⟩
theorem ok127:ze Tryz.prog Tryz.f127 F127=true:=by kernel_rfl
def L129_0:ICode:= .loop [0,2,10,11,12] [8]
 (sr [
 oP 13 .lss 12 11]
 (.seq
 (.cond (.t 13)
 .skip
 (.exit 0))
 (.seq
 (.block 1
 (sr [
 oM 14 12,
 oI 15 1 10 12,
 oG 16 15,
 oM 6 14,
 oM 7 16]
 (sr [
 oM 18 0,
 oK 19 18,
 oA 20 0 19,
 oG 21 20,
 oM 22 2,
 oM 23 6,
 oI 24 1 22 23,
 oH 25 24,
 oO 26 (.lookup false true (.agg [.bool false,.int .i64 0]) (.t 21) (.t 25)),
 oM 17 26,
 oX 27 17 0,
 oX 28 17 1,
 oO 8 (.boxL 8 (.c (.agg [.bool false,.int .i64 0]))),
 oS 8 2 8 27,
 oM 9 28]
 (sr [
 oM 29 9]
 (.cond (.t 29)
 (.region [
 oM 30 0,
 oM 31 7,
 oLa 32 8 2 8,
 cF 33 125 [.t 30,.t 31,.t 32]])
 .skip)))))
 (.region [
 oD 34 .add 12 1,
 oM 12 34]))))
abbrev K129_0:List Nat:=[0,2,10,11]
abbrev B129_0:List Nat:=[]
def F129:IFn:=⟨35,3,[],false,false,none,(sr [oE 10 1,oY 11 10,oZ 12 0] (.block 0 L129_0))⟩
theorem ok129:ze Tryz.prog Tryz.f129 F129=true:=by kernel_rfl
def F128:IFn:=⟨28,2,[.tmp 4],false,false,none,(sr [oO 3 (.boxL 3 (.t 1)),oC 4 bF] (sr [oM 5 0,oA 6 6 3,oL 7 3 6,oA 8 4 3,oL 9 3 8,cF 10 129 [.t 5,.t 7,.t 9]] (sr [oM 11 0,oA 12 7 3,oL 13 3 12,oO 14 (.iaddr 1 (.t 13) (cI 0)),oH 15 14,oA 16 6 3,oL 17 3 16,oA 18 5 3,oL 19 3 18,oO 20 (.build [.slice .fit 1 [],.slice .fit 1 [],.slice .fit 1 []] [(1,1,(.t 17)),(2,1,(.t 19))]),cF 21 75 [.t 11,.t 15,.t 20]] (sr [oM 22 0,oA 23 7 3,oL 24 3 23,oO 25 (.iaddr 1 (.t 24) (cI 0)),oG 26 25,cF 27 149 [.t 22,.t 26],oM 4 27] .ret))))⟩
theorem ok128:ze Tryz.prog Tryz.f128 F128=true:=by kernel_rfl
def L99_0:ICode:= .loop [0,4,12,13,14] []
 (sr [
 oP 15 .lss 14 13]
 (.seq
 (.cond (.t 15)
 .skip
 (.exit 1))
 (.seq
 (.block 2
 (sr [
 oI 16 1 12 14,
 oG 17 16,
 oM 8 17]
 (.region [
 oM 18 0,
 oM 19 8,
 oO 20 (.build [.bool false,.int .i64 0] [(0,1,(.c bT))]),
 cF 21 125 [.t 18,.t 19,.t 20]])))
 (.region [
 oD 22 .add 14 1,
 oM 14 22]))))
abbrev K99_0:List Nat:=[0,4,12,13]
abbrev B99_0:List Nat:=[4]
def F99:IFn:=⟨85,3,[.tmp 6],false,false,none,(sr [oO 4 (.boxL 4 (.t 1)),oO 5 (.boxL 5 (.t 2)),oC 6 bF] (.seq (sr [oA 9 0 4,oL 10 4 9] (.block 0 (.seq (sr [oD 24 .eql 10 1,oM 23 24] (.cond (.t 23) .skip (.region [oD 25 .eql 10 2,oM 23 25]))) (.cond (.t 23) (.region [oM 26 0,oA 27 5 4,oL 28 4 27,oO 29 (.iaddr 1 (.t 28) (cI 0)),oH 30 29,oA 31 2 4,oL 32 4 31,oO 33 (.build [.bool false,.int .i64 0] [(1,1,(.t 32))]),cF 34 125 [.t 26,.t 30,.t 33]]) (.seq (sr [oD 36 .eql 10 3,oM 35 36] (.cond (.t 35) .skip (.region [oD 37 .eql 10 4,oM 35 37]))) (.cond (.t 35) (.region [oM 38 0,oA 39 5 4,oL 40 4 39,oO 41 (.iaddr 1 (.t 40) (cI 0)),oH 42 41,oM 43 0,oLa 44 4 8 4,cF 45 126 [.t 43,.t 44],cF 46 125 [.t 38,.t 42,.t 45]]) (sr [oD 48 .eql 10 10,oM 47 48] (.cond (.t 47) (sr [oM 49 0,oLa 50 4 8 4,oLa 51 5 3 5,cF 52 127 [.t 49,.t 50,.t 51],oM 6 52] .ret) (sr [oD 54 .eql 10 11,oM 53 54] (.cond (.t 53) (sr [oM 55 0,oLa 56 4 8 4,cF 57 128 [.t 55,.t 56],oM 6 57] .ret) (sr [oD 59 .eql 10 12,oM 58 59] (.cond (.t 58) (.region [oM 60 0,oA 61 0 5,oL 62 5 61,oA 63 4 4,oL 64 4 63,cF 65 129 [.t 60,.t 62,.t 64]]) (sr [oD 67 .eql 10 13,oM 66 67] (.cond (.t 66) (.region [oM 68 0,oA 69 1 5,oL 70 5 69,oA 71 4 4,oL 72 4 71,cF 73 129 [.t 68,.t 70,.t 72]]) (sr [oD 75 .eql 10 14,oM 74 75] (.cond (.t 74) (.region [oM 76 0,oA 77 2 5,oL 78 5 77,oA 79 4 4,oL 80 4 79,cF 81 129 [.t 76,.t 78,.t 80]]) (sr [oA 11 5 4,oL 12 4 11,oY 13 12,oZ 14 0] (.block 1 L99_0)))))))))))))))))) (sr [oLa 82 4 8 4,cP 83 77 [.t 82],oU 84 83,oM 6 84] .ret)))⟩
theorem ok99:ze Tryz.prog Tryz.f99 F99=true:=by kernel_rfl
def L75_0:ICode:= .loop [0,5,8,9,10] [7]
 (sr [
 oP 11 .lss 10 9]
 (.seq
 (.cond (.t 11)
 .skip
 (.exit 0))
 (.seq
 (.block 1
 (sr [
 oI 12 8 8 10,
 oW 13 8 12,
 oO 7 (.boxL 7 (.c (.agg [.int .i64 0,.int .i64 0,.int .i64 0,.str [],.slice .fit 1 [],.slice .fit 1 [],.slice .fit 1 [],.slice .fit 1 []]))),
 oS 7 8 7 13]
 (sr [
 oM 14 0,
 oLa 15 7 8 7,
 oLa 16 5 3 5,
 cF 17 99 [.t 14,.t 15,.t 16],
 oU 18 17]
 (.cond (.t 18)
 .ret
 .skip))))
 (.region [
 oD 19 .add 10 1,
 oM 10 19]))))
abbrev K75_0:List Nat:=[0,5,8,9]
abbrev B75_0:List Nat:=[5]
def F75:IFn:=⟨20,3,[],false,false,none,(sr [oO 5 (.boxL 5 (.t 2))] (sr [oE 8 1,oY 9 8,oZ 10 0] (.block 0 L75_0)))⟩
theorem ok75:ze Tryz.prog Tryz.f75 F75=true:=by kernel_rfl
def L50_0:ICode:= .loop [1,3,9,10] []
 (sr [
 oP 11 .lss 10 9]
 (.seq
 (.cond (.t 11)
 .skip
 (.exit 0))
 (.seq
 (.block 1
 (sr [
 oM 12 10,
 oM 4 12]
 (.region [
 oM 13 3,
 oK 14 13,
 oA 15 0 14,
 oG 16 15,
 oM 17 4,
 oO 18 (.build [.bool false,.int .i64 0] [(0,1,(.c bT))]),
 oN (.mapset false (.t 16) (.t 17) (.t 18))])))
 (.region [
 oD 19 .add 10 1,
 oM 10 19]))))
def L50_1:ICode:= .loop [1,3] []
 (.seq
 (sr [
 oM 23 3,
 oK 24 23,
 oA 25 1 24,
 oG 26 25]
 (.cond (.t 26)
 .skip
 (.exit 2)))
 (.block 3
 (sr [
 oM 27 3,
 oK 28 27,
 oA 29 1 28,
 oN (.store .any 1 (.t 29) (.c bF))]
 (.region [
 oM 30 3,
 oA 31 4 1,
 oL 32 1 31,
 oO 33 (.build [.slice .fit 1 [],.slice .fit 1 [],.slice .fit 1 []] []),
 cF 34 75 [.t 30,.t 32,.t 33]]))))
abbrev K50_0:List Nat:=[1,3,9]
abbrev B50_0:List Nat:=[1]
abbrev K50_1:List Nat:=[1,3]
abbrev B50_1:List Nat:=[1]
def F50:IFn:=⟨36,1,[.tmp 2],false,false,none,(sr [oO 1 (.boxL 1 (.t 0)),oC 2 (.nilp)] (sr [oO 5 (.mkmap),oO 6 (.build [.nilmap,.bool false] [(0,1,(.t 5))]),oO 7 (.boxS 2 (.t 6)),oM 3 7] (.seq (sr [oA 8 2 1,oL 9 1 8,oZ 10 0] (.block 0 L50_0)) (.seq (sr [oM 20 3,oK 21 20,oA 22 1 21,oN (.store .any 1 (.t 22) (.c bT))] (.block 2 L50_1)) (sr [oM 35 3,oM 2 35] .ret)))))⟩
theorem ok50:ze Tryz.prog Tryz.f50 F50=true:=by kernel_rfl
def L100_0:ICode:= .loop [0,4,9,10,11] []
 (sr [
 oP 12 .lss 11 10]
 (.seq
 (.cond (.t 12)
 .skip
 (.exit 0))
 (.seq
 (.block 1
 (sr [
 oI 13 1 9 11,
 oG 14 13,
 oM 6 14]
 (.seq
 (sr [
 oM 16 0,
 oK 17 16,
 oA 18 1 17,
 oG 19 18,
 oM 20 6,
 oO 21 (.lookup false true (.int .i64 0) (.t 19) (.t 20)),
 oM 15 21,
 oX 22 15 0,
 oX 23 15 1,
 oM 7 22,
 oM 8 23]
 (sr [
 oM 24 8]
 (.cond (.t 24)
 (.region [
 oM 25 7,
 oM 6 25])
 .skip)))
 (.region [
 oE 26 4,
 oM 27 6,
 oO 28 (.bslice 1 (.int .i64 0) 1 [(0,(.t 27))]),
 oO 29 (.append 1 8 (.t 26) (.t 28)),
 oE 4 29]))))
 (.region [
 oD 30 .add 11 1,
 oM 11 30]))))
abbrev K100_0:List Nat:=[0,9,10]
abbrev B100_0:List Nat:=[]
def F100:IFn:=⟨32,2,[.tmp 4],false,false,none,(sr [oC 4 (.slice .fit 1 [])] (.seq (sr [oE 9 1,oY 10 9,oZ 11 0] (.block 0 L100_0)) (sr [oE 31 4,oE 4 31] .ret)))⟩
theorem ok100:ze Tryz.prog Tryz.f100 F100=true:=by kernel_rfl
def F101:IFn:=⟨38,2,[.cell 4 true 8],false,false,none,(sr [oO 3 (.boxL 3 (.t 1)),oO 4 (.boxL 4 (.c (.agg [.int .i64 0,.int .i64 0,.int .i64 0,.str [],.slice .fit 1 [],.slice .fit 1 [],.slice .fit 1 [],.slice .fit 1 []])))] (sr [oM 9 0,oK 10 9,oA 11 0 10,oH 12 11,oA 13 5 3,oL 14 3 13,oO 15 (.iaddr 1 (.t 14) (cI 0)),oH 16 15,cF 17 102 [.t 12,.t 16],oM 8 17,oX 18 8 0,oX 19 8 1,oM 5 18,oM 6 19] (.seq (sr [oM 20 6,oU 21 20] (.cond (.t 21) (sr [oLa 22 3 8 3,oS 4 8 4 22] .ret) .skip)) (sr [oZ 7 1] (.seq (sr [oA 23 1 3,oL 24 3 23] (.block 0 (.seq (sr [oD 26 .eql 24 22,oM 25 26] (.cond (.t 25) .skip (sr [oD 27 .eql 24 12,oM 25 27] (.cond (.t 25) .skip (sr [oD 28 .eql 24 13,oM 25 28] (.cond (.t 25) .skip (sr [oD 29 .eql 24 14,oM 25 29] (.cond (.t 25) .skip (sr [oD 30 .eql 24 15,oM 25 30] (.cond (.t 25) .skip (sr [oD 31 .eql 24 16,oM 25 31] (.cond (.t 25) .skip (.region [oD 32 .eql 24 17,oM 25 32]))))))))))))) (.cond (.t 25) (.region [oZ 7 2]) .skip)))) (sr [oM 33 7,oM 34 5,oA 35 5 3,oL 36 3 35,oO 37 (.build [.int .i64 0,.int .i64 0,.int .i64 0,.str [],.slice .fit 1 [],.slice .fit 1 [],.slice .fit 1 [],.slice .fit 1 []] [(0,1,(.t 33)),(2,1,(.t 34)),(5,1,(.t 36))]),oS 4 8 4 37] .ret))))))⟩
theorem ok101:ze Tryz.prog Tryz.f101 F101=true:=by kernel_rfl
def L103_0:ICode:= .loop [0,8,9,36,37,38] []
 (sr [
 oP 39 .lss 38 37]
 (.seq
 (.cond (.t 39)
 .skip
 (.exit 0))
 (.seq
 (.block 1
 (sr [
 oM 40 38,
 oI 41 1 36 38,
 oG 42 41,
 oM 10 40,
 oM 11 42]
 (.region [
 oM 43 0,
 oK 44 43,
 oA 45 1 44,
 oH 46 45,
 oM 47 11,
 oA 48 4 9,
 oL 49 9 48,
 oM 50 10,
 oI 51 1 49 50,
 oH 52 51,
 oN (.mapset false (.t 46) (.t 47) (.t 52))])))
 (.region [
 oD 53 .add 38 1,
 oM 38 53]))))
abbrev K103_0:List Nat:=[0,8,9,36,37]
abbrev B103_0:List Nat:=[9]
def F103:IFn:=⟨59,3,[.tmp 6],false,false,none,(sr [oO 4 (.boxL 4 (.t 1)),oC 6 (.slice .fit 8 [])] (sr [oA 12 7 4,oL 13 4 12,oO 14 (.iaddr 1 (.t 13) (cI 0)),oG 15 14,oE 7 15] (.seq (sr [oM 16 2,oD 17 .eql 16 0] (.cond (.t 17) (.region [oA 18 7 4,oL 19 4 18,oO 20 (.iaddr 1 (.t 19) (cI 1)),oG 21 20,oE 7 21]) .skip)) (sr [oM 22 0,oE 23 7,cF 24 51 [.t 22,.t 23],oE 8 24] (sr [oM 25 8,oM 26 8,oY 27 26,oD 28 .sub 27 1,oI 29 8 25 28,oW 30 8 29,oO 9 (.boxL 9 (.c (.agg [.int .i64 0,.int .i64 0,.int .i64 0,.str [],.slice .fit 1 [],.slice .fit 1 [],.slice .fit 1 [],.slice .fit 1 []]))),oS 9 8 9 30] (.seq (sr [oA 31 0 9,oL 32 9 31,oD 33 .neq 32 12] (.cond (.t 33) (sr [oE 34 8,oE 6 34] .ret) .skip)) (.seq (sr [oA 35 5 4,oL 36 4 35,oY 37 36,oZ 38 0] (.block 0 L103_0)) (sr [oM 54 8,oE 55 8,oY 56 55,oD 57 .sub 56 1,oO 58 (.slc false 8 (.t 54) none (some (.t 57)) none),oE 6 58] .ret))))))))⟩
theorem ok103:ze Tryz.prog Tryz.f103 F103=true:=by kernel_rfl
def F76:IFn:=⟨75,2,[.tmp 4],false,false,none,(sr [oO 3 (.boxL 3 (.t 1)),oC 4 (.slice .fit 8 [])] (sr [oA 8 4 3,oL 9 3 8,oA 10 4 3,oL 11 3 10,oY 12 11,oA 13 4 3,oL 14 3 13,oY 15 14,oO 16 (.slc false 1 (.t 9) none (some (.t 12)) (some (.t 15))),oE 5 16] (sr [oM 17 0,oA 18 4 3,oL 19 3 18,cF 20 100 [.t 17,.t 19],oA 21 4 3,oS 3 1 21 20] (.seq (sr [oA 22 0 3,oL 23 3 22] (.block 0 (.seq (sr [oD 25 .eql 23 3,oM 24 25] (.cond (.t 24) .skip (.region [oD 26 .eql 23 4,oM 24 26]))) (.cond (.t 24) (sr [oM 27 0,oLa 28 3 8 3,cF 29 101 [.t 27,.t 28],oO 30 (.bslice 8 (.agg [.int .i64 0,.int .i64 0,.int .i64 0,.str [],.slice .fit 1 [],.slice .fit 1 [],.slice .fit 1 [],.slice .fit 1 []]) 1 [(0,(.t 29))]),oE 4 30] .ret) (sr [oD 32 .eql 23 10,oM 31 32] (.cond (.t 31) (.seq (sr [oM 34 0,oK 35 34,oA 36 0 35,oH 37 36,oE 38 5,oO 39 (.iaddr 1 (.t 38) (cI 0)),oH 40 39,cF 41 102 [.t 37,.t 40],oM 33 41,oX 42 33 0,oX 43 33 1,oM 6 42,oM 7 43] (sr [oM 44 7] (.cond (.t 44) (sr [oM 45 0,oLa 46 3 8 3,oM 47 6,cF 48 103 [.t 45,.t 46,.t 47],oE 4 48] .ret) .skip))) (.region [oM 49 0,oA 50 7 3,oL 51 3 50,oO 52 (.iaddr 1 (.t 51) (cI 0)),oH 53 52,cF 54 51 [.t 49,.t 53],oM 55 0,oA 56 7 3,oL 57 3 56,oO 58 (.iaddr 1 (.t 57) (cI 1)),oH 59 58,cF 60 51 [.t 55,.t 59],oO 61 (.bslice 1 (.slice .fit 8 []) 2 [(0,(.t 54)),(1,(.t 60))]),oA 62 7 3,oS 3 1 62 61])) (sr [oD 64 .eql 23 11,oM 63 64] (.cond (.t 63) (.region [oM 65 0,oA 66 7 3,oL 67 3 66,oO 68 (.iaddr 1 (.t 67) (cI 0)),oG 69 68,cF 70 51 [.t 65,.t 69],oO 71 (.bslice 1 (.slice .fit 8 []) 1 [(0,(.t 70))]),oA 72 7 3,oS 3 1 72 71]) .skip)))))))) (sr [oLa 73 3 8 3,oO 74 (.bslice 8 (.agg [.int .i64 0,.int .i64 0,.int .i64 0,.str [],.slice .fit 1 [],.slice .fit 1 [],.slice .fit 1 [],.slice .fit 1 []]) 1 [(0,(.t 73))]),oE 4 74] .ret)))))⟩
theorem ok76:ze Tryz.prog Tryz.f76 F76=true:=by kernel_rfl
def L78_0:ICode:= .loop [2,4,5,9,10,11,16,17,18] []
 (sr [
 oP 19 .lss 18 17]
 (.seq
 (.cond (.t 19)
 .skip
 (.exit 2))
 (.seq
 (.block 3
 (sr [
 oI 20 1 16 18,
 oG 21 20,
 oE 7 21]
 (.region [
 oE 22 5,
 oE 23 7,
 cP 24 78 [.t 23],
 oO 25 (.bslice 1 (.slice .fit 8 []) 1 [(0,(.t 24))]),
 oO 26 (.append 1 24 (.t 22) (.t 25)),
 oE 5 26])))
 (.region [
 oD 27 .add 18 1,
 oM 18 27]))))
def L78_1:ICode:= .loop [2,9,10,11] [4]
 (sr [
 oP 12 .lss 11 10]
 (.seq
 (.cond (.t 12)
 .skip
 (.exit 0))
 (.seq
 (.block 1
 (sr [
 oI 13 8 9 11,
 oW 14 8 13,
 oO 4 (.boxL 4 (.c (.agg [.int .i64 0,.int .i64 0,.int .i64 0,.str [],.slice .fit 1 [],.slice .fit 1 [],.slice .fit 1 [],.slice .fit 1 []]))),
 oS 4 8 4 14]
 (sr [
 oC 5 (.slice .fit 1 [])]
 (.seq
 (sr [
 oA 15 7 4,
 oL 16 4 15,
 oY 17 16,
 oZ 18 0]
 (.block 2
 L78_0))
 (sr [
 oE 28 5,
 oA 29 7 4,
 oN (.storeT (.box 4) (.t 29) 28)]
 (sr [
 oLa 30 4 8 4,
 cP 31 77 [.t 30],
 oM 8 31]
 (.seq
 (sr [
 oM 32 8]
 (.cond (.t 32)
 (.region [
 oA 33 5 4,
 oN (.store (.box 4) 1 (.t 33) (.c (.slice .fit 1 [])))])
 .skip))
 (sr [
 oE 34 2,
 oLa 35 4 8 4,
 oO 36 (.bslice 8 (.agg [.int .i64 0,.int .i64 0,.int .i64 0,.str [],.slice .fit 1 [],.slice .fit 1 [],.slice .fit 1 [],.slice .fit 1 []]) 1 [(0,(.t 35))]),
 oO 37 (.append 8 136 (.t 34) (.t 36)),
 oE 2 37]
 (sr [
 oM 38 8]
 (.cond (.t 38)
 (sr [
 oE 39 2,
 oE 2 39]
 .ret)
 .skip))))))))))
 (.region [
 oD 40 .add 11 1,
 oM 11 40]))))
abbrev K78_0:List Nat:=[2,4,9,10,11,16,17]
abbrev B78_0:List Nat:=[4]
abbrev K78_1:List Nat:=[9,10]
abbrev B78_1:List Nat:=[]
def F78:IFn:=⟨42,1,[.tmp 2],false,false,none,(sr [oC 2 (.slice .fit 8 [])] (.seq (sr [oE 9 0,oY 10 9,oZ 11 0] (.block 0 L78_1)) (sr [oE 41 2,oE 2 41] .ret)))⟩
theorem ok78:ze Tryz.prog Tryz.f78 F78=true:=by kernel_rfl
def L51_0:ICode:= .loop [0,4,7,8,9] [6]
 (sr [
 oP 10 .lss 9 8]
 (.seq
 (.cond (.t 10)
 .skip
 (.exit 0))
 (.seq
 (.block 1
 (sr [
 oI 11 8 7 9,
 oW 12 8 11,
 oO 6 (.boxL 6 (.c (.agg [.int .i64 0,.int .i64 0,.int .i64 0,.str [],.slice .fit 1 [],.slice .fit 1 [],.slice .fit 1 [],.slice .fit 1 []]))),
 oS 6 8 6 12]
 (sr [
 oE 13 4,
 oM 14 0,
 oLa 15 6 8 6,
 cF 16 76 [.t 14,.t 15],
 oO 17 (.append 8 136 (.t 13) (.t 16)),
 oE 4 17]
 (sr [
 oM 18 4,
 oY 19 18,
 oD 20 .gtr 19 0,
 oM 21 20,
 oTm 21 22 4,
 oTm 21 23 4,
 oT 21 24 (.len 1 (.t 23)),
 oT 21 25 (.bin 0 [] .sub (.t 24) (cI 1)),
 oT 21 26 (.iaddr 8 (.t 22) (.t 25)),
 oT 21 27 (.load .any true 8 (.t 26)),
 oT 21 28 (pP 77 [.t 27]),
 oO 29 (.pick (.t 21) (.t 28) (.c bF))]
 (.cond (.t 29)
 (.exit 0)
 .skip)))))
 (.region [
 oD 30 .add 9 1,
 oM 9 30]))))
abbrev K51_0:List Nat:=[0,7,8]
abbrev B51_0:List Nat:=[]
def F51:IFn:=⟨33,2,[.tmp 4],false,false,none,(sr [oC 4 (.slice .fit 8 [])] (.seq (sr [oE 7 1,oY 8 7,oZ 9 0] (.block 0 L51_0)) (sr [oE 31 4,cP 32 78 [.t 31],oE 4 32] .ret)))⟩
theorem ok51:ze Tryz.prog Tryz.f51 F51=true:=by kernel_rfl
def F33:IFn:=⟨15,1,[.cell 2 true 5],true,false,none,(sr [oO 1 (.boxL 1 (.t 0)),oO 2 (.boxL 2 (.c (.agg [.str [],.int .i64 0,.int .i64 0,.slice .fit 1 [],.slice .fit 8 []])))] (sr [oLa 4 1 5 1,cF 5 50 [.t 4],oO 6 (.mkmap),oO 7 (.build [.nilp,.nilmap] [(0,1,(.t 5)),(1,1,(.t 6))]),oO 8 (.boxI (.t 7)),oM 3 8] (sr [oM 9 3,oA 10 4 1,oL 11 1 10,cF 12 51 [.t 9,.t 11],oA 13 4 1,oS 1 1 13 12] (sr [oLa 14 1 5 1,oS 2 5 2 14] .ret))))⟩
theorem ok33:ze Tryz.prog Tryz.f33 F33=true:=by kernel_rfl
def L17_0:ICode:= .loop [2,6,21,22,23] [8]
 (sr [
 oP 24 .lss 23 22]
 (.seq
 (.cond (.t 24)
 .skip
 (.exit 0))
 (.seq
 (.block 1
 (sr [
 oI 25 5 21 23,
 oW 26 5 25,
 oO 8 (.boxL 8 (.c (.agg [.str [],.int .i64 0,.int .i64 0,.slice .fit 1 [],.slice .fit 8 []]))),
 oS 8 5 8 26]
 (.region [
 oA 27 1 6,
 oO 28 (.loadT (.box 6) (.t 27)),
 oLa 29 8 5 8,
 cP 30 33 [.t 29],
 oO 31 (.bslice 5 (.agg [.str [],.int .i64 0,.int .i64 0,.slice .fit 1 [],.slice .fit 8 []]) 1 [(0,(.t 30))]),
 oO 32 (.append 5 80 (.t 28) (.t 31)),
 oA 33 1 6,
 oN (.storeT (.box 6) (.t 33) 32)])))
 (.region [
 oD 34 .add 23 1,
 oM 23 34]))))
abbrev K17_0:List Nat:=[2,6,21,22]
abbrev B17_0:List Nat:=[2]
def F17:IFn:=⟨36,1,[.cell 2 true 2,.tmp 3],false,false,none,(sr [oO 1 (.boxL 1 (.t 0)),oO 2 (.boxL 2 (.c (.agg [.slice .fit 2 [],.slice .fit 5 []]))),oZ 3 0] (.seq (sr [oLa 10 1 2 1,cP 11 23 [.t 10],oM 9 11,oX 12 9 0,oX 13 9 1,oM 4 12,oM 5 13] (sr [oM 14 4,oD 15 .neq 14 0] (.cond (.t 15) (sr [oO 16 (.build [.slice .fit 2 [],.slice .fit 5 []] []),oS 2 2 2 16,oZ 3 1] .ret) .skip))) (sr [oA 17 0 1,oL 18 1 17,oO 19 (.build [.slice .fit 2 [],.slice .fit 5 []] [(0,1,(.t 18))]),oO 6 (.boxL 6 (.c (.agg [.slice .fit 2 [],.slice .fit 5 []]))),oS 6 2 6 19] (.seq (sr [oA 20 1 1,oL 21 1 20,oY 22 21,oZ 23 0] (.block 0 L17_0)) (sr [oLa 35 6 2 6,oS 2 2 2 35,oZ 3 0] .ret)))))⟩
theorem ok17:ze Tryz.prog Tryz.f17 F17=true:=by kernel_rfl
def F30:IFn:=⟨10,2,[.cell 4 true 2],false,false,none,(sr [oO 4 (.boxL 4 (.c (.agg [.slice .fit 2 [],.slice .fit 5 []])))] (sr [oE 5 0,oE 6 1,oO 7 (.build [.str [],.int .i64 0,.int .i64 0,.slice .fit 1 [],.slice .fit 8 []] [(0,1,(.c (.str [109,97,105,110]))),(1,1,(cI 1)),(3,1,(.t 5)),(4,1,(.t 6))]),oO 8 (.bslice 5 (.agg [.str [],.int .i64 0,.int .i64 0,.slice .fit 1 [],.slice .fit 8 []]) 1 [(0,(.t 7))]),oO 9 (.build [.slice .fit 2 [],.slice .fit 5 []] [(1,1,(.t 8))]),oS 4 2 4 9] .ret))⟩
theorem ok30:ze Tryz.prog Tryz.f30 F30=true:=by kernel_rfl
def L48_0:ICode:= .loop [0,3] []
 (.seq
 (sr [
 oM 4 3,
 oM 5 0,
 oY 6 5,
 oP 7 .lss 4 6]
 (.cond (.t 7)
 .skip
 (.exit 0)))
 (.seq
 (.block 1
 (sr [
 oM 10 0,
 oM 11 3,
 oI 12 8 10 11,
 oA 13 0 12,
 oG 14 13,
 oD 15 .gtr 14 4,
 oM 16 15,
 oTm 16 17 0,
 oTm 16 18 3,
 oT 16 19 (.iaddr 8 (.t 17) (.t 18)),
 oT 16 20 (.faddr 0 (.t 19)),
 oT 16 21 (.load .any false 1 (.t 20)),
 oT 16 22 (.bin 0 [] .neq (.t 21) (cI 15)),
 oO 23 (.pick (.t 16) (.t 22) (.c bF))]
 (.cond (.t 23)
 (sr [
 oC 2 bF]
 .ret)
 .skip)))
 (.region [
 oM 8 3,
 oD 9 .add 8 1,
 oM 3 9])))
abbrev K48_0:List Nat:=[0]
abbrev B48_0:List Nat:=[]
def F48:IFn:=⟨24,1,[.tmp 2],false,false,none,(sr [oC 2 bF] (.seq (sr [oZ 3 0] (.block 0 L48_0)) (sr [oC 2 bT] .ret)))⟩
theorem ok48:ze Tryz.prog Tryz.f48 F48=true:=by kernel_rfl
def L49_0:ICode:= .loop [0,3] []
 (.seq
 (sr [
 oM 4 3,
 oM 5 0,
 oY 6 5,
 oP 7 .lss 4 6]
 (.cond (.t 7)
 .skip
 (.exit 0)))
 (.seq
 (.block 1
 (sr [
 oM 10 0,
 oM 11 3,
 oI 12 8 10 11,
 oA 13 0 12,
 oG 14 13,
 oD 15 .eql 14 4,
 oM 16 15,
 oTm 16 17 0,
 oTm 16 18 3,
 oT 16 19 (.iaddr 8 (.t 17) (.t 18)),
 oT 16 20 (.faddr 1 (.t 19)),
 oT 16 21 (.load .any false 1 (.t 20)),
 oT 16 22 (.bin 0 [] .eql (.t 21) (cI 4)),
 oTm 16 23 22,
 oFm 23 24 0,
 oFm 23 25 3,
 oF 23 26 (.iaddr 8 (.t 24) (.t 25)),
 oF 23 27 (.faddr 1 (.t 26)),
 oF 23 28 (.load .any false 1 (.t 27)),
 oF 23 29 (.bin 0 [] .eql (.t 28) (cI 5)),
 oT 16 30 (.pick (.t 23) (.c bT) (.t 29)),
 oO 31 (.pick (.t 16) (.t 30) (.c bF))]
 (.cond (.t 31)
 (sr [
 oC 2 bT]
 .ret)
 .skip)))
 (.region [
 oM 8 3,
 oD 9 .add 8 1,
 oM 3 9])))
def F49:IFn:=⟨32,1,[.tmp 2],false,false,none,(sr [oC 2 bF] (.seq (sr [oZ 3 0] (.block 0 L49_0)) (sr [oC 2 bF] .ret)))⟩
theorem ok49:ze Tryz.prog Tryz.f49 F49=true:=by kernel_rfl
def L31_0:ICode:= .loop [2,3,5,6,7] []
 (.seq
 (sr [
 oM 28 7,
 oM 29 6,
 oY 30 29,
 oP 31 .lss 28 30,
 oM 32 31,
 oT 32 33 (.faddr 1 (.t 2)),
 oT 32 34 (.load (.box 2) false 1 (.t 33)),
 oTm 32 35 5,
 oT 32 36 (.iaddr 5 (.t 34) (.t 35)),
 oT 32 37 (.faddr 0 (.t 36)),
 oT 32 38 (.load .any false 1 (.t 37)),
 oT 32 39 (.bin 0 [] .eql (.t 38) (.c (.str [109,97,105,110]))),
 oO 40 (.pick (.t 32) (.t 39) (.c bF)),
 oM 41 40,
 oT 41 42 (.faddr 1 (.t 2)),
 oT 41 43 (.load (.box 2) false 1 (.t 42)),
 oTm 41 44 5,
 oT 41 45 (.iaddr 5 (.t 43) (.t 44)),
 oT 41 46 (.faddr 4 (.t 45)),
 oT 41 47 (.load .any false 1 (.t 46)),
 oT 41 48 (pP 48 [.t 47]),
 oO 49 (.pick (.t 41) (.t 48) (.c bF))]
 (.cond (.t 49)
 .skip
 (.exit 2)))
 (.seq
 (.block 3
 (sr [
 oM 52 6,
 oM 53 7,
 oI 54 8 52 53,
 oA 55 0 54,
 oG 56 55,
 oD 57 .eql 56 3,
 oM 58 57,
 oFm 58 59 6,
 oFm 58 60 7,
 oF 58 61 (.iaddr 8 (.t 59) (.t 60)),
 oF 58 62 (.faddr 0 (.t 61)),
 oF 58 63 (.load .any false 1 (.t 62)),
 oF 58 64 (.bin 0 [] .eql (.t 63) (cI 4)),
 oFm 58 65 64,
 oTm 65 66 6,
 oTm 65 67 7,
 oT 65 68 (.iaddr 8 (.t 66) (.t 67)),
 oT 65 69 (.faddr 1 (.t 68)),
 oT 65 70 (.load .any false 1 (.t 69)),
 oT 65 71 (.bin 0 [] .neq (.t 70) (cI 4)),
 oF 58 72 (.pick (.t 65) (.t 71) (.c bF)),
 oFm 58 73 72,
 oTm 73 74 6,
 oTm 73 75 7,
 oT 73 76 (.iaddr 8 (.t 74) (.t 75)),
 oT 73 77 (.faddr 1 (.t 76)),
 oT 73 78 (.load .any false 1 (.t 77)),
 oT 73 79 (.bin 0 [] .neq (.t 78) (cI 5)),
 oF 58 80 (.pick (.t 73) (.t 79) (.c bF)),
 oO 81 (.pick (.t 58) (.c bT) (.t 80))]
 (.cond (.t 81)
 (sr [
 oE 82 6,
 oM 83 7,
 oO 84 (.slc false 8 (.t 82) none (some (.t 83)) none),
 cP 85 49 [.t 84],
 oM 4 85]
 .ret)
 .skip)))
 (.region [
 oM 50 7,
 oD 51 .add 50 1,
 oM 7 51])))
def L31_1:ICode:= .loop [2,3,5] []
 (.seq
 (sr [
 oM 8 5,
 oA 9 1 2,
 oL 10 2 9,
 oY 11 10,
 oP 12 .lss 8 11,
 oM 13 12,
 oTm 13 14 5,
 oT 13 15 (.faddr 1 (.t 3)),
 oT 13 16 (.load (.box 3) false 1 (.t 15)),
 oT 13 17 (.len 1 (.t 16)),
 oT 13 18 (.bin 0 [] .lss (.t 14) (.t 17)),
 oO 19 (.pick (.t 13) (.t 18) (.c bF))]
 (.cond (.t 19)
 .skip
 (.exit 0)))
 (.seq
 (.block 1
 (sr [
 oA 22 1 3,
 oL 23 3 22,
 oM 24 5,
 oI 25 5 23 24,
 oA 26 4 25,
 oG 27 26,
 oE 6 27]
 (sr [
 oZ 7 0]
 (.block 2
 L31_0))))
 (.region [
 oM 20 5,
 oD 21 .add 20 1,
 oM 5 21])))
abbrev K31_0:List Nat:=[2,3,5,6]
abbrev B31_0:List Nat:=[2,3]
abbrev K31_1:List Nat:=[2,3]
abbrev B31_1:List Nat:=[2,3]
def F31:IFn:=⟨86,2,[.tmp 4],false,false,none,(sr [oO 2 (.boxL 2 (.t 0)),oO 3 (.boxL 3 (.t 1)),oC 4 bF] (.seq (sr [oZ 5 0] (.block 0 L31_1)) (sr [oC 4 bT] .ret)))⟩
theorem ok31:ze Tryz.prog Tryz.f31 F31=true:=by kernel_rfl
def F15:IFn:=⟨61,0,[.tmp 0],false,false,none,(sr [oC 0 bF] (sr [oZ 1 1] (sr [oM 9 1,oM 10 1,oO 11 (.bslice 1 (.int .i64 0) 2 [(0,(.t 9)),(1,(.t 10))]),oO 12 (.bslice 1 (.int .i64 0) 1 [(0,(cI 0))]),oO 13 (.build [.int .i64 0,.int .i64 0,.int .i64 0,.str [],.slice .fit 1 [],.slice .fit 1 [],.slice .fit 1 [],.slice .fit 1 []] [(0,1,(cI 1)),(2,1,(cI 2)),(5,1,(.t 12))]),oO 14 (.bslice 1 (.int .i64 0) 2 [(0,(cI 0)),(1,(cI 0))]),oO 15 (.bslice 1 (.int .i64 0) 1 [(0,(cI 1))]),oO 16 (.build [.int .i64 0,.int .i64 0,.int .i64 0,.str [],.slice .fit 1 [],.slice .fit 1 [],.slice .fit 1 [],.slice .fit 1 []] [(0,1,(cI 4)),(1,1,(cI 3)),(4,1,(.t 14)),(5,1,(.t 15))]),oO 17 (.bslice 1 (.int .i64 0) 1 [(0,(cI 1))]),oO 18 (.build [.int .i64 0,.int .i64 0,.int .i64 0,.str [],.slice .fit 1 [],.slice .fit 1 [],.slice .fit 1 [],.slice .fit 1 []] [(0,1,(cI 15)),(4,1,(.t 17))]),oO 19 (.bslice 8 (.agg [.int .i64 0,.int .i64 0,.int .i64 0,.str [],.slice .fit 1 [],.slice .fit 1 [],.slice .fit 1 [],.slice .fit 1 []]) 3 [(0,(.t 13)),(1,(.t 16)),(2,(.t 18))]),cP 20 30 [.t 11,.t 19],oO 2 (.boxL 2 (.c (.agg [.slice .fit 2 [],.slice .fit 5 []]))),oS 2 2 2 20] (sr [oLa 22 2 2 2,cP 23 17 [.t 22],oM 21 23,oX 24 21 0,oX 25 21 1,oO 3 (.boxL 3 (.c (.agg [.slice .fit 2 [],.slice .fit 5 []]))),oS 3 2 3 24,oM 4 25] (sr [oLa 26 3 2 3,cP 27 13 [(.t 26),(.c (.slice .fit 1 [])),(cI 3)],oO 5 (.boxL 5 (.c (.agg [.int .i64 0,.int .i64 0,.slice .fit 1 [],.int .i64 0,.int .i64 0]))),oS 5 5 5 27] (sr [oM 28 4,oD 29 .eql 28 0,oM 30 29,oT 30 31 (.faddr 1 (.t 3)),oT 30 32 (.load (.box 3) false 1 (.t 31)),oT 30 33 (.len 1 (.t 32)),oT 30 34 (.bin 0 [] .eql (.t 33) (cI 1)),oO 35 (.pick (.t 30) (.t 34) (.c bF)),oM 36 35,oT 36 37 (.load (.box 2) true 2 (.t 2)),oT 36 38 (.load (.box 3) true 2 (.t 3)),oT 36 39 (pP 31 [.t 37,.t 38]),oO 40 (.pick (.t 36) (.t 39) (.c bF)),oM 41 40,oT 41 42 (.faddr 0 (.t 5)),oT 41 43 (.load (.box 5) false 1 (.t 42)),oT 41 44 (.bin 0 [] .eql (.t 43) (cI 1)),oO 45 (.pick (.t 41) (.t 44) (.c bF)),oM 46 45,oT 46 47 (.faddr 1 (.t 5)),oT 46 48 (.load (.box 5) false 1 (.t 47)),oT 46 49 (.bin 0 [] .eql (.t 48) (cI 4)),oO 50 (.pick (.t 46) (.t 49) (.c bF)),oM 6 50] (sr [oO 52 (.build [.slice .fit 2 [],.slice .fit 5 []] []),cP 53 17 [.t 52],oM 51 53,oX 54 51 0,oX 55 51 1,oO 7 (.boxL 7 (.c (.agg [.slice .fit 2 [],.slice .fit 5 []]))),oS 7 2 7 54,oM 8 55] (sr [oM 56 8,oD 57 .eql 56 1,oM 58 57,oTm 58 59 6,oO 60 (.pick (.t 58) (.t 59) (.c bF)),oM 0 60] .ret))))))))⟩
theorem ok15:ze Tryz.prog Tryz.f15 F15=true:=by kernel_rfl
def L22_0:ICode:= .loop [0,1,5] []
 (.seq
 (sr [
 oM 11 5,
 oM 12 0,
 oY 13 12,
 oP 14 .lss 11 13]
 (.cond (.t 14)
 .skip
 (.exit 0)))
 (.seq
 (.block 1
 (sr [
 oM 17 0,
 oM 18 5,
 oI 19 1 17 18,
 oH 20 19,
 oM 21 1,
 oM 22 5,
 oI 23 1 21 22,
 oH 24 23,
 oP 25 .neq 20 24]
 (.cond (.t 25)
 (sr [
 oC 4 bF]
 .ret)
 .skip)))
 (.region [
 oM 15 5,
 oD 16 .add 15 1,
 oM 5 16])))
abbrev K22_0:List Nat:=[0,1]
abbrev B22_0:List Nat:=[]
def F22:IFn:=⟨26,2,[.tmp 4],false,false,none,(sr [oC 4 bF] (.seq (sr [oM 6 0,oY 7 6,oM 8 1,oY 9 8,oP 10 .neq 7 9] (.cond (.t 10) (sr [oC 4 bF] .ret) .skip)) (.seq (sr [oZ 5 0] (.block 0 L22_0)) (sr [oC 4 bT] .ret))))⟩
theorem ok22:ze Tryz.prog Tryz.f22 F22=true:=by kernel_rfl
def F52:IFn:=⟨24,2,[.tmp 4],false,false,none,(sr [oO 2 (.boxL 2 (.t 0)),oO 3 (.boxL 3 (.t 1)),oC 4 bF] (sr [oA 5 0 2,oL 6 2 5,oA 7 0 3,oL 8 3 7,oP 9 .eql 6 8,oM 10 9,oT 10 11 (.faddr 1 (.t 2)),oT 10 12 (.load (.box 2) false 1 (.t 11)),oT 10 13 (.faddr 1 (.t 3)),oT 10 14 (.load (.box 3) false 1 (.t 13)),oT 10 15 (.bin 0 [] .eql (.t 12) (.t 14)),oO 16 (.pick (.t 10) (.t 15) (.c bF)),oM 17 16,oT 17 18 (.faddr 2 (.t 2)),oT 17 19 (.load (.box 2) false 1 (.t 18)),oT 17 20 (.faddr 2 (.t 3)),oT 17 21 (.load (.box 3) false 1 (.t 20)),oT 17 22 (pP 22 [.t 19,.t 21]),oO 23 (.pick (.t 17) (.t 22) (.c bF)),oM 4 23] .ret))⟩
theorem ok52:ze Tryz.prog Tryz.f52 F52=true:=by kernel_rfl
def F34:IFn:=⟨29,2,[.tmp 4],false,false,none,(sr [oO 2 (.boxL 2 (.t 0)),oO 3 (.boxL 3 (.t 1)),oC 4 bF] (.seq (sr [oA 5 0 2,oL 6 2 5,oD 7 .eql 6 0] (.cond (.t 7) (sr [oA 8 2 2,oL 9 2 8,oY 10 9,oA 11 2 3,oL 12 3 11,oY 13 12,oP 14 .leq 10 13,oM 15 14,oT 15 16 (.faddr 2 (.t 2)),oT 15 17 (.load (.box 2) false 1 (.t 16)),oT 15 18 (.faddr 2 (.t 3)),oT 15 19 (.load (.box 3) false 1 (.t 18)),oT 15 20 (.faddr 2 (.t 2)),oT 15 21 (.load (.box 2) false 1 (.t 20)),oT 15 22 (.len 1 (.t 21)),oT 15 23 (.slc false 1 (.t 19) none (some (.t 22)) none),oT 15 24 (pP 22 [.t 17,.t 23]),oO 25 (.pick (.t 15) (.t 24) (.c bF)),oM 4 25] .ret) .skip)) (sr [oLa 26 2 5 2,oLa 27 3 5 3,cP 28 52 [.t 26,.t 27],oM 4 28] .ret)))⟩
theorem ok34:ze Tryz.prog Tryz.f34 F34=true:=by kernel_rfl
def L53_0:ICode:= .loop [0,3,4,5] []
 (.seq
 (sr [
 oM 14 5,
 oM 15 0,
 oM 16 4,
 oI 17 8 15 16,
 oA 18 7 17,
 oG 19 18,
 oY 20 19,
 oP 21 .lss 14 20]
 (.cond (.t 21)
 .skip
 (.exit 2)))
 (.seq
 (.block 3
 (.region [
 oM 24 3,
 oM 25 0,
 oM 26 4,
 oI 27 8 25 26,
 oA 28 7 27,
 oG 29 28,
 oM 30 5,
 oI 31 1 29 30,
 oG 32 31,
 cP 33 53 [.t 32],
 oP 34 .add 24 33,
 oM 3 34]))
 (.region [
 oM 22 5,
 oD 23 .add 22 1,
 oM 5 23])))
def L53_1:ICode:= .loop [0,3,4] []
 (.seq
 (sr [
 oM 8 4,
 oM 9 0,
 oY 10 9,
 oP 11 .lss 8 10]
 (.cond (.t 11)
 .skip
 (.exit 0)))
 (.seq
 (.block 1
 (sr [
 oZ 5 0]
 (.block 2
 L53_0)))
 (.region [
 oM 12 4,
 oD 13 .add 12 1,
 oM 4 13])))
abbrev K53_0:List Nat:=[0,4]
abbrev B53_0:List Nat:=[]
abbrev K53_1:List Nat:=[0]
abbrev B53_1:List Nat:=[]
def F53:IFn:=⟨36,1,[.tmp 2],false,false,none,(sr [oZ 2 0] (sr [oM 6 0,oY 7 6,oM 3 7] (.seq (sr [oZ 4 0] (.block 0 L53_1)) (sr [oM 35 3,oM 2 35] .ret))))⟩
theorem ok53:ze Tryz.prog Tryz.f53 F53=true:=by kernel_rfl
def L35_0:ICode:= .loop [1,3,4] []
 (.seq
 (sr [
 oM 5 4,
 oA 6 1 1,
 oL 7 1 6,
 oY 8 7,
 oP 9 .lss 5 8]
 (.cond (.t 9)
 .skip
 (.exit 0)))
 (.seq
 (.block 1
 (.region [
 oM 12 3,
 oA 13 1 1,
 oL 14 1 13,
 oM 15 4,
 oI 16 5 14 15,
 oA 17 4 16,
 oG 18 17,
 cP 19 53 [.t 18],
 oP 20 .add 12 19,
 oM 3 20]))
 (.region [
 oM 10 4,
 oD 11 .add 10 1,
 oM 4 11])))
abbrev K35_0:List Nat:=[1]
abbrev B35_0:List Nat:=[1]
def F35:IFn:=⟨22,1,[.tmp 2],false,false,none,(sr [oO 1 (.boxL 1 (.t 0)),oZ 2 0] (sr [oZ 3 0] (.seq (sr [oZ 4 0] (.block 0 L35_0)) (sr [oM 21 3,oM 2 21] .ret))))⟩
theorem ok35:ze Tryz.prog Tryz.f35 F35=true:=by kernel_rfl
def F18:IFn:=⟨62,4,[.tmp 8],false,false,none,(sr [oO 4 (.boxL 4 (.t 0)),oO 5 (.boxL 5 (.t 1)),oC 8 bF] (sr [oLa 13 4 2 4,oM 14 2,oM 15 3,cP 16 13 [.t 13,.t 14,.t 15],oLa 17 5 2 5,oM 18 2,oM 19 3,cP 20 13 [.t 17,.t 18,.t 19],oO 9 (.boxL 9 (.c (.agg [.int .i64 0,.int .i64 0,.slice .fit 1 [],.int .i64 0,.int .i64 0]))),oO 10 (.boxL 10 (.c (.agg [.int .i64 0,.int .i64 0,.slice .fit 1 [],.int .i64 0,.int .i64 0]))),oS 9 5 9 16,oS 10 5 10 20] (.seq (sr [oLa 21 9 5 9,oLa 22 10 5 10,cP 23 34 [.t 21,.t 22],oU 24 23,oM 25 24,oF 25 26 (.faddr 0 (.t 9)),oF 25 27 (.load (.box 9) false 1 (.t 26)),oF 25 28 (.bin 0 [] .neq (.t 27) (cI 0)),oFm 25 29 28,oT 29 30 (.faddr 3 (.t 10)),oT 29 31 (.load (.box 10) false 1 (.t 30)),oT 29 32 (.faddr 3 (.t 9)),oT 29 33 (.load (.box 9) false 1 (.t 32)),oT 29 34 (.bin 0 [] .gtr (.t 31) (.t 33)),oTm 29 35 34,oF 35 36 (.faddr 4 (.t 10)),oF 35 37 (.load (.box 10) false 1 (.t 36)),oF 35 38 (.faddr 4 (.t 9)),oF 35 39 (.load (.box 9) false 1 (.t 38)),oF 35 40 (.bin 0 [] .lss (.t 37) (.t 39)),oT 29 41 (.pick (.t 35) (.c bT) (.t 40)),oF 25 42 (.pick (.t 29) (.t 41) (.c bF)),oO 43 (.pick (.t 25) (.c bT) (.t 42))] (.cond (.t 43) (sr [oC 8 bF] .ret) .skip)) (sr [oLa 44 5 2 5,oM 45 2,oM 46 3,oD 47 .quo 46 4,cP 48 13 [.t 44,.t 45,.t 47],oO 11 (.boxL 11 (.c (.agg [.int .i64 0,.int .i64 0,.slice .fit 1 [],.int .i64 0,.int .i64 0]))),oS 11 5 11 48] (sr [oLa 49 4 2 4,oE 50 2,oM 51 3,oD 52 .quo 51 4,oD 53 .add 52 1,oLa 54 4 2 4,cP 55 35 [.t 54],oD 56 .add 55 1,oP 57 .mul 53 56,cP 58 13 [.t 49,.t 50,.t 57],oO 12 (.boxL 12 (.c (.agg [.int .i64 0,.int .i64 0,.slice .fit 1 [],.int .i64 0,.int .i64 0]))),oS 12 5 12 58] (sr [oLa 59 11 5 11,oLa 60 12 5 12,cP 61 34 [.t 59,.t 60],oM 8 61] .ret))))))⟩
theorem ok18:ze Tryz.prog Tryz.f18 F18=true:=by kernel_rfl
def F6:IFn:=⟨35,3,[.tmp 6],false,false,none,(sr [oC 6 bF] (sr [cP 11 15 [],oM 7 11] (.seq (sr [oM 12 7,oU 13 12] (.cond (.t 13) (sr [oC 6 bF] .ret) .skip)) (sr [oE 14 0,cP 15 14 [.t 14],oO 8 (.boxL 8 (.c (.agg [.slice .fit 2 [],.slice .fit 5 []]))),oS 8 2 8 15] (sr [oLa 17 8 2 8,cP 18 17 [.t 17],oM 16 18,oX 19 16 0,oX 20 16 1,oO 9 (.boxL 9 (.c (.agg [.slice .fit 2 [],.slice .fit 5 []]))),oS 9 2 9 19,oM 10 20] (sr [oM 21 7,oM 22 21,oTm 22 23 10,oT 22 24 (.bin 0 [] .eql (.t 23) (cI 0)),oO 25 (.pick (.t 22) (.t 24) (.c bF)),oM 26 25,oT 26 27 (.load (.box 8) true 2 (.t 8)),oT 26 28 (.load (.box 9) true 2 (.t 9)),oT 26 29 (.take 1),oT 26 30 (pP 12 [.t 29]),oTm 26 31 2,oT 26 32 (.conv .i64 (.t 31)),oT 26 33 (pP 18 [.t 27,.t 28,.t 30,.t 32]),oO 34 (.pick (.t 26) (.t 33) (.c bF)),oM 6 34] .ret))))))⟩
theorem ok6:ze Tryz.prog Tryz.f6 F6=true:=by kernel_rfl
def fns:Nat->Option IFn
 |12=>some F12
 |46=>some F46
 |45=>some F45
 |69=>some F69
 |95=>some F95
 |72=>some F72
 |70=>some F70
 |71=>some F71
 |98=>some F98
 |96=>some F96
 |97=>some F97
 |73=>some F73
 |74=>some F74
 |47=>some F47
 |29=>some F29
 |14=>some F14
 |27=>some F27
 |88=>some F88
 |89=>some F89
 |90=>some F90
 |61=>some F61
 |62=>some F62
 |42=>some F42
 |119=>some F119
 |120=>some F120
 |143=>some F143
 |121=>some F121
 |122=>some F122
 |144=>some F144
 |145=>some F145
 |146=>some F146
 |123=>some F123
 |91=>some F91
 |63=>some F63
 |43=>some F43
 |25=>some F25
 |28=>some F28
 |64=>some F64
 |65=>some F65
 |66=>some F66
 |67=>some F67
 |124=>some F124
 |92=>some F92
 |93=>some F93
 |94=>some F94
 |68=>some F68
 |44=>some F44
 |26=>some F26
 |13=>some F13
 |79=>some F79
 |107=>some F107
 |80=>some F80
 |81=>some F81
 |54=>some F54
 |55=>some F55
 |82=>some F82
 |83=>some F83
 |56=>some F56
 |38=>some F38
 |84=>some F84
 |57=>some F57
 |58=>some F58
 |104=>some F104
 |150=>some F150
 |130=>some F130
 |151=>some F151
 |132=>some F132
 |131=>some F131
 |105=>some F105
 |106=>some F106
 |77=>some F77
 |108=>some F108
 |152=>some F152
 |133=>some F133
 |153=>some F153
 |154=>some F154
 |134=>some F134
 |155=>some F155
 |136=>some F136
 |135=>some F135
 |109=>some F109
 |86=>some F86
 |110=>some F110
 |111=>some F111
 |156=>some F156
 |163=>some F163
 |157=>some F157
 |137=>some F137
 |164=>some F164
 |158=>some F158
 |159=>some F159
 |138=>some F138
 |112=>some F112
 |85=>some F85
 |59=>some F59
 |39=>some F39
 |23=>some F23
 |125=>some F125
 |102=>some F102
 |160=>some F160
 |139=>some F139
 |161=>some F161
 |147=>some F147
 |126=>some F126
 |149=>some F149
 |162=>some F162
 |148=>some F148
 |127=>some F127
 |129=>some F129
 |128=>some F128
 |99=>some F99
 |75=>some F75
 |50=>some F50
 |100=>some F100
 |101=>some F101
 |103=>some F103
 |76=>some F76
 |78=>some F78
 |51=>some F51
 |33=>some F33
 |17=>some F17
 |30=>some F30
 |48=>some F48
 |49=>some F49
 |31=>some F31
 |15=>some F15
 |22=>some F22
 |52=>some F52
 |34=>some F34
 |53=>some F53
 |35=>some F35
 |18=>some F18
 |6=>some F6
 |_=>none
set_option maxRecDepth 100000 in
theorem fnsOk:∀f F,fns f=some F->∃fn,Tryz.prog.funcs[f]? =some fn/\ze Tryz.prog fn F=true:=by
 intro f F h;unfold fns at h;split at h
 ·cases h;exact⟨Tryz.f12,Tryz.func12,ok12⟩
 ·cases h;exact⟨Tryz.f46,Tryz.func46,ok46⟩
 ·cases h;exact⟨Tryz.f45,Tryz.func45,ok45⟩
 ·cases h;exact⟨Tryz.f69,Tryz.func69,ok69⟩
 ·cases h;exact⟨Tryz.f95,Tryz.func95,ok95⟩
 ·cases h;exact⟨Tryz.f72,Tryz.func72,ok72⟩
 ·cases h;exact⟨Tryz.f70,Tryz.func70,ok70⟩
 ·cases h;exact⟨Tryz.f71,Tryz.func71,ok71⟩
 ·cases h;exact⟨Tryz.f98,Tryz.func98,ok98⟩
 ·cases h;exact⟨Tryz.f96,Tryz.func96,ok96⟩
 ·cases h;exact⟨Tryz.f97,Tryz.func97,ok97⟩
 ·cases h;exact⟨Tryz.f73,Tryz.func73,ok73⟩
 ·cases h;exact⟨Tryz.f74,Tryz.func74,ok74⟩
 ·cases h;exact⟨Tryz.f47,Tryz.func47,ok47⟩
 ·cases h;exact⟨Tryz.f29,Tryz.func29,ok29⟩
 ·cases h;exact⟨Tryz.f14,Tryz.func14,ok14⟩
 ·cases h;exact⟨Tryz.f27,Tryz.func27,ok27⟩
 ·cases h;exact⟨Tryz.f88,Tryz.func88,ok88⟩
 ·cases h;exact⟨Tryz.f89,Tryz.func89,ok89⟩
 ·cases h;exact⟨Tryz.f90,Tryz.func90,ok90⟩
 ·cases h;exact⟨Tryz.f61,Tryz.func61,ok61⟩
 ·cases h;exact⟨Tryz.f62,Tryz.func62,ok62⟩
 ·cases h;exact⟨Tryz.f42,Tryz.func42,ok42⟩
 ·cases h;exact⟨Tryz.f119,Tryz.func119,ok119⟩
 ·cases h;exact⟨Tryz.f120,Tryz.func120,ok120⟩
 ·cases h;exact⟨Tryz.f143,Tryz.func143,ok143⟩
 ·cases h;exact⟨Tryz.f121,Tryz.func121,ok121⟩
 ·cases h;exact⟨Tryz.f122,Tryz.func122,ok122⟩
 ·cases h;exact⟨Tryz.f144,Tryz.func144,ok144⟩
 ·cases h;exact⟨Tryz.f145,Tryz.func145,ok145⟩
 ·cases h;exact⟨Tryz.f146,Tryz.func146,ok146⟩
 ·cases h;exact⟨Tryz.f123,Tryz.func123,ok123⟩
 ·cases h;exact⟨Tryz.f91,Tryz.func91,ok91⟩
 ·cases h;exact⟨Tryz.f63,Tryz.func63,ok63⟩
 ·cases h;exact⟨Tryz.f43,Tryz.func43,ok43⟩
 ·cases h;exact⟨Tryz.f25,Tryz.func25,ok25⟩
 ·cases h;exact⟨Tryz.f28,Tryz.func28,ok28⟩
 ·cases h;exact⟨Tryz.f64,Tryz.func64,ok64⟩
 ·cases h;exact⟨Tryz.f65,Tryz.func65,ok65⟩
 ·cases h;exact⟨Tryz.f66,Tryz.func66,ok66⟩
 ·cases h;exact⟨Tryz.f67,Tryz.func67,ok67⟩
 ·cases h;exact⟨Tryz.f124,Tryz.func124,ok124⟩
 ·cases h;exact⟨Tryz.f92,Tryz.func92,ok92⟩
 ·cases h;exact⟨Tryz.f93,Tryz.func93,ok93⟩
 ·cases h;exact⟨Tryz.f94,Tryz.func94,ok94⟩
 ·cases h;exact⟨Tryz.f68,Tryz.func68,ok68⟩
 ·cases h;exact⟨Tryz.f44,Tryz.func44,ok44⟩
 ·cases h;exact⟨Tryz.f26,Tryz.func26,ok26⟩
 ·cases h;exact⟨Tryz.f13,Tryz.func13,ok13⟩
 ·cases h;exact⟨Tryz.f79,Tryz.func79,ok79⟩
 ·cases h;exact⟨Tryz.f107,Tryz.func107,ok107⟩
 ·cases h;exact⟨Tryz.f80,Tryz.func80,ok80⟩
 ·cases h;exact⟨Tryz.f81,Tryz.func81,ok81⟩
 ·cases h;exact⟨Tryz.f54,Tryz.func54,ok54⟩
 ·cases h;exact⟨Tryz.f55,Tryz.func55,ok55⟩
 ·cases h;exact⟨Tryz.f82,Tryz.func82,ok82⟩
 ·cases h;exact⟨Tryz.f83,Tryz.func83,ok83⟩
 ·cases h;exact⟨Tryz.f56,Tryz.func56,ok56⟩
 ·cases h;exact⟨Tryz.f38,Tryz.func38,ok38⟩
 ·cases h;exact⟨Tryz.f84,Tryz.func84,ok84⟩
 ·cases h;exact⟨Tryz.f57,Tryz.func57,ok57⟩
 ·cases h;exact⟨Tryz.f58,Tryz.func58,ok58⟩
 ·cases h;exact⟨Tryz.f104,Tryz.func104,ok104⟩
 ·cases h;exact⟨Tryz.f150,Tryz.func150,ok150⟩
 ·cases h;exact⟨Tryz.f130,Tryz.func130,ok130⟩
 ·cases h;exact⟨Tryz.f151,Tryz.func151,ok151⟩
 ·cases h;exact⟨Tryz.f132,Tryz.func132,ok132⟩
 ·cases h;exact⟨Tryz.f131,Tryz.func131,ok131⟩
 ·cases h;exact⟨Tryz.f105,Tryz.func105,ok105⟩
 ·cases h;exact⟨Tryz.f106,Tryz.func106,ok106⟩
 ·cases h;exact⟨Tryz.f77,Tryz.func77,ok77⟩
 ·cases h;exact⟨Tryz.f108,Tryz.func108,ok108⟩
 ·cases h;exact⟨Tryz.f152,Tryz.func152,ok152⟩
 ·cases h;exact⟨Tryz.f133,Tryz.func133,ok133⟩
 ·cases h;exact⟨Tryz.f153,Tryz.func153,ok153⟩
 ·cases h;exact⟨Tryz.f154,Tryz.func154,ok154⟩
 ·cases h;exact⟨Tryz.f134,Tryz.func134,ok134⟩
 ·cases h;exact⟨Tryz.f155,Tryz.func155,ok155⟩
 ·cases h;exact⟨Tryz.f136,Tryz.func136,ok136⟩
 ·cases h;exact⟨Tryz.f135,Tryz.func135,ok135⟩
 ·cases h;exact⟨Tryz.f109,Tryz.func109,ok109⟩
 ·cases h;exact⟨Tryz.f86,Tryz.func86,ok86⟩
 ·cases h;exact⟨Tryz.f110,Tryz.func110,ok110⟩
 ·cases h;exact⟨Tryz.f111,Tryz.func111,ok111⟩
 ·cases h;exact⟨Tryz.f156,Tryz.func156,ok156⟩
 ·cases h;exact⟨Tryz.f163,Tryz.func163,ok163⟩
 ·cases h;exact⟨Tryz.f157,Tryz.func157,ok157⟩
 ·cases h;exact⟨Tryz.f137,Tryz.func137,ok137⟩
 ·cases h;exact⟨Tryz.f164,Tryz.func164,ok164⟩
 ·cases h;exact⟨Tryz.f158,Tryz.func158,ok158⟩
 ·cases h;exact⟨Tryz.f159,Tryz.func159,ok159⟩
 ·cases h;exact⟨Tryz.f138,Tryz.func138,ok138⟩
 ·cases h;exact⟨Tryz.f112,Tryz.func112,ok112⟩
 ·cases h;exact⟨Tryz.f85,Tryz.func85,ok85⟩
 ·cases h;exact⟨Tryz.f59,Tryz.func59,ok59⟩
 ·cases h;exact⟨Tryz.f39,Tryz.func39,ok39⟩
 ·cases h;exact⟨Tryz.f23,Tryz.func23,ok23⟩
 ·cases h;exact⟨Tryz.f125,Tryz.func125,ok125⟩
 ·cases h;exact⟨Tryz.f102,Tryz.func102,ok102⟩
 ·cases h;exact⟨Tryz.f160,Tryz.func160,ok160⟩
 ·cases h;exact⟨Tryz.f139,Tryz.func139,ok139⟩
 ·cases h;exact⟨Tryz.f161,Tryz.func161,ok161⟩
 ·cases h;exact⟨Tryz.f147,Tryz.func147,ok147⟩
 ·cases h;exact⟨Tryz.f126,Tryz.func126,ok126⟩
 ·cases h;exact⟨Tryz.f149,Tryz.func149,ok149⟩
 ·cases h;exact⟨Tryz.f162,Tryz.func162,ok162⟩
 ·cases h;exact⟨Tryz.f148,Tryz.func148,ok148⟩
 ·cases h;exact⟨Tryz.f127,Tryz.func127,ok127⟩
 ·cases h;exact⟨Tryz.f129,Tryz.func129,ok129⟩
 ·cases h;exact⟨Tryz.f128,Tryz.func128,ok128⟩
 ·cases h;exact⟨Tryz.f99,Tryz.func99,ok99⟩
 ·cases h;exact⟨Tryz.f75,Tryz.func75,ok75⟩
 ·cases h;exact⟨Tryz.f50,Tryz.func50,ok50⟩
 ·cases h;exact⟨Tryz.f100,Tryz.func100,ok100⟩
 ·cases h;exact⟨Tryz.f101,Tryz.func101,ok101⟩
 ·cases h;exact⟨Tryz.f103,Tryz.func103,ok103⟩
 ·cases h;exact⟨Tryz.f76,Tryz.func76,ok76⟩
 ·cases h;exact⟨Tryz.f78,Tryz.func78,ok78⟩
 ·cases h;exact⟨Tryz.f51,Tryz.func51,ok51⟩
 ·cases h;exact⟨Tryz.f33,Tryz.func33,ok33⟩
 ·cases h;exact⟨Tryz.f17,Tryz.func17,ok17⟩
 ·cases h;exact⟨Tryz.f30,Tryz.func30,ok30⟩
 ·cases h;exact⟨Tryz.f48,Tryz.func48,ok48⟩
 ·cases h;exact⟨Tryz.f49,Tryz.func49,ok49⟩
 ·cases h;exact⟨Tryz.f31,Tryz.func31,ok31⟩
 ·cases h;exact⟨Tryz.f15,Tryz.func15,ok15⟩
 ·cases h;exact⟨Tryz.f22,Tryz.func22,ok22⟩
 ·cases h;exact⟨Tryz.f52,Tryz.func52,ok52⟩
 ·cases h;exact⟨Tryz.f34,Tryz.func34,ok34⟩
 ·cases h;exact⟨Tryz.f53,Tryz.func53,ok53⟩
 ·cases h;exact⟨Tryz.f35,Tryz.func35,ok35⟩
 ·cases h;exact⟨Tryz.f18,Tryz.func18,ok18⟩
 ·cases h;exact⟨Tryz.f6,Tryz.func6,ok6⟩
 ·cases h
def hand:Nat->Option HFn:=fun _=>none
theorem handOk:∀f H,hand f=some H->∃fn cl,Tryz.prog.funcs[f]? =some fn/\Tryz.prog.funcs[H.k]? =some cl/\checkH Tryz.prog fn cl H=true:=by
 intro f H h;cases h
noncomputable def E:Env:={fn:=fns,ext:=fun _=>none,hand:=hand}
theorem envOk:EnvOk Tryz.prog [] E:=⟨fnsOk,fun f g h args st r st' hg=>(nomatch h),handOk⟩
end PE.U

namespace PE.U
open Go PE
theorem zQb(b:Bool)(σ:zd):zk E 160 [.bool b] σ=some (.ret (.int .i64 (if b then 1 else 0)),σ):=by
 refine zc rfl rfl rfl rfl ?_;cases b<;>simp[F160]
theorem zaa(b:Bool)(σ:zd):zk E 124 [.bool b] σ=some (.ret (.int .i64 (if b then 1 else 0)),σ):=by
 refine zc rfl rfl rfl rfl ?_;cases b<;>simp[F124]
noncomputable def one(op a:Int):Int:=
 if op=20 then W (0-a)else if op=21 then xor64 (-1) a else if op=22 then(if a=0 then 1 else 0)
 else if op=23 then W (zW .i8 a)else if op=24 then W (zW .i16 a)else if op=25 then W (zW .i32 a)
 else if op=26 then W (zW .u8 a)else if op=27 then W (zW .u16 a)else if op=28 then W (zW .u32 a)else 0
theorem one_spec(op a:Int)(σ:zd):zk E 139 [.int .i64 op,.int .i64 a] σ=some (.ret (.int .i64 (one op a)),σ):=by
 refine zc rfl rfl rfl rfl ?_;by_cases h1:op=20
 ·subst h1;simp[F139,one]
 by_cases h2:op=21
 ·subst h2;simp[F139,one]
 by_cases h3:op=22
 ·subst h3;simp[F139,one,zQb]
 by_cases h4:op=23
 ·subst h4;simp[F139,one,zQb]
 by_cases h5:op=24
 ·subst h5;simp[F139,one,zQb]
 by_cases h6:op=25
 ·subst h6;simp[F139,one,zQb]
 by_cases h7:op=26
 ·subst h7;simp[F139,one,zQb]
 by_cases h8:op=27
 ·subst h8;simp[F139,one,zQb]
 by_cases h9:op=28
 ·subst h9;simp[F139,one,zQb]
 simp[F139,one,h1,h2,h3,h4,h5,h6,h7,h8,h9]
def cmp(op a b:Int):Bool×Bool:=
 if op=12 then(decide (a<b),true)else if op=13 then(decide (a<=b),true)else if op=14 then(decide (b<a),true)
 else if op=15 then(decide (b<=a),true)else if op=16 then(decide (a=b),true)else if op=17 then(!decide (a=b),true)else(false,false)
theorem zcb(op a b:Int)(σ:zd):zk E 161 [.int .i64 op,.int .i64 a,.int .i64 b] σ=some (.ret (.tup [.bool (cmp op a b).1,.bool (cmp op a b).2]),σ):=by
 refine zc rfl rfl rfl rfl ?_;by_cases h1:op=12
 ·subst h1;simp[F161,cmp]
 by_cases h2:op=13
 ·subst h2;simp[F161,cmp]
 by_cases h3:op=14
 ·subst h3;simp[F161,cmp]
 by_cases h4:op=15
 ·subst h4;simp[F161,cmp]
 by_cases h5:op=16
 ·subst h5;simp[F161,cmp]
 by_cases h6:op=17
 ·subst h6;simp[F161,cmp]
 simp[F161,cmp,h1,h2,h3,h4,h5,h6]
noncomputable def two(op a b:Int):Int×Bool:=
 if(cmp op a b).2=true then(if(cmp op a b).1=true then 1 else 0,true)
 else if op=1 then(W (a+b),true)else if op=2 then(W (a-b),true)else if op=3 then(W (a*b),true)
 else if op=6 then(zDf a b,true)else if op=7 then(or64 a b,true)else if op=8 then(xor64 a b,true)
 else if op=9 then(W (a*2^(min (zDf b 63).toNat 64)),true)else if op=10 then(shrK a (min (zDf b 63).toNat 64),true)
 else if op=11 then(W (shrK (zW .u64 a) (min (zDf b 63).toNat 64)),true)
 else if b=0 then(0,false)else if op=4 then(W (a.tdiv b),true)else if op=5 then(remK a b,true)else(0,false)
theorem wrap64(n:Int):W n=(yy 64 n).toInt:=by
 rw[BitVec.toInt_ofInt,W,zY,IntKind.wrap_i64];unfold Int.bmod;simp only;split<;>omega
theorem zef(z:BitVec 64):W (z.toNat:Int)=z.toInt:=by
 rw[wrap64];simp
theorem and64_eq(a b:Int):zDf a b=(yy 64 a&&&yy 64 b).toInt:=(andK_eq .i64 a b).trans ((zY _ _).symm.trans (zef (yy 64 a&&&yy 64 b)))
theorem or64_eq(a b:Int):or64 a b=(yy 64 a|||yy 64 b).toInt:=(orK_eq .i64 a b).trans ((zY _ _).symm.trans (zef (yy 64 a|||yy 64 b)))
theorem xor64_eq(a b:Int):xor64 a b=(yy 64 a^^^yy 64 b).toInt:=(xorK_eq .i64 a b).trans ((zY _ _).symm.trans (zef (yy 64 a^^^yy 64 b)))
theorem and_mask(a:Int)(m:Nat)(hm:m<63):zDf a (2^m-1)=a%2^m:=by
 rw[and64_eq];have e:(yy 64 (2^m-1)).toNat=2^m-1:=by
  have h1:(2:Nat)^m<2^63:=Nat.pow_lt_pow_right (by decide) hm;have h2:0<(2:Nat)^m:=Nat.pow_pos (by decide);have h3:((2:Int)^m-1)=(((2:Nat)^m-1:Nat):Int):=by
   rw[Int.natCast_sub h2];simp
  rw[h3,BitVec.ofInt_natCast,BitVec.toNat_ofNat];apply Nat.mod_eq_of_lt;omega
 have hN:(yy 64 a&&&yy 64 (2^m-1)).toNat=(yy 64 a).toNat%2^m:=by
  rw[BitVec.toNat_and,e,Nat.and_two_pow_sub_one_eq_mod]
 have hlt:(yy 64 a).toNat%2^m<2^63:=by
  have h1:(2:Nat)^m<2^63:=Nat.pow_lt_pow_right (by decide) hm;have:=Nat.mod_lt (yy 64 a).toNat (Nat.pow_pos (n:=m) (show 0<2 by decide));omega
 rw[BitVec.toInt_eq_toNat_cond,if_pos (by rw[hN];omega),hN,BitVec.toNat_ofInt,Int.natCast_emod,Int.toNat_of_nonneg (Int.emod_nonneg _ (by decide))];have:((2^m:Nat):Int)=(2:Int)^m:=by simp
 rw[this];apply Int.emod_emod_of_dvd;have hd:(2:Nat)^m∣2^64:=Nat.pow_dvd_pow 2 (by omega);have:=Int.natCast_dvd_natCast.2 hd;simpa using this
theorem and63(b:Int):0<=zDf b 63/\zDf b 63<64:=by
 have:=and_mask b 6 (by decide);simp at this;rw[this];omega
theorem zVc(b:Int):¬zDf b 63<0:=by have:=(and63 b).1;omega
theorem two_spec(op a b:Int)(σ:zd):zk E 147 [.int .i64 op,.int .i64 a,.int .i64 b] σ=some (.ret (.tup [.int .i64 (two op a b).1,.bool (two op a b).2]),σ):=by
 refine zc rfl rfl rfl rfl ?_;by_cases hc:(cmp op a b).2=true
 ·simp[F147,two,zcb,hc,zQb]
 have hc':(cmp op a b).2=false:=by simpa using hc
 by_cases h1:op=1
 ·subst h1;simp[F147,two,zcb,hc']
 by_cases h2:op=2
 ·subst h2;simp[F147,two,zcb,hc']
 by_cases h3:op=3
 ·subst h3;simp[F147,two,zcb,hc']
 by_cases h4:op=6
 ·subst h4;simp[F147,two,zcb,hc']
 by_cases h5:op=7
 ·subst h5;simp[F147,two,zcb,hc']
 by_cases h6:op=8
 ·subst h6;simp[F147,two,zcb,hc']
 by_cases h7:op=9
 ·subst h7;simp[F147,two,zcb,hc',zVc,yca]
 by_cases h8:op=10
 ·subst h8;simp[F147,two,zcb,hc',zVc,yca]
 by_cases h9:op=11
 ·subst h9;simp[F147,two,zcb,hc',zVc,yca]
 by_cases h10:b=0
 ·subst h10;simp[F147,two,zcb,hc',h1,h2,h3,h4,h5,h6,h7,h8,h9]
 by_cases h11:op=4
 ·subst h11;simp[F147,two,zcb,hc',h10]
 by_cases h12:op=5
 ·subst h12;simp[F147,two,zcb,hc',h10]
 simp[F147,two,zcb,hc',h1,h2,h3,h4,h5,h6,h7,h8,h9,h10,h11,h12]
theorem rtwo_spec(op a b:Int)(σ:zd):zk E 93 [.int .i64 op,.int .i64 a,.int .i64 b] σ=some (.ret (.tup [.int .i64 (two op a b).1,.bool (two op a b).2]),σ):=by
 refine zc rfl rfl rfl rfl ?_;by_cases h1:op=1
 ·subst h1;simp[F93,two,cmp,zaa,zVc,yca]
 by_cases h2:op=2
 ·subst h2;simp[F93,two,cmp,zaa,zVc,yca]
 by_cases h3:op=3
 ·subst h3;simp[F93,two,cmp,zaa,zVc,yca]
 by_cases h4:op=4
 ·subst h4;by_cases hb:b=0
  ·subst hb;simp[F93,two,cmp]
  ·simp[F93,two,cmp,hb]
 by_cases h5:op=5
 ·subst h5;by_cases hb:b=0
  ·subst hb;simp[F93,two,cmp]
  ·simp[F93,two,cmp,hb]
 by_cases h6:op=6
 ·subst h6;simp[F93,two,cmp,zaa,zVc,yca]
 by_cases h7:op=7
 ·subst h7;simp[F93,two,cmp,zaa,zVc,yca]
 by_cases h8:op=8
 ·subst h8;simp[F93,two,cmp,zaa,zVc,yca]
 by_cases h9:op=9
 ·subst h9;simp[F93,two,cmp,zaa,zVc,yca]
 by_cases h10:op=10
 ·subst h10;simp[F93,two,cmp,zaa,zVc,yca]
 by_cases h11:op=11
 ·subst h11;simp[F93,two,cmp,zaa,zVc,yca]
 by_cases h12:op=12
 ·subst h12;simp[F93,two,cmp,zaa,zVc,yca]
 by_cases h13:op=13
 ·subst h13;simp[F93,two,cmp,zaa,zVc,yca]
 by_cases h14:op=14
 ·subst h14;simp[F93,two,cmp,zaa,zVc,yca]
 by_cases h15:op=15
 ·subst h15;simp[F93,two,cmp,zaa,zVc,yca]
 by_cases h16:op=16
 ·subst h16;simp[F93,two,cmp,zaa,zVc,yca]
 by_cases h17:op=17
 ·subst h17;simp[F93,two,cmp,zaa,zVc,yca]
 simp[F93,two,cmp,h1,h2,h3,h4,h5,h6,h7,h8,h9,h10,h11,h12,h13,h14,h15,h16,h17]
noncomputable def rone(op a:Int):Int:=
 if op=20 then W (0-a)else if op=21 then W (-1-a)else if op=22 then(if a=0 then 1 else 0)
 else if op=26 then zDf a 255 else if op=27 then zDf a 65535 else if op=28 then zDf a 4294967295
 else if op=23 then W (xor64 (zDf a 255) 128-128)else if op=24 then W (xor64 (zDf a 65535) 32768-32768)else if op=25 then W (xor64 (zDf a 4294967295) 2147483648-2147483648)else 0
theorem rone_spec(op a:Int)(σ:zd):zk E 92 [.int .i64 op,.int .i64 a] σ=some (.ret (.int .i64 (rone op a)),σ):=by
 refine zc rfl rfl rfl rfl ?_;by_cases h20:op=20
 ·subst h20;simp[F92,rone,zaa]
 by_cases h21:op=21
 ·subst h21;simp[F92,rone,zaa]
 by_cases h22:op=22
 ·subst h22;simp[F92,rone,zaa]
 by_cases h23:op=23
 ·subst h23;simp[F92,rone,zaa]
 by_cases h24:op=24
 ·subst h24;simp[F92,rone,zaa]
 by_cases h25:op=25
 ·subst h25;simp[F92,rone,zaa]
 by_cases h26:op=26
 ·subst h26;simp[F92,rone,zaa]
 by_cases h27:op=27
 ·subst h27;simp[F92,rone,zaa]
 by_cases h28:op=28
 ·subst h28;simp[F92,rone,zaa]
 simp[F92,rone,h20,h21,h22,h23,h24,h25,h26,h27,h28]
theorem xor_pow(k x:Nat)(h:x<2^(k+1)):x^^^2^k=if x<2^k then x+2^k else x-2^k:=by
 have key:∀y,y<2^k->y^^^2^k=y+2^k:=by
  intro y hy;have e:2^k+y=2^k|||y:=by
   have:=Nat.two_pow_add_eq_or_of_lt hy 1;simpa using this
  rw[Nat.add_comm,e];apply Nat.eq_of_testBit_eq;intro i;rw[Nat.testBit_xor,Nat.testBit_or,Nat.testBit_two_pow];by_cases hi:k=i
  ·subst hi;simp[Nat.testBit_lt_two_pow hy]
  ·simp[hi]
 split
 ·rename_i hx;exact key x hx
 ·rename_i hx;have hp:(2:Nat)^(k+1)=2*2^k:=by rw[Nat.pow_succ];omega
  have hy:x-2^k<2^k:=by omega
  have:=key _ hy;have e:x=(x-2^k)^^^2^k:=by rw[this];omega
  calc x^^^2^k=((x-2^k)^^^2^k)^^^2^k:=by rw[<-e]
   _=x-2^k:=by rw[Nat.xor_assoc,Nat.xor_self,Nat.xor_zero]
theorem xor64_pow(k:Nat)(hk:k<62)(x:Int)(h0:0<=x)(h1:x<2^(k+1)):xor64 x (2^k)=if x<2^k then x+2^k else x-2^k:=by
 obtain⟨n,rfl⟩:∃n:Nat,x=n:=⟨x.toNat,by omega⟩
 have hp:((2:Int)^k)=((2^k:Nat):Int):=by simp
 have hp':((2:Int)^(k+1))=((2^(k+1):Nat):Int):=by simp
 rw[hp']at h1;have hn:n<2^(k+1):=by omega
 have hb:(2:Nat)^(k+1)<=2^62:=Nat.pow_le_pow_right (by decide) (by omega);have hb2:(2:Nat)^k<2^(k+1):=Nat.pow_lt_pow_right (by decide) (by omega);rw[xor64_eq,hp,BitVec.ofInt_natCast,BitVec.ofInt_natCast];have hx:=xor_pow k n hn;have hlt:n^^^2^k<2^62:=by rw[hx];split<;>omega
 have hN:(BitVec.ofNat 64 n^^^BitVec.ofNat 64 (2^k)).toNat=n^^^2^k:=by
  rw[BitVec.toNat_xor,BitVec.toNat_ofNat,BitVec.toNat_ofNat,Nat.mod_eq_of_lt (by omega),Nat.mod_eq_of_lt (by omega)]
 rw[BitVec.toInt_eq_toNat_cond,if_pos (by rw[hN];omega),hN,hx];by_cases hc:n<2^k
 ·rw[if_pos hc,if_pos (by omega)];omega
 ·rw[if_neg hc,if_neg (by omega)];omega
theorem W_id(n:Int)(h: -9223372036854775808<=n)(h':n<=9223372036854775807):W n=n:=by
 rw[W,zY,IntKind.wrap_i64];omega
theorem wrapK_i8(n:Int):zW .i8 n=(n+128)%256-128:=by
 rw[zY];simp[yba,yca,IntKind.signed];split<;>omega
theorem wrapK_i16(n:Int):zW .i16 n=(n+32768)%65536-32768:=by
 rw[zY];simp[yba,yca,IntKind.signed];split<;>omega
theorem wrapK_i32(n:Int):zW .i32 n=(n+2147483648)%4294967296-2147483648:=by
 rw[zY,IntKind.wrap_i32]
theorem wrapK_u8(n:Int):zW .u8 n=n%256:=by rw[zY,IntKind.wrap_u8]
theorem wrapK_u16(n:Int):zW .u16 n=n%65536:=by
 rw[zY];simp[yba,yca,IntKind.signed]
theorem wrapK_u32(n:Int):zW .u32 n=n%4294967296:=by rw[zY,IntKind.wrap_u32]
theorem and_255(a:Int):zDf a 255=a%256:=by have:=and_mask a 8 (by decide);simpa using this
theorem and_65535(a:Int):zDf a 65535=a%65536:=by have:=and_mask a 16 (by decide);simpa using this
theorem and_4294967295(a:Int):zDf a 4294967295=a%4294967296:=by have:=and_mask a 32 (by decide);simpa using this
theorem not64(a:Int):xor64 (-1) a=W (-1-a):=by
 rw[xor64_eq,wrap64];congr 1;have h1:yy 64 (-1)=BitVec.allOnes 64:=by decide
 rw[h1,BitVec.allOnes_xor];have h2:(-1-a)= -a-1:=by omega
 apply BitVec.eq_of_toInt_eq;rw[BitVec.toInt_not,BitVec.toInt_ofInt,BitVec.toNat_ofInt];have:0<=a%((2^64:Nat):Int):=Int.emod_nonneg _ (by decide);simp only[Int.bmod];omega
theorem rone_eq(op a:Int):rone op a=one op a:=by
 unfold rone one;by_cases h1:op=20
 ·subst h1;simp
 by_cases h2:op=21
 ·subst h2;simp[not64]
 by_cases h3:op=22
 ·subst h3;simp
 by_cases h4:op=26
 ·subst h4;simp only[and_255,wrapK_u8];simp;rw[W_id]<;>omega
 by_cases h5:op=27
 ·subst h5;simp only[and_65535,wrapK_u16];simp;rw[W_id]<;>omega
 by_cases h6:op=28
 ·subst h6;simp only[and_4294967295,wrapK_u32];simp;rw[W_id]<;>omega
 by_cases h7:op=23
 ·subst h7;simp only[and_255,wrapK_i8];have:=xor64_pow 7 (by decide) (a%256) (by omega) (by omega);simp at this;simp[this];rw[W_id,W_id]<;>(try split)<;>omega
 by_cases h8:op=24
 ·subst h8;simp only[and_65535,wrapK_i16];have:=xor64_pow 15 (by decide) (a%65536) (by omega) (by omega);simp at this;simp[this];rw[W_id,W_id]<;>(try split)<;>omega
 by_cases h9:op=25
 ·subst h9;simp only[and_4294967295,wrapK_i32];have:=xor64_pow 31 (by decide) (a%4294967296) (by omega) (by omega);simp at this;simp[this];rw[W_id,W_id]<;>(try split)<;>omega
 simp[h1,h2,h3,h4,h5,h6,h7,h8,h9]
structure Node where
 kind:Int
 op:Int
 n:Int
 name:List UInt8
 args:List Int
 outs:List Int
 params:List Int
 kids:List (List Node)
structure Flow where
 name:List UInt8
 type:Int
 params:Int
 types:List Int
 body:List Node
structure Arr where
 name:List UInt8
 size:Int
structure Unt where
 arrays:List Arr
 flows:List Flow
abbrev int(n:Int):PV:= .int .i64 n
def ints(l:List Int):PV:= .slice .plain 1 (l.map (PV.int .i64))
mutual
def zK:Node->PV
 |⟨k,o,n,s,a,u,p,ks⟩=> .agg [.int .i64 k,.int .i64 o,.int .i64 n,.str s,ints a,ints u,ints p,.slice .plain 1 (encK ks)]
def encL:List Node->List PV
 | []=>[]
 |x::r=>zK x::encL r
def encK:List (List Node)->List PV
 | []=>[]
 |l::r=> .slice .plain 8 (encL l)::encK r
end
theorem encL_eq(l:List Node):encL l=l.map zK:=by
 induction l with
 |nil=>rfl
 |cons x r ih=>rw[encL,ih];rfl
def zh(l:List Node):PV:= .slice .plain 8 (l.map zK)
def kids(l:List (List Node)):PV:= .slice .plain 1 (l.map zh)
theorem encK_eq(l:List (List Node)):encK l=l.map zh:=by
 induction l with
 |nil=>rfl
 |cons x r ih=>rw[encK,ih,encL_eq];rfl
theorem za(x:Node):zK x= .agg [.int .i64 x.kind,.int .i64 x.op,.int .i64 x.n,.str x.name,ints x.args,ints x.outs,ints x.params,kids x.kids]:=by
 cases x;simp[zK,encK_eq,kids]
mutual
theorem flatN(k:Nat):∀x:Node,zE k (zK x)=true
 |⟨_,_,_,_,a,u,p,ks⟩=>by simp[zK,ints,flatK k ks]
theorem flatL(k:Nat):∀l:List Node,zU k (encL l)=true
 | []=>rfl
 |x::r=>by simp[encL,flatN k x,flatL k r]
theorem flatK(k:Nat):∀l:List (List Node),zU k (encK l)=true
 | []=>rfl
 |x::r=>by simp[encK,flatL k x,flatK k r]
end
def zf(f:Flow):PV:= .agg [.str f.name,.int .i64 f.type,.int .i64 f.params,ints f.types,zh f.body]
def zga(a:Arr):PV:= .agg [.str a.name,.int .i64 a.size]
def flows(l:List Flow):PV:= .slice .plain 5 (l.map zf)
def arrs(l:List Arr):PV:= .slice .plain 2 (l.map zga)
def encUnt(u:Unt):PV:= .agg [arrs u.arrays,flows u.flows]
section
variable (k:Nat)
@[simp] theorem flat_ints(l:List Int):zE k (ints l)=true:=by simp[ints]
@[simp] theorem flat_node(x:Node):zE k (zK x)=true:=flatN k x
@[simp] theorem flat_nodes(l:List Node):zE k (zh l)=true:=by simp[zh]
@[simp] theorem flat_kids(l:List (List Node)):zE k (kids l)=true:=by simp[kids]
@[simp] theorem flat_flow(f:Flow):zE k (zf f)=true:=by simp[zf]
@[simp] theorem flat_arr(f:Arr):zE k (zga f)=true:=by simp[zga]
@[simp] theorem flat_flows(f:List Flow):zE k (flows f)=true:=by simp[flows]
@[simp] theorem flat_arrs(f:List Arr):zE k (arrs f)=true:=by simp[arrs]
end
section
variable (n:Nat)
@[simp high] theorem bl_int(l:List Int):zU n (l.map (PV.int .i64))=true:=zdf _ _ _ (fun _=>rfl)
@[simp high] theorem bl_node(l:List Node):zU n (l.map zK)=true:=zdf _ _ _ (flat_node n)
@[simp high] theorem bl_nodes(l:List (List Node)):zU n (l.map zh)=true:=zdf _ _ _ (flat_nodes n)
@[simp high] theorem bl_flow(l:List Flow):zU n (l.map zf)=true:=zdf _ _ _ (flat_flow n)
@[simp high] theorem bl_arr(l:List Arr):zU n (l.map zga)=true:=zdf _ _ _ (flat_arr n)
end
section
@[simp high] theorem isVar_ints(l:List Int):zJ (ints l)=true:=ye rfl rfl
@[simp high] theorem canon1_ints(l:List Int):canon1 (ints l)=ints l:=ye rfl rfl
@[simp high] theorem strip_ints(l:List Int):strip (ints l)=ints l:=ye rfl rfl
@[simp high] theorem stripA_ints(l:List Int):stripA (ints l)=ints l:=ye rfl rfl
@[simp high] theorem isVar_nodes(l:List Node):zJ (zh l)=true:=ye rfl rfl
@[simp high] theorem canon1_nodes(l:List Node):canon1 (zh l)=zh l:=ye rfl rfl
@[simp high] theorem stripA_nodes(l:List Node):stripA (zh l)=zh l:=ye rfl rfl
@[simp high] theorem cellsOf_nodes(l:List Node):cellsOf (zh l)=[zh l]:=ye rfl rfl
@[simp high] theorem canon1_kids(l:List (List Node)):canon1 (kids l)=kids l:=ye rfl rfl
@[simp high] theorem canon1_flows(l:List Flow):canon1 (flows l)=flows l:=ye rfl rfl
@[simp high] theorem isVar_arrs(l:List Arr):zJ (arrs l)=true:=ye rfl rfl
@[simp high] theorem canon1_arrs(l:List Arr):canon1 (arrs l)=arrs l:=ye rfl rfl
@[simp high] theorem stripA_arrs(l:List Arr):stripA (arrs l)=arrs l:=ye rfl rfl
@[simp high] theorem cellsOf_arrs(l:List Arr):cellsOf (arrs l)=[arrs l]:=ye rfl rfl
end
mutual
def wtN:Node->Nat
 |⟨_,_,_,s,a,u,p,ks⟩=>1+s.length+a.length+u.length+p.length+wtK ks
def wtL:List Node->Nat
 | []=>0
 |x::r=>1+wtN x+wtL r
def wtK:List (List Node)->Nat
 | []=>0
 |l::r=>1+wtL l+wtK r
end
theorem zlb(x:Node):wtN x=1+x.name.length+x.args.length+x.outs.length+x.params.length+wtK x.kids:=by cases x;rfl
theorem zzc(a b:List Node):wtL (a++b)=wtL a+wtL b:=by
 induction a with
 |nil=>simp[wtL]
 |cons x r ih=>simp[wtL,ih];omega
theorem zlc(l:List Node):l.length<=wtL l:=by
 induction l with
 |nil=>simp
 |cons x r ih=>simp[wtL];omega
theorem len_wtK(l:List (List Node)):l.length<=wtK l:=by
 induction l with
 |nil=>simp
 |cons x r ih=>simp[wtK];omega
theorem zld{x:Node}{l:List Node}(h:l∈x.kids):wtL l+2<=wtN x:=by
 rw[zlb];have:∀ks:List (List Node),l∈ks->wtL l+1<=wtK ks:=by
  intro ks
  induction ks with
  |nil=>intro h;cases h
  |cons y r ih=>
   intro h;simp only[wtK];rcases yA.1 h with rfl|h
   ·omega
   ·have:=ih h;omega
 have:=this _ h;omega
theorem zHe{x:Node}{l:List Node}(h:x∈l):wtN x+1<=wtL l:=by
 induction l with
 |nil=>cases h
 |cons y r ih=>
  simp only[wtL];rcases yA.1 h with rfl|h
  ·omega
  ·have:=ih h;omega
def zvd(c:Int):Bool:=(decide (97<=c)&&decide (c<=122))||(decide (65<=c)&&decide (c<=90))||decide (c=95)
def digitN(c:Int):Bool:=decide (48<=c)&&decide (c<=57)
theorem zad(c:Int)(σ:zd):zk E 79 [.int .i32 c] σ=some (.ret (.bool (zvd c)),σ):=by
 refine zc rfl rfl rfl (by simp) ?_
 (simp[*,F79,zvd])<;>(repeat' ((first|refine sP _ ?_ ?_|refine gP _ ?_ ?_|refine sN _ ?_ ?_|refine gN _ ?_ ?_|refine sM _ ?_ ?_|refine gM _ ?_ ?_|refine sB _ ?_ ?_|refine gB _ ?_ ?_)<;>intro hc<;>simp[*,F79,zvd]))
theorem digit_spec(c:Int)(σ:zd):zk E 107 [.int .i32 c] σ=some (.ret (.bool (digitN c)),σ):=by
 refine zc rfl rfl rfl (by simp) ?_
 (simp[*,F107,digitN])<;>(repeat' ((first|refine sP _ ?_ ?_|refine gP _ ?_ ?_|refine sN _ ?_ ?_|refine gN _ ?_ ?_|refine sM _ ?_ ?_|refine gM _ ?_ ?_|refine sB _ ?_ ?_|refine gB _ ?_ ?_)<;>intro hc<;>simp[*,F107,digitN]))
theorem zpe(c:Int)(σ:zd):zk E 88 [.int .u8 c] σ=some (.ret (.bool (zvd c)),σ):=by
 refine zc rfl rfl rfl (by simp) ?_
 (simp[*,F88,zvd])<;>(repeat' ((first|refine sP _ ?_ ?_|refine gP _ ?_ ?_|refine sN _ ?_ ?_|refine gN _ ?_ ?_|refine sM _ ?_ ?_|refine gM _ ?_ ?_|refine sB _ ?_ ?_|refine gB _ ?_ ?_)<;>intro hc<;>simp[*,F88,zvd]))
theorem rdigit_spec(c:Int)(σ:zd):zk E 90 [.int .u8 c] σ=some (.ret (.bool (digitN c)),σ):=by
 refine zc rfl rfl rfl (by simp) ?_
 (simp[*,F90,digitN])<;>(repeat' ((first|refine sP _ ?_ ?_|refine gP _ ?_ ?_|refine sN _ ?_ ?_|refine gN _ ?_ ?_|refine sM _ ?_ ?_|refine gM _ ?_ ?_|refine sB _ ?_ ?_|refine gB _ ?_ ?_)<;>intro hc<;>simp[*,F90,digitN]))
def words:List (List UInt8):=[[105,110,116],[98,111,111,108],[105,102],[101,108,115,101],[119,104,105,108,101],[98,114,101,97,107],[99,111,110,116,105,110,117,101],[114,101,116,117,114,110],
 [112,114,105,110,116],[114,101,97,100],[116,114,117,101],[102,97,108,115,101],[105,56],[105,49,54],[105,51,50],[117,56],[117,49,54],[117,51,50]]
def wordM(s:List UInt8):Bool:=words.contains s
theorem word_spec(s:List UInt8)(σ:zd):zk E 81 [.str s] σ=some (.ret (.bool (wordM s)),σ):=by
 refine zc rfl rfl rfl (by simp) ?_
 (simp[*,F81,wordM,words])<;>(repeat' ((first|refine sP _ ?_ ?_|refine gP _ ?_ ?_|refine sN _ ?_ ?_|refine gN _ ?_ ?_|refine sM _ ?_ ?_|refine gM _ ?_ ?_|refine sB _ ?_ ?_|refine gB _ ?_ ?_)<;>intro hc<;>simp[*,F81,wordM,words]))
theorem rword_spec(s:List UInt8)(σ:zd):zk E 89 [.str s] σ=some (.ret (.bool (wordM s)),σ):=by
 refine zc rfl rfl rfl (by simp) ?_
 (simp[*,F89,wordM,words])<;>(repeat' ((first|refine sP _ ?_ ?_|refine gP _ ?_ ?_|refine sN _ ?_ ?_|refine gN _ ?_ ?_|refine sM _ ?_ ?_|refine gM _ ?_ ?_|refine sB _ ?_ ?_|refine gB _ ?_ ?_)<;>intro hc<;>simp[*,F89,wordM,words]))
def zuc(b:UInt8):Bool:=zvd b.toNat||digitN b.toNat
def runM(s:List UInt8):List UInt8:=s.takeWhile zuc
def nameM(s:List UInt8):Bool:=decide (s≠ [])&&(zvd ((s.head?.getD 0).toNat)&&(s.all zuc&&(decide (s.length<=20)&& !wordM s)))
theorem nameByte_high{b:UInt8}(h:128<=b.toNat):zuc b=false:=by
 simp[zuc,zvd,digitN];omega
theorem high_not{c:Nat}(h:128<=c):zvd c=false/\digitN c=false:=by
 simp[zvd,digitN];omega
theorem zye{p:UInt8->Bool}:∀{s:List UInt8},s.takeWhile p=s<->s.all p=true
 | []=>by simp
 |b::r=>by
  rw[List.takeWhile_cons];cases h:p b
  ·simp[h]
  ·simp[h,zye (s:=r)]
theorem run_spec(s:List UInt8)(σ:zd):zk E 80 [.str s] σ=some (.ret (.str (runM s)),σ):=by
 refine zc rfl rfl rfl (by simp) ?_;simp[F80];refine zje K80_0 B80_0 (fun d=>s.length-d) (fun d=>[]) (fun d=>[(6,.iter s d)]) (fun _=>σ) (fun d=>d<=s.length/\(s.take d).all zuc=true) 0 (by simp) ?_
 rintro d s1 ⟨hd,ha⟩ h1 h2 h3 h4 h5
 simp at h4;by_cases hlt:d<s.length
 ·have hs:d<(⟨s.toArray⟩:ByteArray).size:=by show d<s.toArray.size;simpa using hlt
  have hget:(⟨s.toArray⟩:ByteArray)[d]'hs=s[d]:=rfl;have htk:s.take (d+1)=s.take d++[s[d]]:=by simp
  by_cases hb:s[d].toNat<128
  ·have hdec:=decode_ascii ⟨s.toArray⟩ d hs (by rw[hget];exact hb);rw[hget]at hdec;cases hn:zuc s[d]
   ·have e:runM s=s.take d:=by
     have:s=s.take d++(s[d]::s.drop (d+1)):=by simp
     unfold runM;rw[this,List.takeWhile_append_of_pos (by simpa using ha),List.takeWhile_cons,hn];simp
    have hn2:=hn;simp only[zuc,yB]at hn2;have hmin:min d s.length=d:=by omega
    simp[*,zad,digit_spec]
   ·have hn2:=hn;simp only[zuc,yw]at hn2;cases hl:zvd s[d].toNat
    ·rw[hl]at hn2;simp at hn2;simp[*,zad,digit_spec];exact⟨d+1,by omega,rfl,by omega,by rw[<-yj,htk,List.all_append,ha];simp[hn]⟩
    ·simp[*,zad,digit_spec];exact⟨d+1,by omega,rfl,by omega,by rw[<-yj,htk,List.all_append,ha];simp[hn]⟩
  ·obtain⟨hd1,hd2⟩:=decode_high ⟨s.toArray⟩ d hs (by rw[hget];omega);obtain⟨q1,q2⟩:=high_not hd1;have e:runM s=s.take d:=by
    have:s=s.take d++(s[d]::s.drop (d+1)):=by simp
    unfold runM;rw[this,List.takeWhile_append_of_pos (by simpa using ha),List.takeWhile_cons,nameByte_high (by omega)];simp
   simp[*,zad,digit_spec]
 ·have hd':d=s.length:=by omega
  subst hd';simp at ha;have e:runM s=s:=by
   unfold runM;exact zye.2 (by simpa using ha)
  simp[*]
theorem name_spec(s:List UInt8)(σ:zd):zk E 54 [.str s] σ=some (.ret (.bool (nameM s)),σ):=by
 refine zc rfl rfl rfl (by simp) ?_;have hr:decide (runM s=s)=s.all zuc:=by
  unfold runM;simp only[zye,Bool.decide_eq_true]
 by_cases hne:s=[]
 ·subst hne;simp[F54,nameM]
 obtain⟨b,r,hs⟩:=List.exists_cons_of_ne_nil hne;have hb:s[0]? =some b:=by rw[hs];rfl
 have hd:s.head? =some b:=by rw[hs];rfl
 clear hs;generalize ha:s.all zuc=A at hr
 (simp[*,F54,nameM,zad,run_spec,word_spec])<;>(repeat' ((first|refine sP _ ?_ ?_|refine gP _ ?_ ?_|refine sN _ ?_ ?_|refine gN _ ?_ ?_|refine sM _ ?_ ?_|refine gM _ ?_ ?_|refine sB _ ?_ ?_|refine gB _ ?_ ?_)<;>intro hc<;>simp[*,F54,nameM,zad,run_spec,word_spec]))
 all_goals(try grind)
theorem rname_spec(s:List UInt8)(σ:zd):zk E 61 [.str s] σ=some (.ret (.bool (nameM s)),σ):=by
 refine zc rfl rfl rfl (by simp) ?_;by_cases hne:s=[]
 ·subst hne;simp[F61,nameM]
 obtain⟨b,r,hs⟩:=List.exists_cons_of_ne_nil hne;have hb:s[0]? =some b:=by rw[hs];rfl
 have hd:s.head? =some b:=by rw[hs];rfl
 clear hs
 (simp[*,F61,nameM,zpe,rword_spec])<;>(repeat' ((first|refine sP _ ?_ ?_|refine gP _ ?_ ?_|refine sN _ ?_ ?_|refine gN _ ?_ ?_|refine sM _ ?_ ?_|refine gM _ ?_ ?_|refine sB _ ?_ ?_|refine gB _ ?_ ?_)<;>intro hc<;>simp[*,F61,nameM,zpe,rword_spec]))
 all_goals first|refine zG s K61_0 B61_0 (fun d=>[(3,.int .i64 d.length)]) (fun _=>σ) (fun d=>d.all zuc=true) (by omega) (by simp) ?_ ?_|grind
 ·intros d x r' s hl' hlt hget hget' hw hp h1 h2 h3 h4;simp at h1 h3;have hx:=hl'.mem;clear h2
  (simp[*,zpe,rdigit_spec])<;>(repeat' ((first|refine sP _ ?_ ?_|refine gP _ ?_ ?_|refine sN _ ?_ ?_|refine gN _ ?_ ?_|refine sM _ ?_ ?_|refine gM _ ?_ ?_|refine sB _ ?_ ?_|refine gB _ ?_ ?_)<;>intro hc<;>simp[*,zpe,rdigit_spec]))
  all_goals grind [zuc]
 ·intros s hp h1 h2 h3 h4;simp at h1 h3
  (simp[*])<;>(repeat' ((first|refine sP _ ?_ ?_|refine gP _ ?_ ?_|refine sN _ ?_ ?_|refine gN _ ?_ ?_|refine sM _ ?_ ?_|refine gM _ ?_ ?_|refine sB _ ?_ ?_|refine gB _ ?_ ?_)<;>intro hc<;>simp[*]))
  all_goals(try grind)
def idx{α:Type}(p:α->Bool)(l:List α):Int:=match l.findIdx? p with
 |some i=>(i:Int)
 |none=> -1
theorem zCe{α:Type}{p:α->Bool}{l d:List α}{x:α}{r:List α}(h:Split l d x r)(hd:∀y∈d,p y=false)(hx:p x=true):idx p l=d.length:=by
 have:l.findIdx? p=some d.length:=by
  rw[h.eq,List.findIdx?_append];have:d.findIdx? p=none:=by rw[yfa];exact hd
  rw[this];simp[List.findIdx?_cons,hx]
 simp[idx,this]
theorem zsf{α:Type}{p:α->Bool}{l:List α}(hd:∀y∈l,p y=false):idx p l= -1:=by
 have:l.findIdx? p=none:=by rw[yfa];exact hd
 simp[idx,this]
theorem idx_ge{α:Type}(p:α->Bool)(l:List α):decide (0<=idx p l)=l.any p:=by
 unfold idx;cases h:l.findIdx? p with
 |none=>
  rw[yfa]at h;simp;exact h
 |some i=>
  have:(l.findIdx? p).isSome=true:=by rw[h];rfl
  rw[List.findIdx?_isSome]at this;simp[this]
theorem indexFuncFlow(l:List (Flow))(p:Flow->Bool)(k:Nat)(first caps:List PV)(σ:zd)(hl:l.length<1099511627776)(hf:∀x∈l,zk E k (first++[zf x]++caps) σ=some (.ret (.bool (p x)),σ)):
  zk E 82 [.slice .plain 5 (l.map (zf)),.fn k first caps] σ=some (.ret (.int .i64 (idx p l)),σ):=by
 refine zc rfl rfl rfl (by simp) ?_;simp[F82];refine zG l K82_0 B82_0 (fun d=>[(8,.int .i64 d.length)]) (fun _=>σ) (fun d=>∀y∈d,p y=false) (by omega) (by simp) ?_ ?_
 ·intros d x r s hl' hlt hget hget' hw hp h1 h2 h3 h4;have hfx:=hf x hl'.mem;simp[zf]at h1 h3 hfx;clear h2 hf;cases hx:p x
  ·(simp[*,zf])<;>(repeat' ((first|refine sP _ ?_ ?_|refine gP _ ?_ ?_|refine sN _ ?_ ?_|refine gN _ ?_ ?_|refine sM _ ?_ ?_|refine gM _ ?_ ?_|refine sB _ ?_ ?_|refine gB _ ?_ ?_)<;>intro hc<;>simp[*,zf]))
   all_goals(try grind)
  ·have:=zCe hl' hp hx
   (simp[*,zf])<;>(repeat' ((first|refine sP _ ?_ ?_|refine gP _ ?_ ?_|refine sN _ ?_ ?_|refine gN _ ?_ ?_|refine sM _ ?_ ?_|refine gM _ ?_ ?_|refine sB _ ?_ ?_|refine gB _ ?_ ?_)<;>intro hc<;>simp[*,zf]))
 ·intros s hp h1 h2 h3 h4;have:=zsf hp;simp at h1 h3
  (simp[*,zf])<;>(repeat' ((first|refine sP _ ?_ ?_|refine gP _ ?_ ?_|refine sN _ ?_ ?_|refine gN _ ?_ ?_|refine sM _ ?_ ?_|refine gM _ ?_ ?_|refine sB _ ?_ ?_|refine gB _ ?_ ?_)<;>intro hc<;>simp[*,zf]))
theorem indexFuncInt(l:List (Int))(p:Int->Bool)(k:Nat)(first caps:List PV)(σ:zd)(hl:l.length<1099511627776)(hf:∀x∈l,zk E k (first++[PV.int .i64 x]++caps) σ=some (.ret (.bool (p x)),σ)):
  zk E 84 [.slice .plain 1 (l.map (PV.int .i64)),.fn k first caps] σ=some (.ret (.int .i64 (idx p l)),σ):=by
 refine zc rfl rfl rfl (by simp) ?_;simp[F84];refine zG l K84_0 B84_0 (fun d=>[(8,.int .i64 d.length)]) (fun _=>σ) (fun d=>∀y∈d,p y=false) (by omega) (by simp) ?_ ?_
 ·intros d x r s hl' hlt hget hget' hw hp h1 h2 h3 h4;have hfx:=hf x hl'.mem;simp at h1 h3 hfx;clear h2 hf;cases hx:p x
  ·(simp[*])<;>(repeat' ((first|refine sP _ ?_ ?_|refine gP _ ?_ ?_|refine sN _ ?_ ?_|refine gN _ ?_ ?_|refine sM _ ?_ ?_|refine gM _ ?_ ?_|refine sB _ ?_ ?_|refine gB _ ?_ ?_)<;>intro hc<;>simp[*]))
   all_goals(try grind)
  ·have:=zCe hl' hp hx
   (simp[*])<;>(repeat' ((first|refine sP _ ?_ ?_|refine gP _ ?_ ?_|refine sN _ ?_ ?_|refine gN _ ?_ ?_|refine sM _ ?_ ?_|refine gM _ ?_ ?_|refine sB _ ?_ ?_|refine gB _ ?_ ?_)<;>intro hc<;>simp[*]))
 ·intros s hp h1 h2 h3 h4;have:=zsf hp;simp at h1 h3
  (simp[*])<;>(repeat' ((first|refine sP _ ?_ ?_|refine gP _ ?_ ?_|refine sN _ ?_ ?_|refine gN _ ?_ ?_|refine sM _ ?_ ?_|refine gM _ ?_ ?_|refine sB _ ?_ ?_|refine gB _ ?_ ?_)<;>intro hc<;>simp[*]))
theorem containsFuncInt(l:List (Int))(p:Int->Bool)(k:Nat)(first caps:List PV)(σ:zd)(hl:l.length<1099511627776)(hc:(first.map stripA)=first/\(caps.map stripA)=caps)(hf:∀x∈l,zk E k (first++[PV.int .i64 x]++caps) σ=some (.ret (.bool (p x)),σ)):
  zk E 57 [.slice .plain 1 (l.map (PV.int .i64)),.fn k first caps] σ=some (.ret (.bool (l.any p)),σ):=by
 refine zc rfl rfl rfl (by simp) ?_;have h:=indexFuncInt l p k first caps σ hl hf;have h2:=idx_ge p l;clear hf
 (simp[*,F57])<;>(repeat' ((first|refine sP _ ?_ ?_|refine gP _ ?_ ?_|refine sN _ ?_ ?_|refine gN _ ?_ ?_|refine sM _ ?_ ?_|refine gM _ ?_ ?_|refine sB _ ?_ ?_|refine gB _ ?_ ?_)<;>intro hc<;>simp[*,F57]))
theorem indexFuncNode(l:List (Node))(p:Node->Bool)(k:Nat)(first caps:List PV)(σ:zd)(hl:l.length<1099511627776)(hf:∀x∈l,zk E k (first++[zK x]++caps) σ=some (.ret (.bool (p x)),σ)):
  zk E 150 [.slice .plain 8 (l.map (zK)),.fn k first caps] σ=some (.ret (.int .i64 (idx p l)),σ):=by
 refine zc rfl rfl rfl (by simp) ?_;simp[F150];refine zG l K150_0 B150_0 (fun d=>[(8,.int .i64 d.length)]) (fun _=>σ) (fun d=>∀y∈d,p y=false) (by omega) (by simp) ?_ ?_
 ·intros d x r s hl' hlt hget hget' hw hp h1 h2 h3 h4;have hfx:=hf x hl'.mem;simp[za]at h1 h3 hfx;clear h2 hf;cases hx:p x
  ·(simp[*,za])<;>(repeat' ((first|refine sP _ ?_ ?_|refine gP _ ?_ ?_|refine sN _ ?_ ?_|refine gN _ ?_ ?_|refine sM _ ?_ ?_|refine gM _ ?_ ?_|refine sB _ ?_ ?_|refine gB _ ?_ ?_)<;>intro hc<;>simp[*,za]))
   all_goals(try grind)
  ·have:=zCe hl' hp hx
   (simp[*,za])<;>(repeat' ((first|refine sP _ ?_ ?_|refine gP _ ?_ ?_|refine sN _ ?_ ?_|refine gN _ ?_ ?_|refine sM _ ?_ ?_|refine gM _ ?_ ?_|refine sB _ ?_ ?_|refine gB _ ?_ ?_)<;>intro hc<;>simp[*,za]))
 ·intros s hp h1 h2 h3 h4;have:=zsf hp;simp at h1 h3
  (simp[*,za])<;>(repeat' ((first|refine sP _ ?_ ?_|refine gP _ ?_ ?_|refine sN _ ?_ ?_|refine gN _ ?_ ?_|refine sM _ ?_ ?_|refine gM _ ?_ ?_|refine sB _ ?_ ?_|refine gB _ ?_ ?_)<;>intro hc<;>simp[*,za]))
theorem containsFuncNode(l:List (Node))(p:Node->Bool)(k:Nat)(first caps:List PV)(σ:zd)(hl:l.length<1099511627776)(hc:(first.map stripA)=first/\(caps.map stripA)=caps)(hf:∀x∈l,zk E k (first++[zK x]++caps) σ=some (.ret (.bool (p x)),σ)):
  zk E 130 [.slice .plain 8 (l.map (zK)),.fn k first caps] σ=some (.ret (.bool (l.any p)),σ):=by
 refine zc rfl rfl rfl (by simp) ?_;have h:=indexFuncNode l p k first caps σ hl hf;have h2:=idx_ge p l;clear hf
 (simp[*,F130])<;>(repeat' ((first|refine sP _ ?_ ?_|refine gP _ ?_ ?_|refine sN _ ?_ ?_|refine gN _ ?_ ?_|refine sM _ ?_ ?_|refine gM _ ?_ ?_|refine sB _ ?_ ?_|refine gB _ ?_ ?_)<;>intro hc<;>simp[*,F130]))
theorem indexFuncArr(l:List (Arr))(p:Arr->Bool)(k:Nat)(first caps:List PV)(σ:zd)(hl:l.length<1099511627776)(hf:∀x∈l,zk E k (first++[zga x]++caps) σ=some (.ret (.bool (p x)),σ)):
  zk E 164 [.slice .plain 2 (l.map (zga)),.fn k first caps] σ=some (.ret (.int .i64 (idx p l)),σ):=by
 refine zc rfl rfl rfl (by simp) ?_;simp[F164];refine zG l K164_0 B164_0 (fun d=>[(8,.int .i64 d.length)]) (fun _=>σ) (fun d=>∀y∈d,p y=false) (by omega) (by simp) ?_ ?_
 ·intros d x r s hl' hlt hget hget' hw hp h1 h2 h3 h4;have hfx:=hf x hl'.mem;simp[zga]at h1 h3 hfx;clear h2 hf;cases hx:p x
  ·(simp[*,zga])<;>(repeat' ((first|refine sP _ ?_ ?_|refine gP _ ?_ ?_|refine sN _ ?_ ?_|refine gN _ ?_ ?_|refine sM _ ?_ ?_|refine gM _ ?_ ?_|refine sB _ ?_ ?_|refine gB _ ?_ ?_)<;>intro hc<;>simp[*,zga]))
   all_goals(try grind)
  ·have:=zCe hl' hp hx
   (simp[*,zga])<;>(repeat' ((first|refine sP _ ?_ ?_|refine gP _ ?_ ?_|refine sN _ ?_ ?_|refine gN _ ?_ ?_|refine sM _ ?_ ?_|refine gM _ ?_ ?_|refine sB _ ?_ ?_|refine gB _ ?_ ?_)<;>intro hc<;>simp[*,zga]))
 ·intros s hp h1 h2 h3 h4;have:=zsf hp;simp at h1 h3
  (simp[*,zga])<;>(repeat' ((first|refine sP _ ?_ ?_|refine gP _ ?_ ?_|refine sN _ ?_ ?_|refine gN _ ?_ ?_|refine sM _ ?_ ?_|refine gM _ ?_ ?_|refine sB _ ?_ ?_|refine gB _ ?_ ?_)<;>intro hc<;>simp[*,zga]))
theorem containsFuncArr(l:List (Arr))(p:Arr->Bool)(k:Nat)(first caps:List PV)(σ:zd)(hl:l.length<1099511627776)(hc:(first.map stripA)=first/\(caps.map stripA)=caps)(hf:∀x∈l,zk E k (first++[zga x]++caps) σ=some (.ret (.bool (p x)),σ)):
  zk E 158 [.slice .plain 2 (l.map (zga)),.fn k first caps] σ=some (.ret (.bool (l.any p)),σ):=by
 refine zc rfl rfl rfl (by simp) ?_;have h:=indexFuncArr l p k first caps σ hl hf;have h2:=idx_ge p l;clear hf
 (simp[*,F158])<;>(repeat' ((first|refine sP _ ?_ ?_|refine gP _ ?_ ?_|refine sN _ ?_ ?_|refine gN _ ?_ ?_|refine sM _ ?_ ?_|refine gM _ ?_ ?_|refine sB _ ?_ ?_|refine gB _ ?_ ?_)<;>intro hc<;>simp[*,F158]))
theorem indexFuncList(l:List (List Node))(p:List Node->Bool)(k:Nat)(first caps:List PV)(σ:zd)(hl:l.length<1099511627776)(hf:∀x∈l,zk E k (first++[zh x]++caps) σ=some (.ret (.bool (p x)),σ)):
  zk E 151 [.slice .plain 1 (l.map (zh)),.fn k first caps] σ=some (.ret (.int .i64 (idx p l)),σ):=by
 refine zc rfl rfl rfl (by simp) ?_;simp[F151];refine zG l K151_0 B151_0 (fun d=>[(8,.int .i64 d.length)]) (fun _=>σ) (fun d=>∀y∈d,p y=false) (by omega) (by simp) ?_ ?_
 ·intros d x r s hl' hlt hget hget' hw hp h1 h2 h3 h4;have hfx:=hf x hl'.mem;simp at h1 h3 hfx;clear h2 hf;cases hx:p x
  ·(simp[*])<;>(repeat' ((first|refine sP _ ?_ ?_|refine gP _ ?_ ?_|refine sN _ ?_ ?_|refine gN _ ?_ ?_|refine sM _ ?_ ?_|refine gM _ ?_ ?_|refine sB _ ?_ ?_|refine gB _ ?_ ?_)<;>intro hc<;>simp[*]))
   all_goals(try grind)
  ·have:=zCe hl' hp hx
   (simp[*])<;>(repeat' ((first|refine sP _ ?_ ?_|refine gP _ ?_ ?_|refine sN _ ?_ ?_|refine gN _ ?_ ?_|refine sM _ ?_ ?_|refine gM _ ?_ ?_|refine sB _ ?_ ?_|refine gB _ ?_ ?_)<;>intro hc<;>simp[*]))
 ·intros s hp h1 h2 h3 h4;have:=zsf hp;simp at h1 h3
  (simp[*])<;>(repeat' ((first|refine sP _ ?_ ?_|refine gP _ ?_ ?_|refine sN _ ?_ ?_|refine gN _ ?_ ?_|refine sM _ ?_ ?_|refine gM _ ?_ ?_|refine sB _ ?_ ?_|refine gB _ ?_ ?_)<;>intro hc<;>simp[*]))
theorem containsFuncList(l:List (List Node))(p:List Node->Bool)(k:Nat)(first caps:List PV)(σ:zd)(hl:l.length<1099511627776)(hc:(first.map stripA)=first/\(caps.map stripA)=caps)(hf:∀x∈l,zk E k (first++[zh x]++caps) σ=some (.ret (.bool (p x)),σ)):
  zk E 132 [.slice .plain 1 (l.map (zh)),.fn k first caps] σ=some (.ret (.bool (l.any p)),σ):=by
 refine zc rfl rfl rfl (by simp) ?_;have h:=indexFuncList l p k first caps σ hl hf;have h2:=idx_ge p l;clear hf
 (simp[*,F132])<;>(repeat' ((first|refine sP _ ?_ ?_|refine gP _ ?_ ?_|refine sN _ ?_ ?_|refine gN _ ?_ ?_|refine sM _ ?_ ?_|refine gM _ ?_ ?_|refine sB _ ?_ ?_|refine gB _ ?_ ?_)<;>intro hc<;>simp[*,F132]))
def zZ(l:List Flow)(s:List UInt8):Int:=idx (fun f=>decide (f.name=s)) l
def zsc(l:List Arr)(s:List UInt8):Bool:=l.any fun a=>decide (a.name=s)
def zFe(l:List Arr)(s:List UInt8):Int:=idx (fun f=>decide (f.name=s)) l
theorem place_spec(u:Unt)(s:List UInt8)(σ:zd)(hl:u.flows.length<1099511627776):zk E 56 [encUnt u,.str s] σ=some (.ret (.int .i64 (zZ u.flows s)),σ):=by
 refine zc rfl rfl rfl (by simp[encUnt]) ?_;have h:=indexFuncFlow u.flows (fun f=>decide (f.name=s)) 83 [] [.iptr [.str s] 0] σ hl (by
  intro x hx;refine zc rfl rfl rfl (by simp[zf]) ?_
  (simp[*,F83,zf])<;>(repeat' ((first|refine sP _ ?_ ?_|refine gP _ ?_ ?_|refine sN _ ?_ ?_|refine gN _ ?_ ?_|refine sM _ ?_ ?_|refine gM _ ?_ ?_|refine sB _ ?_ ?_|refine gB _ ?_ ?_)<;>intro hc<;>simp[*,F83,zf])))
 (simp[*,F56,encUnt,zZ,flows])<;>(repeat' ((first|refine sP _ ?_ ?_|refine gP _ ?_ ?_|refine sN _ ?_ ?_|refine gN _ ?_ ?_|refine sM _ ?_ ?_|refine gM _ ?_ ?_|refine sB _ ?_ ?_|refine gB _ ?_ ?_)<;>intro hc<;>simp[*,F56,encUnt,zZ,flows]))
theorem hasArray_spec(u:Unt)(s:List UInt8)(σ:zd)(hl:u.arrays.length<1099511627776):zk E 138 [encUnt u,.str s] σ=some (.ret (.bool (zsc u.arrays s)),σ):=by
 refine zc rfl rfl rfl (by simp[encUnt]) ?_;have h:=containsFuncArr u.arrays (fun f=>decide (f.name=s)) 159 [] [.iptr [.str s] 0] σ hl (by simp) (by
  intro x hx;refine zc rfl rfl rfl (by simp[zga]) ?_
  (simp[*,F159,zga])<;>(repeat' ((first|refine sP _ ?_ ?_|refine gP _ ?_ ?_|refine sN _ ?_ ?_|refine gN _ ?_ ?_|refine sM _ ?_ ?_|refine gM _ ?_ ?_|refine sB _ ?_ ?_|refine gB _ ?_ ?_)<;>intro hc<;>simp[*,F159,zga])))
 (simp[*,F138,encUnt,zsc,arrs])<;>(repeat' ((first|refine sP _ ?_ ?_|refine gP _ ?_ ?_|refine sN _ ?_ ?_|refine gN _ ?_ ?_|refine sM _ ?_ ?_|refine gM _ ?_ ?_|refine sB _ ?_ ?_|refine gB _ ?_ ?_)<;>intro hc<;>simp[*,F138,encUnt,zsc,arrs]))
theorem zWc(u:Unt)(n:List UInt8)(σ:zd)(hl:u.flows.length<1099511627776):zk E 27 [encUnt u,.str n] σ=some (.ret (.int .i64 (zZ u.flows n)),σ):=by
 refine zc rfl rfl rfl (by simp[encUnt]) ?_;simp[F27,encUnt];refine zG u.flows K27_0 B27_0 (fun d=>[(5,.int .i64 d.length)]) (fun _=>σ) (fun d=>∀y∈d,decide (y.name=n)=false) (by omega) (by simp) ?_ ?_
 ·intros d x r s hl' hlt hget hget' hw hp h1 h2 h3 h4;simp at h1 h3 h2;by_cases hx:x.name=n
  ·have h:=zCe hl' hp (p:=fun f=>decide (f.name=n)) (by simpa using hx)
   (simp[*,zf,flows,zZ])<;>(repeat' ((first|refine sP _ ?_ ?_|refine gP _ ?_ ?_|refine sN _ ?_ ?_|refine gN _ ?_ ?_|refine sM _ ?_ ?_|refine gM _ ?_ ?_|refine sB _ ?_ ?_|refine gB _ ?_ ?_)<;>intro hc<;>simp[*,zf,flows,zZ]))
  ·(simp[*,zf,flows,zZ])<;>(repeat' ((first|refine sP _ ?_ ?_|refine gP _ ?_ ?_|refine sN _ ?_ ?_|refine gN _ ?_ ?_|refine sM _ ?_ ?_|refine gM _ ?_ ?_|refine sB _ ?_ ?_|refine gB _ ?_ ?_)<;>intro hc<;>simp[*,zf,flows,zZ]))
   all_goals(try grind)
 ·intros s hp h1 h2 h3 h4;have:=zsf hp;simp at h1 h3 h2
  (simp[*,flows,zZ])<;>(repeat' ((first|refine sP _ ?_ ?_|refine gP _ ?_ ?_|refine sN _ ?_ ?_|refine gN _ ?_ ?_|refine sM _ ?_ ?_|refine gM _ ?_ ?_|refine sB _ ?_ ?_|refine gB _ ?_ ?_)<;>intro hc<;>simp[*,flows,zZ]))
theorem rarray_spec(u:Unt)(n:List UInt8)(σ:zd)(hl:u.arrays.length<1099511627776):zk E 62 [encUnt u,.str n] σ=some (.ret (.int .i64 (zFe u.arrays n)),σ):=by
 refine zc rfl rfl rfl (by simp[encUnt]) ?_;simp[F62,encUnt];refine zG u.arrays K62_0 B62_0 (fun d=>[(5,.int .i64 d.length)]) (fun _=>σ) (fun d=>∀y∈d,decide (y.name=n)=false) (by omega) (by simp) ?_ ?_
 ·intros d x r s hl' hlt hget hget' hw hp h1 h2 h3 h4;simp at h1 h3 h2;by_cases hx:x.name=n
  ·have h:=zCe hl' hp (p:=fun f=>decide (f.name=n)) (by simpa using hx)
   (simp[*,zga,arrs,zFe])<;>(repeat' ((first|refine sP _ ?_ ?_|refine gP _ ?_ ?_|refine sN _ ?_ ?_|refine gN _ ?_ ?_|refine sM _ ?_ ?_|refine gM _ ?_ ?_|refine sB _ ?_ ?_|refine gB _ ?_ ?_)<;>intro hc<;>simp[*,zga,arrs,zFe]))
  ·(simp[*,zga,arrs,zFe])<;>(repeat' ((first|refine sP _ ?_ ?_|refine gP _ ?_ ?_|refine sN _ ?_ ?_|refine gN _ ?_ ?_|refine sM _ ?_ ?_|refine gM _ ?_ ?_|refine sB _ ?_ ?_|refine gB _ ?_ ?_)<;>intro hc<;>simp[*,zga,arrs,zFe]))
   all_goals(try grind)
 ·intros s hp h1 h2 h3 h4;have:=zsf hp;simp at h1 h3 h2
  (simp[*,arrs,zFe])<;>(repeat' ((first|refine sP _ ?_ ?_|refine gP _ ?_ ?_|refine sN _ ?_ ?_|refine gN _ ?_ ?_|refine sM _ ?_ ?_|refine gM _ ?_ ?_|refine sB _ ?_ ?_|refine gB _ ?_ ?_)<;>intro hc<;>simp[*,arrs,zFe]))
def Node.ends(n:Node):Bool:=decide (12<=n.kind)&&decide (n.kind<=15)
def zF(l:List Node):Bool:=match l.getLast? with
 |some n=>decide (n.kind=12)
 |none=>false
mutual
def Node.leaves:Node->Bool
 |⟨k,_,_,_,_,_,_,ks⟩=>decide (k=14)||(decide (k=10)&&zMa ks)
def zu:List Node->Bool
 | []=>false
 |x::r=>x.leaves||zu r
def zMa:List (List Node)->Bool
 | []=>false
 |l::r=>zu l||zMa r
end
theorem zMb(l:List Node):zu l=l.any Node.leaves:=by
 induction l with
 |nil=>rfl
 |cons x r ih=>simp[zu,ih]
theorem leavesK_eq(l:List (List Node)):zMa l=l.any zu:=by
 induction l with
 |nil=>rfl
 |cons x r ih=>simp[zMa,ih]
theorem zrc(x:Node):x.leaves=(decide (x.kind=14)||(decide (x.kind=10)&&x.kids.any zu)):=by
 cases x;simp[Node.leaves,leavesK_eq]
def zb(n:Node):Bool:=
 if n.kind=10/\n.kids.length=2 then n.kids.all fun l=> !zF l
 else if n.kind=11/\n.kids.length=1 then n.kids.all fun l=> !zu l
 else n.ends
def endK(k:Int):Bool:=decide (12<=k)&&decide (k<=15)
theorem ends_raw(k:Int)(a b c d e f g:PV)(σ:zd):zk E 106 [.agg [.int .i64 k,a,b,c,d,e,f,g]] σ=some (.ret (.bool (endK k)),σ):=by
 refine zc rfl rfl rfl (by simp) ?_
 (simp[*,F106,endK])<;>(repeat' ((first|refine sP _ ?_ ?_|refine gP _ ?_ ?_|refine sN _ ?_ ?_|refine gN _ ?_ ?_|refine sM _ ?_ ?_|refine gM _ ?_ ?_|refine sB _ ?_ ?_|refine gB _ ?_ ?_)<;>intro hc<;>simp[*,F106,endK]))
theorem rends_raw(k:Int)(a b c d e f g:PV)(σ:zd):zk E 98 [.agg [.int .i64 k,a,b,c,d,e,f,g]] σ=some (.ret (.bool (endK k)),σ):=by
 refine zc rfl rfl rfl (by simp) ?_
 (simp[*,F98,endK])<;>(repeat' ((first|refine sP _ ?_ ?_|refine gP _ ?_ ?_|refine sN _ ?_ ?_|refine gN _ ?_ ?_|refine sM _ ?_ ?_|refine gM _ ?_ ?_|refine sB _ ?_ ?_|refine gB _ ?_ ?_)<;>intro hc<;>simp[*,F98,endK]))
theorem rends_spec(x:Node)(σ:zd):zk E 98 [zK x] σ=some (.ret (.bool x.ends),σ):=by
 rw[za,rends_raw];rfl
theorem yields_spec(l:List Node)(σ:zd)(hl:l.length<1099511627776):zk E 104 [zh l] σ=some (.ret (.bool (zF l)),σ):=by
 refine zc rfl rfl rfl (by simp) ?_;rcases yz l with rfl|⟨d,x,rfl⟩
 ·(simp[*,F104,zh,zF])<;>(repeat' ((first|refine sP _ ?_ ?_|refine gP _ ?_ ?_|refine sN _ ?_ ?_|refine gN _ ?_ ?_|refine sM _ ?_ ?_|refine gM _ ?_ ?_|refine sB _ ?_ ?_|refine gB _ ?_ ?_)<;>intro hc<;>simp[*,F104,zh,zF]))
 ·have hw:zW .i64 (d.length:Int)=d.length:=zm (by omega) (by simp at hl;omega);have hp:(0:Int)<d.length+1:=by omega
  (simp[*,F104,zh,zF,za])<;>(repeat' ((first|refine sP _ ?_ ?_|refine gP _ ?_ ?_|refine sN _ ?_ ?_|refine gN _ ?_ ?_|refine sM _ ?_ ?_|refine gM _ ?_ ?_|refine sB _ ?_ ?_|refine gB _ ?_ ?_)<;>intro hc<;>simp[*,F104,zh,zF,za]))
def lastM(l:List Node):Int:=match l.getLast? with
 |some n=>if n.ends then n.kind else 0
 |none=>0
theorem lastM_eq(l:List Node):decide (lastM l=12)=zF l:=by
 unfold lastM zF;cases l.getLast? with
 |none=>simp
 |some n=>
  simp only[Node.ends];by_cases h:n.kind=12
  ·simp[h]
  ·simp[h];split<;>simp[h]
theorem rlast_spec(l:List Node)(σ:zd)(hl:l.length<1099511627776):zk E 96 [zh l] σ=some (.ret (.int .i64 (lastM l)),σ):=by
 refine zc rfl rfl rfl (by simp) ?_;rcases yz l with rfl|⟨d,x,rfl⟩
 ·(simp[*,F96,zh,lastM])<;>(repeat' ((first|refine sP _ ?_ ?_|refine gP _ ?_ ?_|refine sN _ ?_ ?_|refine gN _ ?_ ?_|refine sM _ ?_ ?_|refine gM _ ?_ ?_|refine sB _ ?_ ?_|refine gB _ ?_ ?_)<;>intro hc<;>simp[*,F96,zh,lastM]))
 ·have hw:zW .i64 (d.length:Int)=d.length:=zm (by omega) (by simp at hl;omega);have hp:¬(d.length:Int)+1=0:=by omega
  have he:=rends_spec x [];simp[za]at he
  (simp[*,F96,zh,lastM,za])<;>(repeat' ((first|refine sP _ ?_ ?_|refine gP _ ?_ ?_|refine sN _ ?_ ?_|refine gN _ ?_ ?_|refine sM _ ?_ ?_|refine gM _ ?_ ?_|refine sB _ ?_ ?_|refine gB _ ?_ ?_)<;>intro hc<;>simp[*,F96,zh,lastM,za]))
  all_goals(try grind)
theorem leaves_spec:∀(N:Nat) (l:List Node) (σ:zd),wtL l<=N->N<1099511627776->zk E 105 [zh l] σ=some (.ret (.bool (zu l)),σ):=by
 intro N
 induction N using ysa with
 |ind N ih=>
  intro l σ hl hN;refine zc rfl rfl rfl (by simp) ?_;have h:=containsFuncNode l Node.leaves 131 [] [] σ (by have:=zlc l;omega) (by simp) (by
   intro x hx;refine zc rfl rfl rfl (by simp[za]) ?_;have hw:=zHe hx;have hk:=zlb x;have hk2:=len_wtK x.kids;have h:=containsFuncList x.kids zu 105 [] [] σ (by omega) (by simp) (by
    intro y hy;have:=zld hy;exact ih (wtL y) (by omega) y σ (yg _) (by omega))
   (simp[*,F131,za,zrc,kids])<;>(repeat' ((first|refine sP _ ?_ ?_|refine gP _ ?_ ?_|refine sN _ ?_ ?_|refine gN _ ?_ ?_|refine sM _ ?_ ?_|refine gM _ ?_ ?_|refine sB _ ?_ ?_|refine gB _ ?_ ?_)<;>intro hc<;>simp[*,F131,za,zrc,kids])))
  (simp[*,F105,zMb,zh])<;>(repeat' ((first|refine sP _ ?_ ?_|refine gP _ ?_ ?_|refine sN _ ?_ ?_|refine gN _ ?_ ?_|refine sM _ ?_ ?_|refine gM _ ?_ ?_|refine sB _ ?_ ?_|refine gB _ ?_ ?_)<;>intro hc<;>simp[*,F105,zMb,zh]))
theorem rleaves_spec:∀(N:Nat) (l:List Node) (σ:zd),wtL l<=N->N<1099511627776->zk E 97 [zh l] σ=some (.ret (.bool (zu l)),σ):=by
 intro N
 induction N using ysa with
 |ind N ih=>
  intro l σ hl hN;refine zc rfl rfl rfl (by simp) ?_;have hll:=zlc l;simp[F97];refine zG l K97_1 B97_1 (fun d=>[(3,.int .i64 d.length)]) (fun _=>σ) (fun d=>∀y∈d,y.leaves=false) (by omega) (by simp) ?_ ?_
  ·intros d x r s hl' hlt hget hget' hw hp h1 h2 h3 h4;simp at h1 h3;clear h2;have hx:=hl'.mem;have hwx:=zHe hx;have hk:=zlb x;have hk2:=len_wtK x.kids;have hex:=zrc x;have hel:zu l=l.any Node.leaves:=zMb l;by_cases h14:x.kind=14
   ·(simp[*,zh,za])<;>(repeat' ((first|refine sP _ ?_ ?_|refine gP _ ?_ ?_|refine sN _ ?_ ?_|refine gN _ ?_ ?_|refine sM _ ?_ ?_|refine gM _ ?_ ?_|refine sB _ ?_ ?_|refine gB _ ?_ ?_)<;>intro hc<;>simp[*,zh,za]))
    all_goals(try grind)
   ·simp[*,zh,za];refine zG (if x.kind=10 then x.kids else[]) K97_0 B97_0 (fun d=>[(4,.int .i64 d.length)]) (fun _=>σ) (fun d=>∀y∈d,zu y=false) (by split<;>simp<;>omega) (by simp) ?_ ?_
    ·intros d' y r' s' hl'' hlt' hget2 hget2' hw' hp' h1' h2' h3' h4';simp at h1' h3';clear h2';by_cases h10:x.kind=10
     ·simp[h10]at hl'' hlt' hget2 hget2';have hy:=hl''.mem;have:=zld hy;have hr:=ih (wtL y) (by omega) y [] (yg _) (by omega);simp[zh]at hr
      (simp[*,zh,za,kids])<;>(repeat' ((first|refine sP _ ?_ ?_|refine gP _ ?_ ?_|refine sN _ ?_ ?_|refine gN _ ?_ ?_|refine sM _ ?_ ?_|refine gM _ ?_ ?_|refine sB _ ?_ ?_|refine gB _ ?_ ?_)<;>intro hc<;>simp[*,zh,za,kids]))
      all_goals(try grind)
     ·exfalso;simp[h10]at hlt'
    ·intros s' hp' h1' h2' h3' h4';simp at h1' h3';clear h2';by_cases h10:x.kind=10
     ·simp[h10]at h3' hp'
      (simp[*,zh,za,kids])<;>(repeat' ((first|refine sP _ ?_ ?_|refine gP _ ?_ ?_|refine sN _ ?_ ?_|refine gN _ ?_ ?_|refine sM _ ?_ ?_|refine gM _ ?_ ?_|refine sB _ ?_ ?_|refine gB _ ?_ ?_)<;>intro hc<;>simp[*,zh,za,kids]))
      all_goals(try grind)
     ·simp[h10]at h3' hp'
      (simp[*,zh,za,kids])<;>(repeat' ((first|refine sP _ ?_ ?_|refine gP _ ?_ ?_|refine sN _ ?_ ?_|refine gN _ ?_ ?_|refine sM _ ?_ ?_|refine gM _ ?_ ?_|refine sB _ ?_ ?_|refine gB _ ?_ ?_)<;>intro hc<;>simp[*,zh,za,kids]))
      all_goals(try grind)
  ·intros s hp h1 h2 h3 h4;simp at h1 h3;have hel:zu l=l.any Node.leaves:=zMb l
   (simp[*,zh,za])<;>(repeat' ((first|refine sP _ ?_ ?_|refine gP _ ?_ ?_|refine sN _ ?_ ?_|refine gN _ ?_ ?_|refine sM _ ?_ ?_|refine gM _ ?_ ?_|refine sB _ ?_ ?_|refine gB _ ?_ ?_)<;>intro hc<;>simp[*,zh,za]))
   all_goals(try grind)
theorem zXb(x:Node)(σ:zd)(hx:wtN x<1099511627776):zk E 77 [zK x] σ=some (.ret (.bool (zb x)),σ):=by
 refine zc rfl rfl rfl (by simp[za]) ?_;have he:x.ends=endK x.kind:=rfl;have hk:∀l∈x.kids,wtL l+2<=wtN x:=fun l=>zld
 have hy:∀l∈x.kids,zk E 104 [zh l] []=some (.ret (.bool (zF l)),[]):=fun l hl=>yields_spec l [] (by have:=zlc l;have:=hk l hl;omega)
 have hv:∀l∈x.kids,zk E 105 [zh l] []=some (.ret (.bool (zu l)),[]):=fun l hl=>leaves_spec (wtL l) l [] (yg _) (by have:=hk l hl;omega)
 have hks:zb x=if x.kind=10/\x.kids.length=2 then(x.kids.all fun l=> !zF l)else if x.kind=11/\x.kids.length=1 then(x.kids.all fun l=> !zu l)else x.ends:=rfl
 rcases hkk:x.kids with _|⟨a,_|⟨b,_|⟨c,t⟩⟩⟩
 all_goals
  rw[hkk]at hy hv;simp at hy hv
  (simp[*,F77,za,kids,ends_raw])<;>(repeat' ((first|refine sP _ ?_ ?_|refine gP _ ?_ ?_|refine sN _ ?_ ?_|refine gN _ ?_ ?_|refine sM _ ?_ ?_|refine gM _ ?_ ?_|refine sB _ ?_ ?_|refine gB _ ?_ ?_)<;>intro hc<;>simp[*,F77,za,kids,ends_raw]))
  all_goals(try grind)
theorem zCb(x:Node)(σ:zd)(hx:wtN x<1099511627776):zk E 73 [zK x] σ=some (.ret (.bool (zb x)),σ):=by
 refine zc rfl rfl rfl (by simp[za]) ?_;have he:x.ends=endK x.kind:=rfl;have hk:∀l∈x.kids,wtL l+2<=wtN x:=fun l=>zld
 have hy:∀l∈x.kids,zk E 96 [zh l] []=some (.ret (.int .i64 (lastM l)),[]):=fun l hl=>rlast_spec l [] (by have:=zlc l;have:=hk l hl;omega)
 have hv:∀l∈x.kids,zk E 97 [zh l] []=some (.ret (.bool (zu l)),[]):=fun l hl=>rleaves_spec (wtL l) l [] (yg _) (by have:=hk l hl;omega)
 have hks:zb x=if x.kind=10/\x.kids.length=2 then(x.kids.all fun l=> !decide (lastM l=12))else if x.kind=11/\x.kids.length=1 then(x.kids.all fun l=> !zu l)else x.ends:=by simp only[lastM_eq];rfl
 rcases hkk:x.kids with _|⟨a,_|⟨b,_|⟨c,t⟩⟩⟩
 all_goals
  rw[hkk]at hy hv;simp at hy hv
  (simp[*,F73,za,kids,rends_raw])<;>(repeat' ((first|refine sP _ ?_ ?_|refine gP _ ?_ ?_|refine sN _ ?_ ?_|refine gN _ ?_ ?_|refine sM _ ?_ ?_|refine gM _ ?_ ?_|refine sB _ ?_ ?_|refine gB _ ?_ ?_)<;>intro hc<;>simp[*,F73,za,kids,rends_raw]))
  all_goals(try grind)
abbrev St1:=List Int
def stO(S:List Int):Obj:= .arr 1 (S.map (PV.int .i64))
def chkV(u:Unt)(f:Flow)(n:Nat):PV:= .iptr [arrs u.arrays,flows u.flows,.str f.name,.int .i64 f.type,.int .i64 f.params,ints f.types,zh f.body,.mslice 0 0 n 1] 0
def at0(l:List Int)(v:Int):Int:=(l[v.toNat]?).getD 0
theorem zid{l:List Int}{v:Int}(h0:0<=v)(h1:v<l.length):l[v.toNat]? =some (at0 l v):=by
 unfold at0;have:v.toNat<l.length:=by omega
 simp[this]
theorem zwc{l:List Int}{v:Int}(h0:0<=v)(h1:v<l.length)(h:v.toNat<l.length):l[v.toNat]'h=at0 l v:=by
 unfold at0;simp[h]
def valM(ty:List Int)(v t:Int):Bool:=decide (0<=v)&&(decide (v<ty.length)&&(decide (t=0)||decide (at0 ty v=t)))
theorem value_spec(u:Unt)(f:Flow)(n:Nat)(v t:Int)(σ:zd):zk E 152 [chkV u f n,.int .i64 v,.int .i64 t] σ=some (.ret (.bool (valM f.types v t)),σ):=by
 refine zc rfl rfl rfl (by simp[chkV]) ?_;by_cases h0:0<=v
 ·by_cases h1:v<f.types.length
  ·have h2:=zid h0 h1;have h3:v.toNat<f.types.length:=by omega
   have h4:=zwc h0 h1 h3
   (simp[*,F152,chkV,ints,valM])<;>(repeat' ((first|refine sP _ ?_ ?_|refine gP _ ?_ ?_|refine sN _ ?_ ?_|refine gN _ ?_ ?_|refine sM _ ?_ ?_|refine gM _ ?_ ?_|refine sB _ ?_ ?_|refine gB _ ?_ ?_)<;>intro hc<;>simp[*,F152,chkV,ints,valM]))
  ·(simp[*,F152,chkV,ints,valM])<;>(repeat' ((first|refine sP _ ?_ ?_|refine gP _ ?_ ?_|refine sN _ ?_ ?_|refine gN _ ?_ ?_|refine sM _ ?_ ?_|refine gM _ ?_ ?_|refine sB _ ?_ ?_|refine gB _ ?_ ?_)<;>intro hc<;>simp[*,F152,chkV,ints,valM]))
 ·(simp[*,F152,chkV,ints,valM])<;>(repeat' ((first|refine sP _ ?_ ?_|refine gP _ ?_ ?_|refine sN _ ?_ ?_|refine gN _ ?_ ?_|refine sM _ ?_ ?_|refine gM _ ?_ ?_|refine sB _ ?_ ?_|refine gB _ ?_ ?_)<;>intro hc<;>simp[*,F152,chkV,ints,valM]))
def typesM(ty l:List Int):List Int:=if l.all (fun v=>valM ty v 0)then l.map (at0 ty)else[]
theorem zBa{ty:List Int}{v t:Int}(h:valM ty v t=true):0<=v/\v<ty.length:=by
 simp[valM]at h;exact⟨h.1,h.2.1⟩
theorem types_spec(u:Unt)(f:Flow)(n:Nat)(l:List Int)(σ:zd)(hl:l.length<1099511627776):zk E 133 [chkV u f n,ints l] σ=some (.ret (ints (typesM f.types l)),σ):=by
 refine zc rfl rfl rfl (by simp[chkV]) ?_;simp[F133,ints];refine zG l K133_0 B133_0 (fun d=>[(9,.int .i64 d.length),(4,acc 1 (d.map fun v=> .int .i64 (at0 f.types v)))]) (fun _=>σ) (fun d=>d.all (fun v=>valM f.types v 0)=true) (by omega) (by simp) ?_ ?_
 ·intros d x r s hl' hlt hget hget' hw hp h1 h2 h3 h4;simp at h1 h3;clear h2;have hv:=value_spec u f n x 0 σ;cases hx:valM f.types x 0
  ·have:typesM f.types l=[]:=by
    unfold typesM;rw[if_neg];rw[hl'.eq];simp[hx]
   simp[chkV]at hv
   (simp[*,chkV])<;>(repeat' ((first|refine sP _ ?_ ?_|refine gP _ ?_ ?_|refine sN _ ?_ ?_|refine gN _ ?_ ?_|refine sM _ ?_ ?_|refine gM _ ?_ ?_|refine sB _ ?_ ?_|refine gB _ ?_ ?_)<;>intro hc<;>simp[*,chkV]))
  ·obtain⟨r0,r1⟩:=zBa hx;have q1:=zid r0 r1;have q2:x.toNat<f.types.length:=by omega
   have q3:=zwc r0 r1 q2;have q4:(d.length+1)*8<=zo:=by simp only[zo];omega
   simp[chkV,ints]at hv
   (simp[*,chkV,ints])<;>(repeat' ((first|refine sP _ ?_ ?_|refine gP _ ?_ ?_|refine sN _ ?_ ?_|refine gN _ ?_ ?_|refine sM _ ?_ ?_|refine gM _ ?_ ?_|refine sB _ ?_ ?_|refine gB _ ?_ ?_)<;>intro hc<;>simp[*,chkV,ints]))
 ·intros s hp h1 h2 h3 h4;simp at h1 h3;have:typesM f.types l=l.map (at0 f.types):=by
   unfold typesM;rw[if_pos hp]
  (simp[*,ints])<;>(repeat' ((first|refine sP _ ?_ ?_|refine gP _ ?_ ?_|refine sN _ ?_ ?_|refine gN _ ?_ ?_|refine sM _ ?_ ?_|refine gM _ ?_ ?_|refine sB _ ?_ ?_|refine gB _ ?_ ?_)<;>intro hc<;>simp[*,ints]))
def eqGo{S:Type}(g:S->Int->Int->Bool×S):S->List (Int×Int)->Bool×S
 |s,[]=>(true,s)
 |s,p::r=>if(g s p.1 p.2).1 then eqGo g (g s p.1 p.2).2 r else(false,(g s p.1 p.2).2)
theorem zfd{S:Type}(g:S->Int->Int->Bool×S):∀(d r:List (Int×Int)) (s:S),eqGo g s (d++r)=if(eqGo g s d).1 then eqGo g (eqGo g s d).2 r else(false,(eqGo g s d).2)
 | [],r,s=>by simp[eqGo]
 |p::d,r,s=>by
  simp only[yI,eqGo];split
  ·rename_i h;simp[zfd g d r]
  ·simp
def eqM{S:Type}(g:S->Int->Int->Bool×S)(s:S)(l ts:List Int):Bool×S:=if l.length=ts.length then eqGo g s (l.zip ts)else(false,s)
theorem equalFunc_spec{S:Type}(g:S->Int->Int->Bool×S)(e:S->zd)(J:S->Prop)(s0:S)(l ts:List Int)(k:Nat)(first caps:List PV)(hl:l.length<1099511627776)(hJ:J s0)
  (hg:∀s v t,J s->J (g s v t).2/\zk E k (first++[.int .i64 v,.int .i64 t]++caps) (e s)=some (.ret (.bool (g s v t).1),e (g s v t).2)):
  zk E 153 [ints l,ints ts,.fn k first caps] (e s0)=some (.ret (.bool (eqM g s0 l ts).1),e (eqM g s0 l ts).2):=by
 refine zc rfl rfl rfl (by simp) ?_;by_cases hlen:l.length=ts.length
 ·have hm:eqM g s0 l ts=eqGo g s0 (l.zip ts):=by simp[eqM,hlen]
  simp[F153,ints,hlen];refine zG (l.zip ts) K153_0 B153_0 (fun d=>[(17,.int .i64 d.length)]) (fun d=>e (eqGo g s0 d).2) (fun d=>(eqGo g s0 d).1=true/\J (eqGo g s0 d).2) (by simp;omega) (by simp[eqGo,hJ]) ?_ ?_
  ·rintro d ⟨v,t⟩ r s hl' hlt hget hget' hw ⟨hp,hj⟩ h1 h2 h3 h4
   simp at h1 h3;clear h2;rw[yM]at hget;obtain⟨g1,g2⟩:=hget;have hlt1:d.length<l.length:=by simp at hlt;omega
   have hlt2:d.length<ts.length:=by omega
   have g1':l[d.length]=v:=by simpa[hlt1]using g1
   have g2':ts[d.length]=t:=by simpa[hlt2]using g2
   obtain⟨hj',hc⟩:=hg (eqGo g s0 d).2 v t hj;have e1:eqGo g s0 (d++[(v,t)])=((g (eqGo g s0 d).2 v t).1,(g (eqGo g s0 d).2 v t).2):=by
    rw[zfd,hp];simp only[eqGo,if_true];cases(g (eqGo g s0 d).2 v t).1<;>rfl
   have e2:(g (eqGo g s0 d).2 v t).1=false->eqGo g s0 (l.zip ts)=(false,(g (eqGo g s0 d).2 v t).2):=by
    intro hf;rw[hl'.eq,zfd,hp];simp[eqGo,hf]
   clear hg;simp at hc;rw[hm];cases hb:(g (eqGo g s0 d).2 v t).1
   ·have e3:=e2 hb;clear e2;rw[hb]at hc e1
    (simp[*,ints])<;>(repeat' ((first|refine sP _ ?_ ?_|refine gP _ ?_ ?_|refine sN _ ?_ ?_|refine gN _ ?_ ?_|refine sM _ ?_ ?_|refine gM _ ?_ ?_|refine sB _ ?_ ?_|refine gB _ ?_ ?_)<;>intro hc<;>simp[*,ints]))
   ·clear e2;rw[hb]at hc e1
    (simp[*,ints])<;>(repeat' ((first|refine sP _ ?_ ?_|refine gP _ ?_ ?_|refine sN _ ?_ ?_|refine gN _ ?_ ?_|refine sM _ ?_ ?_|refine gM _ ?_ ?_|refine sB _ ?_ ?_|refine gB _ ?_ ?_)<;>intro hc<;>simp[*,ints]))
  ·rintro s ⟨hp,hj⟩ h1 h2 h3 h4
   have hz:(l.zip ts).length=l.length:=by simp;omega
   rw[hz]at h3;simp at h1 h3;clear hg
   (simp[*,ints])<;>(repeat' ((first|refine sP _ ?_ ?_|refine gP _ ?_ ?_|refine sN _ ?_ ?_|refine gN _ ?_ ?_|refine sM _ ?_ ?_|refine gM _ ?_ ?_|refine sB _ ?_ ?_|refine gB _ ?_ ?_)<;>intro hc<;>simp[*,ints]))
 ·have hm:eqM g s0 l ts=(false,s0):=by simp[eqM,hlen]
  have hlen':¬(l.length:Int)=ts.length:=by omega
  clear hg
  (simp[*,F153,ints])<;>(repeat' ((first|refine sP _ ?_ ?_|refine gP _ ?_ ?_|refine sN _ ?_ ?_|refine gN _ ?_ ?_|refine sM _ ?_ ?_|refine gM _ ?_ ?_|refine sB _ ?_ ?_|refine gB _ ?_ ?_)<;>intro hc<;>simp[*,F153,ints]))
def useG(ty:List Int)(S:St1)(v t:Int):Bool×St1:=(valM ty v t&&decide (at0 S v=1),S)
def zEb(ty:List Int)(S:St1)(l ts:List Int):Bool:=(eqM (useG ty) S l ts).1
theorem eqGo_useG(ty:List Int)(S:St1):∀l,(eqGo (useG ty) S l).2=S
 | []=>rfl
 |p::r=>by
  simp only[eqGo];split
  ·exact eqGo_useG ty S r
  ·rfl
theorem eqM_useG(ty:List Int)(S:St1)(l ts:List Int):(eqM (useG ty) S l ts).2=S:=by
 unfold eqM;split
 ·exact eqGo_useG _ _ _
 ·rfl
theorem use1_spec(u:Unt)(f:Flow)(S:St1)(v t:Int)(hS:S.length=f.types.length):
  zk E 154 [.int .i64 v,.int .i64 t,.iptr [chkV u f f.types.length] 0] [stO S]=some (.ret (.bool (useG f.types S v t).1),[stO S]):=by
 refine zc rfl rfl rfl (by simp) ?_;have hv:=value_spec u f f.types.length v t [stO S];simp[chkV,ints,stO]at hv;cases hx:valM f.types v t
 ·(simp[*,F154,useG,chkV,stO,ints])<;>(repeat' ((first|refine sP _ ?_ ?_|refine gP _ ?_ ?_|refine sN _ ?_ ?_|refine gN _ ?_ ?_|refine sM _ ?_ ?_|refine gM _ ?_ ?_|refine sB _ ?_ ?_|refine gB _ ?_ ?_)<;>intro hc<;>simp[*,F154,useG,chkV,stO,ints]))
 ·obtain⟨r0,r1⟩:=zBa hx;have q0:v<S.length:=by omega
  have q1:=zid r0 q0;have q2:v.toNat<S.length:=by omega
  have q3:=zwc r0 q0 q2;have q4:v.toNat<f.types.length:=by omega
  (simp[*,F154,useG,chkV,stO,ints])<;>(repeat' ((first|refine sP _ ?_ ?_|refine gP _ ?_ ?_|refine sN _ ?_ ?_|refine gN _ ?_ ?_|refine sM _ ?_ ?_|refine gM _ ?_ ?_|refine sB _ ?_ ?_|refine gB _ ?_ ?_)<;>intro hc<;>simp[*,F154,useG,chkV,stO,ints]))
theorem zGb(u:Unt)(f:Flow)(S:St1)(l ts:List Int)(hS:S.length=f.types.length)(hl:l.length<1099511627776):
  zk E 134 [chkV u f f.types.length,ints l,ints ts] [stO S]=some (.ret (.bool (zEb f.types S l ts)),[stO S]):=by
 refine zc rfl rfl rfl (by simp[chkV]) ?_;have h:=equalFunc_spec (useG f.types) (fun S=>[stO S]) (fun S=>S.length=f.types.length) S l ts 154 [] [.iptr [chkV u f f.types.length] 0] hl hS (fun s v t hs=>⟨hs,use1_spec u f s v t hs⟩);simp only[eqM_useG]at h;simp[chkV]at h
 (simp[*,F134,chkV,zEb])<;>(repeat' ((first|refine sP _ ?_ ?_|refine gP _ ?_ ?_|refine sN _ ?_ ?_|refine gN _ ?_ ?_|refine sM _ ?_ ?_|refine gM _ ?_ ?_|refine sB _ ?_ ?_|refine gB _ ?_ ?_)<;>intro hc<;>simp[*,F134,chkV,zEb]))
def setG(ty:List Int)(S:St1)(v t:Int):Bool×St1:=if valM ty v t&&decide (at0 S v=0)then(true,S.set v.toNat 1)else(false,S)
def setM(ty:List Int)(S:St1)(l ts:List Int):Bool×St1:=eqM (setG ty) S l ts
theorem setG_len(ty:List Int)(S:St1)(v t:Int):(setG ty S v t).2.length=S.length:=by
 unfold setG;split<;>simp
theorem eqGo_setG_len(ty:List Int):∀(l:List (Int×Int)) (S:St1),(eqGo (setG ty) S l).2.length=S.length
 | [],S=>rfl
 |p::r,S=>by
  simp only[eqGo];split
  ·rw[eqGo_setG_len ty r,setG_len]
  ·rw[setG_len]
theorem zhf(ty:List Int)(S:St1)(l ts:List Int):(setM ty S l ts).2.length=S.length:=by
 unfold setM eqM;split
 ·exact eqGo_setG_len _ _ _
 ·rfl
theorem set1_spec(u:Unt)(f:Flow)(S:St1)(v t:Int)(hS:S.length=f.types.length):
  zk E 155 [.int .i64 v,.int .i64 t,.iptr [chkV u f f.types.length] 0] [stO S]=some (.ret (.bool (setG f.types S v t).1),[stO (setG f.types S v t).2]):=by
 refine zc rfl rfl rfl (by simp) ?_;have hv:=value_spec u f f.types.length v t [stO S];simp[chkV,ints,stO]at hv;cases hx:valM f.types v t
 ·(simp[*,F155,setG,chkV,stO,ints])<;>(repeat' ((first|refine sP _ ?_ ?_|refine gP _ ?_ ?_|refine sN _ ?_ ?_|refine gN _ ?_ ?_|refine sM _ ?_ ?_|refine gM _ ?_ ?_|refine sB _ ?_ ?_|refine gB _ ?_ ?_)<;>intro hc<;>simp[*,F155,setG,chkV,stO,ints]))
 ·obtain⟨r0,r1⟩:=zBa hx;have q0:v<S.length:=by omega
  have q1:=zid r0 q0;have q2:v.toNat<S.length:=by omega
  have q3:=zwc r0 q0 q2;have q4:v.toNat<f.types.length:=by omega
  (simp[*,F155,setG,chkV,stO,ints,zN,zRa,yxa])<;>(repeat' ((first|refine sP _ ?_ ?_|refine gP _ ?_ ?_|refine sN _ ?_ ?_|refine gN _ ?_ ?_|refine sM _ ?_ ?_|refine gM _ ?_ ?_|refine sB _ ?_ ?_|refine gB _ ?_ ?_)<;>intro hc<;>simp[*,F155,setG,chkV,stO,ints,zN,zRa,yxa]))
theorem set_spec(u:Unt)(f:Flow)(S:St1)(l ts:List Int)(hS:S.length=f.types.length)(hl:l.length<1099511627776):
  zk E 136 [chkV u f f.types.length,ints l,ints ts] [stO S]=some (.ret (.bool (setM f.types S l ts).1),[stO (setM f.types S l ts).2]):=by
 refine zc rfl rfl rfl (by simp[chkV]) ?_;have h:=equalFunc_spec (setG f.types) (fun S=>[stO S]) (fun S=>S.length=f.types.length) S l ts 155 [] [.iptr [chkV u f f.types.length] 0] hl hS (fun s v t hs=>⟨by rw[setG_len];exact hs,set1_spec u f s v t hs⟩);simp[chkV]at h
 (simp[*,F136,chkV,setM])<;>(repeat' ((first|refine sP _ ?_ ?_|refine gP _ ?_ ?_|refine sN _ ?_ ?_|refine gN _ ?_ ?_|refine sM _ ?_ ?_|refine gM _ ?_ ?_|refine sB _ ?_ ?_|refine gB _ ?_ ?_)<;>intro hc<;>simp[*,F136,chkV,setM]))
def zna(n:Nat):List Int:=yf n 0
def allM(ty:List Int)(S:St1)(l:List Int):Bool×St1:=setM ty S l (zna l.length)
theorem all_spec(u:Unt)(f:Flow)(S:St1)(l:List Int)(hS:S.length=f.types.length)(hl:l.length<1099511627776):
  zk E 135 [chkV u f f.types.length,ints l] [stO S]=some (.ret (.bool (allM f.types S l).1),[stO (allM f.types S l).2]):=by
 refine zc rfl rfl rfl (by simp[chkV]) ?_;have h:=set_spec u f S l (zna l.length) hS hl;have h1:(0:Int)<=(l.length:Int):=by omega
 have h2:(l.length:Int)<=9223372036854775807:=by omega
 have h3:8*(l.length:Int)<=281474976710656:=by omega
 simp[chkV,ints,zna]at h
 (simp[*,F135,chkV,allM,zna,ints])<;>(repeat' ((first|refine sP _ ?_ ?_|refine gP _ ?_ ?_|refine sN _ ?_ ?_|refine gN _ ?_ ?_|refine sM _ ?_ ?_|refine gM _ ?_ ?_|refine sB _ ?_ ?_|refine gB _ ?_ ?_)<;>intro hc<;>simp[*,F135,chkV,allM,zna,ints]))
def zwd(S:St1)(l:List Int):St1:=l.foldl (fun S v=>S.set v.toNat 2) S
theorem zWe(l:List Int):∀S:St1,(zwd S l).length=S.length:=by
 induction l with
 |nil=>intro S;rfl
 |cons v r ih=>intro S;simp[zwd]at ih ⊢;rw[ih];simp
theorem hideM_snoc(S:St1)(l:List Int)(v:Int):zwd S (l++[v])=(zwd S l).set v.toNat 2:=by simp[zwd]
theorem hide_spec(u:Unt)(f:Flow)(S:St1)(l:List Int)(hS:S.length=f.types.length)(hl:l.length<1099511627776)(hv:∀v∈l,0<=v/\v<f.types.length):
  zk E 86 [chkV u f f.types.length,ints l] [stO S]=some (.ret (.tup []),[stO (zwd S l)]):=by
 refine zc rfl rfl rfl (by simp[chkV]) ?_;simp[F86,ints];refine zG l K86_0 B86_0 (fun d=>[(8,.int .i64 d.length)]) (fun d=>[stO (zwd S d)]) (fun d=>True) (by omega) (by simp[zwd]) ?_ ?_
 ·intros d x r s hl' hlt hget hget' hw hp h1 h2 h3 h4;simp at h1 h3;clear h2;obtain⟨r0,r1⟩:=hv x hl'.mem;have hlen:=zWe d S;have q2:x.toNat<S.length:=by omega
  have q4:x.toNat<f.types.length:=by omega
  have hsn:=hideM_snoc S d x;clear hv
  (simp[*,chkV,stO,zN,zRa,yxa])<;>(repeat' ((first|refine sP _ ?_ ?_|refine gP _ ?_ ?_|refine sN _ ?_ ?_|refine gN _ ?_ ?_|refine sM _ ?_ ?_|refine gM _ ?_ ?_|refine sB _ ?_ ?_|refine gB _ ?_ ?_)<;>intro hc<;>simp[*,chkV,stO,zN,zRa,yxa]))
 ·intros s hp h1 h2 h3 h4;simp at h1 h3;clear hv
  (simp[*])<;>(repeat' ((first|refine sP _ ?_ ?_|refine gP _ ?_ ?_|refine sN _ ?_ ?_|refine gN _ ?_ ?_|refine sM _ ?_ ?_|refine gM _ ?_ ?_|refine sB _ ?_ ?_|refine gB _ ?_ ?_)<;>intro hc<;>simp[*]))
def zXa(k:Int):Int:=if k=10 then 2 else if k=11 then 1 else 0
def zca(n:Node):Bool:=
 (decide (n.kind=3)||decide (n.kind=4)||decide (n.op=0))&&(decide (n.kind=1)||decide (n.kind=2)||decide (n.n=0))&&
 (decide (n.kind=5)||decide (n.kind=6)||decide (n.kind=7)||decide (n.name=[]))&&(decide (n.kind=11)||decide (n.params=[]))&&decide ((n.kids.length:Int)=zXa n.kind)
theorem bare_spec(x:Node):zk E 108 [zK x] []=some (.ret (.bool (zca x)),[]):=by
 refine zc rfl rfl rfl (by simp[za]) ?_;have hp:decide ((x.params.length:Int)=0)=decide (x.params=[]):=by simp
 by_cases h10:x.kind=10
 ·(simp[*,F108,za,ints,kids,zca,zXa])<;>(repeat' ((first|refine sP _ ?_ ?_|refine gP _ ?_ ?_|refine sN _ ?_ ?_|refine gN _ ?_ ?_|refine sM _ ?_ ?_|refine gM _ ?_ ?_|refine sB _ ?_ ?_|refine gB _ ?_ ?_)<;>intro hc<;>simp[*,F108,za,ints,kids,zca,zXa]))
  all_goals(try grind)
 ·by_cases h11:x.kind=11
  ·(simp[*,F108,za,ints,kids,zca,zXa])<;>(repeat' ((first|refine sP _ ?_ ?_|refine gP _ ?_ ?_|refine sN _ ?_ ?_|refine gN _ ?_ ?_|refine sM _ ?_ ?_|refine gM _ ?_ ?_|refine sB _ ?_ ?_|refine gB _ ?_ ?_)<;>intro hc<;>simp[*,F108,za,ints,kids,zca,zXa]))
   all_goals(try grind)
  ·(simp[*,F108,za,ints,kids,zca,zXa])<;>(repeat' ((first|refine sP _ ?_ ?_|refine gP _ ?_ ?_|refine sN _ ?_ ?_|refine gN _ ?_ ?_|refine sM _ ?_ ?_|refine gM _ ?_ ?_|refine sB _ ?_ ?_|refine gB _ ?_ ?_)<;>intro hc<;>simp[*,F108,za,ints,kids,zca,zXa]))
   all_goals(try grind)
def takes(op:Int):Int:=if op=22 then 2 else if op=16\/op=17 then 0 else 1
def ztb(op:Int):Int:=if op=22\/(12<=op/\op<=17)then 2 else 1
theorem operand_spec(op:Int):zk E 156 [.int .i64 op] []=some (.ret (.tup [.int .i64 (takes op),.int .i64 (ztb op)]),[]):=by
 refine zc rfl rfl rfl (by simp) ?_
 (simp[*,F156,takes,ztb])<;>(repeat' ((first|refine sP _ ?_ ?_|refine gP _ ?_ ?_|refine sN _ ?_ ?_|refine gN _ ?_ ?_|refine sM _ ?_ ?_|refine gM _ ?_ ?_|refine sB _ ?_ ?_|refine gB _ ?_ ?_)<;>intro hc<;>simp[*,F156,takes,ztb]))
 all_goals(try grind)
end PE.U
